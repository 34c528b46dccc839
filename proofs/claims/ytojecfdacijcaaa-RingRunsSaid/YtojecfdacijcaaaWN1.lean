/- Part of a proof by a small interpreter on plain values; no condition. -/
import Derived.Test.YtojecfdacijcaaaWM
namespace Go.Sx.Ytojecfdacijcaaa
open Go Go.Sx
set_option autoImplicit false
set_option linter.unusedVariables false
set_option linter.unusedSimpArgs false
set_option maxRecDepth 20000
theorem SzK_struct {P : Program} {d : Nat} {t : TypeId} {fs : Array Field} {a b : K} {x : (K.pair a b).T} (hu : P.underlying t = some (.struct fs)) (h : SzK P (d + 1) t (.pair a b) x) : SzF (SzK P d) fs.toList (.pair a b) x := by
  simp only [SzK, hu] at h
  exact h
theorem works_v : works 2100000 () = some true := by kernel_rfl
section
variable {L : Nat} {f m : Int} {s c : List Int} (h : RI L f m s c)
include h
set_option hygiene false in
macro "wtail" : tactic => `(tactic| (
  refine Gives.pos (by omega) ?_
  refine Gives.bind_eq (rWrite_v n L c B (by omega) hc) ?_
  obtain ⟨m', s', e1, hr⟩ := writeK_v h n hn B
  refine Gives.bind_eq e1 ?_
  refine Gives.epos rfl ?_
  exact Gives.of_some ⟨f, m', s', _, by simp, hr⟩))
theorem do_v (n : Nat) (hn : 2000000 < n) (kind N : Int) (B : List Int) (hB : B.length ≤ 140737488355328) : ∃ f' m' s' c', do_ n ((L : Int), (c, (kind, (N, (B, (f, (m, s))))))) = some ((L : Int), c', true, f', m', s') ∧ RI L f' m' s' c' := by
  have hL := h.hL; have h2 := h.h2; have hc := h.hc; have h1 := h.h1
  have key : Gives (do_ n ((L : Int), (c, (kind, (N, (B, (f, (m, s)))))))) (fun r => ∃ f' m' s' c', r = ((L : Int), c', true, f', m', s') ∧ RI L f' m' s' c') := by
    unfold do_
    dsimp only
    generalize Int.tmod (IntKind.wrap .i64 (Int.tmod kind 6 + 6)) 6 = z
    by_cases z0 : z = 0
    · rw [if_pos (by simpa using z0), Option.bind_some]
      dsimp only
      refine Gives.epos z0 ?_
      wtail
    · rw [if_neg (by simpa using z0), Option.bind_some]
      dsimp only
      refine Gives.eite (fun z1 => ?_) (fun z1 => ?_)
      · wtail
      · refine Gives.eite (fun z2 => ?_) (fun z2 => ?_)
        · refine Gives.bind_eq (rRead_v n L c N (by omega)) ?_
          obtain ⟨f', m', e, hr⟩ := read_v h n N
          refine Gives.bind_eq e ?_
          exact Gives.of_some ⟨f', m', s, _, by simp, hr⟩
        · refine Gives.eite (fun z3 => ?_) (fun z3 => ?_)
          · refine Gives.bind_eq (rRead_v n L c N (by omega)) ?_
            obtain ⟨f', m', e, hr⟩ := skip_v h n N
            refine Gives.bind_eq e ?_
            refine Gives.of_some ⟨f', m', s, _, ?_, hr⟩
            have e3 : ((c.take N.toNat).length : Int) = ((min c.length N.toNat : Nat) : Int) := by rw [List.length_take]; omega
            simp only [e3, beq_self_eq_true]
          · refine Gives.eite (fun z4 => ?_) (fun z4 => ?_)
            · obtain ⟨k, hk⟩ := brk c
              refine Gives.bind_eq (rLine_v n hn L c N k hk (by omega)) ?_
              obtain ⟨f', m', e, hr⟩ := line_v h n hn N k hk
              refine Gives.bind_eq e ?_
              refine Gives.pos (by simp) (Gives.bind_eq (num_v n _) ?_)
              exact Gives.of_some ⟨f', m', s, _, by simp, hr⟩
            · refine Gives.nite (fun z5 => ?_) (fun z5 => ?_)
              · exact Gives.of_some ⟨f, m, s, c, rfl, h⟩
              · obtain ⟨f', m', e, hr⟩ := clear_v h n
                refine Gives.bind_eq e ?_
                exact Gives.of_some ⟨f', m', s, [], by simp, hr⟩
  obtain ⟨r, e, f', m', s', c', rfl, hr⟩ := key
  exact ⟨f', m', s', c', e, hr⟩
end
theorem ringRuns_true (x : Int) (acts : List (Int × (Int × (List Int × Unit)))) (at_ : Int) (hB : ∀ a ∈ acts, a.2.2.1.length ≤ 140737488355328) : ringRuns 2100000 (x, acts, at_) = some true := by
  apply Gives.eq
  unfold ringRuns
  dsimp only
  rcases rnew_v 2100000 x with ⟨e1, e2⟩ | ⟨s, L, rfl, e1, e2, hri⟩
  · refine Gives.bind_eq e1 ?_
    dsimp only
    refine Gives.bind_eq e2 ?_
    refine Gives.npos (by decide) (Gives.bind_eq (num_v _ _) ?_)
    refine Gives.epos rfl (Gives.npos (by decide) ?_)
    exact Gives.bind_eq works_v (Gives.of_some rfl)
  · refine Gives.bind_eq e1 ?_
    dsimp only
    refine Gives.bind_eq e2 ?_
    refine Gives.nneg rfl ?_
    refine Gives.loop (X := (List (Int × (Int × (List Int × Unit)))) × Int × Int × Int × Int × (List Int) × Int × List Int) (fun y => ∃ (i : Nat) (f m : Int) (s c : List Int), i ≤ 500 ∧ RI L f m s c ∧ y = (acts, at_, (i : Int), f, m, s, (L : Int), c)) (fun y => (500 - y.2.2.1).toNat) ?_ _ _ ⟨0, 0, 0, s, [], by omega, hri, rfl⟩ (by dsimp only; omega)
    rintro rec y ⟨i, f, m, s, c, hi, h, rfl⟩ hr
    dsimp only
    refine Gives.dite (fun h1 => ?_) (fun h1 => ?_)
    · refine Gives.dite (fun h2 => ?_) (fun h2 => ?_)
      · refine Gives.idx ((0, 0, [], ()) : Int × (Int × (List Int × Unit))) (by omega) h1 ?_
        rw [Int.toNat_natCast]
        have hb : (acts.getD i ((0, 0, [], ()) : Int × (Int × (List Int × Unit)))).2.2.1.length ≤ 140737488355328 := by
          apply hB
          rw [List.getD_eq_getElem?_getD, List.getElem?_eq_getElem (by omega)]
          exact List.getElem_mem _
        generalize acts.getD i ((0, 0, [], ()) : Int × (Int × (List Int × Unit))) = a at hb ⊢
        obtain ⟨f', m', s', c', e, h'⟩ := do_v h 2100000 (by omega) a.1 a.2.1 a.2.2.1 hb
        refine Gives.bind_eq e ?_
        refine Gives.neg (by simp) ?_
        refine Gives.bind_eq (same_v h' _ (by omega) _) ?_
        refine Gives.neg (by decide) ?_
        refine Gives.bind_eq (same_v h' _ (by omega) _) ?_
        refine Gives.neg (by decide) ?_
        rw [wrap64 (by omega) (by omega)]
        exact hr _ ⟨i + 1, f', m', s', c', by omega, h', rfl⟩ (by dsimp only; omega)
      · exact Gives.bind_eq works_v (Gives.of_some rfl)
    · exact Gives.bind_eq works_v (Gives.of_some rfl)
theorem new4096 (n : Nat) : ∃ s, rnew n 4096 = some (Sum.inr (0, 0, s)) ∧ RI 4096 0 0 s [] := by
  rcases rnew_v n 4096 with ⟨e1, e2⟩ | ⟨s, L, hL, e1, e2, hri⟩
  · unfold rNew at e2
    exact absurd e2 (by decide)
  · have : L = 4096 := by omega
    subst this
    exact ⟨s, e1, hri⟩
theorem lres_len (c : List Int) (k : Nat) (most : Int) : (lres c k most).2.1.length ≤ c.length := by
  unfold lres
  split
  · simp
  · split
    · simp
    · split
      · simp
      · split
        · split
          · simp
          · split
            · simp only [List.length_take]; omega
            · simp
        · simp
theorem cut_range (v : Int) : 1 ≤ IntKind.wrap .i64 (Int.tmod (IntKind.wrap .i64 (Int.tmod v 50 + 50)) 50 + 1) ∧ IntKind.wrap .i64 (Int.tmod (IntKind.wrap .i64 (Int.tmod v 50 + 50)) 50 + 1) ≤ 50 := by
  have h1 := Int.tmod_lt_of_pos v (show (0 : Int) < 50 by omega)
  have h2 := Int.lt_tmod_of_pos v (show (0 : Int) < 50 by omega)
  rw [wrap64 (n := Int.tmod v 50 + 50) (by omega) (by omega), Int.tmod_eq_emod_of_nonneg (by omega), wrap64 (by omega) (by omega)]
  omega
/-- the lines of both, one after the other. -/
theorem ringCuts_true (B P : List Int) (most : Int) : ringCuts 2100000 (B, P, most) = some true := by
  apply Gives.eq
  unfold ringCuts
  dsimp only
  refine Gives.dite (fun h0 => ?_) (fun h0 => ?_)
  · exact Gives.bind_eq works_v (Gives.of_some rfl)
  obtain ⟨s1, e1, hr1⟩ := new4096 2100000
  refine Gives.bind_eq e1 ?_
  dsimp only
  refine Gives.bind_eq e1 ?_
  dsimp only
  obtain ⟨m1, t1, e2, hw1⟩ := write_v hr1 2100000 (by omega) B
  refine Gives.bind_eq e2 ?_
  have hB1 : B.take (4096 - ([] : List Int).length) = B := List.take_of_length_le (by simp only [List.length_nil]; omega)
  rw [hB1, List.nil_append] at hw1
  refine Gives.loop (X := (List Int) × (List Int) × Int × Int × Int × Int × Int × (List Int) × Int × Int × List Int) (fun y => ∃ (i p : Nat) (m : Int) (s : List Int), i ≤ 200 ∧ p ≤ B.length ∧ RI 4096 0 m s (B.take p) ∧ y = (B, P, most, (p : Int), (i : Int), 0, m1, t1, 0, m, s)) (fun y => (200 - y.2.2.2.2.1).toNat) ?_ _ _ ⟨0, 0, 0, s1, by omega, by omega, by simpa using hr1, rfl⟩ (by dsimp only; omega)
  rintro rec y ⟨i, p, m, s, hi, hp, h, rfl⟩ hr
  dsimp only
  by_cases hgo : (i : Int) < (P.length : Int) ∧ (i : Int) < 200 ∧ (p : Int) < (B.length : Int)
  · obtain ⟨c1, c2, c3⟩ := hgo
    rw [if_pos (decide_eq_true c1), if_pos (decide_eq_true c2), Option.bind_some]
    dsimp only
    refine Gives.dpos c3 ?_
    refine Gives.idx 0 (by omega) c1 ?_
    rw [wrap64 (n := (B.length : Int) - (p : Int)) (by omega) (by omega)]
    have hq := cut_range (P.getD (i : Int).toNat 0)
    generalize IntKind.wrap .i64 (Int.tmod (IntKind.wrap .i64 (Int.tmod (P.getD (i : Int).toNat 0) 50 + 50)) 50 + 1) = q at hq ⊢
    obtain ⟨k, hk, hk1⟩ : ∃ k : Nat, (if (B.length : Int) - (p : Int) < q then (B.length : Int) - (p : Int) else q) = (k : Int) ∧ p + k ≤ B.length := by
      refine ⟨(if (B.length : Int) - (p : Int) < q then (B.length : Int) - (p : Int) else q).toNat, ?_, ?_⟩ <;> split <;> omega
    rw [hk, wrap64 (n := (p : Int) + (k : Int)) (by omega) (by omega)]
    refine Gives.pos (by omega) ?_
    have e4 : ((B.drop (p : Int).toNat).take (((p : Int) + (k : Int)).toNat - (p : Int).toNat)) = (B.drop p).take k := by
      rw [Int.toNat_natCast]; congr 1; omega
    rw [e4]
    obtain ⟨m2, t2, e3, hw2⟩ := write_v h 2100000 (by omega) ((B.drop p).take k)
    have hl : ((B.drop p).take k).length = k := by rw [List.length_take, List.length_drop]; omega
    have hl2 : (B.take p).length = p := by rw [List.length_take]; omega
    rw [hl, hl2] at e3
    rw [hl2, List.take_of_length_le (l := (B.drop p).take k) (by rw [hl]; omega)] at hw2
    have e5 : B.take p ++ (B.drop p).take k = B.take (p + k) := by rw [List.take_add]
    rw [e5] at hw2
    refine Gives.bind_eq e3 ?_
    dsimp only
    refine Gives.nneg (by omega) ?_
    refine Gives.bind_eq (len_v hw2 _) ?_
    refine Gives.dneg (by rw [List.length_take]; omega) ?_
    rw [wrap64 (n := (i : Int) + 1) (by omega) (by omega)]
    exact hr _ ⟨i + 1, p + k, m2, t2, by omega, by omega, hw2, rfl⟩ (by dsimp only; omega)
  · have hno : (if (decide ((i : Int) < (P.length : Int))) = true then
  (if (decide ((i : Int) < (200 : Int))) = true then
  (some (Out.go (B, (P, (most, ((p : Int), ((i : Int), ((decide ((p : Int) < (B.length : Int))), ((0 : Int), (m1, (t1, ((0 : Int), (m, s)))))))))))) : Option (Out ((List Int) × (List Int) × Int × Int × Int × Bool × Int × Int × (List Int) × Int × Int × List Int) (Bool)))
  else
  (some (Out.go (B, (P, (most, ((p : Int), ((i : Int), (false, ((0 : Int), (m1, (t1, ((0 : Int), (m, s))))))))))))))
  else
  (some (Out.go (B, (P, (most, ((p : Int), ((i : Int), (false, ((0 : Int), (m1, (t1, ((0 : Int), (m, s)))))))))))))) = some (Out.go (B, (P, (most, ((p : Int), ((i : Int), (false, ((0 : Int), (m1, (t1, ((0 : Int), (m, s)))))))))))) := by
      by_cases c1 : (i : Int) < (P.length : Int)
      · rw [if_pos (decide_eq_true c1)]
        by_cases c2 : (i : Int) < 200
        · rw [if_pos (decide_eq_true c2), decide_eq_false (show ¬ (p : Int) < (B.length : Int) from fun c3 => hgo ⟨c1, c2, c3⟩)]
        · rw [if_neg (by simpa using c2)]
      · rw [if_neg (by simpa using c1)]
    rw [hno, Option.bind_some]
    dsimp only
    refine Gives.neg (by decide) ?_
    refine Gives.pos (by omega) ?_
    rw [show ((B.drop (p : Int).toNat).take ((B.length : Int).toNat - (p : Int).toNat)) = B.drop p from by rw [Int.toNat_natCast]; exact List.take_of_length_le (by rw [List.length_drop]; omega)]
    obtain ⟨m2, t2, e3, hw2⟩ := write_v h 2100000 (by omega) (B.drop p)
    refine Gives.bind_eq e3 ?_
    have hB2 : (B.drop p).take (4096 - (B.take p).length) = B.drop p := List.take_of_length_le (by rw [List.length_drop, List.length_take]; omega)
    rw [hB2, List.take_append_drop] at hw2
    refine Gives.loop (X := Int × Int × Int × Int × (List Int) × Int × Int × List Int) (fun y => ∃ (i : Nat) (c : List Int) (f1 m1 : Int) (s1 : List Int) (f2 m2 : Int) (s2 : List Int), i ≤ 4100 ∧ RI 4096 f1 m1 s1 c ∧ RI 4096 f2 m2 s2 c ∧ y = (most, (i : Int), f1, m1, s1, f2, m2, s2)) (fun y => (4100 - y.2.1).toNat) ?_ _ _ ⟨0, B, 0, m1, t1, 0, m2, t2, by omega, hw1, hw2, rfl⟩ (by dsimp only; omega)
    rintro rec2 y ⟨i, c, f1, m1, s1, f2, m2, s2, hi, ha, hb, rfl⟩ hr2
    dsimp only
    refine Gives.dite (fun h1 => ?_) (fun h1 => ?_)
    · obtain ⟨k, hk⟩ := brk c
      obtain ⟨g1, n1, e1, ha'⟩ := line_v ha 2100000 (by omega) most k hk
      obtain ⟨g2, n2, e2, hb'⟩ := line_v hb 2100000 (by omega) most k hk
      refine Gives.bind_eq e1 (Gives.bind_eq e2 ?_)
      dsimp only
      refine Gives.neg (by simp) ?_
      refine Gives.bind_eq (num_v _ _) (Gives.bind_eq (num_v _ _) ?_)
      refine Gives.nneg rfl ?_
      have hord := lres_line hk most
      have hlen := lres_len c k most
      have hcl := ha.hc
      generalize (lres c k most).2.1 = l at hord hlen ⊢
      refine Gives.loop (X := Int × Int × Int × Int × Int × Int × (List Int) × Int × Int × (List Int) × List Int) (fun y => ∃ j : Nat, j ≤ l.length ∧ y = (most, (i : Int), (lres c k most).1, (j : Int), g1, n1, s1, g2, n2, s2, l)) (fun y => ((y.2.2.2.2.2.2.2.2.2.2.length : Int) - y.2.2.2.1).toNat) ?_ _ _ ⟨0, by omega, rfl⟩ (by dsimp only; omega)
      rintro rec3 y ⟨j, hj, rfl⟩ hr3
      dsimp only
      refine Gives.dite (fun h2 => ?_) (fun h2 => ?_)
      · refine Gives.pos (by omega) ?_
        rw [Int.toNat_natCast]
        refine Gives.eneg (hord j (by omega)).1 (Gives.pos (by omega) (Gives.eneg (hord j (by omega)).2 ?_))
        rw [wrap64 (by omega) (by omega)]
        exact hr3 _ ⟨j + 1, by omega, rfl⟩ (by dsimp only; omega)
      · refine Gives.mite (fun h3 => ?_) (fun h3 => ?_)
        · obtain ⟨_, _, e3, _⟩ := read_v ha' 2100000 5000
          obtain ⟨_, _, e4, _⟩ := read_v hb' 2100000 5000
          refine Gives.bind_eq e3 (Gives.bind_eq e4 ?_)
          refine Gives.pos (by simp) ?_
          exact Gives.bind_eq works_v (Gives.of_some rfl)
        · rw [wrap64 (by omega) (by omega)]
          exact hr2 _ ⟨i + 1, _, g1, n1, s1, g2, n2, s2, by omega, ha', hb', rfl⟩ (by dsimp only; omega)
    · obtain ⟨_, _, e3, _⟩ := read_v ha 2100000 5000
      obtain ⟨_, _, e4, _⟩ := read_v hb 2100000 5000
      refine Gives.bind_eq e3 (Gives.bind_eq e4 ?_)
      refine Gives.pos (by simp) ?_
      exact Gives.bind_eq works_v (Gives.of_some rfl)
theorem line0_v (n : Nat) : line0 (n + 4) 5 = some (8, []) := by
  unfold line0 len0
  rw [if_neg (by decide), Option.bind_some]
  rfl
theorem ringApart_true (B : List Int) (N : Int) : ringApart 2100000 (B, N) = some true := by
  apply Gives.eq
  unfold ringApart
  dsimp only
  obtain ⟨s1, e1, hr1⟩ := new4096 2100000
  refine Gives.bind_eq e1 ?_
  dsimp only
  refine Gives.dite (fun h0 => ?_) (fun h0 => ?_)
  · exact Gives.bind_eq works_v (Gives.of_some rfl)
  refine Gives.pos (by omega) ?_
  obtain ⟨m1, t1, e2, hw1⟩ := writeK_v hr1 2100000 (by omega) B
  refine Gives.bind_eq e2 ?_
  have hB1 : B.take (4096 - ([] : List Int).length) = B := List.take_of_length_le (by simp only [List.length_nil]; omega)
  rw [hB1, List.nil_append] at hw1
  have e3 : clone 2100000 (t1, (0, (m1, ()))) = some (0, m1, t1) := by
    unfold clone bytesClone
    dsimp only
    rw [if_neg (by rw [hw1.hL]; omega), if_pos (by rw [hw1.hL]; omega)]
    rfl
  refine Gives.bind_eq e3 ?_
  dsimp only
  refine Gives.loop (X := (List Int) × Int × Int × Int × Int × (List Int) × (List Int) × Int × Int × List Int) (fun y => ∃ (i : Nat) (b : List Int), b.length = B.length ∧ i ≤ 4096 ∧ y = (B, N, (i : Int), 0, m1, t1, b, 0, m1, t1)) (fun y => (4096 - y.2.2.1).toNat) ?_ _ _ ⟨0, B, rfl, by omega, rfl⟩ (by dsimp only; omega)
  rintro rec y ⟨i, b, hb, hi, rfl⟩ hr
  dsimp only
  refine Gives.dite (fun h1 => ?_) (fun h1 => ?_)
  · refine Gives.pos (by omega) ?_
    rw [wrap64 (by omega) (by omega)]
    exact hr _ ⟨i + 1, b.set (i : Int).toNat 33, by rw [List.length_set]; exact hb, by omega, rfl⟩ (by dsimp only; omega)
  · refine Gives.bind_eq (peek_v hw1 _ N) ?_
    have hp : (B.take N.toNat).length ≤ 4096 := by rw [List.length_take]; omega
    refine Gives.loop (X := (List Int) × Int × Int × Int × Int × (List Int) × Int × Int × (List Int) × List Int) (fun y => ∃ (i : Nat) (b : List Int), b.length ≤ 4096 ∧ i ≤ 4096 ∧ y = (B, N, (i : Int), 0, m1, t1, 0, m1, t1, b)) (fun y => (4096 - y.2.2.1).toNat) ?_ _ _ ⟨0, B.take N.toNat, hp, by omega, rfl⟩ (by dsimp only; omega)
    rintro rec2 y ⟨i, b, hb, hi, rfl⟩ hr2
    dsimp only
    refine Gives.dite (fun h1 => ?_) (fun h1 => ?_)
    · refine Gives.pos (by omega) ?_
      rw [wrap64 (by omega) (by omega)]
      exact hr2 _ ⟨i + 1, b.set (i : Int).toNat 63, by rw [List.length_set]; exact hb, by omega, rfl⟩ (by dsimp only; omega)
    · obtain ⟨f3, m3, e5, hr5⟩ := skip_v hw1 2100000 N
      refine Gives.bind_eq e5 ?_
      dsimp only
      obtain ⟨m4, s4, e6, hr6⟩ := writeK_v hr5 2100000 (by omega) [109, 111, 114, 101]
      refine Gives.bind_eq e6 ?_
      refine Gives.bind_eq (line0_v 2099996) ?_
      refine Gives.bind_eq (show at_0 2100000 0 = some (0, false) from rfl) ?_
      obtain ⟨f7, m7, e7, hr7⟩ := read_v hw1 2100000 (B.length : Int)
      refine Gives.bind_eq e7 ?_
      dsimp only
      rw [Int.toNat_natCast, List.drop_length] at hr7
      have e8 : B.take (B.length : Int).toNat = B := by rw [Int.toNat_natCast]; exact List.take_of_length_le (Nat.le_refl _)
      rw [e8]
      refine Gives.pos (by simp) ?_
      refine Gives.bind_eq (len_v hr7 _) ?_
      refine Gives.epos rfl ?_
      have e9 : write0 2100000 B = some 0 := by
        unfold write0
        rw [show room0 2100000 () = some 0 from rfl, Option.bind_some]
        dsimp only
        have : (if (0 : Int) < (B.length : Int) then (0 : Int) else (B.length : Int)) = 0 := by split <;> omega
        rw [this]
        rfl
      refine Gives.bind_eq e9 (Gives.epos rfl ?_)
      refine Gives.bind_eq (show len0 2100000 () = some 0 from rfl) (Gives.epos rfl ?_)
      refine Gives.bind_eq (show index0 2100000 (97, 0) = some (-1) from rfl) (Gives.epos rfl ?_)
      refine Gives.epos rfl ?_
      refine Gives.bind_eq (num_v _ _) (Gives.epos rfl ?_)
      refine Gives.pos (by decide) ?_
      refine Gives.bind_eq (show clone0 2100000 () = some () from rfl) ?_
      exact Gives.bind_eq works_v (Gives.of_some rfl)
end Go.Sx.Ytojecfdacijcaaa
