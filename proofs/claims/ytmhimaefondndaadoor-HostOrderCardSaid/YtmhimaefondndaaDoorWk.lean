/- Part of a proof by a small interpreter on plain values; no condition. -/
import Derived.Test.YtmhimaefondndaaDoorWj
namespace Go.Sx.YtmhimaefondndaaDoor
open Go Go.Sx Go.Proofs
set_option autoImplicit false
set_option linter.unusedVariables false
set_option linter.unusedSimpArgs false
def TXs (l : List (List Int)) : Prop := (∀ x ∈ l, TX x) ∧ l.length ≤ 140737488355327
theorem TXs.at {l : List (List Int)} (h : TXs l) {i : Nat} (hi : i < l.length) : TX (l.getD i []) := h.1 _ (getD_mem hi)
theorem taddN_f {p : List Int} (tp : TX p) (id : Int) : Gives (taddN FU (p, id)) (fun r => (okP p → r = 9) ∧ (¬ okP p → r = 3)) := by
  unfold taddN
  dsimp only
  obtain ⟨r, h1, h2, h3⟩ := pattern_k tp
  refine Gives.bind_eq h1 ?_
  by_cases hp : okP p
  · rw [if_neg (by rw [(h2 hp).2]; simp)]
    exact Gives.of_some ⟨fun _ => rfl, fun e => absurd hp e⟩
  · rw [if_pos (by rw [h3 hp]; rfl)]
    exact Gives.of_some ⟨fun e => absurd e hp, fun _ => h3 hp⟩
theorem hostTables_f {ps hs : List (List Int)} (tp : TXs ps) (th : TXs hs) : hostTables FU (ps, hs) = some true := by
  refine Gives.eq ?_
  unfold hostTables
  dsimp only
  refine Gives.bind_eq (show tnew FU () = some (TI [], TO []) from rfl) ?_
  refine Gives.loop (I := fun z => z.1 = ps ∧ z.2.1 = hs ∧ ∃ (i : Nat) (E : List En), z.2.2.2.1 = (i : Int) ∧ i ≤ ps.length ∧ i ≤ 200 ∧ z.2.2.1 = RQ E ∧ z.2.2.2.2.1 = TI E ∧ z.2.2.2.2.2 = TO E ∧ WE E) (μ := fun z => 200 - z.2.2.2.1.toNat) ?_ FU _ ⟨rfl, rfl, 0, [], rfl, by omega, by omega, rfl, rfl, rfl, WE_nil⟩ (by simp; decide)
  rintro rec ⟨a6, a7, a8, a9, a10, a11⟩ ⟨e1, e2, i, E, e3, e4, e5, e6, e7, e8, hw⟩ hrec
  dsimp only at e1 e2 e3 e6 e7 e8 hrec ⊢
  subst e1 e2 e3 e6 e7 e8
  refine Gives.bind_eq (r := Out.go (a6, (a7, (RQ E, ((i : Int), ((decide (i < a6.length) && decide (i < 200)), (TI E, TO E))))))) ?_ ?_
  · by_cases h : i < a6.length
    · rw [if_pos (by simpa using h)]; simp [h]; omega
    · rw [if_neg (by simpa using h)]; simp [h]
  dsimp only
  refine Gives.ite (fun hb => ?_) (fun hb => ?_)
  · simp only [Bool.and_eq_true, decide_eq_true_eq] at hb
    refine Gives.idx [] (by omega) (by omega) ?_
    refine Gives.bind_eq (rAdd_f hw (tp.at (by rw [Int.toNat_natCast]; exact hb.1))) ?_
    refine Gives.idx [] (by omega) (by omega) ?_
    refine Gives.bind_eq (tadd_f hw (tp.at (by rw [Int.toNat_natCast]; exact hb.1))) ?_
    refine Gives.bind_eq (num_f _) ?_
    refine Gives.nneg rfl ?_
    have hw1 : IntKind.wrap .i64 ((i : Int) + 1) = ((i + 1 : Nat) : Int) := by rw [wrap64 (by omega) (by omega)]; omega
    rw [hw1]
    exact hrec _ ⟨rfl, rfl, i + 1, _, rfl, by omega, by omega, rfl, rfl, rfl, WE_add hw (tp.at (by rw [Int.toNat_natCast]; exact hb.1))⟩ (by dsimp only; omega)
  · clear hrec hb
    have h64 := hw.len
    have hlen : (RQ E).length = E.length := by simp [RQ]
    refine Gives.bind_eq (tall_f hw) ?_
    refine Gives.bind_eq (tlen_f hw) ?_
    refine Gives.nneg (by rw [hlen]) ?_
    refine Gives.nneg (by rw [hlen]; simp) ?_
    refine Gives.loop (I := fun z => z.1 = a7 ∧ z.2.1 = RQ E ∧ z.2.2.1 = E.map (·.1) ∧ z.2.2.2.2.1 = TI E ∧ z.2.2.2.2.2 = TO E ∧ ∃ j : Nat, z.2.2.2.1 = (j : Int) ∧ j ≤ E.length) (μ := fun z => E.length - z.2.2.2.1.toNat) ?_ FU _ ⟨rfl, rfl, rfl, rfl, rfl, 0, rfl, by omega⟩ (by simp; unfold FU; omega)
    rintro rec ⟨b1, b2, b3, b4, b5, b6⟩ ⟨e1, e2, e3, e4, e5, j, e6, e7⟩ hrec
    dsimp only at e1 e2 e3 e4 e5 e6 hrec ⊢
    subst e1 e2 e3 e4 e5 e6
    refine Gives.dite (fun hlt => ?_) (fun hge => ?_)
    · have hj : j < E.length := by omega
      refine Gives.idx [] (by omega) (by simp; omega) ?_
      refine Gives.idx ([], (0, ())) (by omega) hlt ?_
      rw [Int.toNat_natCast, RQ_at E hj]
      rw [if_neg (by simp [List.getD_eq_getElem?_getD, hj])]
      rw [wrap64 (by omega) (by omega)]
      exact hrec _ ⟨rfl, rfl, rfl, rfl, rfl, j + 1, by simp, by omega⟩ (by dsimp only; omega)
    · clear hrec hge
      refine Gives.loop (I := fun z => z.1 = b1 ∧ z.2.1 = RQ E ∧ z.2.2.2.1 = TI E ∧ z.2.2.2.2 = TO E ∧ ∃ j : Nat, z.2.2.1 = (j : Int) ∧ j ≤ b1.length ∧ j ≤ 50) (μ := fun z => 50 - z.2.2.1.toNat) ?_ FU _ ⟨rfl, rfl, rfl, rfl, 0, rfl, by omega, by omega⟩ (by simp; decide)
      rintro rec ⟨c1, c2, c3, c4, c5⟩ ⟨e1, e2, e3, e4, j, e6, e7, e8⟩ hrec
      dsimp only at e1 e2 e3 e4 e6 hrec ⊢
      subst e1 e2 e3 e4 e6
      refine Gives.bind_eq (r := Out.go (c1, (RQ E, ((j : Int), ((decide (j < c1.length) && decide (j < 50)), (TI E, TO E)))))) ?_ ?_
      · by_cases h : j < c1.length
        · rw [if_pos (by simpa using h)]; simp [h]; omega
        · rw [if_neg (by simpa using h)]; simp [h]
      dsimp only
      refine Gives.ite (fun hb => ?_) (fun hb => ?_)
      · simp only [Bool.and_eq_true, decide_eq_true_eq] at hb
        have t1 : TX (c1.getD (j : Int).toNat []) := th.at (by rw [Int.toNat_natCast]; exact hb.1)
        have hw1 : IntKind.wrap .i64 ((j : Int) + 1) = ((j + 1 : Nat) : Int) := by rw [wrap64 (by omega) (by omega)]; omega
        refine Gives.idx [] (by omega) (by omega) ?_
        refine Gives.bind_eq (tfind_f hw t1) ?_
        refine Gives.idx [] (by omega) (by omega) ?_
        refine Gives.bind_eq (rFind_f hw t1) ?_
        rw [hw1]
        have nx := hrec (c1, (RQ E, (((j + 1 : Nat) : Int), (TI E, TO E)))) ⟨rfl, rfl, rfl, rfl, j + 1, rfl, by omega, by omega⟩ (by dsimp only; omega)
        revert t1
        generalize c1.getD (j : Int).toNat [] = h
        intro t1
        obtain ⟨b1, b2, b3⟩ := best_spec E h E.length
        by_cases hh : okS false h = true
        · by_cases hb0 : bestV E h E.length < 0
          · have f1 : findV E h = (0, 8) := by unfold findV; rw [if_pos hh, if_pos hb0]
            have f2 : rfindV E h = (-1, 8) := by unfold rfindV; rw [if_pos hh, if_pos hb0]
            rw [f1, f2]
            refine Gives.dneg (by decide) ?_
            refine Gives.nneg rfl ?_
            refine Gives.bind_eq (num_f _) ?_
            exact Gives.nneg rfl nx
          · have f1 : findV E h = ((E.getD (bestV E h E.length).toNat ([], 0)).2, 0) := by unfold findV; rw [if_pos hh, if_neg hb0]
            have f2 : rfindV E h = (bestV E h E.length, 0) := by unfold rfindV; rw [if_pos hh, if_neg hb0]
            rw [f1, f2]
            refine Gives.dpos (by dsimp only; omega) ?_
            refine Gives.idx ([], (0, ())) (by dsimp only; omega) (by dsimp only; omega) ?_
            dsimp only
            rw [RQ_at E (by omega)]
            refine Gives.nneg rfl ?_
            refine Gives.bind_eq (num_f _) ?_
            exact Gives.nneg rfl nx
        · have f1 : findV E h = (0, 3) := by unfold findV; rw [if_neg hh]
          have f2 : rfindV E h = (-1, 3) := by unfold rfindV; rw [if_neg hh]
          rw [f1, f2]
          refine Gives.dneg (by decide) ?_
          refine Gives.nneg rfl ?_
          refine Gives.bind_eq (num_f _) ?_
          exact Gives.nneg rfl nx
      · have l97 : TX [97] := lit _ (by decide) (by decide)
        have l3 : TX [97, 32, 98] := lit _ (by decide) (by decide)
        have k97 : okS true [97] = true := by decide
        have k97' : okS false [97] = true := by decide
        have k3 : ¬ okP [97, 32, 98] := by rintro (h | h); cases h; exact absurd h (by decide)
        refine Gives.bind_eq (r := ((0 : Int), (8 : Int))) ?_ ?_
        · unfold tfindN; rw [labels_f false l97, if_pos k97']; rfl
        refine Gives.bind (taddN_f l97 1) (fun r hr => ?_)
        rw [hr.1 (.inr k97)]
        refine Gives.bind_eq (num_f _) ?_
        refine Gives.epos rfl ?_
        refine Gives.bind (taddN_f l3 1) (fun r hr => ?_)
        rw [hr.2 k3]
        refine Gives.bind_eq (num_f _) ?_
        refine Gives.epos rfl ?_
        refine Gives.bind_eq (num_f _) ?_
        refine Gives.epos rfl ?_
        refine Gives.bind_eq (show tlenN FU () = some 0 from rfl) ?_
        refine Gives.epos rfl ?_
        refine Gives.bind_eq (show tallN FU () = some [] from rfl) ?_
        refine Gives.epos rfl ?_
        exact Gives.bind_eq works_v (Gives.of_some rfl)
end Go.Sx.YtmhimaefondndaaDoor
