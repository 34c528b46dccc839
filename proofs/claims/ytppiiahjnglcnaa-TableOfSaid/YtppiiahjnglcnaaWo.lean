/- Part of a proof by a small interpreter on plain values; no condition. -/
import Derived.Test.YtppiiahjnglcnaaWn
/-! W22O: TableApart. -/
namespace Go.Sx.Ytppiiahjnglcnaa
open Go Go.Sx
set_option autoImplicit false
set_option maxRecDepth 100000
set_option linter.unusedVariables false
set_option linter.unusedSimpArgs false
theorem Ok.none' {f l : Int} {m : List (Wh × Int)} {xs : List Ent} {o : List Nat} (h : Ok f l m xs o) {w : Wh} (hw : w ∉ o.map (who xs)) : mget eqW w m = Option.none := by
  rw [mget_none_iff eqW_iff]
  intro p hp e
  obtain ⟨i, hi, rfl⟩ := List.mem_map.1 (h.mp.mem_iff.1 hp)
  exact hw (List.mem_map.2 ⟨i, hi, e⟩)
theorem tClone_v (r : Int) {f l : Int} {m : List (Wh × Int)} {xs : List Ent} {o : List Nat} (h : Ok f l m xs o) (ho : o.length ≤ 1024) :
    Gives (tClone 5000 (r, f, l, m, xs)) (fun z => ∃ f2 l2 m2 ys o2, z = (r, f, l, m, ys, r, f2, l2, m2) ∧ Ok f2 l2 m2 ys o2 ∧ o2.length = o.length) := by
  unfold tClone
  dsimp only
  have hlt := seg_lt h.seg
  refine Gives.loop (X := Int × Int × Int × Int × (List (Wh × Int)) × Int × Int × Int × (List (Wh × Int)) × List Ent)
    (fun y => ∃ a b f2 l2 m2 ys o2, o = a ++ b ∧ y = (hd b (-1), r, f2, l2, m2, r, f, l, m, ys) ∧ Ok f2 l2 m2 ys o2 ∧ o2.map (who ys) = a.map (who xs) ∧ xs.length ≤ ys.length ∧ (∀ i ∈ o2, xs.length ≤ i) ∧ ∀ i, i < xs.length → ys[i]? = xs[i]?) (fun y => 3000 - y.2.2.2.2.1.length) ?_ 5000 _
    ⟨[], o, -1, -1, [], xs, [], rfl, by rw [h.hf], ⟨trivial, rfl, rfl, .nil, .nil, .nil⟩, rfl, Nat.le_refl _, by simp, fun _ _ => rfl⟩ (by simp)
  rintro rec y ⟨a, b, f2, l2, m2, ys, o2, hab, rfl, hO, hw, hle, hge, hsame⟩ hr
  dsimp only
  have hlen : o.length = a.length + b.length := by rw [hab]; simp
  have hl2 : o2.length = a.length := by have := congrArg List.length hw; simpa using this
  cases b with
  | nil =>
    refine Gives.neg (by simp [hd]) (Gives.of_some ⟨f2, l2, m2, ys, o2, rfl, hO, ?_⟩)
    simp at hlen
    omega
  | cons i b =>
    simp at hlen
    have hseg := h.seg
    rw [hab, seg_app] at hseg
    obtain ⟨_, ⟨e, he, _, hn⟩, _⟩ := hseg
    have hix : i < xs.length := hlt i (by rw [hab]; simp)
    have he' : ys[i]? = some e := by rw [hsame i hix]; exact he
    have hwi := (who_of he).1
    simp only [hd]
    refine Gives.pos (show (!(decide ((i : Int) < 0))) = true by rw [decide_eq_false (by omega)]; rfl) (Gives.neg (by omega) ?_)
    rw [Int.toNat_natCast, he', Option.bind_some]
    refine Gives.neg (by omega) ?_
    rw [Option.bind_some]
    refine Gives.neg (by omega) ?_
    have e0 : ∀ u : Ent, (ys ++ [u])[((ys.length : Nat) : Int).toNat]? = some u := fun u => by rw [Int.toNat_natCast, List.getElem?_append_right (Nat.le_refl _)]; simp
    rw [e0, Option.bind_some]
    have hnone : mget eqW e.1 m2 = none := by
      apply hO.none'
      rw [hw, ← hwi]
      intro hc
      have hwn := h.wn
      rw [hab, List.map_append, List.map_cons, List.nodup_append] at hwn
      exact hwn.2.2 _ hc _ (by simp) rfl
    obtain ⟨f3, l3, ys3, n1, n2, n3, n4, n5, n6, n7⟩ := new_ok r hO (e.1, (e.2.1, ((-1 : Int), ((-1 : Int), ())))) rfl hnone
    refine Gives.bind_eq n1 ?_
    dsimp only
    refine Gives.neg (by omega) ?_
    have hi3 : ys3[i]? = some e := by rw [n7 i (by omega) (fun q => by have := hge i q; omega)]; exact he'
    rw [hi3]
    simp only [Option.bind_some]
    have hm3 : (mput eqW e.1 (ys.length : Int) m2).length = m2.length + 1 := by rw [mput_new hnone]; simp
    have hm2 := hO.len
    refine hr _ ⟨a ++ [i], b, f3, l3, _, ys3, o2 ++ [ys.length], by rw [hab]; simp, by rw [hn], n2, ?_, by omega, ?_, ?_⟩ ?_
    · rw [List.map_append, List.map_append]
      simp only [List.map_cons, List.map_nil, n4, hwi]
      rw [← hw]
      congr 1
      exact List.map_congr_left fun j hj => (n3 j (seg_lt hO.seg j hj)).1
    · intro j hj
      rcases List.mem_append.1 hj with hj | hj
      · exact hge j hj
      · simp at hj; omega
    · intro j hj
      rw [n7 j (by omega) (fun q => by have := hge j q; omega), hsame j hj]
    · dsimp only
      show 3000 - (mput eqW e.1 (ys.length : Int) m2).length < 3000 - m2.length
      omega
/-! ### each one's own bucket -/
structure Own (L : List REnt) (W : List Wh) (O : List Bk) : Prop where
  nd : W.Nodup
  len : W.length = O.length
  pm : L.Perm ((W.zip O).map fun p => (p.1, (p.2, ())))
theorem Own.length {L : List REnt} {W : List Wh} {O : List Bk} (h : Own L W O) : L.length = W.length := by
  rw [h.pm.length_eq]; simp [List.length_zip, h.len]
theorem Own.fresh {L : List REnt} {W : List Wh} {O : List Bk} (h : Own L W O) {w : Wh} (hw : w ∉ W) : pos w L = none := by
  cases hp : pos w L with
  | none => rfl
  | some j =>
    obtain ⟨e, h1, h2⟩ := pos_some hp
    have := h.pm.mem_iff.1 (List.mem_of_getElem? h1)
    obtain ⟨p, hp, rfl⟩ := List.mem_map.1 this
    have h3 := (List.of_mem_zip (a := p.1) (b := p.2) hp).1
    exact absurd (h2 ▸ h3) hw
theorem Own.found {L : List REnt} {W1 W2 : List Wh} {O1 O2 : List Bk} {w : Wh} {b : Bk} (h : Own L (W1 ++ w :: W2) (O1 ++ b :: O2)) (hl : W1.length = O1.length) : ∃ j, pos w L = some j ∧ L.getD j dR = (w, (b, ())) ∧
    ∀ b', Own (L.eraseIdx j ++ [(w, (b', ()))]) (W1 ++ w :: W2) (O1 ++ b' :: O2) := by
  have hz : ∀ b', (W1 ++ w :: W2).zip (O1 ++ b' :: O2) = W1.zip O1 ++ (w, b') :: W2.zip O2 := fun b' => by
    rw [List.zip_append hl]; rfl
  have hpm := h.pm
  rw [hz b, List.map_append, List.map_cons] at hpm
  have hwn : (L.map (·.1)).Nodup := by
    have e : (((W1 ++ w :: W2).zip (O1 ++ b :: O2)).map fun p => ((p.1, (p.2, ())) : REnt)).map (·.1) = W1 ++ w :: W2 := by
      rw [List.map_map]
      show ((W1 ++ w :: W2).zip (O1 ++ b :: O2)).map Prod.fst = _
      exact List.map_fst_zip (by rw [h.len]; exact Nat.le_refl _)
    exact (h.pm.map (·.1)).nodup_iff.2 (by rw [e]; exact h.nd)
  have hmem : (w, (b, ())) ∈ L := hpm.mem_iff.2 (by simp)
  cases hp : pos w L with
  | none => exact absurd rfl (pos_none hp _ hmem)
  | some j =>
    obtain ⟨e, h1, h2⟩ := pos_some hp
    have he : e = (w, (b, ())) := by
      have hm2 := h.pm.mem_iff.1 (List.mem_of_getElem? h1)
      obtain ⟨i1, hi1, q1⟩ := List.mem_iff_getElem.1 (List.mem_of_getElem? h1)
      obtain ⟨i2, hi2, q2⟩ := List.mem_iff_getElem.1 hmem
      have hii : i1 = i2 := by
        refine (List.getElem?_inj (l := L.map (·.1)) (by simpa using hi1) hwn).1 ?_
        rw [List.getElem?_map, List.getElem?_map, List.getElem?_eq_getElem hi1, List.getElem?_eq_getElem hi2, q1, q2]
        simp [h2]
      subst hii
      rw [← q1, q2]
    subst he
    refine ⟨j, rfl, by rw [List.getD_eq_getElem?_getD, h1]; rfl, fun b' => ⟨h.nd, by have := h.len; simp at this ⊢; omega, ?_⟩⟩
    rw [hz b', List.map_append, List.map_cons]
    have hj := (List.getElem?_eq_some_iff.1 h1)
    obtain ⟨hj1, hj2⟩ := hj
    have hsplit : L = L.take j ++ (w, (b, ())) :: L.drop (j + 1) := by
      rw [← hj2, ← List.drop_eq_getElem_cons hj1, List.take_append_drop]
    have her : L.eraseIdx j = L.take j ++ L.drop (j + 1) := List.eraseIdx_eq_take_drop_succ L j
    rw [her]
    have p1 : (L.take j ++ (w, (b, ())) :: L.drop (j + 1)).Perm ((w, (b, ())) :: (L.take j ++ L.drop (j + 1))) := List.perm_middle
    have p2 := hpm
    rw [hsplit] at p2
    have p3 := p1.symm.trans (p2.trans List.perm_middle)
    have p4 := p3.cons_inv
    have p5 : (L.take j ++ L.drop (j + 1) ++ [((w, (b', ())) : REnt)]).Perm ((w, (b', ())) :: (L.take j ++ L.drop (j + 1))) := List.perm_append_comm
    exact p5.trans ((p4.cons _).trans List.perm_middle.symm)
theorem tk_err (q : Int × Int × Int) (b R P B t : Int) (h : (tkV q b R P B t).2.2.2 ≠ 0) : (tkV q b R P B t).2.2.1 = false := by
  have e := rTake_v q.1 q.2.1 b R P B t q.2.2
  unfold rTake at e
  dsimp only at e
  rw [rFill_v] at e
  simp only [Option.bind_some] at e
  by_cases h1 : (fV q.1 q.2.1 R P B t).2.2 = 0
  · rw [if_neg (by simpa using h1)] at e
    split at e
    · injection e with e; rw [← e]
    · injection e with e; rw [← e] at h; exact absurd rfl h
  · rw [if_pos (by simpa using h1)] at e
    injection e with e
    rw [← e]
theorem split_at {α : Type} {l : List α} {k : Nat} (h : k < l.length) : ∃ a x b, l = a ++ x :: b ∧ a.length = k ∧ l[k]? = some x := by
  refine ⟨l.take k, l[k], l.drop (k + 1), ?_, by rw [List.length_take]; omega, List.getElem?_eq_getElem h⟩
  rw [← List.drop_eq_getElem_cons h, List.take_append_drop]
theorem set_mid {α : Type} (a b : List α) (x y : α) : (a ++ x :: b).set a.length y = a ++ y :: b := by
  rw [List.set_append_right _ _ (Nat.le_refl _), Nat.sub_self]; rfl
theorem getD_mid {α : Type} (a b : List α) (x d : α) : (a ++ x :: b).getD a.length d = x := by
  rw [List.getD_eq_getElem?_getD, List.getElem?_append_right (Nat.le_refl _), Nat.sub_self]; rfl
abbrev Act22 := Int × (Wh × ((Int × (Int × (Int × (Int × Unit)))) × (Int × Unit)))
theorem tableApart_true (acts : List Act22) : tableApart 5000 (acts, []) = some true := by
  apply Gives.eq
  unfold tableApart
  dsimp only
  rw [new_v, if_pos (by omega)]
  simp only [Option.bind_some]
  refine Gives.dite (fun _ => by rw [works_true]; exact Gives.of_some rfl) (fun hn => ?_)
  refine Gives.loop (X := (List Act22) × Int × Int × Int × Int × (List (Wh × Int)) × (List Ent) × (List Wh) × List Bk)
    (fun y => ∃ (i : Nat) (f l : Int) (m : List (Wh × Int)) (xs : List Ent) (o : List Nat) (W : List Wh) (O : List Bk), i ≤ acts.length ∧ y = (acts, (i : Int), 1024, f, l, m, xs, W, O) ∧ Ok f l m xs o ∧ Own (ents xs o) W O ∧ W.length ≤ i) (fun y => (400 - y.2.1).toNat) ?_ 5000 _
    ⟨0, -1, -1, [], [], [], [], [], by omega, rfl, Ok.empty, ⟨.nil, rfl, .nil⟩, by simp⟩ (by simp)
  rintro rec y ⟨i, f, l, m, xs, o, W, O, hi, rfl, hO, hW, hWi⟩ hrec
  dsimp only
  have hWl := hW.length
  rw [ents_len] at hWl
  refine Gives.dite (fun hlt => ?_) (fun hlt => ?_)
  · refine Gives.idx (0, (0, 0, [], ()), (0, 0, 0, 0, ()), 0, ()) (by omega) hlt ?_
    generalize acts.getD (i : Int).toNat (0, (0, 0, [], ()), (0, 0, 0, 0, ()), 0, ()) = v
    obtain ⟨kd, ⟨w1, w2, w3, _⟩, ⟨b, R, P, B, _⟩, t, _⟩ := v
    dsimp only
    obtain ⟨f1, l1, m1, xs1, o1, t1, t2, t3, t4⟩ := tTake_v 1024 hO (by omega) (by omega) w1 w2 w3 b R P B t
    refine Gives.bind_eq t1 ?_
    dsimp only
    -- where it stands
    refine Gives.loop (X := (List Act22) × Int × Bool × Int × Int × Int × Int × Int × Int × (List (Wh × Int)) × (List Wh) × (List Bk) × Int × Int × Int × (List Int) × Int × Int × Int × Int × Int × List Ent)
      (fun y => ∃ (k : Nat) (a : Int), k ≤ W.length ∧ y = (acts, (i : Int), (takeL 1024 (ents xs o) (w1, w2, w3, ()) b R P B t).2.1, (takeL 1024 (ents xs o) (w1, w2, w3, ()) b R P B t).2.2, a, (k : Int), 1024, f1, l1, m1, W, O, kd, w1, w2, w3, b, R, P, B, t, xs1) ∧
        ((a = -1 ∧ (w1, w2, w3, ()) ∉ W.take k) ∨ ∃ j : Nat, a = (j : Int) ∧ j < k ∧ W[j]? = some (w1, w2, w3, ()))) (fun y => (400 - y.2.2.2.2.2.1).toNat) ?_ 5000 _
      ⟨0, -1, by omega, rfl, .inl ⟨rfl, by simp⟩⟩ (by simp)
    rintro rec2 y ⟨k, a, hk, rfl, ha⟩ hrec2
    dsimp only
    refine Gives.dite (fun hlt2 => ?_) (fun hlt2 => ?_)
    · refine Gives.pos (by omega) ?_
      have hk2 : k < W.length := by omega
      have hg : W.getD ((k : Nat) : Int).toNat (0, 0, [], ()) = W[k] := by rw [Int.toNat_natCast, List.getD_eq_getElem?_getD, List.getElem?_eq_getElem hk2]; rfl
      rw [hg]
      refine Gives.ite (fun hc => ?_) (fun hc => ?_)
      · rw [wrap64 (by omega) (by omega)]
        have := (weq W[k] (w1, w2, w3, ())).1 hc
        exact hrec2 _ ⟨k + 1, (k : Int), by omega, by simp, .inr ⟨k, rfl, by omega, by rw [List.getElem?_eq_getElem hk2, this]⟩⟩ (by dsimp only; omega)
      · rw [wrap64 (by omega) (by omega)]
        have hne : W[k] ≠ (w1, w2, w3, ()) := fun q => hc ((weq W[k] (w1, w2, w3, ())).2 q)
        refine hrec2 _ ⟨k + 1, a, by omega, by simp, ?_⟩ (by dsimp only; omega)
        rcases ha with ⟨ha, hno⟩ | ⟨j, hj, hjk, hjw⟩
        · refine .inl ⟨ha, ?_⟩
          rw [List.take_add_one, List.getElem?_eq_getElem hk2]
          simp only [Option.toList_some, List.mem_append, List.mem_singleton, not_or]
          exact ⟨hno, fun q => hne q.symm⟩
        · exact .inr ⟨j, hj, by omega, hjw⟩
    · have hkl : k = W.length := by omega
      subst hkl
      rw [List.take_length] at ha
      rw [rFull_v]
      simp only [Option.bind_some]
      -- the three numbers
      generalize hfull : (if Lim R P B then (if 0 ≤ t ∧ t ≤ 1099511627776 then (B * P, t, (0 : Int)) else (0, 0, 1)) else (0, 0, 4)) = F
      have hbv : (F.2.2 ≠ 0 → (bvL (ents xs o) (w1, w2, w3, ()) R P B t).2.2 = F.2.2) ∧ (F.2.2 = 0 → (a = -1 ∧ bvL (ents xs o) (w1, w2, w3, ()) R P B t = F) ∨ ∃ (j : Nat) (W1 W2 : List Wh) (O1 O2 : List Bk) (bb : Bk), a = (j : Int) ∧ W = W1 ++ (w1, w2, w3, ()) :: W2 ∧ O = O1 ++ bb :: O2 ∧ W1.length = j ∧ O1.length = j ∧ bvL (ents xs o) (w1, w2, w3, ()) R P B t = (bb.1, bb.2.1, 0)) := by
        rw [← hfull]
        unfold bvL
        by_cases hl : Lim R P B
        · simp only [if_pos hl]
          by_cases ht : 0 ≤ t ∧ t ≤ 1099511627776
          · simp only [if_pos ht]
            refine ⟨fun q => absurd rfl q, fun _ => ?_⟩
            rcases ha with ⟨ha, hno⟩ | ⟨j, hj, hjk, hjw⟩
            · exact .inl ⟨ha, by rw [hW.fresh hno]⟩
            · obtain ⟨W1, x, W2, q1, q2, q3⟩ := split_at hjk
              obtain ⟨O1, bb, O2, q4, q5, q6⟩ := split_at (l := O) (k := j) (by rw [← hW.len]; exact hjk)
              rw [hjw] at q3
              injection q3 with q3
              subst q3
              have hW' := hW
              rw [q1, q4] at hW'
              obtain ⟨jj, z1, z2, _⟩ := hW'.found (by omega)
              exact .inr ⟨j, W1, W2, O1, O2, bb, hj, q1, q4, q2, q5, by rw [z1]; simp only [z2]⟩
          · simp only [if_neg ht]
            exact ⟨fun _ => trivial, fun q => by cases q⟩
        · simp only [if_neg hl]
          exact ⟨fun _ => trivial, fun q => by cases q⟩
      clear hfull
      refine Gives.bind (P := fun z => ∃ p q : Int, z = Out.go (acts, (i : Int), (takeL 1024 (ents xs o) (w1, w2, w3, ()) b R P B t).2.1, (takeL 1024 (ents xs o) (w1, w2, w3, ()) b R P B t).2.2, a, F.2.2, 1024, f1, l1, m1, W, O, kd, w1, w2, w3, b, R, P, B, t, p, q, xs1) ∧
          (F.2.2 = 0 → bvL (ents xs o) (w1, w2, w3, ()) R P B t = (p, q, 0))) ?_ ?_
      · refine Gives.bind (P := fun z => z = Out.go (acts, (i : Int), (takeL 1024 (ents xs o) (w1, w2, w3, ()) b R P B t).2.1, (takeL 1024 (ents xs o) (w1, w2, w3, ()) b R P B t).2.2, a, F.2.2, (decide (a ≥ 0) && (F.2.2 == 0)), 1024, f1, l1, m1, W, O, kd, w1, w2, w3, b, R, P, B, t, F.1, F.2.1, xs1)) ?_ ?_
        · refine Gives.dite (fun h => Gives.of_some ?_) (fun h => Gives.of_some ?_)
          · rw [decide_eq_true h]; rfl
          · rw [decide_eq_false h]; rfl
        rintro _ rfl
        dsimp only
        refine Gives.ite (fun h => ?_) (fun h => ?_)
        · simp only [Bool.and_eq_true, decide_eq_true_eq, beq_iff_eq] at h
          rcases hbv.2 h.2 with ⟨h1, _⟩ | ⟨j, W1, W2, O1, O2, bb, q1, q2, q3, q4, q5, q6⟩
          · omega
          · have hlen := hW.len
            refine Gives.pos ?_ (Gives.of_some ⟨bb.1, bb.2.1, ?_, fun _ => q6⟩)
            · rw [q2] at hlen
              simp at hlen
              omega
            · have : O.getD a.toNat (0, 0, ()) = bb := by
                rw [q1, Int.toNat_natCast, q3, ← q5]
                exact getD_mid O1 O2 bb (0, 0, ())
              rw [this]
        · refine Gives.of_some ⟨F.1, F.2.1, rfl, fun h0 => ?_⟩
          rcases hbv.2 h0 with ⟨_, h1⟩ | ⟨j, W1, W2, O1, O2, bb, q1, _⟩
          · rw [h1, ← h0]
          · exfalso
            apply h
            rw [q1, h0]
            simp
      rintro _ ⟨p, q, rfl, hpq⟩
      dsimp only
      rw [rTake_v p q b R P B t 0]
      simp only [Option.bind_some]
      refine Gives.bind (P := fun z => z = Out.go (acts, (i : Int), (takeL 1024 (ents xs o) (w1, w2, w3, ()) b R P B t).2.1, (takeL 1024 (ents xs o) (w1, w2, w3, ()) b R P B t).2.2, a, (if F.2.2 = 0 then (tkV (p, q, 0) b R P B t).2.2.1 else false), (if F.2.2 = 0 then (tkV (p, q, 0) b R P B t).2.2.2 else F.2.2), 1024, f1, l1, m1, W, O, kd, w1, w2, w3, b, R, P, B, t, (tkV (p, q, 0) b R P B t).1, (tkV (p, q, 0) b R P B t).2.1, xs1)) ?_ ?_
      · refine Gives.nite (fun h => Gives.of_some ?_) (fun h => Gives.of_some ?_)
        · rw [if_neg h, if_neg h]
        · rw [if_pos h, if_pos h]
      rintro _ rfl
      dsimp only
      rw [num_v]
      simp only [Option.bind_some]
      by_cases hF : F.2.2 = 0
      · simp only [if_pos hF]
        have hbq := hpq hF
        by_cases hk : (tkV (p, q, 0) b R P B t).2.2.2 = 0
        · have htl : takeL 1024 (ents xs o) (w1, w2, w3, ()) b R P B t = (putL 1024 (ents xs o) (w1, w2, w3, ()) ((tkV (p, q, 0) b R P B t).1, (tkV (p, q, 0) b R P B t).2.1, ()), (tkV (p, q, 0) b R P B t).2.2.1, 0) := by
            unfold takeL
            rw [hbq, if_neg (by simp), if_neg (by simpa using hk)]
          rw [htl] at t3 ⊢
          dsimp only at t3 ⊢
          refine Gives.neg (by simp) (Gives.nneg hk.symm (Gives.nneg hk ?_))
          rcases hbv.2 hF with ⟨h1, h2⟩ | ⟨j, W1, W2, O1, O2, bb, q1, q2, q3, q4, q5, q6⟩
          · -- a new one
            have hno : (w1, w2, w3, ()) ∉ W := by
              rcases ha with ⟨_, h3⟩ | ⟨j, h3, _⟩
              · exact h3
              · omega
            have hfr := hW.fresh hno
            have hOl := hW.len
            refine Gives.dpos (by omega) (Gives.pos (by omega) (Gives.pos (by omega) ?_))
            rw [wrap64 (by omega) (by omega)]
            refine hrec _ ⟨i + 1, f1, l1, m1, xs1, o1, W ++ [(w1, w2, w3, ())], O ++ [((tkV (p, q, 0) b R P B t).1, (tkV (p, q, 0) b R P B t).2.1, ())], by omega, by simp, t2, ?_, by simp; omega⟩ (by dsimp only; omega)
            rw [t3]
            unfold putL
            rw [hfr]
            simp only
            rw [ents_len, if_pos (by omega)]
            refine ⟨?_, by simp [hW.len], ?_⟩
            · rw [List.nodup_append]
              exact ⟨hW.nd, by simp, fun x hx y hy => by simp at hy; rw [hy]; exact fun q => hno (q ▸ hx)⟩
            · rw [List.zip_append hW.len, List.map_append]
              exact hW.pm.append (List.Perm.refl _)
          · have hW' := hW
            rw [q2, q3] at hW'
            obtain ⟨jj, z1, z2, z3⟩ := hW'.found (by omega)
            have hlen := hW.len
            have hj : j < W.length := by rw [q2]; simp; omega
            refine Gives.dneg (by omega) (Gives.pos (by omega) ?_)
            rw [wrap64 (by omega) (by omega)]
            refine hrec _ ⟨i + 1, f1, l1, m1, xs1, o1, W, O.set j ((tkV (p, q, 0) b R P B t).1, (tkV (p, q, 0) b R P B t).2.1, ()), by omega, by rw [q1]; simp, t2, ?_, by omega⟩ (by dsimp only; omega)
            rw [t3]
            unfold putL
            rw [z1]
            simp only
            rw [q3, ← q5, set_mid, q2]
            exact z3 _
        · have htl : takeL 1024 (ents xs o) (w1, w2, w3, ()) b R P B t = (ents xs o, false, (tkV (p, q, 0) b R P B t).2.2.2) := by
            unfold takeL
            rw [hbq, if_neg (by simp), if_pos hk]
          rw [htl] at t3 ⊢
          dsimp only at t3 ⊢
          rw [tk_err _ _ _ _ _ _ hk]
          refine Gives.neg (by simp) (Gives.nneg rfl (Gives.npos hk ?_))
          rw [wrap64 (by omega) (by omega)]
          exact hrec _ ⟨i + 1, f1, l1, m1, xs1, o1, W, O, by omega, by simp, t2, by rw [t3]; exact hW, by omega⟩ (by dsimp only; omega)
      · simp only [if_neg hF]
        have hbq := hbv.1 hF
        have htl : takeL 1024 (ents xs o) (w1, w2, w3, ()) b R P B t = (ents xs o, false, F.2.2) := by
          unfold takeL
          rw [if_pos (by rw [hbq]; exact hF), hbq]
        rw [htl] at t3 ⊢
        dsimp only at t3 ⊢
        refine Gives.neg (by simp) (Gives.nneg rfl (Gives.npos hF ?_))
        rw [wrap64 (by omega) (by omega)]
        exact hrec _ ⟨i + 1, f1, l1, m1, xs1, o1, W, O, by omega, by simp, t2, by rw [t3]; exact hW, by omega⟩ (by dsimp only; omega)
  · refine Gives.bind (tClone_v 1024 hO (by omega)) ?_
    rintro _ ⟨f2, l2, m2, ys, o2, rfl, hO2, hl2⟩
    dsimp only
    rw [tLen_v _ _ _ _ _ (by rw [hO.len]; omega)]
    simp only [Option.bind_some]
    obtain ⟨f3, l3, m3, xs3, o3, t1, t2, t3, t4⟩ := tTake_v 1024 hO2 (by omega) (by omega) (-77) 0 [97, 110, 111, 116, 104, 101, 114] 0 1 1 1 0
    refine Gives.bind_eq t1 ?_
    dsimp only
    obtain ⟨f4, l4, m4, xs4, o4, u1, u2, u3, u4, _⟩ := tDrop_v 1024 t2 (by omega) 0
    refine Gives.bind_eq u1 ?_
    dsimp only
    rw [tLen_v _ _ _ _ _ (by rw [hO.len]; omega)]
    simp only [Option.bind_some, works_true]
    refine Gives.epos rfl (Gives.epos ?_ (Gives.of_some rfl))
    rw [hO.len]
    omega
end Go.Sx.Ytppiiahjnglcnaa
