/- Part of a proof by a small interpreter on plain values; no condition. -/
import Derived.Test.YtndkpphniekmlaaDoorWh
namespace Go.Sx.YtndkpphniekmlaaDoor
open Go Go.Sx Go.Proofs
set_option autoImplicit false
set_option linter.unusedVariables false
set_option linter.unusedSimpArgs false
theorem jn_Cl {o : List (List Int)} (h : Nm o) : Cl (47 :: jn 47 o) := by rw [← fm_jn h.1]; exact fm_Cl fun x hx => (h.2 x hx).1
theorem targetMeant_f {s : List Int} (h : TX s) : targetMeant FU s = some true := by
  refine Gives.eq ?_
  have hn : (300000000 : Nat) < FU := by decide
  unfold targetMeant
  refine Gives.bind_eq (normal_v FU h hn) ?_
  refine Gives.mite (fun hbad => ?_) (fun h0 => ?_)
  · rw [norm_bad hbad]
    refine Gives.pos (by simp) ?_
    exact Gives.bind_eq works_v (Gives.of_some rfl)
  obtain ⟨o, ho, hp⟩ := norm_spec h0
  have hT := norm_TX h
  have hseg : segP (normP s).1 = segP s := by unfold segP; rw [hp, norm_again ho]
  have hcl := jn_Cl ho
  rw [hp] at hT hseg ⊢
  dsimp only at hT hseg ⊢
  have ha := norm_again ho
  have hsp : spl 47 (jn 47 o) = o := spl_jn o ho.1 fun x hx => (ho.2 x hx).2.1
  refine Gives.bind_eq (normal_v FU hT hn) ?_
  refine Gives.bind_eq (segments_v FU h hn) ?_
  refine Gives.bind_eq (segments_v FU hT hn) ?_
  rw [ha, hseg]
  refine Gives.neg (by simp) ?_
  refine Gives.neg (by simp) ?_
  refine Gives.bind_eq (same_v FU _ (seg_len s h) (by decide)) ?_
  refine Gives.neg (by simp) ?_
  refine Gives.bind_eq (num_v _ _) ?_
  refine Gives.bind_eq (num_v _ _) ?_
  refine Gives.nneg rfl ?_
  generalize hP : (47 :: jn 47 o : List Int) = p at hT hcl
  have hlen : 1 ≤ p.length := by rw [← hP]; simp
  have hl := hT.2
  refine Gives.dneg (by omega) ?_
  refine Gives.bind_eq (show idx p 0 = some 47 from by rw [← hP]; rfl) ?_
  refine Gives.nneg rfl ?_
  have hdots : ∀ x ∈ spl 47 (p.drop 1), x ≠ [46] ∧ x ≠ [46, 46] := by
    rw [← hP, List.drop_one, List.tail_cons, hsp]; exact fun x hx => (ho.2 x hx).2.2
  clear hP ha hsp
  refine Gives.loop (I := fun z => z.1 = p ∧ ∃ f k : Nat, z.2.1 = (f : Int) ∧ z.2.2 = (k : Int) ∧ f ≤ k ∧ k ≤ p.length + 1 ∧ 47 ∉ (p.drop f).take (k - f) ∧ ∀ x ∈ spl 47 (p.drop f), x ≠ [46] ∧ x ≠ [46, 46]) (μ := fun z => p.length + 1 - z.2.2.toNat) ?_ FU _ ⟨rfl, 1, 1, rfl, rfl, by omega, by omega, by simp, hdots⟩ (by simp [FU]; omega)
  rintro rec ⟨a13, a14, a15⟩ ⟨e1, f, k, e2, e3, e4, e5, e6, e7⟩ hrec
  dsimp only at e1 e2 e3 hrec ⊢
  subst e1 e2 e3
  refine Gives.dite (fun hle => ?_) (fun hgt => ?_)
  · have hw : IntKind.wrap .i64 ((k : Int) + 1) = ((k + 1 : Nat) : Int) := by rw [wrap64 (by omega) (by omega)]; omega
    have hsplit : ∀ (q : List Int), a13.drop f = (a13.drop f).take (k - f) ++ q → (a13.drop f).take (k - f) ∈ spl 47 (a13.drop f) ∨ (∃ r, q = 47 :: r) ∨ q ≠ [] := fun q hq => by
      cases q with
      | nil => rw [List.append_nil] at hq; left; rw [← hq] at e6 ⊢; rw [spl_no e6]; simp
      | cons a b => right; right; simp
    refine Gives.dite (fun hlt => ?_) (fun hge => ?_)
    · have hk : k < a13.length := by omega
      refine Gives.idx 0 (by omega) hlt ?_
      rw [Int.toNat_natCast, hw]
      have hdk : a13.drop f = (a13.drop f).take (k - f) ++ a13.getD k 0 :: a13.drop (k + 1) := by
        rw [← drop_cons a13 k 0 hk]
        have := (List.take_append_drop (k - f) (a13.drop f)).symm
        rw [List.drop_drop, show f + (k - f) = k by omega] at this
        exact this
      refine Gives.nite (fun h47 => ?_) (fun h47 => ?_)
      · refine hrec _ ⟨rfl, f, k + 1, rfl, rfl, by omega, by omega, ?_, e7⟩ (by dsimp only; omega)
        rw [show k + 1 - f = (k - f) + 1 by omega, take_succ (a13.drop f) (k - f) 0 (by simp; omega)]
        have : (a13.drop f).getD (k - f) 0 = a13.getD k 0 := by simp [List.getD_eq_getElem?_getD, List.getElem?_drop, show f + (k - f) = k by omega]
        rw [this]
        intro hm
        rcases List.mem_append.1 hm with e | e
        · exact e6 e
        · exact h47 (List.mem_singleton.1 e).symm
      · rw [h47] at hdk
        have hs := spl_app _ (a13.drop (k + 1)) e6
        rw [← hdk] at hs
        have hd := e7 ((a13.drop f).take (k - f)) (by rw [hs]; simp)
        refine Gives.pos (by omega) ?_
        try simp only [Int.toNat_natCast]
        refine Gives.neg (by simpa using hd.1) ?_
        refine Gives.pos (by omega) ?_
        refine Gives.neg (by simpa using hd.2) ?_
        exact hrec _ ⟨rfl, k + 1, k + 1, rfl, rfl, by omega, by omega, by simp, fun x hx => e7 x (by rw [hs]; simp [hx])⟩ (by dsimp only; omega)
    · have hk : k = a13.length := by omega
      have hA : (a13.drop f).take (k - f) = a13.drop f := List.take_of_length_le (by simp; omega)
      have hd := e7 ((a13.drop f).take (k - f)) (by rw [hA] at e6 ⊢; rw [spl_no e6]; simp)
      rw [hw]
      refine Gives.pos (by omega) ?_
      try simp only [Int.toNat_natCast]
      refine Gives.neg (by simpa using hd.1) ?_
      refine Gives.pos (by omega) ?_
      refine Gives.neg (by simpa using hd.2) ?_
      refine hrec _ ⟨rfl, k + 1, k + 1, rfl, rfl, by omega, by omega, by simp, fun x hx => ?_⟩ (by dsimp only; omega)
      rw [List.drop_of_length_le (by omega)] at hx
      simp [spl] at hx
      subst hx; simp
  · clear hrec
    refine Gives.loop (I := fun z => z.1 = a13 ∧ ∃ i : Nat, z.2 = (i : Int) ∧ i ≤ a13.length) (μ := fun z => a13.length - z.2.toNat) ?_ FU _ ⟨rfl, 0, rfl, by omega⟩ (by simp [FU]; omega)
    rintro rec2 ⟨b1, b2⟩ ⟨g1, i, g2, g3⟩ hrec2
    dsimp only at g1 g2 hrec2 ⊢
    subst g1 g2
    have hw2 : IntKind.wrap .i64 ((i : Int) + 2) = ((i + 2 : Nat) : Int) := by rw [wrap64 (by omega) (by omega)]; omega
    have hw1 : IntKind.wrap .i64 ((i : Int) + 1) = ((i + 1 : Nat) : Int) := by rw [wrap64 (by omega) (by omega)]; omega
    have hw3 : IntKind.wrap .i64 ((i : Int) + 3) = ((i + 3 : Nat) : Int) := by rw [wrap64 (by omega) (by omega)]; omega
    rw [hw1, hw2, hw3]
    refine Gives.dite (fun hlt => ?_) (fun hge => Gives.bind_eq works_v (Gives.of_some rfl))
    refine Gives.idx 0 (by omega) (by omega) ?_
    rw [Int.toNat_natCast]
    have nx : Gives (rec2 (b1, ((i + 1 : Nat) : Int))) (· = true) := hrec2 _ ⟨rfl, i + 1, rfl, by omega⟩ (by dsimp only; omega)
    refine Gives.nite (fun _ => nx) (fun h37 => ?_)
    obtain ⟨v, r, hdr, hv0, hv1, hvu⟩ := hcl.at37 i h37
    have g1 := hdg_v (v := v / 16) (by omega)
    have g2 := hdg_v (v := v % 16) (by omega)
    refine Gives.pos (by omega) ?_
    try simp only [Int.toNat_natCast]
    rw [show i + 3 - i = 3 by omega, hdr]
    have ht3 : (enc1 v ++ r).take 3 = enc1 v := rfl
    rw [ht3]
    have hTe : TX (enc1 v) := ⟨enc1_BL ⟨hv0, hv1⟩, by simp [enc1]⟩
    have hdec : decP (enc1 v) = some [v] := by
      have := dec_code ⟨hv0, hv1⟩ []
      rw [List.append_nil, show decP [] = some [] by simp [decP]] at this
      exact this
    refine Gives.bind_eq (decode_v FU hTe (by decide)) ?_
    rw [hdec]
    refine Gives.neg (by simp) ?_
    refine Gives.neg (by simp) ?_
    refine Gives.bind_eq (show idx [v] 0 = some v from rfl) ?_
    refine Gives.bind_eq (rUnreserved_v FU v (by decide)) ?_
    rw [hvu]
    refine Gives.neg Bool.false_ne_true ?_
    have e1 : b1.getD (i + 1) 0 = hdg (v / 16) := by
      have : b1.getD (i + 1) 0 = (b1.drop i).getD 1 0 := by simp [List.getD_eq_getElem?_getD, List.getElem?_drop]
      rw [this, hdr]; rfl
    have e2 : b1.getD (i + 2) 0 = hdg (v % 16) := by
      have : b1.getD (i + 2) 0 = (b1.drop i).getD 2 0 := by simp [List.getD_eq_getElem?_getD, List.getElem?_drop]
      rw [this, hdr]; rfl
    refine Gives.idx 0 (by omega) (by omega) ?_
    rw [Int.toNat_natCast, e1]
    refine Gives.dneg (by omega) ?_
    refine Gives.idx 0 (by omega) (by omega) ?_
    rw [Int.toNat_natCast, e2]
    exact Gives.dneg (by omega) nx
theorem ticks_v (x : Int) (k : Int) (hk : 0 < k) (hk2 : k < 1000000) : 0 ≤ Int.tmod (IntKind.wrap .i64 (Int.tmod x k + k)) k ∧ Int.tmod (IntKind.wrap .i64 (Int.tmod x k + k)) k < k := by
  have h1 := Int.lt_tmod_of_pos x hk
  have h2 := Int.tmod_lt_of_pos x hk
  rw [wrap64 (by omega) (by omega)]
  exact ⟨Int.tmod_nonneg _ (by omega), Int.tmod_lt_of_pos _ hk⟩
theorem targetPrefix_f {s : List Int} {x2 : Int} {x3 : Bool} (h : TX s) : targetPrefix FU (s, (x2, x3)) = some true := by
  refine Gives.eq ?_
  have hn : (300000000 : Nat) < FU := by decide
  unfold targetPrefix
  dsimp only
  refine Gives.bind_eq (normal_v FU h hn) ?_
  refine Gives.mite (fun hbad => Gives.bind_eq works_v (Gives.of_some rfl)) (fun h0 => ?_)
  obtain ⟨o, ho, hp⟩ := norm_spec h0
  have hT := norm_TX h
  rw [hp] at hT ⊢
  dsimp only at hT ⊢
  have hfm := fm_jn ho.1
  rw [← hfm] at hT ⊢
  refine Gives.dite (fun _ => Gives.bind_eq works_v (Gives.of_some rfl)) (fun hlen => ?_)
  have h1 : 1 ≤ (fm o).length := by rw [hfm]; simp
  refine Gives.neg (by rw [hfm]; simp) ?_
  have hz : (fm o).getD 0 0 = 47 := by rw [hfm]; rfl
  refine Gives.bind_eq (show idx (fm o) 0 = some 47 from by rw [hfm]; rfl) ?_
  refine Gives.nneg rfl ?_
  refine Gives.neg (by omega) ?_
  refine Gives.neg (by omega) ?_
  have htk := ticks_v x2 ((fm o).length : Int) (by omega) (by omega)
  refine Gives.loop (I := fun z => z.2.1 = x3 ∧ z.2.2 = fm o ∧ ∃ i : Nat, z.1 = (i : Int) ∧ i < (fm o).length) (μ := fun z => z.1.toNat) ?_ FU _ ⟨rfl, rfl, (Int.tmod (IntKind.wrap .i64 (Int.tmod x2 ((fm o).length : Int) + ((fm o).length : Int))) ((fm o).length : Int)).toNat, by dsimp only; omega, by omega⟩ (by simp only [FU]; omega)
  rintro rec ⟨a11, a12, a13⟩ ⟨e1, e2, i, e3, e4⟩ hrec
  dsimp only at e1 e2 e3 hrec ⊢
  subst e1 e2 e3
  refine Gives.idx 0 (by omega) (by omega) ?_
  rw [Int.toNat_natCast]
  refine Gives.nite (fun h47 => ?_) (fun h47 => ?_)
  · have hi : i ≠ 0 := fun e => h47 (by rw [e]; exact hz)
    rw [wrap64 (by omega) (by omega)]
    exact hrec _ ⟨rfl, rfl, i - 1, by dsimp only; omega, by omega⟩ (by dsimp only; omega)
  · clear hrec
    obtain ⟨o1, o2, g1, g2, g3, g4⟩ := fm_split o i (fun x hx => (ho.2 x hx).2.1) h47 e4
    refine Gives.bind_eq (r := Out.go ((i : Int), (fm o, if a12 = true then [47, 120, 47, 37, 50, 69, 46] else [47, 46]))) (by cases a12 <;> rfl) ?_
    dsimp only
    have hil : ∃ q : List Int, q = (if a12 = true then [47, 120, 47, 37, 50, 69, 46] else [47, 46] : List Int) ∧ q.length ≤ 7 ∧ BL q := by
      cases a12
      · exact ⟨_, rfl, by decide, by intro c hc; simp at hc; omega⟩
      · exact ⟨_, rfl, by decide, by intro c hc; simp at hc; omega⟩
    obtain ⟨q, hq, hql, hqb⟩ := hil
    have hnd := norm_dot (o1 := o1) (o2 := o2) (by rw [← g1]; exact ho) g2 a12
    rw [← hq, ← g1] at hnd
    rw [← hq]
    refine Gives.pos (by omega) ?_
    have t1 : ((fm o).drop 0).take ((i : Int).toNat - 0) = fm o1 := by rw [← g3]; rfl
    have t2 : ((fm o).drop (i : Int).toNat).take (((fm o).length : Int).toNat - (i : Int).toNat) = fm o2 := by
      rw [← g4]; exact List.take_of_length_le (by simp)
    rw [t1, t2]
    have hl1 : (fm o1).length ≤ (fm o).length := by rw [← g3]; simp; omega
    have hl2 : (fm o2).length ≤ (fm o).length := by rw [← g4]; simp
    refine Gives.pos (by omega) ?_
    refine Gives.pos (by omega) ?_
    refine Gives.pos (by simp only [List.length_append]; omega) ?_
    have hTT : TX (fm o1 ++ q ++ fm o2) := by
      refine ⟨(BL.app (by rw [← g3]; exact hT.1.take _) hqb).app (by rw [← g4]; exact hT.1.drop _), ?_⟩
      simp only [List.length_append]; omega
    refine Gives.bind_eq (normal_v FU hTT hn) ?_
    rw [List.append_assoc, hnd]
    refine Gives.pos (by simp) ?_
    refine Gives.pos (by simp) ?_
    exact Gives.bind_eq works_v (Gives.of_some rfl)
end Go.Sx.YtndkpphniekmlaaDoor
