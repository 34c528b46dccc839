/- Part of a proof by a small interpreter on plain values; no condition. -/
import Derived.Test.YtmhimaefondndaaDoorWg
namespace Go.Sx.YtmhimaefondndaaDoor
open Go Go.Sx Go.Proofs
set_option autoImplicit false
set_option linter.unusedVariables false
set_option linter.unusedSimpArgs false
/-! going ahead is a strict order. -/
theorem last_not (P : Nat → Prop) : ∀ n : Nat, (∀ j, j < n → P j) ∨ ∃ i, i < n ∧ ¬ P i ∧ ∀ j, i < j → j < n → P j
  | 0 => .inl fun j h => absurd h (Nat.not_lt_zero _)
  | n + 1 => by
    by_cases hn : P n
    · rcases last_not P n with h | ⟨i, h1, h2, h3⟩
      · refine .inl fun j hj => ?_
        rcases Nat.lt_or_eq_of_le (Nat.le_of_lt_succ hj) with h' | h'
        · exact h j h'
        · rw [h']; exact hn
      · refine .inr ⟨i, by omega, h2, fun j hj hj2 => ?_⟩
        rcases Nat.lt_or_eq_of_le (Nat.le_of_lt_succ hj2) with h' | h'
        · exact h3 j hj h'
        · rw [h']; exact hn
    · exact .inr ⟨n, by omega, hn, fun j h1 h2 => by omega⟩
theorem ah_asym {A B : List (List Int)} (hl : A.length = B.length) (h1 : ahP A B) (h2 : ahP B A) : False := by
  obtain ⟨i, a1, a2, a3, a4⟩ := h1
  obtain ⟨k, b1, b2, b3, b4⟩ := h2
  rcases Nat.lt_trichotomy i k with h | h | h
  · exact b2 ((a4 k h (by omega)).1 b3)
  · subst h; exact a2 b3
  · exact a2 ((b4 i h (by omega)).1 a3)
theorem ah_trans {A B C : List (List Int)} (hl : A.length = B.length) (hl2 : B.length = C.length) (h1 : ahP A B) (h2 : ahP B C) : ahP A C := by
  obtain ⟨i, a1, a2, a3, a4⟩ := h1
  obtain ⟨k, b1, b2, b3, b4⟩ := h2
  rcases Nat.lt_trichotomy i k with h | h | h
  · exact ⟨k, by omega, fun e => b2 ((a4 k h (by omega)).1 e), b3, fun j hj hj2 => (a4 j (by omega) hj2).trans (b4 j hj (by omega))⟩
  · subst h; exact absurd a3 b2
  · exact ⟨i, a1, a2, (b4 i h (by omega)).1 a3, fun j hj hj2 => (a4 j hj hj2).trans (b4 j (by omega) (by omega))⟩
theorem ah_tri {A B H : List (List Int)} (ha : mtP A H) (hb : mtP B H) (hne : A ≠ B) : ahP A B ∨ ahP B A := by
  have hl : A.length = B.length := ha.1.trans hb.1.symm
  rcases last_not (fun j => A.getD j [] = [42] ↔ B.getD j [] = [42]) A.length with h | ⟨i, h1, h2, h3⟩
  · exfalso; apply hne
    apply List.ext_getElem hl
    intro j g1 g2
    have e1 : A.getD j [] = A[j] := by rw [List.getD_eq_getElem?_getD, List.getElem?_eq_getElem g1]; rfl
    have e2 : B.getD j [] = B[j] := by rw [List.getD_eq_getElem?_getD, List.getElem?_eq_getElem g2]; rfl
    rw [← e1, ← e2]
    have hj := h j g1
    by_cases hs : A.getD j [] = [42]
    · rw [hs, hj.1 hs]
    · rw [(ha.2 j g1).resolve_left hs, (hb.2 j g2).resolve_left (fun e => hs (hj.2 e))]
  · by_cases hs : A.getD i [] = [42]
    · refine .inr ⟨i, by omega, fun e => h2 (by simp only [hs, e]), hs, fun j g1 g2 => (h3 j g1 (by omega)).symm⟩
    · refine .inl ⟨i, h1, hs, ?_, fun j g1 g2 => h3 j g1 g2⟩
      apply Decidable.byContradiction; intro e; exact h2 (by simp only [hs, e])
theorem LW_nil {a : List Int} : LW a = [] ↔ a = [] := by simp [LW]
theorem ag_irr {a b : List Int} (h : LW a = LW b) : ag a b = false := by
  rw [Bool.eq_false_iff, Ne, ag_iff]
  rintro ⟨h1, h2⟩
  rcases h2 with h2 | h2
  · subst h2; exact h1 (LW_nil.1 (by rw [h]; rfl))
  · rw [h] at h2; exact ah_asym rfl h2 h2
theorem mt_of {p h : List Int} (hp : p ≠ []) (hf : ft p h = true) : mtP (spl 46 (LW p)) (spl 46 (LW h)) := (ft_iff.1 hf).resolve_left hp
theorem ag_tri {a b h : List Int} (ha : ft a h = true) (hb : ft b h = true) (hne : LW a ≠ LW b) : ag a b = !ag b a := by
  by_cases h1 : a = []
  · subst h1
    have h2 : b ≠ [] := fun e => hne (by rw [e])
    rw [ag_nl, ag_nr h2]; rfl
  by_cases h2 : b = []
  · subst h2
    rw [ag_nl, ag_nr h1]; rfl
  have ma := mt_of h1 ha
  have mb := mt_of h2 hb
  have hl : (spl 46 (LW a)).length = (spl 46 (LW b)).length := ma.1.trans mb.1.symm
  have hne' : spl 46 (LW a) ≠ spl 46 (LW b) := fun e => hne (by rw [← jn_spl 46 (LW a), e, jn_spl])
  have key : ∀ x y : Bool, (x = true ↔ ahP (spl 46 (LW a)) (spl 46 (LW b))) → (y = true ↔ ahP (spl 46 (LW b)) (spl 46 (LW a))) → x = !y := fun x y hx hy => by
    rcases ah_tri ma mb hne' with h | h
    · have : y = false := by rw [Bool.eq_false_iff, Ne, hy]; exact fun e => ah_asym hl h e
      rw [hx.2 h, this]; rfl
    · have : x = false := by rw [Bool.eq_false_iff, Ne, hx]; exact fun e => ah_asym hl e h
      rw [hy.2 h, this]; rfl
  exact key _ _ (by rw [ag_iff]; unfold agP; simp [h1, h2]) (by rw [ag_iff]; unfold agP; simp [h1, h2])
theorem ag_trans {a b c h : List Int} (ha : ft a h = true) (hb : ft b h = true) (hc : ft c h = true) (h1 : ag a b = true) (h2 : ag b c = true) : ag a c = true := by
  rw [ag_iff] at h1 h2 ⊢
  obtain ⟨a1, a2⟩ := h1
  obtain ⟨b1, b2⟩ := h2
  refine ⟨a1, ?_⟩
  by_cases hc0 : c = []
  · exact .inl hc0
  · have a3 := a2.resolve_left b1
    have b3 := b2.resolve_left hc0
    exact .inr (ah_trans (ft_len ha hb a1 b1) (ft_len hb hc b1 hc0) a3 b3)
theorem rSame_f {a b : List Int} (ta : TX a) (tb : TX b) : rSame FU (a, b) = some (LW a == LW b) := by
  unfold rSame; dsimp only; rw [rLower_f ta, rLower_f tb]; rfl
theorem fitsV_t {p h : List Int} (hf : (fitsV p h).1 = true) : okP p ∧ okS false h = true ∧ ft p h = true := by
  unfold fitsV at hf
  by_cases hk : okP p ∧ okS false h = true
  · rw [if_pos hk] at hf; exact ⟨hk.1, hk.2, hf⟩
  · rw [if_neg hk] at hf; cases hf
theorem beatsV_t {a b h : List Int} (pa : okP a) (pb : okP b) (hh : okS false h = true) (ha : ft a h = true) (hb : ft b h = true) : beatsV a b h = (ag a b, 0) := by
  unfold beatsV
  rw [if_pos ⟨pa, pb, hh⟩, if_pos ⟨ha, hb⟩]
theorem strict_f {a b c h : List Int} (ta : TX a) (tb : TX b) (tc : TX c) (th : TX h) : strict FU (a, (b, (c, h))) = some true := by
  unfold strict
  dsimp only
  rw [fits_f ta th, fits_f tb th, fits_f tc th]
  simp only [Option.bind_some]
  cases xa : (fitsV a h).1 with
  | false => rw [if_pos (by simp)]
  | true =>
  cases xb : (fitsV b h).1 with
  | false => rw [if_neg (by simp), if_pos (by simp)]
  | true =>
  obtain ⟨pa, hh, fa⟩ := fitsV_t xa
  obtain ⟨pb, -, fb⟩ := fitsV_t xb
  rw [if_neg (by simp), if_neg (by simp), beats_f ta tb th, beats_f tb ta th, rSame_f ta tb, beatsV_t pa pb hh fa fb, beatsV_t pb pa hh fb fa]
  simp only [Option.bind_some]
  have go : ∀ o : Option (Out ((List Int) × (List Int) × (List Int) × (List Int) × Bool × Bool × Bool) (Bool)), o = some (Out.go (a, (b, (c, (h, ((fitsV c h).1, (ag a b, false))))))) → (Option.bind o fun o => match o with
      | .go (z12, (z13, (z14, (z15, (z16, (z17, z18)))))) =>
      (if z18 = true then
      some false
      else
      (if (!z16) = true then
      some true
      else
      (Option.bind (beats FU (z13, (z14, z15))) fun r19 =>
      (Option.bind (beats FU (z12, (z14, z15))) fun r20 =>
      (if (!z17) = true then
      some true
      else
      (if (!r19.1) = true then
      some true
      else
      some r20.1))))))
      | .ret r21 => some r21) = some true := fun o ho => by
    rw [ho, Option.bind_some]
    dsimp only
    rw [if_neg (by simp)]
    cases xc : (fitsV c h).1 with
    | false => rw [if_pos (by simp)]
    | true =>
    obtain ⟨pc, -, fc⟩ := fitsV_t xc
    rw [if_neg (by simp), beats_f tb tc th, beats_f ta tc th, beatsV_t pb pc hh fb fc, beatsV_t pa pc hh fa fc]
    simp only [Option.bind_some]
    cases e1 : ag a b with
    | false => rw [if_pos (by simp)]
    | true =>
    cases e2 : ag b c with
    | false => rw [if_neg (by simp), if_pos (by simp)]
    | true => rw [if_neg (by simp), if_neg (by simp), ag_trans fa fb fc e1 e2]
  refine go _ ?_
  by_cases hs : LW a = LW b
  · have h1 := ag_irr hs
    have h2 := ag_irr hs.symm
    have h3 : (LW a == LW b) = true := by simpa using hs
    rw [h1, h2, h3]
    rw [if_pos rfl, if_neg (by simp), if_neg (by simp), if_neg (by simp)]
  · have h1 := ag_tri fa fb hs
    have h3 : (LW a == LW b) = false := by simpa using hs
    rw [h3, if_neg (by simp), if_pos (by simp), h1]
    cases ag b a <;> rfl
theorem lit (l : List Int) (h : (l.all fun c => decide (0 ≤ c ∧ c ≤ 255)) = true) (h2 : l.length ≤ 1000) : TX l := by
  refine ⟨fun c hc => ?_, by omega⟩
  simpa using List.all_eq_true.1 h c hc
theorem hostStrict_f {a b c : List Int} (ta : TX a) (tb : TX b) (tc : TX c) : hostStrict FU (a, (b, c)) = some true := by
  unfold hostStrict
  dsimp only
  rw [strict_f ta tb tc (lit _ (by decide) (by decide)), strict_f ta tb tc (lit _ (by decide) (by decide)), strict_f ta tb tc (lit _ (by decide) (by decide))]
  simp only [Option.bind_some, if_true, works_v]
end Go.Sx.YtmhimaefondndaaDoor
