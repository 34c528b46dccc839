/- Part of a proof by a small interpreter on plain values; no condition. -/
import Derived.Test.YtmhimaefondndaaDoorWf
namespace Go.Sx.YtmhimaefondndaaDoor
open Go Go.Sx Go.Proofs
set_option autoImplicit false
set_option linter.unusedVariables false
set_option linter.unusedSimpArgs false
/-! an authority's host and port. -/
theorem TX.take {s : List Int} (h : TX s) (n : Nat) : TX (s.take n) := ⟨h.1.take n, by have := h.2; simp; omega⟩
theorem TX.drop {s : List Int} (h : TX s) (n : Nat) : TX (s.drop n) := ⟨h.1.drop n, by have := h.2; simp; omega⟩
theorem cut_f (n : Nat) (x : List Int) (k : Int) (hl : x.length ≤ 140737488355328) : cut n (x, [k]) = some (if ixb x k = -1 then (x, ([], false)) else (x.take (ixb x k).toNat, (x.drop ((ixb x k).toNat + 1), true))) := by
  unfold cut stringsliteCut
  dsimp only
  rw [index_v, Option.bind_some]
  rcases ixb_case x k with ⟨e, _⟩ | ⟨i, e, h1, _⟩
  · rw [if_neg (by simp [e]), if_pos e]; rfl
  · have hne : ¬ ixb x k = -1 := by omega
    rw [e, if_pos (by simp), if_pos (by omega)]
    have hw : IntKind.wrap .i64 ((i : Int) + (([k] : List Int).length : Int)) = ((i + 1 : Nat) : Int) := by
      rw [show (([k] : List Int).length : Int) = 1 from rfl, wrap64 (by omega) (by omega)]; omega
    rw [hw, if_pos (by omega), if_neg (show ¬ ((i : Int) = -1) by omega)]
    simp only [Int.toNat_natCast, List.drop_zero, Nat.sub_zero, Option.bind_some]
    rw [List.take_of_length_le (show (x.drop (i + 1)).length ≤ x.length - (i + 1) by simp)]
/-- host, port, error. -/
def splV (x : List Int) : List Int × Int × Int :=
  let r := if ixb x 58 = -1 then (x, ([], false)) else (x.take (ixb x 58).toNat, (x.drop ((ixb x 58).toNat + 1), true))
  let h : List Int × Int := if okS false r.1 = true then (LW r.1, (0 : Int)) else ([], (3 : Int))
  if h.2 ≠ 0 ∨ r.2.2 = false then (h.1, (0, h.2))
  else if (dv r.2.1 65535).2 ≠ 0 ∨ r.2.1.getD 0 0 = 48 then ([], (0, 3)) else (h.1, ((dv r.2.1 65535).1, 0))
theorem decimal_f {x : List Int} (h : TX x) : decimal FU (x, (65535 : Int)) = some (dv x 65535) := by
  unfold decimal; dsimp only
  rw [number_v FU x 65535 h.1 (by have := h.2; omega) (by have := h.2; unfold FU; omega) (by decide) (by decide) (by decide)]; rfl
theorem rDecimal_f {x : List Int} (h : TX x) : rDecimal FU (x, (65535 : Int)) = some (dv x 65535) := by
  unfold rDecimal; dsimp only
  rw [rNumber_v FU x 65535 h.1 (by have := h.2; omega) (by have := h.2; unfold FU; omega) (by decide) (by decide)]; rfl
theorem dv_ok {x : List Int} {m : Int} (h : (dv x m).2 = 0) : x.all isd = true ∧ x ≠ [] ∧ dnum x ≤ m ∧ (dv x m).1 = dnum x := by
  unfold dv at h ⊢
  by_cases h1 : x.all isd = true ∧ x ≠ []
  · rw [if_pos h1] at h ⊢
    by_cases h2 : m < dnum x
    · rw [if_pos h2] at h; cases h
    · rw [if_neg h2]; exact ⟨h1.1, h1.2, by omega, rfl⟩
  · rw [if_neg h1] at h; cases h
/-- a number without a nought ahead is as long as it is. -/
theorem dnum_low (x : List Int) (h : x.all isd = true) (h0 : x.getD 0 0 ≠ 48) : ∀ i : Nat, 1 ≤ i → i ≤ x.length → (10 : Int) ^ (i - 1) ≤ dnum (x.take i)
  | 0, hi, _ => absurd hi (by decide)
  | 1, _, hl => by
    rw [take_succ x 0 0 (by omega), dnum_app]
    have hd := List.all_eq_true.1 h _ (getD_mem (d := 0) (show 0 < x.length by omega))
    unfold isd at hd; simp only [decide_eq_true_eq] at hd
    simp only [List.take_zero, dnum, List.foldl_nil]
    show (1 : Int) ≤ _
    omega
  | i + 2, _, hl => by
    have ih := dnum_low x h h0 (i + 1) (by omega) (by omega)
    rw [take_succ x (i + 1) 0 (by omega), dnum_app]
    have hd := List.all_eq_true.1 h _ (getD_mem (d := 0) (show i + 1 < x.length by omega))
    unfold isd at hd; simp only [decide_eq_true_eq] at hd
    have : (10 : Int) ^ (i + 2 - 1) = 10 ^ (i + 1 - 1) * 10 := by rw [show i + 2 - 1 = (i + 1 - 1) + 1 by omega, Int.pow_succ]
    rw [this]; omega
theorem dnum_low' {x : List Int} (h : x.all isd = true) (h0 : x.getD 0 0 ≠ 48) (hne : x ≠ []) : 1 ≤ dnum x ∧ (5 < x.length → 65535 < dnum x) := by
  have hl : 1 ≤ x.length := by cases x with | nil => exact absurd rfl hne | cons => simp
  constructor
  · have := dnum_low x h h0 1 (by omega) hl
    simp at this
    have h2 := dnum_mono x 0 h (by omega) 1 (by omega)
    omega
  · intro h5
    have := dnum_low x h h0 6 (by omega) (by omega)
    have e : (10 : Int) ^ (6 - 1) = 100000 := by decide
    rw [e] at this
    exact dnum_mono x 65535 h (by omega) 6 (by omega)
theorem split_v' {x : List Int} (h : TX x) : split FU x = some (splV x) := by
  unfold split
  rw [cut_f FU x 58 (by have := h.2; omega), Option.bind_some]
  unfold splV
  have hr : ∀ r : List Int × List Int × Bool, r = (if ixb x 58 = -1 then (x, ([], false)) else (x.take (ixb x 58).toNat, (x.drop ((ixb x 58).toNat + 1), true))) → TX r.1 ∧ TX r.2.1 := fun r hr => by
    rw [hr]; split
    · exact ⟨h, by simp [TX, BL]⟩
    · exact ⟨h.take _, h.drop _⟩
  generalize hR : (if ixb x 58 = -1 then (x, ([], false)) else (x.take (ixb x 58).toNat, (x.drop ((ixb x 58).toNat + 1), true))) = r at hr
  obtain ⟨t1, t2⟩ := hr r rfl
  dsimp only
  rw [canon_f t1, Option.bind_some]
  generalize (if okS false r.1 = true then (LW r.1, (0 : Int)) else ([], (3 : Int))) = hh
  obtain ⟨a, b, c⟩ := r
  obtain ⟨h1, h2⟩ := hh
  dsimp only at t1 t2 ⊢
  by_cases e : h2 = 0
  · rw [if_neg (by simp [e])]
    by_cases hc : c = false
    · rw [if_pos (by simp [hc]), if_pos (c := (h2 ≠ 0 ∨ c = false)) (.inr hc)]
    rw [if_neg (by simpa using hc), if_neg (c := (h2 ≠ 0 ∨ c = false)) (by rintro (h | h); exact h e; exact hc h)]
    by_cases hb : b = []
    · subst hb; rw [if_pos (by simp), if_pos (c := ((dv [] 65535).2 ≠ 0 ∨ ([] : List Int).getD 0 0 = 48)) (.inl (by decide))]
    have hl : 1 ≤ b.length := by cases b with | nil => exact absurd rfl hb | cons => simp
    rw [if_neg (c := decide ((b.length : Int) < 1) = true) (by simp; omega)]
    by_cases h5 : 5 < b.length
    · rw [if_pos (c := decide ((b.length : Int) > 5) = true) (by simp; omega), if_pos (c := ((dv b 65535).2 ≠ 0 ∨ b.getD 0 0 = 48))]
      by_cases h48 : b.getD 0 0 = 48
      · exact .inr h48
      · refine .inl fun hd => ?_
        obtain ⟨d1, d2, d3, _⟩ := dv_ok hd
        have := (dnum_low' d1 h48 d2).2 h5
        omega
    · rw [if_neg (c := decide ((b.length : Int) > 5) = true) (by simp; omega), idx_eq 0 (by omega) (by omega), Option.bind_some]
      simp only [show (0 : Int).toNat = 0 from rfl]
      by_cases h48 : b.getD 0 0 = 48
      · rw [if_pos (c := (b.getD 0 0 == 48) = true) (by rw [h48]; rfl), if_pos (c := ((dv b 65535).2 ≠ 0 ∨ b.getD 0 0 = 48)) (.inr h48)]
      · rw [if_neg (c := (b.getD 0 0 == 48) = true) (by simpa only [beq_iff_eq] using h48), decimal_f t2, Option.bind_some]
        by_cases hd : (dv b 65535).2 = 0
        · rw [if_neg (by simp [hd]), if_neg (c := ((dv b 65535).2 ≠ 0 ∨ b.getD 0 0 = 48)) (by rintro (h | h); exact h hd; exact h48 h)]
        · rw [if_pos (by simpa using hd), if_pos (c := ((dv b 65535).2 ≠ 0 ∨ b.getD 0 0 = 48)) (.inl hd)]
  · rw [if_pos (by simpa using e), if_pos (c := (h2 ≠ 0 ∨ c = false)) (.inl e)]
theorem rSplit_v' {x : List Int} (h : TX x) : rSplit FU x = some (splV x) := by
  unfold rSplit
  have hl := h.2
  have hat : Gives (loopF (X := (List Int) × Int × Int) (A := Out ((List Int) × Int) ((List Int) × Int × Int)) (fun rec2 y3 => match y3 with
      | (a4, (a5, a6)) =>
      (if (decide (a6 < (a4.length : Int))) = true then
      (Option.bind (idx a4 a6) fun v7 =>
      (if (v7 == (58 : Int)) = true then
      (some (Out.go (a4, a6)))
      else
      rec2 (a4, (a5, (IntKind.wrap .i64 (a6 + (1 : Int)))))))
      else
      (some (Out.go (a4, a5))))) FU (x, ((x.length : Int), (0 : Int)))) (· = Out.go (x, if ixb x 58 = -1 then (x.length : Int) else ixb x 58)) := by
    refine Gives.loop (I := fun z => z.1 = x ∧ z.2.1 = (x.length : Int) ∧ ∃ i : Nat, z.2.2 = (i : Int) ∧ i ≤ x.length ∧ (58 : Int) ∉ x.take i) (μ := fun z => x.length - z.2.2.toNat) ?_ FU _ ⟨rfl, rfl, 0, rfl, by omega, by simp⟩ (by simp; unfold FU; omega)
    rintro rec ⟨a4, a5, a6⟩ ⟨e1, e2, i, e3, e4, e5⟩ hrec
    dsimp only at e1 e2 e3 hrec ⊢
    subst e1 e2 e3
    refine Gives.dite (fun hlt => ?_) (fun hge => ?_)
    · have hi : i < a4.length := by omega
      refine Gives.idx 0 (by omega) hlt ?_
      rw [Int.toNat_natCast]
      refine Gives.eite (fun hc => Gives.of_some ?_) (fun hc => ?_)
      · have hs : a4 = a4.take i ++ 58 :: a4.drop (i + 1) := by
          conv => lhs; rw [← List.take_append_drop i a4, drop_cons a4 i 0 hi, hc]
        have hix : ixb a4 58 = (i : Int) := by
          rcases ixb_case a4 58 with ⟨_, hm⟩ | ⟨j, e, h1, h2, h3⟩
          · exact absurd (by rw [← hc]; exact getD_mem hi) hm
          · rw [e]; congr 1
            rcases Nat.lt_trichotomy j i with hji | hji | hji
            · exfalso; apply e5
              rw [List.mem_iff_getElem?]
              refine ⟨j, ?_⟩
              rw [List.getElem?_take_of_lt hji]
              have : a4[j]? = some 58 := by
                conv => lhs; rw [h3]
                have hjl : (a4.take j).length = j := by simp; omega
                rw [List.getElem?_append_right (by omega), hjl, Nat.sub_self]; rfl
              exact this
            · exact hji
            · exfalso; apply h2
              rw [List.mem_iff_getElem?]
              refine ⟨i, ?_⟩
              rw [List.getElem?_take_of_lt hji]
              rw [← hc, List.getD_eq_getElem?_getD, List.getElem?_eq_getElem hi]; rfl
        rw [if_neg (by omega), hix]
      · rw [wrap64 (by omega) (by omega)]
        refine hrec _ ⟨rfl, rfl, i + 1, by simp, by omega, ?_⟩ (by dsimp only; omega)
        rw [take_succ a4 i 0 hi]
        simp only [List.mem_append, List.mem_singleton, not_or]
        exact ⟨e5, fun e => hc e.symm⟩
    · refine Gives.of_some ?_
      have hii : i = a4.length := by omega
      subst hii
      rw [List.take_length] at e5
      rcases ixb_case a4 58 with ⟨e, hm⟩ | ⟨j, e, h1, h2, h3⟩
      · rw [if_pos e]
      · exfalso; apply e5; rw [h3]; simp
  rw [hat.eq, Option.bind_some]
  unfold splV
  rcases ixb_case x 58 with ⟨e, hm⟩ | ⟨i, e, h1, h2, h3⟩
  · simp only [e, if_true]
    rw [if_pos (by omega)]
    simp only [Int.toNat_natCast, List.drop_zero, Nat.sub_zero, List.take_length]
    rw [rCanon_f h, Option.bind_some]
    generalize (if okS false x = true then (LW x, (0 : Int)) else ([], (3 : Int))) = hh
    obtain ⟨a, b⟩ := hh
    dsimp only
    rw [if_pos (c := (b ≠ 0 ∨ True)) (.inr trivial)]
    by_cases hb : b = 0
    · rw [if_neg (c := (b != 0) = true) (by simp [hb]), if_pos (by simp)]
    · rw [if_pos (c := (b != 0) = true) (by simpa using hb)]
  · have hne : ¬ ixb x 58 = -1 := by omega
    simp only [e, if_neg (show ¬ ((i : Int) = -1) by omega)]
    rw [if_pos (by omega)]
    simp only [Int.toNat_natCast, List.drop_zero, Nat.sub_zero]
    rw [rCanon_f (h.take i), Option.bind_some]
    generalize (if okS false (x.take i) = true then (LW (x.take i), (0 : Int)) else ([], (3 : Int))) = hh
    obtain ⟨a, b⟩ := hh
    dsimp only
    by_cases hb : b = 0
    · rw [if_neg (c := (b ≠ 0 ∨ true = false)) (by simp [hb]), if_neg (c := (b != 0) = true) (by simp [hb]), if_neg (c := ((i : Int) == (x.length : Int)) = true) (by simp; omega)]
      have hw : IntKind.wrap .i64 ((i : Int) + 1) = ((i + 1 : Nat) : Int) := by rw [wrap64 (by omega) (by omega)]; omega
      rw [hw, if_pos (by omega)]
      simp only [Int.toNat_natCast]
      rw [List.take_of_length_le (show (x.drop (i + 1)).length ≤ x.length - (i + 1) by simp)]
      rw [rDecimal_f (h.drop (i + 1)), Option.bind_some]
      generalize x.drop (i + 1) = y
      by_cases hd : (dv y 65535).2 = 0
      · obtain ⟨d1, d2, d3, d4⟩ := dv_ok hd
        rw [if_neg (c := ((dv y 65535).2 != 0) = true) (by simp [hd])]
        have hl2 : 0 < y.length := by cases y with | nil => exact absurd rfl d2 | cons => simp
        by_cases h48 : y.getD 0 0 = 48
        · rw [if_pos (c := ((dv y 65535).2 ≠ 0 ∨ y.getD 0 0 = 48)) (.inr h48)]
          split
          · rfl
          · rw [idx_eq 0 (by omega) (by omega), Option.bind_some, if_pos (by rw [show (0 : Int).toNat = 0 from rfl, h48]; rfl)]
        · have h1d := (dnum_low' d1 h48 d2).1
          rw [if_neg (c := ((dv y 65535).2 ≠ 0 ∨ y.getD 0 0 = 48)) (by rintro (g | g); exact g hd; exact h48 g), if_neg (c := decide ((dv y 65535).1 < 1) = true) (by rw [d4]; simp; omega), idx_eq 0 (by omega) (by omega), Option.bind_some, if_neg (by rw [show (0 : Int).toNat = 0 from rfl]; simpa only [beq_iff_eq] using h48)]
      · rw [if_pos (c := ((dv y 65535).2 ≠ 0 ∨ y.getD 0 0 = 48)) (.inl hd), if_pos (c := ((dv y 65535).2 != 0) = true) (by simpa using hd)]
    · rw [if_pos (c := (b ≠ 0 ∨ true = false)) (.inl hb), if_pos (c := (b != 0) = true) (by simpa using hb)]
theorem hostTexts_f {x : List Int} (h : TX x) : hostTexts FU x = some true := by
  unfold hostTexts
  rw [canon_f h, rCanon_f h, split_v' h, rSplit_v' h]
  simp only [Option.bind_some, num_f, check_f h, rCheck_f h, works_v, beq_self_eq_true, if_true]
end Go.Sx.YtmhimaefondndaaDoor
