/- Part of a proof by a small interpreter on plain values; no condition. -/
import Derived.Test.YtppiiahjnglcnaaSx20
import Derived.Test.YtppiiahjnglcnaaWa
namespace Go.Sx.Ytppiiahjnglcnaa
open Go Go.Sx
set_option autoImplicit false
set_option linter.unusedVariables false
set_option linter.unusedSimpArgs false
theorem works_true : works0 5000 () = some true := by kernel_rfl
abbrev Lim (R P B : Int) : Prop := (1 ≤ R ∧ R ≤ 1048576) ∧ (1 ≤ P ∧ P ≤ 1048576) ∧ (1 ≤ B ∧ B ≤ 1048576)
def vV (R P B : Int) : Int := if Lim R P B then 0 else 4
theorem w1 : IntKind.wrap .i64 (0 + 1) = 1 := by decide
theorem w2 : IntKind.wrap .i64 (1 + 1) = 2 := by decide
theorem w3 : IntKind.wrap .i64 (2 + 1) = 3 := by decide
theorem valid_v (b R P B : Int) : valid 5000 (b, R, P, B) = some (vV R P B) := by
  unfold valid vV
  dsimp only
  have e0 : idx ([R, P, B] : List Int) 0 = some R := rfl
  have e1 : idx ([R, P, B] : List Int) 1 = some P := rfl
  have e2 : idx ([R, P, B] : List Int) 2 = some B := rfl
  have l1 : ∀ (x : List Int × Int) (f : (List Int × Int → Option Int) → List Int × Int → Option Int), loopF f 5000 x = f (f (f (f (loopF f 4996)))) x := fun _ _ => rfl
  rw [l1]
  simp only [e0, e1, e2, w1, w2, w3, Option.bind_some, decide_eq_true_eq]
  rw [if_pos (show (0 : Int) < 3 by decide), if_pos (show (1 : Int) < 3 by decide), if_pos (show (2 : Int) < 3 by decide), if_neg (show ¬ (3 : Int) < 3 by decide)]
  repeat' split
  all_goals first | rfl | (exfalso; omega) | (congr 1; omega)
theorem rValid_v (b R P B : Int) : rValid 5000 (b, R, P, B) = some (vV R P B) := by
  unfold rValid rSmall vV
  dsimp only
  by_cases h1 : 1 ≤ R <;> by_cases h2 : R ≤ 1048576 <;> by_cases h3 : 1 ≤ P <;> by_cases h4 : P ≤ 1048576 <;> by_cases h5 : 1 ≤ B <;> by_cases h6 : B ≤ 1048576 <;> simp [h1, h2, h3, h4, h5, h6]
theorem vV_zero {R P B : Int} (h : vV R P B = 0) : Lim R P B := by
  unfold vV at h
  split at h
  · assumption
  · cases h
theorem lim_mul {R P B : Int} (h : Lim R P B) : 0 ≤ B * P ∧ B * P ≤ 1099511627776 ∧ IntKind.wrap .i64 (B * P) = B * P := by
  have hF := mul_between (a := B) (b := P) (X := 1048576) (Y := 1048576) (by have := h.2.2; omega) (by have := h.2.2; omega) (by have := h.2.1; omega) (by have := h.2.1; omega)
  exact ⟨hF.1, by omega, wrap64 (by omega) (by omega)⟩
theorem full_v (b R P B t : Int) : full 5000 (b, R, P, B, t) = some (if Lim R P B then (if 0 ≤ t ∧ t ≤ 1099511627776 then (B * P, t, 0) else (0, 0, 1)) else (0, 0, 4)) := by
  unfold full tick
  simp only [valid_v, Option.bind_some]
  by_cases h : Lim R P B
  · have h' := lim_mul h
    simp only [vV, if_pos h, h'.2.2]
    by_cases h1 : 0 ≤ t <;> by_cases h2 : t ≤ 1099511627776 <;> simp [h1, h2]
  · simp [vV, if_neg h]
theorem rFull_v (b R P B t : Int) : rFull 5000 (b, R, P, B, t) = some (if Lim R P B then (if 0 ≤ t ∧ t ≤ 1099511627776 then (B * P, t, 0) else (0, 0, 1)) else (0, 0, 4)) := by
  unfold rFull rCheck rTime
  simp only [rValid_v, Option.bind_some]
  by_cases h : Lim R P B
  · have h' := lim_mul h
    simp only [vV, if_pos h, h'.2.2]
    by_cases h1 : 0 ≤ t <;> by_cases h2 : t ≤ 1099511627776 <;> simp [h1, h2, show ¬ B * P < 0 by omega]
  · simp [vV, if_neg h]
section
variable (p a b R P B t : Int)
/-- what is filled. -/
def fV : Int × Int × Int :=
  if Lim R P B then (if (0 ≤ p ∧ p ≤ B * P) ∧ (0 ≤ a ∧ a ≤ 1099511627776) ∧ (0 ≤ t ∧ t ≤ 1099511627776) then (if t ≤ a then (p, a, 0) else (min (B * P) (p + (t - a) * R), t, 0)) else (0, 0, 1)) else (0, 0, 4)
theorem fill_v : fill 5000 (p, a, b, R, P, B, t) = some (fV p a R P B t) := by
  unfold fill fV
  simp only [full_v, Option.bind_some]
  by_cases h : Lim R P B
  · have h' := lim_mul h
    have hb := h
    simp only [if_pos h]
    by_cases ht : 0 ≤ t ∧ t ≤ 1099511627776
    · simp only [if_pos ht]
      by_cases hp : 0 ≤ p ∧ p ≤ B * P
      · by_cases ha : 0 ≤ a ∧ a ≤ 1099511627776
        · simp only [tick, ha.1, ha.2, ht.1, ht.2, hp.1, hp.2, show ¬ p < 0 by omega, show ¬ p > B * P by omega, decide_true, and_self, if_true]
          by_cases hta : t ≤ a
          · simp [hta]
          · have hD := mul_between (a := t - a) (b := R) (X := 1099511627776) (Y := 1048576) (by omega) (by omega) (by omega) (by omega)
            have hm : t - a ≤ (t - a) * R := by
              have := Int.mul_le_mul_of_nonneg_left hb.1.1 (show 0 ≤ t - a by omega)
              omega
            have e1 := wrap64 (n := t - a) (by omega) (by omega)
            have e2 := wrap64 (n := B * P - p) (by omega) (by omega)
            have e3 := wrap64 (n := (t - a) * R) (by omega) (by omega)
            have e4 := wrap64 (n := p + (t - a) * R) (by omega) (by omega)
            simp only [e1, e2, e3, e4, hta]
            by_cases c1 : t - a < B * P - p <;> by_cases c2 : (t - a) * R < B * P - p <;> simp [c1, c2] <;> omega
        · simp only [tick, ha, ht.1, ht.2, hp.1, hp.2, show ¬ p < 0 by omega, show ¬ p > B * P by omega]
          by_cases h1 : 0 ≤ a <;> by_cases h2 : a ≤ 1099511627776 <;> simp [h1, h2] <;> omega
      · by_cases h1 : p < 0 <;> by_cases h2 : p > B * P <;> simp [h1, h2, hp] <;> omega
    · simp [ht]
  · simp [h]
theorem rFill_v : rFill 5000 (p, a, b, R, P, B, t) = some (fV p a R P B t) := by
  unfold rFill rCheck fV
  simp only [rValid_v, Option.bind_some]
  by_cases h : Lim R P B
  · have h' := lim_mul h
    have hb := h
    simp only [vV, if_pos h, h'.2.2]
    by_cases hp : 0 ≤ p ∧ p ≤ B * P
    · by_cases ha : 0 ≤ a ∧ a ≤ 1099511627776
      · by_cases ht : 0 ≤ t ∧ t ≤ 1099511627776
        · simp only [rTime, ha.1, ha.2, ht.1, ht.2, hp.1, hp.2, show ¬ p < 0 by omega, show ¬ p > B * P by omega, decide_true, and_self, if_true]
          by_cases hta : t ≤ a
          · simp [hta, show ¬ t > a by omega]
          · have hD := mul_between (a := t - a) (b := R) (X := 1099511627776) (Y := 1048576) (by omega) (by omega) (by omega) (by omega)
            have e1 := wrap64 (n := t - a) (by omega) (by omega)
            have e3 := wrap64 (n := (t - a) * R) (by omega) (by omega)
            have e4 := wrap64 (n := p + (t - a) * R) (by omega) (by omega)
            simp only [e1, e3, e4, hta]
            by_cases c1 : B * P < p + (t - a) * R <;> simp [c1, show t > a by omega] <;> omega
        · by_cases h1 : 0 ≤ t <;> by_cases h2 : t ≤ 1099511627776 <;> simp [rTime, h1, h2, ha, hp, show ¬ p < 0 by omega, show ¬ p > B * P by omega] <;> omega
      · by_cases h1 : 0 ≤ a <;> by_cases h2 : a ≤ 1099511627776 <;> simp [rTime, h1, h2, hp, show ¬ p < 0 by omega, show ¬ p > B * P by omega] <;> omega
    · by_cases h1 : p < 0 <;> by_cases h2 : p > B * P <;> simp [h1, h2, hp] <;> omega
  · simp [vV, h]
theorem fV_zero (h : (fV p a R P B t).2.2 = 0) : Lim R P B ∧ 0 ≤ (fV p a R P B t).1 ∧ (fV p a R P B t).1 ≤ B * P := by
  unfold fV at h ⊢
  by_cases hl : Lim R P B
  · have hb := hl
    have h' := lim_mul hl
    simp only [if_pos hl] at h ⊢
    split at h
    · rename_i hc
      rw [if_pos hc]
      split
      · exact ⟨hl, hc.1⟩
      · have hD := Int.mul_nonneg (show 0 ≤ t - a by omega) (show 0 ≤ R by omega)
        refine ⟨hl, ?_, ?_⟩ <;> dsimp only <;> omega
    · cases h
  · rw [if_neg hl] at h
    cases h
theorem take_v : take 5000 (p, a, b, R, P, B, t) = rTake 5000 (p, a, b, R, P, B, t) ∧ ∃ r, rTake 5000 (p, a, b, R, P, B, t) = some r := by
  unfold take rTake
  dsimp only
  rw [fill_v, rFill_v]
  simp only [Option.bind_some]
  by_cases h : (fV p a R P B t).2.2 = 0
  · by_cases h2 : (fV p a R P B t).1 < P <;> simp [h, h2]
  · simp [h]
theorem left_v : left 5000 (p, a, b, R, P, B, t) = turnstileref21RLeft 5000 (p, a, b, R, P, B, t) ∧ ∃ r, turnstileref21RLeft 5000 (p, a, b, R, P, B, t) = some r := by
  unfold left turnstileref21RLeft
  dsimp only
  rw [fill_v, rFill_v]
  simp only [Option.bind_some]
  by_cases h : (fV p a R P B t).2.2 = 0
  · have hP : P ≠ 0 := by have := (fV_zero p a R P B t h).1.2.1; omega
    simp [h, hP]
  · simp [h]
theorem wait_v : wait 5000 (p, a, b, R, P, B, t) = turnstileref21RWait 5000 (p, a, b, R, P, B, t) ∧ ∃ r, turnstileref21RWait 5000 (p, a, b, R, P, B, t) = some r := by
  unfold wait turnstileref21RWait
  dsimp only
  rw [fill_v, rFill_v]
  simp only [Option.bind_some]
  by_cases h : (fV p a R P B t).2.2 = 0
  · obtain ⟨hl, h1, h2⟩ := fV_zero p a R P B t h
    have h' := lim_mul hl
    have hb := hl
    generalize fV p a R P B t = q at *
    have hR : R ≠ 0 := by omega
    have e1 := wrap64 (n := P - q.1) (by omega) (by omega)
    by_cases c : q.1 ≥ P
    · have e5 : (if 0 > P - q.1 then (0 : Int) else P - q.1) = 0 := by split <;> omega
      have e2 : IntKind.wrap .i64 (0 + R) = R := by rw [Int.zero_add]; exact wrap64 (by omega) (by omega)
      have e3 := wrap64 (n := R - 1) (by omega) (by omega)
      have e4 : Int.tdiv (R - 1) R = 0 := Int.tdiv_eq_zero_of_lt (by omega) (by omega)
      have e6 : IntKind.wrap .i64 0 = 0 := by decide
      simp only [h, e1, e5, e2, e3, e4, e6]
      simp [c, hR]
    · simp [h, c, hR, e1, show ¬ (0 > P - q.1) by omega]
  · simp [h]
end
end Go.Sx.Ytppiiahjnglcnaa
