/- Part of a proof by a small interpreter on plain values; no condition. -/
import Derived.Test.YtacelemieinhcaaSx20
import Derived.Test.YtacelemieinhcaaW
namespace Go.Sx.Ytacelemieinhcaa
open Go Go.Sx
set_option autoImplicit false
set_option linter.unusedVariables false
theorem sure_true : sure 200 () = some true := by kernel_rfl
theorem valid_ok (by_ R P B : Int) (hR : 1 ≤ R ∧ R ≤ 20) (hP : 1 ≤ P ∧ P ≤ 20) (hB : 1 ≤ B ∧ B ≤ 20) : valid 200 (by_, R, P, B) = some 0 := by
  apply Gives.eq
  unfold valid
  refine Gives.loop (X := Int × Int × Int × Int) (fun y => ∃ k : Nat, k ≤ 3 ∧ y = (R, P, B, (k : Int))) (fun y => (3 - y.2.2.2).toNat) ?_ 200 _ ⟨0, by omega, rfl⟩ (by simp)
  rintro rec y ⟨k, hk, rfl⟩ hr
  refine Gives.ite (fun h => ?_) (fun h => Gives.of_some rfl)
  have h : k < 3 := by simp at h; omega
  have key : ∃ v, idx ([R, P, B] : List Int) (k : Int) = some v ∧ 1 ≤ v ∧ v ≤ 20 := by
    match k, h with
    | 0, _ => exact ⟨R, rfl, hR⟩
    | 1, _ => exact ⟨P, rfl, hP⟩
    | 2, _ => exact ⟨B, rfl, hB⟩
  obtain ⟨v, hv, h1, h2⟩ := key
  refine Gives.bind_eq hv (Gives.neg (by simp; omega) (Gives.neg (by simp; omega) ?_))
  dsimp only
  rw [wrap64 (by omega) (by omega)]
  exact hr _ ⟨k + 1, by omega, by simp⟩ (by simp; omega)
theorem tick_ok (t : Int) (h : 0 ≤ t ∧ t ≤ 1000000) : tick 200 t = some true := by
  apply Gives.eq
  unfold tick
  exact Gives.pos (by simp; omega) (Gives.of_some (by simp; omega))
theorem full_ok (by_ R P B t : Int) (hR : 1 ≤ R ∧ R ≤ 20) (hP : 1 ≤ P ∧ P ≤ 20) (hB : 1 ≤ B ∧ B ≤ 20) (ht : 0 ≤ t ∧ t ≤ 1000000) : full 200 (by_, R, P, B, t) = some (B * P, t, 0) := by
  apply Gives.eq
  unfold full
  refine Gives.bind_eq (valid_ok by_ R P B hR hP hB) (Gives.neg (by simp) (Gives.bind_eq (tick_ok t ht) (Gives.neg (by simp) (Gives.of_some ?_))))
  have := mul_between (a := B) (b := P) (X := 20) (Y := 20) (by omega) (by omega) (by omega) (by omega)
  rw [wrap64 (by omega) (by omega)]
theorem bfill_ok (p at_ by_ R P B t : Int) (hR : 1 ≤ R ∧ R ≤ 20) (hP : 1 ≤ P ∧ P ≤ 20) (hB : 1 ≤ B ∧ B ≤ 20) (ha : 0 ≤ at_ ∧ at_ ≤ t) (ht : t ≤ 100000) (hp : 0 ≤ p ∧ p ≤ B * P) :
    bfill 200 (p, at_, by_, R, P, B, t) = some (min (B * P) (p + (t - at_) * R), t, 0) := by
  have hF := mul_between (a := B) (b := P) (X := 20) (Y := 20) (by omega) (by omega) (by omega) (by omega)
  have hD := mul_between (a := t - at_) (b := R) (X := 100000) (Y := 20) (by omega) (by omega) (by omega) (by omega)
  apply Gives.eq
  unfold bfill
  refine Gives.bind_eq (full_ok by_ R P B t hR hP hB (by omega)) (Gives.neg (by simp) (Gives.neg (by simp; omega) (Gives.neg (by simp; omega) (Gives.bind_eq (tick_ok at_ (by omega)) (Gives.neg (by simp) ?_)))))
  dsimp only
  refine Gives.ite (fun h => Gives.of_some ?_) (fun h => ?_)
  · have h : t = at_ := by simp at h; omega
    subst h
    rw [Int.sub_self, Int.zero_mul, Int.add_zero, Int.min_eq_right hp.2]
  · have h : at_ < t := by simp at h; omega
    rw [wrap64 (n := t - at_) (by omega) (by omega), wrap64 (n := B * P - p) (by omega) (by omega), wrap64 (n := (t - at_) * R) (by omega) (by omega), wrap64 (n := p + _) (by omega) (by omega)]
    have hmono : t - at_ ≤ (t - at_) * R := by
      have := Int.mul_le_mul_of_nonneg_left hR.1 (show 0 ≤ t - at_ by omega)
      omega
    refine Gives.ite (fun h1 => ?_) (fun h1 => Gives.of_some ?_)
    · refine Gives.ite (fun h2 => Gives.of_some ?_) (fun h2 => Gives.of_some ?_)
      · have h2 := of_decide_eq_true h2
        rw [Int.min_eq_right (by omega)]
      · have h2 : ¬ ((t - at_) * R < B * P - p) := by simpa using h2
        rw [Int.min_eq_left (by omega)]
    · have h1 : ¬ (t - at_ < B * P - p) := by simpa using h1
      rw [Int.min_eq_left (by omega)]
theorem tdiv_nn {a b : Int} (h1 : 0 ≤ a) (h2 : 0 < b) : Int.tdiv a b = a / b := Int.tdiv_eq_ediv_of_nonneg h1
section
variable (p at_ by_ R P B t : Int) (hR : 1 ≤ R ∧ R ≤ 20) (hP : 1 ≤ P ∧ P ≤ 20) (hB : 1 ≤ B ∧ B ≤ 20) (ha : 0 ≤ at_ ∧ at_ ≤ t) (ht : t ≤ 100000) (hp : 0 ≤ p ∧ p ≤ B * P)
include hR hP hB ha ht hp
theorem fill_bound : 0 ≤ min (B * P) (p + (t - at_) * R) ∧ min (B * P) (p + (t - at_) * R) ≤ B * P ∧ B * P ≤ 400 := by
  have hF := mul_between (a := B) (b := P) (X := 20) (Y := 20) (by omega) (by omega) (by omega) (by omega)
  have hD := mul_between (a := t - at_) (b := R) (X := 100000) (Y := 20) (by omega) (by omega) (by omega) (by omega)
  omega
theorem take_ok (q : Int) (hq : q = min (B * P) (p + (t - at_) * R)) : take 200 (p, at_, by_, R, P, B, t) = some (if q < P then (q, t, false, 0) else (q - P, t, true, 0)) := by
  have hb := fill_bound p at_ R P B t hR hP hB ha ht hp
  apply Gives.eq
  unfold take
  refine Gives.bind_eq (bfill_ok p at_ by_ R P B t hR hP hB ha ht hp) (Gives.neg (by simp) ?_)
  rw [← hq] at hb ⊢
  dsimp only
  refine Gives.ite (fun h => Gives.of_some ?_) (fun h => Gives.of_some ?_)
  · rw [if_pos (of_decide_eq_true h)]
  · rw [if_neg (by simpa using h), wrap64 (by omega) (by omega)]
theorem wait_ok (q : Int) (hq : q = min (B * P) (p + (t - at_) * R)) : wait 200 (p, at_, by_, R, P, B, t) = some (if q ≥ P then (0, 0) else ((P - q + R - 1) / R, 0)) := by
  have hb := fill_bound p at_ R P B t hR hP hB ha ht hp
  apply Gives.eq
  unfold wait
  refine Gives.bind_eq (bfill_ok p at_ by_ R P B t hR hP hB ha ht hp) (Gives.neg (by simp) ?_)
  rw [← hq] at hb ⊢
  dsimp only
  refine Gives.ite (fun h => Gives.of_some ?_) (fun h => ?_)
  · rw [if_pos (of_decide_eq_true h)]
  · have h : ¬ q ≥ P := by simpa using h
    have h' : q < P := by omega
    rw [wrap64 (n := P - q) (by omega) (by omega), wrap64 (n := P - q + R) (by omega) (by omega), wrap64 (n := P - q + R - 1) (by omega) (by omega)]
    refine Gives.neg (by omega) (Gives.of_some ?_)
    rw [if_neg h, tdiv_nn (by omega) (by omega)]
    have h1 := Int.ediv_nonneg (a := P - q + R - 1) (b := R) (by omega) (by omega)
    have h2 := Int.ediv_le_self (a := P - q + R - 1) R (by omega)
    rw [wrap64 (by omega) (by omega)]
theorem left_ok (q : Int) (hq : q = min (B * P) (p + (t - at_) * R)) : left 200 (p, at_, by_, R, P, B, t) = some (q / P, 0) := by
  have hb := fill_bound p at_ R P B t hR hP hB ha ht hp
  apply Gives.eq
  unfold left
  refine Gives.bind_eq (bfill_ok p at_ by_ R P B t hR hP hB ha ht hp) (Gives.neg (by simp) ?_)
  rw [← hq] at hb ⊢
  dsimp only
  refine Gives.neg (by omega) (Gives.of_some ?_)
  rw [tdiv_nn (by omega) (by omega)]
  have h1 := Int.ediv_nonneg (a := q) (b := P) (by omega) (by omega)
  have h2 := Int.ediv_le_self (a := q) P (by omega)
  rw [wrap64 (by omega) (by omega)]
end
theorem most_ok (by_ R P B t : Int) (hR : 1 ≤ R ∧ R ≤ 20) (hP : 1 ≤ P ∧ P ≤ 20) (hB : 1 ≤ B ∧ B ≤ 20) (ht : 0 ≤ t ∧ t ≤ 100000) : most 200 (by_, R, P, B, t) = some (B + R * t / P, 0) := by
  have hD := mul_between (a := R) (b := t) (X := 20) (Y := 100000) (by omega) (by omega) (by omega) (by omega)
  apply Gives.eq
  unfold most
  refine Gives.bind_eq (valid_ok by_ R P B hR hP hB) (Gives.neg (by simp) (Gives.bind_eq (tick_ok t (by omega)) (Gives.neg (by simp) ?_)))
  dsimp only
  rw [wrap64 (n := R * t) (by omega) (by omega)]
  refine Gives.neg (by omega) (Gives.of_some ?_)
  rw [tdiv_nn (by omega) (by omega)]
  have h1 := Int.ediv_nonneg (a := R * t) (b := P) (by omega) (by omega)
  have h2 := Int.ediv_le_self (a := R * t) P (by omega)
  rw [wrap64 (n := R * t / P) (by omega) (by omega), wrap64 (by omega) (by omega)]
end Go.Sx.Ytacelemieinhcaa
