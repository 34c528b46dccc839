/- Part of a proof by a small interpreter on plain values; no condition. -/
import Derived.Test.YtobhaaegjffaaaaWL
namespace Go.Sx.Ytobhaaegjffaaaa
open Go Go.Sx
set_option autoImplicit false
set_option linter.unusedVariables false
theorem sure_true : sure 100 () = some true := by kernel_rfl
theorem sm_step (w a b : List Int) (S : Int) (i : Nat) : ∀ (m : Nat), (∀ j, j < m → b.getD j 0 = a.getD j 0 + w.getD j 0 - (if j = i then S else 0)) → sm b m = sm a m + sm w m - (if i < m then S else 0)
  | 0, _ => by simp [sm]
  | m + 1, h => by
    have ih := sm_step w a b S i m (fun j hj => h j (by omega))
    have hm := h m (by omega)
    simp only [sm]
    rw [ih, hm]
    by_cases e : m = i
    · subst e
      rw [if_neg (by omega), if_pos rfl, if_pos (by omega)]; omega
    · rw [if_neg e]
      by_cases e2 : i < m
      · rw [if_pos e2, if_pos (by omega)]; omega
      · rw [if_neg e2, if_neg (by omega)]; omega
theorem sm_nonneg_zero (a : List Int) : ∀ (m : Nat), (∀ j, j < m → 0 ≤ a.getD j 0) → 0 ≤ sm a m ∧ (sm a m = 0 → ∀ j, j < m → a.getD j 0 = 0)
  | 0, _ => ⟨by simp [sm], fun _ j hj => absurd hj (Nat.not_lt_zero _)⟩
  | m + 1, h => by
    obtain ⟨h1, h2⟩ := sm_nonneg_zero a m (fun j hj => h j (by omega))
    have hm := h m (by omega)
    simp only [sm]
    refine ⟨by omega, fun h0 j hj => ?_⟩
    by_cases e : j = m
    · subst e; omega
    · exact h2 (by omega) j (by omega)
theorem mul_between {a b X Y : Int} (h1 : 0 ≤ a) (h2 : a ≤ X) (h3 : 0 ≤ b) (h4 : b ≤ Y) : 0 ≤ a * b ∧ a * b ≤ X * Y :=
  ⟨Int.mul_nonneg h1 h3, Int.mul_le_mul h2 h4 h3 (by omega)⟩
theorem ext_getD {a b : List Int} (hl : a.length = b.length) (h : ∀ j, j < a.length → a.getD j 0 = b.getD j 0) : a = b := by
  apply List.ext_getElem hl
  intro i h1 h2
  have := h i h1
  simpa [List.getD_eq_getElem?_getD, h1, h2] using this
end Go.Sx.Ytobhaaegjffaaaa
