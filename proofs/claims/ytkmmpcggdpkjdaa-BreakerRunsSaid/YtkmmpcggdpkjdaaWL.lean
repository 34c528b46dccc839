/- Part of a proof by a small interpreter on plain values; no condition. -/
import Derived.Test.YtkmmpcggdpkjdaaSx20
import Derived.Test.YtkmmpcggdpkjdaaW
namespace Go.Sx.Ytkmmpcggdpkjdaa
open Go Go.Sx
set_option autoImplicit false
set_option linter.unusedVariables false
set_option linter.unusedSimpArgs false
set_option linter.unusedSectionVars false
theorem sure_true (n : Nat) : sure n () = some true := by kernel_rfl
section
variable (n : Nat) (F O t : Int) (hF : 1 ≤ F ∧ F ≤ 4) (hO : 1 ≤ O ∧ O ≤ 9) (ht : 0 ≤ t ∧ t ≤ 10000)
include hF hO ht
theorem valid_ok : valid n (F, O) = some 0 := by
  unfold valid
  simp [show ¬ F < 0 by omega, show ¬ 1000 < F by omega, show F ≠ 0 by omega, show 0 < F by omega, show ¬ O < 1 by omega, show ¬ 1048576 < O by omega]
theorem checked0 (f : Int) (hf : 0 ≤ f ∧ f < F) : checked n (0, f, 0, F, O, t) = some 0 := by
  unfold checked
  simp [valid_ok n F O t hF hO ht, show 0 ≤ t by omega, show t ≤ 1099511627776 by omega, hf.1, hf.2]
theorem checked1 (u : Int) (hu : 1 ≤ u ∧ u ≤ 20000) : checked n (1, 0, u, F, O, t) = some 0 := by
  unfold checked
  simp [valid_ok n F O t hF hO ht, show 0 ≤ t by omega, show t ≤ 1099511627776 by omega, hu.1, show u ≤ 2199023255552 by omega]
theorem checked2 : checked n (2, 0, 0, F, O, t) = some 0 := by
  unfold checked
  simp [valid_ok n F O t hF hO ht, show 0 ≤ t by omega, show t ≤ 1099511627776 by omega]
theorem opened_ok (u : Int) (hu : 1 ≤ u) : opened n u = some (1, 0, u) := by
  unfold opened
  simp [show ¬ 1 > u by omega]
theorem bad0 (f : Int) (hf : 0 ≤ f ∧ f < F) : bad n (0, f, 0, F, O, t) = some (if f + 1 < F then (0, f + 1, 0, 0) else (1, 0, t + O, 0)) := by
  unfold bad
  have hc := checked0 n F O t hF hO ht f hf
  have h1 := wrap64 (n := f + 1) (by omega) (by omega)
  have h2 := wrap64 (n := t + O) (by omega) (by omega)
  have h3 := opened_ok n F O t hF hO ht (t + O) (by omega)
  by_cases h : f + 1 < F
  · simp [hc, h1, h2, h3, h, show F ≠ 0 by omega]
  · simp [hc, h1, h2, h3, h, show F ≠ 0 by omega]
theorem bad1 (u : Int) (hu : 1 ≤ u ∧ u ≤ 20000) : bad n (1, 0, u, F, O, t) = some (1, 0, u, 0) := by
  unfold bad
  simp [checked1 n F O t hF hO ht u hu]
theorem bad2 : bad n (2, 0, 0, F, O, t) = some (1, 0, t + O, 0) := by
  unfold bad
  have h2 := wrap64 (n := t + O) (by omega) (by omega)
  have h3 := opened_ok n F O t hF hO ht (t + O) (by omega)
  simp [checked2 n F O t hF hO ht, h2, h3]
end
abbrev closed : List Int := [99, 108, 111, 115, 101, 100]
abbrev opn : List Int := [111, 112, 101, 110]
abbrev half : List Int := [104, 97, 108, 102]
def St (F now fails til : Int) (st : List Int) (s f u : Int) : Prop :=
  (st = closed ∧ s = 0 ∧ f = fails ∧ u = 0 ∧ 0 ≤ fails ∧ fails < F) ∨ (st = opn ∧ s = 1 ∧ f = 0 ∧ u = til ∧ fails = 0 ∧ 1 ≤ til ∧ til ≤ now + 20) ∨ (st = half ∧ s = 2 ∧ f = 0 ∧ u = 0 ∧ fails = 0)
theorem breakerRuns_true (a b : Int) (l : List (Int × (Int × Unit))) : breakerRuns 300 (a, b, l) = some true := by
  apply Gives.eq
  unfold breakerRuns
  dsimp only
  have hF := unit_ok a 4 (by omega) (by omega)
  have hO := unit_ok b 9 (by omega) (by omega)
  generalize IntKind.wrap .i64 (Int.tmod (IntKind.wrap .u64 a) 4) = F at hF ⊢
  generalize IntKind.wrap .i64 (Int.tmod (IntKind.wrap .u64 b) 9) = O at hO ⊢
  rw [wrap64 (n := 1 + F) (by omega) (by omega), wrap64 (n := 1 + O) (by omega) (by omega)]
  replace hF : 1 ≤ 1 + F ∧ 1 + F ≤ 4 := by omega
  replace hO : 1 ≤ 1 + O ∧ 1 + O ≤ 9 := by omega
  generalize 1 + F = F at hF ⊢
  generalize 1 + O = O at hO ⊢
  refine Gives.loop (X := List (Int × (Int × Unit)) × Int × Int × Int × List Int × Int × Int × Int × Int × Int × Int)
    (fun y => ∃ (i : Nat) (now fails til : Int) (st : List Int) (s f u : Int), i ≤ 200 ∧ y = (l, now, fails, til, st, (i : Int), F, O, s, f, u) ∧ 0 ≤ now ∧ now ≤ 3 * i ∧ St F now fails til st s f u) (fun y => (200 - y.2.2.2.2.2.1).toNat) ?_ 300 _
    ⟨0, 0, 0, 0, closed, 0, 0, 0, by omega, rfl, by omega, by omega, .inl ⟨rfl, rfl, rfl, rfl, by omega, by omega⟩⟩ (by simp)
  rintro rec y ⟨i, now, fails, til, st, s, f, u, hi, rfl, hn0, hn, hS⟩ hr
  dsimp only
  refine Gives.dite (fun h => ?_) (fun h => Gives.bind_eq (sure_true _) (Gives.of_some rfl))
  refine Gives.dite (fun h2 => ?_) (fun h => Gives.bind_eq (sure_true _) (Gives.of_some rfl))
  have hx : ∃ v, idx l (i : Int) = some v := ⟨_, idx_eq (0, 0, ()) (by omega) h⟩
  obtain ⟨v, hv⟩ := hx
  have h4 := unit_ok v.2.1 4 (by omega) (by omega)
  have h3 := unit_ok v.1 3 (by omega) (by omega)
  have hi1 := wrap64 (n := (i : Int) + 1) (by omega) (by omega)
  generalize hd : IntKind.wrap .i64 (Int.tmod (IntKind.wrap .u64 v.2.1) 4) = d at h4
  generalize hw : IntKind.wrap .i64 (Int.tmod (IntKind.wrap .u64 v.1) 3) = w at h3
  have hnd := wrap64 (n := now + d) (by omega) (by omega)
  have key : ∀ (fails' til' : Int) (st' : List Int) (s' f' u' : Int), St F (now + d) fails' til' st' s' f' u' → Gives (rec (l, now + d, fails', til', st', (i : Int) + 1, F, O, s', f', u')) (· = true) := fun fails' til' st' s' f' u' h' =>
    hr _ ⟨i + 1, now + d, fails', til', st', s', f', u', by omega, rfl, by omega, by omega, h'⟩ (by dsimp only; omega)
  clear hr
  rcases hS with ⟨rfl, rfl, rfl, rfl, h5, h6⟩ | ⟨rfl, rfl, rfl, rfl, rfl, h5, h6⟩ | ⟨rfl, rfl, rfl, rfl, rfl⟩
  · have hc := checked0 300 F O (now + d) hF hO (by omega) f ⟨h5, h6⟩
    have hb := bad0 300 F O (now + d) hF hO (by omega) f ⟨h5, h6⟩
    have w1 := wrap64 (n := f + 1) (by omega) (by omega)
    have w2 := wrap64 (n := now + d + O) (by omega) (by omega)
    rcases (show w = 0 ∨ w = 1 ∨ w = 2 by omega) with rfl | rfl | rfl
    · simp [hv, hd, hw, hnd, ready, hc, say, begin, hi1]
      exact key _ _ _ _ _ _ (.inl ⟨rfl, rfl, rfl, rfl, h5, h6⟩)
    · simp [hv, hd, hw, hnd, ready, hc, say, good, hi1]
      exact key _ _ _ _ _ _ (.inl ⟨rfl, rfl, rfl, rfl, by omega, by omega⟩)
    · by_cases hlt : f + 1 < F
      · simp [hv, hd, hw, hnd, ready, hc, say, hb, hi1, w1, w2, hlt, show f + 1 ≠ F by omega]
        exact key _ _ _ _ _ _ (.inl ⟨rfl, rfl, rfl, rfl, by omega, by omega⟩)
      · simp [hv, hd, hw, hnd, ready, hc, say, hb, hi1, w1, w2, hlt, show f + 1 = F by omega, wrap64 (n := F) (by omega) (by omega)]
        exact key 0 (now + d + O) opn 1 0 (now + d + O) (.inr (.inl ⟨rfl, rfl, rfl, rfl, rfl, by omega, by omega⟩))
  · have hc := checked1 300 F O (now + d) hF hO (by omega) u ⟨h5, by omega⟩
    have hb := bad1 300 F O (now + d) hF hO (by omega) u ⟨h5, by omega⟩
    have stay : St F (now + d) 0 u opn 1 0 u := .inr (.inl ⟨rfl, rfl, rfl, rfl, rfl, by omega, by omega⟩)
    rcases (show w = 0 ∨ w = 1 ∨ w = 2 by omega) with rfl | rfl | rfl
    · by_cases hlt : u ≤ now + d
      · simp [hv, hd, hw, hnd, ready, hc, say, begin, hi1, hlt]
        exact key _ _ _ _ _ _ (.inr (.inr ⟨rfl, rfl, rfl, rfl, rfl⟩))
      · simp [hv, hd, hw, hnd, ready, hc, say, begin, hi1, hlt]
        exact key _ _ _ _ _ _ stay
    · simp [hv, hd, hw, hnd, ready, hc, say, good, hi1]
      exact key _ _ _ _ _ _ stay
    · simp [hv, hd, hw, hnd, ready, hc, say, hb, hi1]
      exact key _ _ _ _ _ _ stay
  · have hc := checked2 300 F O (now + d) hF hO (by omega)
    have hb := bad2 300 F O (now + d) hF hO (by omega)
    have w2 := wrap64 (n := now + d + O) (by omega) (by omega)
    rcases (show w = 0 ∨ w = 1 ∨ w = 2 by omega) with rfl | rfl | rfl
    · simp [hv, hd, hw, hnd, ready, hc, say, begin, hi1]
      exact key _ _ _ _ _ _ (.inr (.inr ⟨rfl, rfl, rfl, rfl, rfl⟩))
    · simp [hv, hd, hw, hnd, ready, hc, say, good, hi1]
      exact key _ _ _ _ _ _ (.inl ⟨rfl, rfl, rfl, rfl, by omega, by omega⟩)
    · simp [hv, hd, hw, hnd, ready, hc, say, hb, hi1, w2]
      exact key _ _ _ _ _ _ (.inr (.inl ⟨rfl, rfl, rfl, rfl, rfl, by omega, by omega⟩))
end Go.Sx.Ytkmmpcggdpkjdaa
