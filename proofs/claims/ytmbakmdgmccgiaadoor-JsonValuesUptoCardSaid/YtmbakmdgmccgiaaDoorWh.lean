/- Part of a proof by a small interpreter on plain values; no condition. -/
import Derived.Test.YtmbakmdgmccgiaaDoorWf
/-! W06AB: whether a value is small; the law JsonSame. -/
namespace Go.Sx.YtmbakmdgmccgiaaDoor
open Go Go.Sx Go.Sx.Js
set_option autoImplicit false
set_option linter.unusedVariables false
set_option linter.unusedSimpArgs false
def one (v : JV) : DV := (v.kind, v.b, v.text, v.n, v.whole, v.list, v.names)
theorem depL_all {D : Nat} {l : List JV} (h : ∀ j (hj : j < l.length), dep l[j] ≤ D) : depL l ≤ D := depL_le fun x hx => by
  obtain ⟨j, hj, rfl⟩ := List.mem_iff_getElem.1 hx
  exact h j hj
section
variable {n : Nat}
theorem many_go (hn : 5000 < n) : ∀ (D : Nat), D ≤ 1000 → ∀ (v : JV) (left : Int), 0 ≤ left → left ≤ 3000 → ∀ m, D < m → Gives (loopF (manyStep n) m (v.kind, v.b, v.text, v.n, v.whole, v.list, v.names, left, (D : Int))) (fun r => -1 ≤ r ∧ r ≤ left - 1 ∧ (0 ≤ r → dep v ≤ D)) := by
  intro D
  induction D with
  | zero =>
    intro _ v left h1 h2 m hm
    obtain ⟨m, rfl⟩ : ∃ q, m = q + 1 := ⟨m - 1, by omega⟩
    show Gives (manyStep n (loopF (manyStep n) m) _) _
    unfold manyStep
    simp only
    exact Gives.epos rfl (Gives.of_some ⟨by omega, by omega, by omega⟩)
  | succ D ih =>
    intro hD v left h1 h2 m hm
    obtain ⟨m, rfl⟩ : ∃ q, m = q + 1 := ⟨m - 1, by omega⟩
    obtain ⟨k, b, t, i, w, l, ns⟩ := v
    show Gives (manyStep n (loopF (manyStep n) m) (k, b, t, i, w, l, ns, left, ((D + 1 : Nat) : Int))) _
    unfold manyStep
    simp only
    refine Gives.eneg (by omega) ?_
    rw [wrap64 (by omega) (by omega)]
    refine Gives.loop (fun z => ∃ (q : Nat) (e : Int), z = (e, ((D + 1 : Nat) : Int), (q : Int), k, b, t, i, w, l, ns) ∧ q ≤ l.length ∧ -1 ≤ e ∧ q + e ≤ left - 1 ∧ (0 ≤ e → ∀ j (hj : j < l.length), j < q → dep l[j] ≤ D)) (fun z => (z.1 + 1).toNat) (fun rec z hz hrec => ?_) n _ ⟨0, left - 1, rfl, by omega, by omega, by omega, fun _ j _ h => by omega⟩ (by dsimp only; omega)
    obtain ⟨q, e, rfl, hq, he, hqe, hd⟩ := hz
    dsimp only at hrec ⊢
    refine Gives.dite (fun hlt => Gives.dite (fun hge => ?_) fun hneg => Gives.of_some ⟨he, by omega, by omega⟩) fun hnl => Gives.of_some ⟨he, by omega, fun h0 => ?_⟩
    · have hql : q < l.length := by omega
      refine Gives.bind_eq (idx_get hql) ?_
      rw [wrap64 (n := ((D + 1 : Nat) : Int) - 1) (by omega) (by omega), show ((D + 1 : Nat) : Int) - 1 = (D : Int) by omega]
      refine Gives.bind (ih (by omega) l[q] e hge (by omega) m (by omega)) fun r hr => ?_
      rw [wrap64 (by omega) (by omega)]
      refine hrec _ ⟨q + 1, r, rfl, by omega, by omega, by omega, fun h0 j hj hjq => ?_⟩ (by dsimp only; omega)
      rcases Nat.lt_or_ge j q with h | h
      · exact hd (by omega) j hj h
      · obtain rfl : j = q := by omega
        exact hr.2.2 h0
    · rw [dep]
      have := depL_all (D := D) (fun j hj => hd h0 j hj (by omega))
      omega
theorem small_go (hn : 5000 < n) (v : JV) : Gives (small n (one v)) (fun r => r = true → dep v ≤ 200) := by
  unfold small one
  simp only
  refine Gives.bind (many_go hn 200 (by omega) v 3000 (by omega) (by omega) n (by omega)) fun r hr => Gives.of_some fun h => ?_
  exact hr.2.2 (by simpa using h)
end
end Go.Sx.YtmbakmdgmccgiaaDoor
