/- Part of a proof by a small interpreter on plain values; no condition. -/
import Derived.Test.YtobhaaegjffaaaaSx20
import Derived.Test.YtobhaaegjffaaaaW
namespace Go.Sx.Ytobhaaegjffaaaa
open Go Go.Sx
set_option autoImplicit false
set_option linter.unusedVariables false
theorem numbers_same (n : Nat) (a : List Int) (hn : a.length < n) (ha : a.length < 1000000) : numbers n (a, a) = some true := by
  apply Gives.eq
  unfold numbers
  refine Gives.neg (by simp) ?_
  refine Gives.loop (X := List Int × List Int × Int) (fun y => y.1 = a ∧ y.2.1 = a ∧ 0 ≤ y.2.2 ∧ y.2.2 ≤ (a.length : Int)) (fun y => ((a.length : Int) - y.2.2).toNat) ?_ n _ ⟨rfl, rfl, by simp, by simp⟩ (by simp; omega)
  rintro rec ⟨p, q, i⟩ ⟨h1, h2, h3, h4⟩ hr
  simp only at h1 h2 h3 h4
  subst h1; subst h2
  refine Gives.ite (fun h => ?_) (fun h => Gives.of_some rfl)
  have h : i < (q.length : Int) := by simpa using h
  refine Gives.idx 0 h3 h (Gives.idx 0 h3 h (Gives.neg (by simp) ?_))
  rw [wrap64 (by omega) (by omega)]
  exact hr _ ⟨rfl, rfl, by simp; omega, by simp; omega⟩ (by simp; omega)
theorem wnew_nil (n : Nat) : wnew n [] = some (Sum.inl ()) := by
  unfold wnew
  rw [if_pos (by simp)]
theorem wnew_ok (n : Nat) (w : List Int) (hn : w.length < n) (h1 : 1 ≤ w.length) (h2 : w.length ≤ 64) (hw : ∀ j, j < w.length → 1 ≤ w.getD j 0 ∧ w.getD j 0 ≤ 1048576) : wnew n w = some (Sum.inr (w, List.replicate w.length 0)) := by
  apply Gives.eq
  unfold wnew
  refine Gives.neg (by simp; omega) (Gives.neg (by simp; omega) ?_)
  refine Gives.loop (X := List Int × List Int × Int × Int) (fun y => ∃ k : Nat, k ≤ w.length ∧ y = (w, w, (w.length : Int), (k : Int))) (fun y => ((w.length : Int) - y.2.2.2).toNat) ?_ n _ ⟨0, by omega, rfl⟩ (by simp; omega)
  rintro rec y ⟨k, hk, rfl⟩ hr
  refine Gives.ite (fun h => ?_) (fun h => ?_)
  · have h : k < w.length := by simpa using h
    have hb := hw k h
    refine Gives.idx 0 (by omega) (by omega) ?_
    simp only [Int.toNat_natCast]
    refine Gives.neg (by simp only [decide_eq_true_eq]; omega) (Gives.neg (by simp only [decide_eq_true_eq]; omega) ?_)
    rw [wrap64 (by omega) (by omega)]
    exact hr _ ⟨k + 1, by omega, by simp⟩ (by simp; omega)
  · refine Gives.pos (by omega) (Gives.pos (by omega) (Gives.of_some ?_))
    simp
/-- the sum of the first ones. -/
def sm (w : List Int) : Nat → Int
  | 0 => 0
  | k + 1 => sm w k + w.getD k 0
theorem sm_bound (w : List Int) (hb : ∀ j, 0 ≤ w.getD j 0 ∧ w.getD j 0 ≤ 1048576) : ∀ k : Nat, 0 ≤ sm w k ∧ sm w k ≤ 1048576 * k
  | 0 => by simp [sm]
  | k + 1 => by
    have := sm_bound w hb k
    have := hb k
    simp only [sm]
    omega
theorem getD_set (xs : List Int) (i j : Nat) (v : Int) : (xs.set i v).getD j 0 = if i = j ∧ i < xs.length then v else xs.getD j 0 := by
  simp only [List.getD_eq_getElem?_getD, List.getElem?_set]
  by_cases h : i = j
  · subst h
    by_cases h2 : i < xs.length
    · simp [h2]
    · simp [h2]
  · simp [h]
theorem getD_ge (xs : List Int) (j : Nat) (h : xs.length ≤ j) : xs.getD j 0 = 0 := by
  simp [List.getD_eq_getElem?_getD, List.getElem?_eq_none h]
theorem pick_all (n : Nat) (w now : List Int) (m : Nat) (hw : w.length = m) (hn : now.length = m) (h0 : 0 < m) (hm : m ≤ 64) (hb : ∀ j, 0 ≤ w.getD j 0 ∧ w.getD j 0 ≤ 1048576)
    (hc : ∀ j, -1000000000000 ≤ now.getD j 0 ∧ now.getD j 0 ≤ 1000000000000) (hf : m < n) :
    Gives (pick n (List.replicate m true, w, now)) fun r => ∃ (b : Nat) (now2 : List Int), b < m ∧ r = ((b : Int), 0, w, now2) ∧ now2.length = m ∧ (∀ j, j < m → now.getD j 0 + w.getD j 0 ≤ now.getD b 0 + w.getD b 0) ∧
      ∀ j, j < m → now2.getD j 0 = now.getD j 0 + w.getD j 0 - (if j = b then sm w m else 0) := by
  unfold pick
  refine Gives.neg (by simp [hw]) ?_
  refine Gives.loop (X := Int × Int × List Bool × Int × Int × List Int × List Int) (fun y => ∃ (k : Nat) (b : Int) (nw : List Int), k ≤ m ∧ y = (b, sm w k, List.replicate m true, (m : Int), (k : Int), w, nw) ∧ nw.length = m ∧
      (∀ j, nw.getD j 0 = if j < k then now.getD j 0 + w.getD j 0 else now.getD j 0) ∧ ((k = 0 ∧ b = -1) ∨ (0 ≤ b ∧ b < k ∧ ∀ j, j < k → now.getD j 0 + w.getD j 0 ≤ now.getD b.toNat 0 + w.getD b.toNat 0)))
    (fun y => ((m : Int) - y.2.2.2.2.1).toNat) ?_ n _ ⟨0, -1, now, by omega, by simp [sm], hn, by simp, .inl ⟨rfl, rfl⟩⟩ (by simp; omega)
  rintro rec y ⟨k, b, nw, hk, rfl, hl, hv, hbest⟩ hr
  have hs := sm_bound w hb k
  refine Gives.ite (fun h => ?_) (fun h => ?_)
  · have h : k < m := by simpa using h
    have hwk := hb k
    have hck := hc k
    have hvk := hv k
    rw [if_neg (by omega)] at hvk
    refine Gives.idx false (by omega) (by simp; omega) ?_
    refine Gives.neg (by simp [h]) (Gives.pos (by omega) (Gives.pos (by omega) (Gives.pos (by omega) (Gives.pos (by omega) ?_))))
    simp only [Int.toNat_natCast, hvk]
    rw [wrap64 (n := sm w k + _) (by omega) (by omega), wrap64 (n := now.getD k 0 + _) (by omega) (by omega), wrap64 (n := (k : Int) + 1) (by omega) (by omega)]
    have hv2 : ∀ j, (nw.set k (now.getD k 0 + w.getD k 0)).getD j 0 = if j < k + 1 then now.getD j 0 + w.getD j 0 else now.getD j 0 := by
      intro j
      rw [getD_set, hv j]
      by_cases e : k = j
      · subst e; rw [if_pos ⟨rfl, by omega⟩, if_pos (by omega)]
      · rw [if_neg (by omega)]
        by_cases e2 : j < k
        · rw [if_pos e2, if_pos (by omega)]
        · rw [if_neg e2, if_neg (by omega)]
    refine Gives.ite (fun hneg => ?_) (fun hpos => ?_)
    · have hneg : b < 0 := by simpa using hneg
      have : k = 0 := by rcases hbest with h | h <;> omega
      subst this
      refine hr _ ⟨1, 0, _, by omega, by simp [sm], by simp [hl], hv2, .inr ⟨by omega, by omega, fun j hj => ?_⟩⟩ (by simp; omega)
      obtain rfl : j = 0 := by omega
      simp
    · have hpos : 0 ≤ b := by simpa using hpos
      have hb3 : b < k ∧ ∀ j, j < k → now.getD j 0 + w.getD j 0 ≤ now.getD b.toNat 0 + w.getD b.toNat 0 := by
        rcases hbest with h | h
        · omega
        · exact h.2
      refine Gives.pos (by simp; omega) (Gives.pos (by simp; omega) ?_)
      have e1 := hv2 k
      rw [if_pos (by omega)] at e1
      have e2 := hv2 b.toNat
      rw [if_pos (by omega)] at e2
      rw [e1, e2]
      refine Gives.ite (fun hg => ?_) (fun hg => ?_)
      · have hg : now.getD b.toNat 0 + w.getD b.toNat 0 < now.getD k 0 + w.getD k 0 := of_decide_eq_true hg
        refine hr _ ⟨k + 1, k, _, by omega, by simp [sm], by simp [hl], hv2, .inr ⟨by omega, by omega, fun j hj => ?_⟩⟩ (by simp; omega)
        rw [Int.toNat_natCast]
        by_cases e : j = k
        · subst e; omega
        · have := hb3.2 j (by omega); omega
      · have hg : now.getD k 0 + w.getD k 0 ≤ now.getD b.toNat 0 + w.getD b.toNat 0 := by
          simp only [decide_eq_true_eq] at hg
          omega
        refine hr _ ⟨k + 1, b, _, by omega, by simp [sm], by simp [hl], hv2, .inr ⟨by omega, by omega, fun j hj => ?_⟩⟩ (by simp; omega)
        by_cases e : j = k
        · subst e; omega
        · have := hb3.2 j (by omega); omega
  · have h : m ≤ k := by simpa using h
    obtain rfl : k = m := by omega
    have hb3 : 0 ≤ b ∧ b < k ∧ ∀ j, j < k → now.getD j 0 + w.getD j 0 ≤ now.getD b.toNat 0 + w.getD b.toNat 0 := by
      rcases hbest with h | h
      · omega
      · exact h
    refine Gives.neg (by simp; omega) (Gives.pos (by omega) (Gives.pos (by omega) (Gives.of_some ?_)))
    refine ⟨b.toNat, _, by omega, by rw [Int.toNat_of_nonneg hb3.1], by simp [hl], hb3.2.2, fun j hj => ?_⟩
    have hcb := hc b.toNat
    have hwb := hb b.toNat
    have e1 := hv b.toNat
    rw [if_pos (by omega)] at e1
    have e2 := hv j
    rw [if_pos hj] at e2
    rw [getD_set, e1, wrap64 (by omega) (by omega)]
    by_cases e : j = b.toNat
    · subst e
      rw [if_pos ⟨rfl, by omega⟩, if_pos rfl]
    · rw [if_neg (fun h => e h.1.symm), if_neg e, e2]; omega
end Go.Sx.Ytobhaaegjffaaaa
