/- Part of a proof by a small interpreter on plain values; no condition. -/
import Derived.Test.YtacelemieinhcaaWL
namespace Go.Sx.Ytacelemieinhcaa
open Go Go.Sx
set_option autoImplicit false
set_option linter.unusedVariables false
/-- what holds of a bucket and the times of its tokens. -/
structure St (R P B : Int) (i : Nat) (now p : Int) (l : List Int) : Prop where
  len : l.length ≤ i
  clock : 0 ≤ now ∧ now ≤ 10 * i
  parts : 0 ≤ p ∧ p ≤ B * P
  times : ∀ j, j < l.length → 0 ≤ l.getD j 0 ∧ l.getD j 0 ≤ now
  up : ∀ j k, j ≤ k → k < l.length → l.getD j 0 ≤ l.getD k 0
  bound : ∀ j, j < l.length → p ≤ B * P - P * ((l.length - j : Nat) : Int) + R * (now - l.getD j 0)
  pairs : ∀ j k, j ≤ k → k < l.length → P * ((k + 1 - j : Nat) : Int) ≤ B * P + R * (l.getD k 0 - l.getD j 0)
theorem St.step {R P B : Int} {i : Nat} {now p : Int} {l : List Int} (h : St R P B i now p l) (hR : 1 ≤ R) (hP : 1 ≤ P) (t : Int) (ht : now ≤ t ∧ t ≤ now + 10) (q : Int) (hq : q = min (B * P) (p + (t - now) * R)) : St R P B (i + 1) t q l := by
  have hd := Int.mul_nonneg (show 0 ≤ t - now by omega) (show 0 ≤ R by omega)
  refine ⟨by have := h.len; omega, by have := h.clock; omega, by have := h.parts; omega, fun j hj => by have := h.times j hj; omega, h.up, fun j hj => ?_, h.pairs⟩
  have h1 := h.bound j hj
  have e : R * (t - l.getD j 0) = R * (now - l.getD j 0) + (t - now) * R := by
    rw [Int.mul_comm (t - now) R, ← Int.mul_add]; congr 1; omega
  rw [e]
  omega
theorem St.take {R P B : Int} {i : Nat} {t q : Int} {l : List Int} (h : St R P B (i + 1) t q l) (hl : l.length ≤ i) (hP : 1 ≤ P) (hq : P ≤ q) : St R P B (i + 1) t (q - P) (l ++ [t]) := by
  have hg : ∀ j, j ≤ l.length → (l ++ [t]).getD j 0 = if j < l.length then l.getD j 0 else t := fun j hj => by
    rw [getD_app]
    by_cases e : j < l.length
    · rw [if_pos e, if_pos e]
    · rw [if_neg e, if_neg e, show j - l.length = 0 from by omega]; rfl
  have hlen : (l ++ [t]).length = l.length + 1 := by simp
  have hbound : ∀ j, j < l.length + 1 → q - P ≤ B * P - P * ((l.length + 1 - j : Nat) : Int) + R * (t - (l ++ [t]).getD j 0) := fun j hj => by
    rw [hg j (by omega)]
    by_cases e : j < l.length
    · rw [if_pos e]
      have h1 := h.bound j e
      have e2 : P * ((l.length + 1 - j : Nat) : Int) = P * ((l.length - j : Nat) : Int) + P := by
        rw [show l.length + 1 - j = (l.length - j) + 1 from by omega, Int.natCast_add, Int.mul_add]; simp
      rw [e2]; omega
    · rw [if_neg e]
      have := h.parts
      rw [show l.length + 1 - j = 1 from by omega, Int.sub_self, Int.mul_zero]
      simp; omega
  refine ⟨by omega, h.clock, by have := h.parts; omega, fun j hj => ?_, fun j k hjk hk => ?_, fun j hj => ?_, fun j k hjk hk => ?_⟩
  · rw [hlen] at hj
    rw [hg j (by omega)]
    by_cases e : j < l.length
    · rw [if_pos e]; exact h.times j e
    · rw [if_neg e]; have := h.clock; omega
  · rw [hlen] at hk
    rw [hg j (by omega), hg k (by omega)]
    by_cases e : k < l.length
    · rw [if_pos e, if_pos (by omega)]; exact h.up j k hjk e
    · rw [if_neg e]
      by_cases e2 : j < l.length
      · rw [if_pos e2]; exact (h.times j e2).2
      · rw [if_neg e2]; exact Int.le_refl _
  · rw [hlen] at hj ⊢; exact hbound j hj
  · rw [hlen] at hk
    by_cases e : k < l.length
    · rw [hg j (by omega), hg k (by omega), if_pos e, if_pos (by omega)]; exact h.pairs j k hjk e
    · have hk2 : k = l.length := by omega
      subst hk2
      have h1 := hbound j (by omega)
      have h2 : (l ++ [t]).getD l.length 0 = t := by rw [hg _ (Nat.le_refl _), if_neg (by omega)]
      rw [h2]
      omega
theorem bucketBound_true (by_ a b c : Int) (steps : List Int) : bucketBound 200 (by_, a, b, c, steps) = some true := by
  apply Gives.eq
  unfold bucketBound
  dsimp only
  have hR := unit_ok a 20 (by omega) (by omega)
  have hP := unit_ok b 20 (by omega) (by omega)
  have hB := unit_ok c 20 (by omega) (by omega)
  generalize IntKind.wrap .i64 (Int.tmod (IntKind.wrap .u64 a) 20) = R at hR ⊢
  generalize IntKind.wrap .i64 (Int.tmod (IntKind.wrap .u64 b) 20) = P at hP ⊢
  generalize IntKind.wrap .i64 (Int.tmod (IntKind.wrap .u64 c) 20) = B at hB ⊢
  rw [wrap64 (n := 1 + R) (by omega) (by omega), wrap64 (n := 1 + P) (by omega) (by omega), wrap64 (n := 1 + B) (by omega) (by omega)]
  replace hR : 1 ≤ 1 + R ∧ 1 + R ≤ 20 := by omega
  replace hP : 1 ≤ 1 + P ∧ 1 + P ≤ 20 := by omega
  replace hB : 1 ≤ 1 + B ∧ 1 + B ≤ 20 := by omega
  generalize 1 + R = R at hR ⊢
  generalize 1 + P = P at hP ⊢
  generalize 1 + B = B at hB ⊢
  refine Gives.bind_eq (full_ok by_ R P B 0 hR hP hB (by omega)) (Gives.neg (by simp) ?_)
  have hBP := mul_between (a := B) (b := P) (X := 20) (Y := 20) (by omega) (by omega) (by omega) (by omega)
  have hPB : P ≤ B * P := by
    have := Int.mul_le_mul_of_nonneg_right hB.1 (show 0 ≤ P by omega)
    omega
  refine Gives.loop (X := List Int × Int × Int × Int × Int × Int × Int × Int × Int × List Int)
    (fun y => ∃ (i : Nat) (now p : Int) (l : List Int), i ≤ 100 ∧ y = (steps, now, (i : Int), by_, R, P, B, p, now, l) ∧ St R P B i now p l) (fun y => (100 - y.2.2.1).toNat) ?_ 200 _
    ⟨0, 0, B * P, [], by omega, rfl, ⟨by simp, by omega, by omega, fun j hj => by simp at hj, fun j k _ hk => by simp at hk, fun j hj => by simp at hj, fun j k _ hk => by simp at hk⟩⟩ (by simp)
  rintro rec y ⟨i, now, p, l, hi, rfl, hS⟩ hr
  refine Gives.bind (P := fun o => o = Out.go (steps, now, (i : Int), (decide ((i : Int) < (steps.length : Int)) && decide ((i : Int) < 100)), by_, R, P, B, p, now, l)) ?_ ?_
  · refine Gives.ite (fun h => Gives.of_some ?_) (fun h => Gives.of_some ?_)
    · rw [h]; rfl
    · rw [Bool.not_eq_true] at h; rw [h]; rfl
  rintro _ rfl
  have hc := hS.clock
  refine Gives.ite (fun h => ?_) (fun h => ?_)
  · simp only [Bool.and_eq_true, decide_eq_true_eq] at h
    refine Gives.idx 0 (by omega) h.1 ?_
    have h7 := unit_ok (steps.getD (i : Int).toNat 0) 7 (by omega) (by omega)
    have h3 := unit_ok (steps.getD (i : Int).toNat 0) 3 (by omega) (by omega)
    refine Gives.idx 0 (by omega) h.1 ?_
    generalize IntKind.wrap .i64 (Int.tmod (IntKind.wrap .u64 (steps.getD (i : Int).toNat 0)) 7) = d1 at h7 ⊢
    generalize IntKind.wrap .i64 (Int.tmod (IntKind.wrap .u64 (steps.getD (i : Int).toNat 0)) 3) = d2 at h3 ⊢
    rw [wrap64 (n := now + d1) (by omega) (by omega), wrap64 (n := now + d1 + d2) (by omega) (by omega)]
    have hpp := hS.parts
    have e1 := bfill_ok p now by_ R P B (now + d1) hR hP hB (by omega) (by omega) hpp
    have b1 := fill_bound p now R P B (now + d1) hR hP hB (by omega) (by omega) hpp
    have eq12 : min (B * P) (min (B * P) (p + (now + d1 - now) * R) + (now + d1 + d2 - (now + d1)) * R) = min (B * P) (p + (now + d1 + d2 - now) * R) := by
      have e : (now + d1 + d2 - now) * R = (now + d1 - now) * R + (now + d1 + d2 - (now + d1)) * R := by
        rw [← Int.add_mul]; congr 1; omega
      have := Int.mul_nonneg (show 0 ≤ now + d1 + d2 - (now + d1) by omega) (show 0 ≤ R by omega)
      rw [e]
      omega
    have e2 := bfill_ok (min (B * P) (p + (now + d1 - now) * R)) (now + d1) by_ R P B (now + d1 + d2) hR hP hB (by omega) (by omega) (by omega)
    rw [eq12] at e2
    have e3 := bfill_ok p now by_ R P B (now + d1 + d2) hR hP hB (by omega) (by omega) hpp
    have b3 := fill_bound p now R P B (now + d1 + d2) hR hP hB (by omega) (by omega) hpp
    have ew := wait_ok p now by_ R P B (now + d1 + d2) hR hP hB (by omega) (by omega) hpp _ rfl
    have et := take_ok p now by_ R P B (now + d1 + d2) hR hP hB (by omega) (by omega) hpp _ rfl
    have hS2 := hS.step hR.1 hP.1 (now + d1 + d2) (by omega) _ rfl
    generalize hq : min (B * P) (p + (now + d1 + d2 - now) * R) = q at *
    refine Gives.bind_eq e1 (Gives.bind_eq e2 (Gives.bind_eq e3 ?_))
    refine Gives.neg (by simp) (Gives.neg (by simp) (Gives.neg (by simp) (Gives.neg (by simp) ?_)))
    refine Gives.bind_eq ew (Gives.bind_eq et ?_)
    by_cases hqP : q < P
    · rw [if_neg (show ¬ q ≥ P by omega), if_pos hqP]
      have hm := Int.emod_nonneg (P - q + R - 1) (show R ≠ 0 by omega)
      have hm2 := Int.emod_lt_of_pos (P - q + R - 1) (show 0 < R by omega)
      have hde := Int.mul_ediv_add_emod (P - q + R - 1) R
      generalize (P - q + R - 1) / R = w at *
      have hwR : R * w = w * R := Int.mul_comm R w
      have hw1 : 1 ≤ w := by
        rcases (show w < 1 ∨ 1 ≤ w by omega) with hlt | hge
        · have : w * R ≤ 0 := by
            have := Int.mul_le_mul_of_nonneg_right (show w ≤ 0 by omega) (show 0 ≤ R by omega)
            omega
          omega
        · exact hge
      have hw2 : w ≤ 20 := by
        rcases (show 20 < w ∨ w ≤ 20 by omega) with hlt | hge
        · have := Int.mul_le_mul_of_nonneg_right (show 21 ≤ w by omega) (show 0 ≤ R by omega)
          omega
        · exact hge
      refine Gives.neg (by simp) (Gives.neg (by simp) (Gives.neg (by simp; omega) (Gives.neg (by simp; omega) (Gives.neg (by simp) ?_))))
      rw [wrap64 (n := now + d1 + d2 + w) (by omega) (by omega), wrap64 (n := now + d1 + d2 + w - 1) (by omega) (by omega)]
      have hqe : q = p + (now + d1 + d2 - now) * R := by omega
      have el1 : (now + d1 + d2 + w - now) * R = (now + d1 + d2 - now) * R + w * R := by rw [← Int.add_mul]; congr 1; omega
      have el2 : (now + d1 + d2 + w - 1 - now) * R = (now + d1 + d2 - now) * R + (w - 1) * R := by rw [← Int.add_mul]; congr 1; omega
      have el3 : (w - 1) * R = w * R - R := by rw [Int.sub_mul]; omega
      refine Gives.bind_eq (left_ok p now by_ R P B (now + d1 + d2 + w) hR hP hB (by omega) (by omega) hpp _ rfl) ?_
      dsimp only
      refine Gives.bind_eq (left_ok p now by_ R P B (now + d1 + d2 + w - 1) hR hP hB (by omega) (by omega) hpp _ rfl) ?_
      have hnn := Int.mul_nonneg (show 0 ≤ w - 1 by omega) (show 0 ≤ R by omega)
      have hnd := Int.mul_nonneg (show 0 ≤ now + d1 + d2 - now by omega) (show 0 ≤ R by omega)
      have hn : 1 ≤ min (B * P) (p + (now + d1 + d2 + w - now) * R) / P := (Int.le_ediv_iff_mul_le (by omega)).2 (by omega)
      have hz : min (B * P) (p + (now + d1 + d2 + w - 1 - now) * R) / P = 0 := Int.ediv_eq_zero_of_lt (by omega) (by omega)
      refine Gives.neg (by simp) (Gives.neg (by simp) (Gives.neg (by simp; omega) (Gives.neg (by simp [hz]) ?_)))
      rw [wrap64 (n := (i : Int) + 1) (by omega) (by omega)]
      exact hr _ ⟨i + 1, now + d1 + d2, q, l, by omega, rfl, hS2⟩ (by simp; omega)
    · rw [if_pos (show q ≥ P by omega), if_neg hqP]
      refine Gives.neg (by simp) (Gives.neg (by simp) (Gives.neg (by simp) (Gives.neg (by simp) (Gives.pos rfl ?_))))
      have hlen := hS.len
      refine Gives.pos (by omega) ?_
      dsimp only
      rw [wrap64 (n := (i : Int) + 1) (by omega) (by omega)]
      exact hr _ ⟨i + 1, now + d1 + d2, q - P, l ++ [now + d1 + d2], by omega, rfl, hS2.take hS.len hP.1 (by omega)⟩ (by simp; omega)
  have hlen := hS.len
  clear hr rec h
  refine Gives.loop (X := Int × Int × Int × Int × Int × List Int) (fun y => ∃ j : Nat, j ≤ l.length ∧ y = ((j : Int), by_, R, P, B, l)) (fun y => (150 - y.1).toNat) ?_ 200 _ ⟨0, by omega, rfl⟩ (by simp)
  rintro rec y ⟨j, hj, rfl⟩ hr
  refine Gives.ite (fun h => ?_) (fun h => Gives.bind_eq sure_true (Gives.of_some rfl))
  have hj2 : j < l.length := by simpa using h
  refine Gives.loop (X := Int × Int × Int × Int × Int × Int × List Int) (fun y => ∃ k : Nat, j ≤ k ∧ k ≤ l.length ∧ y = ((j : Int), (k : Int), by_, R, P, B, l)) (fun y => (150 - y.2.1).toNat) ?_ 200 _ ⟨j, by omega, by omega, rfl⟩ (by simp; omega)
  rintro rec2 y ⟨k, hjk, hk, rfl⟩ hr2
  dsimp only
  refine Gives.ite (fun h => ?_) (fun h => ?_)
  · have hk2 : k < l.length := by simpa using h
    refine Gives.pos (by omega) (Gives.pos (by omega) ?_)
    simp only [Int.toNat_natCast]
    have h1 := hS.up j k hjk hk2
    have h2 := hS.times k hk2
    have h3 := hS.times j hj2
    have h4 := hS.pairs j k hjk hk2
    rw [wrap64 (n := l.getD k 0 - l.getD j 0) (by omega) (by omega)]
    refine Gives.bind_eq (most_ok by_ R P B (l.getD k 0 - l.getD j 0) hR hP hB (by omega)) (Gives.neg (by simp) ?_)
    rw [wrap64 (n := (k : Int) - j) (by omega) (by omega), wrap64 (n := (k : Int) - j + 1) (by omega) (by omega), wrap64 (n := (k : Int) + 1) (by omega) (by omega)]
    have h5 : ((k + 1 - j : Nat) : Int) = (k : Int) - j + 1 := by omega
    rw [h5] at h4
    have h6 : (k : Int) - j + 1 - B ≤ R * (l.getD k 0 - l.getD j 0) / P := (Int.le_ediv_iff_mul_le (by omega)).2 (by
      have e : ((k : Int) - j + 1 - B) * P = P * ((k : Int) - j + 1) - B * P := by rw [Int.sub_mul, Int.mul_comm ((k : Int) - j + 1) P]
      omega)
    refine Gives.dneg (by omega) ?_
    exact hr2 _ ⟨k + 1, by omega, by omega, rfl⟩ (by simp; omega)
  · rw [wrap64 (n := (j : Int) + 1) (by omega) (by omega)]
    exact hr _ ⟨j + 1, by omega, rfl⟩ (by simp; omega)
end Go.Sx.Ytacelemieinhcaa
