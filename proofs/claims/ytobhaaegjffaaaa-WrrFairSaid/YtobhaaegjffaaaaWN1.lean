/- Part of a proof by a small interpreter on plain values; no condition. -/
import Derived.Test.YtobhaaegjffaaaaWM
namespace Go.Sx.Ytobhaaegjffaaaa
open Go Go.Sx
set_option autoImplicit false
set_option linter.unusedVariables false
theorem getD_app (w l : List Int) (j : Nat) : (w ++ l).getD j 0 = if j < w.length then w.getD j 0 else l.getD (j - w.length) 0 := by
  simp only [List.getD_eq_getElem?_getD, List.getElem?_append]
  split <;> rfl
theorem sm_app (w l : List Int) : ∀ k, k ≤ w.length → sm (w ++ l) k = sm w k
  | 0, _ => rfl
  | k + 1, h => by
    simp only [sm]
    rw [sm_app w l k (by omega), getD_app, if_pos (by omega)]
theorem sm_le (w : List Int) : ∀ k, (∀ j, j < k → 1 ≤ w.getD j 0 ∧ w.getD j 0 ≤ 9) → (k : Int) ≤ sm w k ∧ sm w k ≤ 9 * k
  | 0, _ => by simp [sm]
  | k + 1, h => by
    have := sm_le w k (fun j hj => h j (by omega))
    have := h k (by omega)
    simp only [sm]
    omega
theorem unit_ok (v : Int) (k : Int) (hk : 0 < k) (hk2 : k < 100) : 0 ≤ IntKind.wrap .i64 (Int.tmod (IntKind.wrap .u64 v) k) ∧ IntKind.wrap .i64 (Int.tmod (IntKind.wrap .u64 v) k) < k := by
  rw [wrap_u64, Int.tmod_eq_emod_of_nonneg (by omega)]
  have h1 := Int.emod_nonneg (v % 18446744073709551616) (show k ≠ 0 by omega)
  have h2 := Int.emod_lt_of_pos (v % 18446744073709551616) hk
  rw [wrap64 (by omega) (by omega)]
  omega
theorem getD_rep (m j : Nat) : (List.replicate m (0 : Int)).getD j 0 = 0 := by
  simp only [List.getD_eq_getElem?_getD, List.getElem?_replicate]
  split <;> rfl
theorem wrrFair_true (ws : List Int) (rounds : Int) : wrrFair 100 (ws, rounds) = some true := by
  apply Gives.eq
  unfold wrrFair
  refine Gives.loop (X := List Int × Int × Int × Int × List Int) (fun y => ∃ (i : Nat) (w : List Int), i ≤ 8 ∧ y = (ws, rounds, sm w i, (i : Int), w) ∧ w.length = i ∧ (∀ j, j < i → 1 ≤ w.getD j 0 ∧ w.getD j 0 ≤ 9)) (fun y => (8 - y.2.2.2.1).toNat) ?_ 100 _ ⟨0, [], by omega, rfl, rfl, by omega⟩ (by simp)
  rintro rec y ⟨i, w, hi, rfl, hl, hw⟩ hr
  refine Gives.bind (P := fun o => o = Out.go (ws, rounds, sm w i, (i : Int), (decide ((i : Int) < (ws.length : Int)) && decide ((i : Int) < 8)), w)) ?_ ?_
  · refine Gives.ite (fun h => Gives.of_some ?_) (fun h => Gives.of_some ?_)
    · rw [h]; rfl
    · rw [Bool.not_eq_true] at h; rw [h]; rfl
  rintro _ rfl
  have hS := sm_le w i hw
  refine Gives.ite (fun h => ?_) (fun h => ?_)
  · simp only [Bool.and_eq_true, decide_eq_true_eq] at h
    refine Gives.idx 0 (by omega) h.1 ?_
    dsimp only
    have hu := unit_ok (ws.getD (i : Int).toNat 0) 9 (by omega) (by omega)
    generalize IntKind.wrap .i64 (Int.tmod (IntKind.wrap .u64 (ws.getD (i : Int).toNat 0)) 9) = u at hu ⊢
    rw [wrap64 (n := 1 + u) (by omega) (by omega)]
    refine Gives.pos (by omega) (Gives.pos (by simp; omega) ?_)
    have e1 : (w ++ [1 + u]).getD (i : Int).toNat 0 = 1 + u := by
      rw [Int.toNat_natCast, getD_app, if_neg (by omega), hl, Nat.sub_self]; rfl
    rw [e1, wrap64 (n := sm w i + _) (by omega) (by omega), wrap64 (n := (i : Int) + 1) (by omega) (by omega)]
    refine hr _ ⟨i + 1, w ++ [1 + u], by omega, ?_, by simp [hl], fun j hj => ?_⟩ (by simp; omega)
    · have : sm (w ++ [1 + u]) (i + 1) = sm w i + (1 + u) := by
        simp only [sm]
        rw [sm_app w _ i (by omega), ← Int.toNat_natCast (n := i), e1]
      rw [this]; rfl
    · rw [getD_app]
      by_cases e : j < w.length
      · rw [if_pos e]; exact hw j (by omega)
      · rw [if_neg e, show j - w.length = 0 from by omega]
        show 1 ≤ 1 + u ∧ 1 + u ≤ 9
        omega
  clear hr rec h
  refine Gives.ite (fun h => ?_) (fun h => ?_)
  · rw [wnew_nil]
    refine Gives.bind_eq rfl ?_
    exact Gives.bind_eq sure_true (Gives.of_some rfl)
  have hi1 : 1 ≤ i := by
    have : ¬ ((w.length : Int) = 0) := by simpa using h
    omega
  have hwb : ∀ j, 0 ≤ w.getD j 0 ∧ w.getD j 0 ≤ 9 := fun j => by
    by_cases e : j < i
    · have := hw j e; omega
    · rw [getD_ge w j (by omega)]; omega
  refine Gives.bind_eq (wnew_ok 100 w (by omega) (by omega) (by omega) (fun j hj => by have := hw j (by omega); omega)) ?_
  refine Gives.pos (by omega) ?_
  subst hl
  -- the loop that fills 'may'
  refine Gives.loop (X := Int × List Int × Int × Int × List Int × List Int × List Bool) (fun y => ∃ k : Nat, k ≤ w.length ∧ y = (rounds, w, sm w w.length, (k : Int), w, List.replicate w.length 0, List.replicate k true ++ List.replicate (w.length - k) false)) (fun y => (50 - y.2.2.2.1).toNat) ?_ 100 _ ⟨0, by omega, by simp⟩ (by simp)
  rintro rec y ⟨k, hk, rfl⟩ hr
  refine Gives.ite (fun h => ?_) (fun h => ?_)
  · have h : k < w.length := by simp at h; omega
    refine Gives.pos (by simp; omega) ?_
    rw [wrap64 (by omega) (by omega)]
    refine hr _ ⟨k + 1, by omega, ?_⟩ (by simp; omega)
    have : (List.replicate k true ++ List.replicate (w.length - k) false).set k true = List.replicate (k + 1) true ++ List.replicate (w.length - (k + 1)) false := by
      rw [List.set_append, if_neg (by simp), show w.length - k = (w.length - (k + 1)) + 1 from by omega]
      rw [List.replicate_succ' (n := k), List.length_replicate, Nat.sub_self, List.replicate_succ, List.set_cons_zero, List.append_assoc]
      rfl
    simp only [Int.toNat_natCast, this]
    rfl
  have h : k = w.length := by simp at h; omega
  subst h
  rw [Nat.sub_self, List.replicate_zero, List.append_nil]
  clear hr rec h hk
  -- the rounds
  generalize hm : w.length = m at *
  generalize hSe : sm w m = S at *
  refine Gives.loop (X := Int × List Int × Int × List Bool × Int × List Int × List Int) (fun y => ∃ (k : Nat) (now : List Int), k ≤ 10 ∧ y = (rounds, w, S, List.replicate m true, (k : Int), w, now) ∧ now.length = m ∧ ∀ j, j < m → now.getD j 0 = 0)
    (fun y => (20 - y.2.2.2.2.1).toNat) ?_ 100 _ ⟨0, _, by omega, rfl, by simp, fun j _ => getD_rep m j⟩ (by simp)
  rintro rec y ⟨k, now0, hk, rfl, hl0, hz0⟩ hr
  dsimp only
  have hu := unit_ok rounds 3 (by omega) (by omega)
  generalize IntKind.wrap .i64 (Int.tmod (IntKind.wrap .u64 rounds) 3) = u at hu ⊢
  rw [wrap64 (n := 1 + u) (by omega) (by omega)]
  refine Gives.ite (fun h => ?_) (fun h => Gives.bind_eq sure_true (Gives.of_some rfl))
  have hk2 : k < 3 := by simp at h; omega
  clear h
  refine Gives.pos (by omega) ?_
  -- the turns of a round
  refine Gives.loop (X := Int × List Int × Int × List Bool × Int × Int × List Int × List Int × List Int) (fun y => ∃ (t : Nat) (now had : List Int), (t : Int) ≤ S ∧ y = (rounds, w, S, List.replicate m true, (k : Int), (t : Int) + 1, w, now, had) ∧ now.length = m ∧ had.length = m ∧
      (∀ j, j < m → now.getD j 0 = t * w.getD j 0 - had.getD j 0 * S) ∧ (∀ j, j < m → 1 - S ≤ now.getD j 0) ∧ sm now m = 0 ∧ (∀ j, j < m → 0 ≤ had.getD j 0 ∧ had.getD j 0 ≤ t))
    (fun y => (80 - y.2.2.2.2.2.1).toNat) ?_ 100 _ ⟨0, now0, _, by omega, rfl, hl0, by simp [hm], fun j hj => by rw [hz0 j hj, getD_rep]; omega, fun j hj => by rw [hz0 j hj]; omega, ?_, fun j hj => by rw [getD_rep]; omega⟩ (by simp)
  rotate_left
  · have : ∀ k, k ≤ m → sm now0 k = 0 := by
      intro k
      induction k with
      | zero => intro _; rfl
      | succ k ih => intro hk; simp only [sm]; rw [ih (by omega), hz0 k (by omega)]; rfl
    exact this m (Nat.le_refl m)
  rintro rec2 y ⟨t, now, had, ht, rfl, hln, hlh, hv, hlow, hsum, hhad⟩ hr2
  have hcb : ∀ j, j < m → -10000 ≤ now.getD j 0 ∧ now.getD j 0 ≤ 10000 := fun j hj => by
    have h1 := mul_between (a := t) (b := w.getD j 0) (X := 72) (Y := 9) (by omega) (by omega) (hwb j).1 (hwb j).2
    have h2 := mul_between (a := had.getD j 0) (b := S) (X := 72) (Y := 72) (hhad j hj).1 (by have := (hhad j hj).2; omega) (by omega) (by omega)
    rw [hv j hj]
    omega
  refine Gives.ite (fun h => ?_) (fun h => ?_)
  · have ht2 : (t : Int) + 1 ≤ S := of_decide_eq_true h
    clear h
    refine Gives.bind (pick_all 100 w now m hm hln (by omega) (by omega) (fun j => by have := hwb j; omega) (fun j => ?_) (by omega)) ?_
    · by_cases e : j < m
      · have := hcb j e; omega
      · rw [getD_ge now j (by omega)]; omega
    rintro r ⟨b, now2, hb, rfl, hl2, hbest, hv2⟩
    rw [hSe] at hv2
    have hsum2 : sm now2 m = 0 := by
      rw [sm_step w now now2 S b m hv2, hsum, hSe, if_pos hb]; omega
    have hsh := hhad b hb
    dsimp only
    refine Gives.neg (by simp) (Gives.neg (by simp) (Gives.neg (by simp; omega) (Gives.pos (by omega) (Gives.pos (by omega) ?_))))
    rw [Int.toNat_natCast, wrap64 (n := had.getD b 0 + 1) (by omega) (by omega)]
    unfold state
    refine Gives.bind_eq (if_pos (by simp [hl2]; omega)) ?_
    refine Gives.neg (by simp [hl2, hm]) ?_
    have hhb : ∀ j, (had.set b (had.getD b 0 + 1)).getD j 0 = if j = b then had.getD b 0 + 1 else had.getD j 0 := fun j => by
      rw [getD_set]
      by_cases e : b = j
      · subst e; rw [if_pos ⟨rfl, by omega⟩, if_pos rfl]
      · rw [if_neg (fun h => e h.1), if_neg (fun h => e h.symm)]
    have hnew : ∀ j, j < m → now2.getD j 0 = ((t : Int) + 1) * w.getD j 0 - (had.set b (had.getD b 0 + 1)).getD j 0 * S := fun j hj => by
      rw [hv2 j hj, hv j hj, hhb j]
      by_cases e : j = b
      · subst e; rw [if_pos rfl, if_pos rfl, Int.add_mul, Int.add_mul]; omega
      · rw [if_neg e, if_neg e, Int.add_mul]; omega
    -- a number that is picked is at least one
    have hb1 : 1 ≤ now.getD b 0 + w.getD b 0 := by
      have key : ∀ k, k ≤ m → (∀ j, j < m → now.getD j 0 + w.getD j 0 ≤ 0) → sm now k + sm w k ≤ 0 := by
        intro k
        induction k with
        | zero => intro _ _; simp [sm]
        | succ k ih =>
          intro hk hall
          have h1 := ih (by omega) hall
          have h2 := hall k (by omega)
          simp only [sm]; omega
      refine Int.not_lt.1 (fun hlt => ?_)
      have := key m (Nat.le_refl m) (fun j hj => by have := hbest j hj; omega)
      rw [hsum, hSe] at this
      omega
    have hlow2 : ∀ j, j < m → 1 - S ≤ now2.getD j 0 := fun j hj => by
      rw [hv2 j hj]
      by_cases e : j = b
      · subst e; rw [if_pos rfl]; omega
      · rw [if_neg e]; have := hlow j hj; have := hwb j; omega
    have hhad2 : ∀ j, j < m → 0 ≤ (had.set b (had.getD b 0 + 1)).getD j 0 ∧ (had.set b (had.getD b 0 + 1)).getD j 0 ≤ ((t + 1 : Nat) : Int) := fun j hj => by
      rw [hhb j]
      have := hhad j hj
      by_cases e : j = b
      · rw [if_pos e]; omega
      · rw [if_neg e]; omega
    have hlh2 : (had.set b (had.getD b 0 + 1)).length = m := by simp [hlh]
    generalize had.set b (had.getD b 0 + 1) = had2 at *
    refine Gives.loop (X := Int × List Int × Int × List Bool × Int × Int × List Int × Int × Int × List Int × List Int × List Int) (fun y => ∃ i : Nat, i ≤ m ∧ y = (rounds, w, S, List.replicate m true, (k : Int), (t : Int) + 1, now2, sm now2 i, (i : Int), w, now2, had2))
      (fun y => (20 - y.2.2.2.2.2.2.2.2.1).toNat) ?_ 100 _ ⟨0, by omega, rfl⟩ (by simp)
    rintro rec3 y ⟨i, hi', rfl⟩ hr3
    refine Gives.ite (fun h => ?_) (fun h => ?_)
    · have h : i < m := by simp at h; omega
      dsimp only
      refine Gives.idx 0 (by omega) (by omega) (Gives.idx 0 (by omega) (by omega) (Gives.idx 0 (by omega) (by omega) ?_))
      refine Gives.pos (by omega) ?_
      simp only [Int.toNat_natCast]
      have h1 := mul_between (a := (t : Int) + 1) (b := w.getD i 0) (X := 72) (Y := 9) (by omega) (by omega) (hwb i).1 (hwb i).2
      have h2 := mul_between (a := had2.getD i 0) (b := S) (X := 72) (Y := 72) (hhad2 i h).1 (by have := (hhad2 i h).2; omega) (by omega) (by omega)
      have hn := hnew i h
      have hsb : ∀ q, q ≤ m → -10000 * (q : Int) ≤ sm now2 q ∧ sm now2 q ≤ 10000 * q := by
        intro q
        induction q with
        | zero => intro _; simp [sm]
        | succ q ih =>
          intro hq
          have g1 := ih (by omega)
          have g2 := mul_between (a := (t : Int) + 1) (b := w.getD q 0) (X := 72) (Y := 9) (by omega) (by omega) (hwb q).1 (hwb q).2
          have g3 := mul_between (a := had2.getD q 0) (b := S) (X := 72) (Y := 72) (hhad2 q (by omega)).1 (by have := (hhad2 q (by omega)).2; omega) (by omega) (by omega)
          have g4 := hnew q (by omega)
          simp only [sm]
          omega
      have hs2 := hsb i (by omega)
      rw [wrap64 (n := ((t : Int) + 1) * _) (by omega) (by omega), wrap64 (n := had2.getD i 0 * S) (by omega) (by omega), wrap64 (n := _ - _) (by omega) (by omega), wrap64 (n := sm now2 i + _) (by omega) (by omega), wrap64 (n := (i : Int) + 1) (by omega) (by omega)]
      refine Gives.neg (by rw [hn]; simp) ?_
      exact hr3 _ ⟨i + 1, by omega, by simp [sm]⟩ (by simp; omega)
    · have h : i = m := by simp at h; omega
      subst h
      refine Gives.neg (by simp [hsum2]) ?_
      dsimp only
      rw [wrap64 (by omega) (by omega)]
      refine hr2 _ ⟨t + 1, now2, had2, by omega, by simp, hl2, hlh2, fun j hj => by rw [hnew j hj]; simp, hlow2, hsum2, hhad2⟩ (by simp; omega)
  · have ht2 : (t : Int) = S := by
      have := of_decide_eq_false (by simpa using h : decide ((t : Int) + 1 ≤ S) = false)
      omega
    have hge : ∀ j, j < m → 0 ≤ now.getD j 0 := fun j hj => by
      have h1 := hv j hj
      have h2 := hlow j hj
      rw [ht2, Int.mul_comm, ← Int.sub_mul] at h1
      by_cases e : 0 ≤ w.getD j 0 - had.getD j 0
      · rw [h1]; exact Int.mul_nonneg e (by omega)
      · have : (w.getD j 0 - had.getD j 0) * S ≤ (-1) * S := Int.mul_le_mul_of_nonneg_right (by omega) (by omega)
        omega
    have hzero := (sm_nonneg_zero now m hge).2 hsum
    have hhw : had = w := ext_getD (by omega) (fun j hj => by
      have h1 := hv j (by omega)
      rw [hzero j (by omega), ht2, Int.mul_comm, ← Int.sub_mul] at h1
      rcases Int.mul_eq_zero.1 h1.symm with h | h <;> omega)
    subst hhw
    refine Gives.bind_eq (numbers_same 100 had (by omega) (by omega)) ?_
    refine Gives.neg (by simp) ?_
    dsimp only
    rw [wrap64 (by omega) (by omega)]
    exact hr _ ⟨k + 1, now, by omega, by simp, hln, hzero⟩ (by simp; omega)
end Go.Sx.Ytobhaaegjffaaaa
