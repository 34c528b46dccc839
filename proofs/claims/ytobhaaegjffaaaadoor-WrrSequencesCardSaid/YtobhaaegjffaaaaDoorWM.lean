/- Part of a proof by a small interpreter on plain values; no condition. -/
import Derived.Test.YtobhaaegjffaaaaDoorWL
namespace Go.Sx.YtobhaaegjffaaaaDoor
open Go Go.Sx
set_option autoImplicit false
set_option linter.unusedVariables false
set_option linter.unusedSimpArgs false
theorem wrrPicks_true (weights : List Int) (may : List (List Bool)) (hw : weights.length * 8 ≤ 140737488355328) (hm : ∀ x ∈ may, x.length * 1 ≤ 140737488355328) : wrrPicks 200 (weights, may) = some true := by
  apply Gives.eq
  unfold wrrPicks
  dsimp only
  refine Gives.pos hw ?_
  have hs : sure 200 () = some true := by kernel_rfl
  rcases wnew_v 200 (by omega) weights with ⟨hok, h1, h2⟩ | ⟨h1, h2⟩
  · rw [h1, h2]
    simp only [Option.bind_some]
    refine Gives.nneg rfl ?_
    obtain ⟨⟨hl1, hl2⟩, _⟩ := hok
    refine Gives.loop (X := List Int × List (List Bool) × List Int × Int × List Int × List Int × List Int × List Int)
      (fun y => ∃ (k : Nat) (now : List Int), k ≤ 100 ∧ now.length = weights.length ∧ y = (weights, may, weights, (k : Int), weights, now, weights, now)) (fun y => (100 - y.2.2.2.1).toNat) ?_ 200 _ ⟨0, _, by omega, by simp, rfl⟩ (by dsimp only; omega)
    rintro rec y ⟨k, now, hk, hn, rfl⟩ hr
    dsimp only
    refine Gives.bind (P := fun o => o = Out.go (weights, may, weights, (k : Int), (decide ((k : Int) < (may.length : Int)) && decide ((k : Int) < 100)), weights, now, weights, now)) ?_ ?_
    · refine Gives.ite (fun h => Gives.of_some ?_) (fun h => Gives.of_some ?_)
      · rw [h]; rfl
      · rw [Bool.not_eq_true] at h; rw [h]; rfl
    rintro _ rfl
    dsimp only
    refine Gives.ite (fun h => ?_) (fun h => ?_)
    · simp only [Bool.and_eq_true, decide_eq_true_eq] at h
      have hx := getDb may [] k (by omega)
      have hin : may.getD k [] ∈ may := by
        have hlt : k < may.length := by omega
        simp [List.getD_eq_getElem?_getD, hlt]
      refine Gives.bind_eq hx (Gives.pos (hm _ hin) ?_)
      refine Gives.bind_eq (pick_v 200 weights now _ hn (by omega) (by omega)) ?_
      dsimp only
      refine Gives.bind_eq hx (Gives.bind_eq (rPick_v 200 weights now _ hn (by omega) (by omega)) ?_)
      dsimp only
      refine Gives.nneg rfl (Gives.bind_eq (num_v _ _) (Gives.nneg rfl ?_))
      have hpl := pkR_len weights now (may.getD k [])
      refine Gives.bind_eq (state_v 200 weights _ (by omega)) ?_
      dsimp only
      refine Gives.bind_eq (numbers_same 200 _ (by omega) (by omega)) (Gives.neg (by simp) ?_)
      rw [wrap64 (by omega) (by omega)]
      exact hr _ ⟨k + 1, _, by omega, by omega, rfl⟩ (by dsimp only; omega)
    · refine Gives.bind_eq (clone_v 200 weights now (by omega) (by omega)) (Gives.bind_eq (state_v 200 weights now (by omega)) ?_)
      dsimp only
      clear hr
      refine Gives.loop (X := List Int × List Int × Int × List Int × List Int × List Int × List Int × List Int × List Int × List Int)
        (fun y => ∃ (j : Nat) (l : List Int), j ≤ l.length ∧ l.length ≤ 64 ∧ y = (weights, weights, (j : Int), weights, now, weights, now, weights, now, l) ∨ False) (fun y => (y.2.2.2.2.2.2.2.2.2.length - y.2.2.1).toNat) ?_ 200 _ ⟨0, now, .inl ⟨by omega, by omega, rfl⟩⟩ (by dsimp only; omega)
      rintro rec2 y ⟨j, l, ⟨hj, hl, rfl⟩ | h⟩ hr2
      rotate_left
      · exact h.elim
      dsimp only
      refine Gives.dite (fun c => ?_) (fun c => ?_)
      · refine Gives.pos (by omega) ?_
        rw [wrap64 (by omega) (by omega)]
        exact hr2 _ ⟨j + 1, _, .inl ⟨by simp; omega, by simp; omega, rfl⟩⟩ (by simp; omega)
      · have e1 := state_v 200 weights now (by omega)
        have e2 := numbers_same 200 now (by omega) (by omega)
        have e3 := numbers_same 200 weights (by omega) (by omega)
        exact Gives.bind_eq e1 (Gives.bind_eq e2 (Gives.pos rfl (Gives.bind_eq e1 (Gives.bind_eq e2 (Gives.pos rfl (Gives.bind_eq e3 (Gives.pos rfl (Gives.bind_eq hs (Gives.of_some rfl)))))))))
  · rw [h1, h2]
    simp only [Option.bind_some]
    exact Gives.npos (by decide) (Gives.bind_eq (num_v _ _) (Gives.epos rfl (Gives.bind_eq hs (Gives.of_some rfl))))
/-! ### the first turns -/
def sq (w : List Int) (may : List Bool) (now : List Int) : Nat → List Int × List Int
  | 0 => (now, [])
  | k + 1 => ((pkR w (sq w may now k).1 may).2.2, (sq w may now k).2 ++ [(pkR w (sq w may now k).1 may).1])
theorem sq_len (w : List Int) (may : List Bool) (now : List Int) : ∀ k, (sq w may now k).1.length = now.length ∧ (sq w may now k).2.length = k
  | 0 => ⟨rfl, rfl⟩
  | k + 1 => by
    have := sq_len w may now k
    simp only [sq, List.length_append, pkR_len, this, List.length_cons, List.length_nil]
    exact ⟨trivial, trivial⟩
theorem fill_true (l k : Nat) (h : k < l) : (List.replicate k true ++ List.replicate (l - k) false).set k true = List.replicate (k + 1) true ++ List.replicate (l - (k + 1)) false := by
  rw [List.set_append, if_neg (by simp), show l - k = (l - (k + 1)) + 1 from by omega]
  rw [List.replicate_succ' (n := k), List.length_replicate, Nat.sub_self, List.replicate_succ, List.set_cons_zero, List.append_assoc]
  rfl
def big : Nat := 70000
theorem sequence_v (n : Nat) (hn : 69000 < n) (w : List Int) (m : Int) : ∃ r : List Int × Int, sequence n (w, m) = some r ∧ rSequence n (w, m) = some r ∧ r.1.length ≤ 65536 := by
  unfold sequence rSequence
  dsimp only
  rcases wnew_v n (by omega) w with ⟨hok, h1, h2⟩ | ⟨h1, h2⟩
  rotate_left
  · rw [h1, h2]
    exact ⟨([], 1), rfl, rfl, by simp⟩
  rw [h1, h2]
  obtain ⟨⟨hl1, hl2⟩, _⟩ := hok
  simp only [Option.bind_some]
  rw [if_neg (show ¬ (((0 : Int) != 0) = true) by decide)]
  by_cases c1 : m < 0
  · have d1 : decide (m < 0) = true := decide_eq_true c1
    rw [if_pos d1, if_pos d1]
    exact ⟨([], 1), rfl, rfl, by simp⟩
  have d1 : ¬ (decide (m < 0) = true) := by simpa using c1
  rw [if_neg d1, if_neg d1]
  by_cases c2 : m > 65536
  · have d2 : decide (m > 65536) = true := decide_eq_true c2
    rw [if_pos d2, if_pos d2]
    exact ⟨([], 1), rfl, rfl, by simp⟩
  have d2 : ¬ (decide (m > 65536) = true) := by simpa using c2
  rw [if_neg d2, if_neg d2]
  obtain ⟨q, rfl⟩ : ∃ q : Nat, m = (q : Int) := ⟨m.toNat, by omega⟩
  refine ⟨((sq w (List.replicate w.length true) (List.replicate w.length 0) q).2, 0), Gives.eq ?_, Gives.eq ?_, ?_⟩
  rotate_left 2
  · rw [(sq_len _ _ _ q).2]; omega
  · refine Gives.pos (by omega) ?_
    refine Gives.loop (X := Int × Int × Int × List Int × List Int × List Bool) (fun y => ∃ k : Nat, k ≤ w.length ∧ y = ((q : Int), (w.length : Int), (k : Int), w, List.replicate w.length 0, List.replicate k true ++ List.replicate (w.length - k) false)) (fun y => ((w.length : Int) - y.2.2.1).toNat) ?_ n _ ⟨0, by omega, by simp⟩ (by dsimp only; omega)
    rintro rec y ⟨k, hk, rfl⟩ hr
    dsimp only
    refine Gives.dite (fun h => ?_) (fun h => ?_)
    · refine Gives.pos (by simp; omega) ?_
      rw [wrap64 (by omega) (by omega)]
      refine hr _ ⟨k + 1, by omega, ?_⟩ (by dsimp only; omega)
      rw [Int.toNat_natCast, fill_true _ _ (by omega)]; rfl
    have hk2 : k = w.length := by omega
    subst hk2
    rw [Nat.sub_self, List.replicate_zero, List.append_nil]
    clear hr
    refine Gives.loop (X := List Bool × Int × Int × List Int × List Int × List Int) (fun y => ∃ k : Nat, k ≤ q ∧ y = (List.replicate w.length true, (q : Int), (k : Int), w, (sq w (List.replicate w.length true) (List.replicate w.length 0) k).1, (sq w (List.replicate w.length true) (List.replicate w.length 0) k).2)) (fun y => ((q : Int) - y.2.2.1).toNat) ?_ n _ ⟨0, by omega, rfl⟩ (by dsimp only; omega)
    rintro rec2 y ⟨k, hk, rfl⟩ hr2
    have hsl := sq_len w (List.replicate w.length true) (List.replicate w.length 0) k
    dsimp only
    refine Gives.dite (fun h => ?_) (fun h => ?_)
    · refine Gives.bind_eq (pick_v n w _ _ (by rw [hsl.1]; simp) (by omega) (by omega)) ?_
      refine Gives.pos (by rw [hsl.2]; omega) ?_
      rw [wrap64 (by omega) (by omega)]
      exact hr2 _ ⟨k + 1, by omega, rfl⟩ (by dsimp only; omega)
    · have : k = q := by omega
      subst this
      exact Gives.of_some rfl
  · refine Gives.pos (by omega) ?_
    refine Gives.loop (X := Int × Int × List Int × List Int × List Bool) (fun y => ∃ k : Nat, k ≤ w.length ∧ y = ((q : Int), (k : Int), w, List.replicate w.length 0, List.replicate k true ++ List.replicate (w.length - k) false)) (fun y => ((w.length : Int) - y.2.1).toNat) ?_ n _ ⟨0, by omega, by simp⟩ (by dsimp only; omega)
    rintro rec y ⟨k, hk, rfl⟩ hr
    dsimp only
    have hlen : (List.replicate k true ++ List.replicate (w.length - k) false).length = w.length := by simp; omega
    rw [hlen]
    refine Gives.dite (fun h => ?_) (fun h => ?_)
    · refine Gives.pos (by omega) ?_
      rw [wrap64 (by omega) (by omega)]
      refine hr _ ⟨k + 1, by omega, ?_⟩ (by dsimp only; omega)
      rw [Int.toNat_natCast, fill_true _ _ (by omega)]; rfl
    have hk2 : k = w.length := by omega
    subst hk2
    rw [Nat.sub_self, List.replicate_zero, List.append_nil]
    clear hr
    refine Gives.loop (X := Int × List Bool × Int × List Int × List Int × List Int) (fun y => ∃ k : Nat, k ≤ q ∧ y = ((q : Int), List.replicate w.length true, (k : Int), w, (sq w (List.replicate w.length true) (List.replicate w.length 0) k).1, (sq w (List.replicate w.length true) (List.replicate w.length 0) k).2)) (fun y => ((q : Int) - y.2.2.1).toNat) ?_ n _ ⟨0, by omega, rfl⟩ (by dsimp only; omega)
    rintro rec2 y ⟨k, hk, rfl⟩ hr2
    have hsl := sq_len w (List.replicate w.length true) (List.replicate w.length 0) k
    dsimp only
    refine Gives.dite (fun h => ?_) (fun h => ?_)
    · refine Gives.bind_eq (rPick_v n w _ _ (by rw [hsl.1]; simp) (by omega) (by omega)) ?_
      refine Gives.pos (by rw [hsl.2]; omega) ?_
      rw [wrap64 (by omega) (by omega)]
      exact hr2 _ ⟨k + 1, by omega, rfl⟩ (by dsimp only; omega)
    · have : k = q := by omega
      subst this
      exact Gives.of_some rfl
theorem sure_big : sure 70000 () = some true := by kernel_rfl
theorem wrrSequences_true (w : List Int) (m : Int) (hw : w.length * 8 ≤ 140737488355328) : wrrSequences 70000 (w, m) = some true := by
  apply Gives.eq
  unfold wrrSequences
  dsimp only
  refine Gives.pos hw ?_
  obtain ⟨r, h1, h2, h3⟩ := sequence_v 70000 (by omega) w m
  exact Gives.bind_eq h1 (Gives.bind_eq h2 (Gives.bind_eq (numbers_same 70000 r.1 (by omega) (by omega)) (Gives.pos rfl (Gives.bind_eq (num_v _ _) (Gives.epos rfl (Gives.bind_eq sure_big (Gives.of_some rfl)))))))
end Go.Sx.YtobhaaegjffaaaaDoor
