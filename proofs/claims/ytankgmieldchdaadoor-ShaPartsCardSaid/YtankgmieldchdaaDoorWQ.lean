/- The words of a block; what stands behind; the errors. -/
import Derived.Test.YtankgmieldchdaaDoorWP
import Derived.Test.YtankgmieldchdaaDoorWN1
namespace Go.Sx.YtankgmieldchdaaDoor.P
open Go.Sx.YtankgmieldchdaaDoor
open Go Go.Sx
set_option autoImplicit false
set_option maxRecDepth 1000000
set_option linter.unusedVariables false
set_option linter.unusedSimpArgs false
theorem pads (x : Int) : ∃ r, pad FU x = some r ∧ rPad FU x = some r := by
  by_cases h1 : x < 0
  · refine ⟨(([] : List Int), (1 : Int)), ?_, ?_⟩
    · unfold pad; rw [if_pos (decide_eq_true h1)]
    · unfold rPad; rw [if_pos (decide_eq_true h1)]
  · by_cases h2 : x > 1152921504606846976
    · refine ⟨(([] : List Int), (1 : Int)), ?_, ?_⟩
      · unfold pad; rw [if_neg (by simpa using h1), if_pos (decide_eq_true h2)]
      · unfold rPad; rw [if_neg (by simpa using h1), if_pos (decide_eq_true h2)]
    · obtain ⟨m, rfl⟩ : ∃ m : Nat, x = (m : Int) := ⟨x.toNat, by omega⟩
      exact ⟨_, (pad_gives m (by omega)).eq, (rPad_gives m (by omega)).eq⟩
theorem shaParts_true (b : List Int) (n : Int) (hb : b.length = 64) : shaParts FU (b, n) = some true := by
  apply Gives.eq
  unfold shaParts
  dsimp only
  have hw := wpre_len b 64
  refine Gives.pos hb.symm (Gives.pos hb.symm (Gives.bind_eq (schedule_gives hb).eq (Gives.pos ⟨rfl, hw.symm⟩ (Gives.pos hb.symm ?_))))
  rw [show (b.drop 0).take (64 - 0) = b from by rw [List.drop_zero]; exact List.take_of_length_le (by omega)]
  refine Gives.bind_eq (rSchedule_gives hb).eq ?_
  generalize wpre b 64 = w at hw ⊢
  refine Gives.loop (fun y => y.1 = n ∧ y.2.1 = w ∧ 0 ≤ y.2.2.1 ∧ y.2.2.1 ≤ 64 ∧ y.2.2.2 = w) (fun y => (64 - y.2.2.1).toNat) ?_ _ _ ⟨rfl, rfl, by simp, by simp, rfl⟩ (by show 64 < FU; decide)
  rintro rec ⟨a7, a8, i, a10⟩ ⟨k1, k2, k3, k4, k5⟩ hrec
  dsimp only at k1 k2 k3 k4 k5 hrec ⊢
  subst k1 k2 k5
  refine Gives.dite (fun hlt => ?_) (fun hge => ?_)
  · refine Gives.pos hw.symm (Gives.pos (by omega) (Gives.idx 0 k3 (by omega) (Gives.nneg rfl ?_)))
    rw [wrap64 (by omega) (by omega)]
    exact hrec _ ⟨rfl, rfl, by show 0 ≤ i + 1; omega, by show i + 1 ≤ 64; omega, rfl⟩ (by show (64 - (i + 1)).toNat < (64 - i).toNat; omega)
  · obtain ⟨⟨p, e⟩, e1, e2⟩ := pads a7
    refine Gives.bind_eq e1 (Gives.bind_eq e2 ?_)
    rw [if_pos (by simp)]
    refine Gives.bind_eq (r := e) rfl (Gives.epos rfl ?_)
    exact Gives.bind_eq sure_eq (Gives.of_some rfl)
end Go.Sx.YtankgmieldchdaaDoor.P
