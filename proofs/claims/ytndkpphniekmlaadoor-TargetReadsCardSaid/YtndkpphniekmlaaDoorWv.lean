/- Part of a proof by a small interpreter on plain values; no condition. -/
import Derived.Test.YtndkpphniekmlaaDoorWx
namespace Go.Sx.YtndkpphniekmlaaDoor
open Go Go.Sx Go.Proofs
set_option autoImplicit false
/-- every text, however long. -/
theorem targetReads_all {s : List Int} (h : K.Ok .str s) : targetReads FU s = some true := by
  by_cases hl : s.length ≤ 65536
  · exact targetReads_f ⟨h.2, by omega⟩
  · have e1 : parse FU s = some (errT 2) := by
      unfold parse
      rw [if_pos (decide_eq_true (by omega))]; rfl
    have e2 : rParse FU s = some (errT 2) := by
      unfold rParse
      rw [if_pos (decide_eq_true (by omega))]; rfl
    unfold targetReads
    rw [e1, Option.bind_some, e2, Option.bind_some, if_pos (by rfl), num_v, Option.bind_some, if_pos (by rfl), works_v]
    rfl
end Go.Sx.YtndkpphniekmlaaDoor
