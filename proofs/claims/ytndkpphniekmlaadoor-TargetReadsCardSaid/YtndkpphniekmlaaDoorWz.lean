/- Part of a proof by a small interpreter on plain values; no condition. -/
import Derived.Test.YtndkpphniekmlaaDoorWy
namespace Go.Sx.YtndkpphniekmlaaDoor
open Go Go.Sx Go.Proofs
set_option autoImplicit false
theorem tx_of {x : List Int} (h : K.Ok .str x) (hl : x.length ≤ 1048576) : TX x := ⟨h.2, Nat.le_trans hl (by decide)⟩
theorem bulk_one {x : (K.str).T} {m : Nat} (h : K.bulk .str x + m ≤ 1048576) : List.length x ≤ 1048576 := by
  have h' : List.length x + 1 + m ≤ 1048576 := h
  omega
end Go.Sx.YtndkpphniekmlaaDoor
