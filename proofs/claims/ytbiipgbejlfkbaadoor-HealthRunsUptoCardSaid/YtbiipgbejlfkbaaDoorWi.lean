/- Part of a proof by a small interpreter on plain values; no condition. -/
import Derived.Test.YtbiipgbejlfkbaaDoorWh
namespace Go.Sx.YtbiipgbejlfkbaaDoor
open Go Go.Sx Go.Proofs
set_option autoImplicit false
theorem tx_of {x : List Int} (h : K.Ok .str x) (hl : x.length ≤ 1048576) : TX x := ⟨h.2, Nat.le_trans hl (by decide)⟩
theorem bulk_fst {a : K} {x : (K.pair .str a).T} {m : Nat} (h : K.bulk (.pair .str a) x + m ≤ 1048576) : List.length x.1 ≤ 1048576 := by
  have h' : List.length x.1 + 1 + a.bulk x.2 + m ≤ 1048576 := h
  omega
end Go.Sx.YtbiipgbejlfkbaaDoor
