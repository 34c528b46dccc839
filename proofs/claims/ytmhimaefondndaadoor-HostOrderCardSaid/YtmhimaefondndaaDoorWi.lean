/- Part of a proof by a small interpreter on plain values; no condition. -/
import Derived.Test.YtmhimaefondndaaDoorWh
namespace Go.Sx.YtmhimaefondndaaDoor
open Go Go.Sx Go.Proofs
set_option autoImplicit false
/-- an argument of a law is a text of bytes that can be. -/
theorem tx_of {P : Program} {d : Nat} {t : TypeId} {x : List Int} (h : K.Ok .str x) (hs : SzK P (d + 1) t .str x) : TX x :=
  ⟨h.2, Nat.le_trans (show List.length x ≤ reachBytes from hs) (by decide)⟩
end Go.Sx.YtmhimaefondndaaDoor
