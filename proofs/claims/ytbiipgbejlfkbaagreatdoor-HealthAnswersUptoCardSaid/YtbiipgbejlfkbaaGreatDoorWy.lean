/- Part of a proof by a small interpreter on plain values; no condition. -/
import Derived.Test.YtbiipgbejlfkbaaGreatDoorWx
namespace Go.Sx.YtbiipgbejlfkbaaGreatDoor
open Go Go.Sx Go.Proofs
set_option autoImplicit false
abbrev SK : K := .pair .bool (.pair (.int .i64) (.pair (.int .i64) (.pair (.int .i64) .unit)))
abbrev PK : K := .pair .str (.pair (.int .i64) (.pair (.int .i64) (.pair (.int .i64) (.pair (.int .i64) .unit))))
theorem i64_of {x : Int} (h : K.Ok (.int .i64) x) : I64 x := h
theorem tx_of {s : SK.T} {p : PK.T} {m : Nat} (h : PK.Ok p) (hb : SK.bulk s + (PK.bulk p + m) ≤ 1048576) : TX p.1 := by
  refine ⟨h.1.2, ?_⟩
  have hb' : SK.bulk s + ((List.length p.1 + 1 + K.bulk (.pair (.int .i64) (.pair (.int .i64) (.pair (.int .i64) (.pair (.int .i64) .unit)))) p.2) + m) ≤ 1048576 := hb
  omega
end Go.Sx.YtbiipgbejlfkbaaGreatDoor
