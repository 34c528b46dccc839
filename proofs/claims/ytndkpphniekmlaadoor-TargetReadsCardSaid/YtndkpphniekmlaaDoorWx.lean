/- Part of a proof by a small interpreter on plain values; no condition. -/
import Derived.Test.YtndkpphniekmlaaDoorWz
import Derived.Test.YtndkpphniekmlaaDoorWm
namespace Go.Sx.YtndkpphniekmlaaDoor
open Go Go.Sx Go.Proofs
set_option autoImplicit false
abbrev TK : K := .pair (.int .i64) (.pair .str (.pair .str (.pair .str (.pair .bool .unit))))
theorem tells_ok {x : TK.T} {m : Nat} (h : TK.Ok x) (hb : TK.bulk x + m ≤ 1048576) : TY x.2.1 ∧ TY x.2.2.1 ∧ TY x.2.2.2.1 := by
  have hb' : 1 + (List.length x.2.1 + 1 + (List.length x.2.2.1 + 1 + (List.length x.2.2.2.1 + 1 + TK.bulk (0, ([], ([], ([], x.2.2.2.2)))) * 0))) ≤ 1048576 + 1 := by
    have h1 : K.bulk (.int .i64) x.1 + (List.length x.2.1 + 1 + (List.length x.2.2.1 + 1 + (List.length x.2.2.2.1 + 1 + K.bulk (.pair .bool .unit) x.2.2.2.2))) + m ≤ 1048576 := hb
    omega
  exact ⟨⟨h.2.1.2, by omega⟩, ⟨h.2.2.1.2, by omega⟩, ⟨h.2.2.2.1.2, by omega⟩⟩
theorem two_m {x : (K.str).T} {m : Nat} (h : K.bulk .str x + m ≤ 1048576) : List.length x ≤ 2000000 := by have := bulk_one h; omega
end Go.Sx.YtndkpphniekmlaaDoor
