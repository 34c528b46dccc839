/- Part of a proof by a small interpreter on plain values; no condition. -/
import Derived.Test.YtmbakmdgmccgiaaDoorWf
/-! W06AB: whether a value is small; the law JsonSame. -/
namespace Go.Sx.YtmbakmdgmccgiaaDoor
open Go Go.Sx Go.Sx.Js
set_option autoImplicit false
set_option linter.unusedVariables false
set_option linter.unusedSimpArgs false
def one (v : JV) : DV := (v.kind, v.b, v.text, v.n, v.whole, v.list, v.names)
section
variable {n : Nat}
end
end Go.Sx.YtmbakmdgmccgiaaDoor
