/- The constants, worked out. -/
import Derived.Test.YtankgmieldchdaaDoorW
import Derived.Test.YtankgmieldchdaaDoorSx20
namespace Go.Sx.YtankgmieldchdaaDoor
open Go Go.Sx
set_option maxRecDepth 1000000
abbrev FU : Nat := 281474976710700
theorem rFirst_eq : rFirst FU () = some cF := by kernel_rfl
theorem rConstants_eq : rConstants FU () = some cK := by kernel_rfl
theorem sure_eq : sure FU () = some true := by kernel_rfl
end Go.Sx.YtankgmieldchdaaDoor
