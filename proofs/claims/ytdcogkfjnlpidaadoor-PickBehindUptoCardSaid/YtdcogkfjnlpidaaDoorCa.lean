/- Part of a proof by a small interpreter on plain values; no condition. -/
import Derived.Test.YtdcogkfjnlpidaaDoorSx23
import Derived.Test.YtdcogkfjnlpidaaDoorSx35
import Derived.Test.YtdcogkfjnlpidaaDoorDa
import Derived.Test.YtdcogkfjnlpidaaDoorProg
import Derived.WalkKit
import Derived.Lib.Walk
import Derived.Lib.Bytealg
namespace Go.Sx.YtdcogkfjnlpidaaDoor
open Go Go.Sx Go.Proofs Go.RowKit
set_option autoImplicit false
set_option linter.unusedVariables false
set_option maxRecDepth 100000

theorem w_stringsliteIndexByte (s : ByteArray) (c : Int) (w : World) : Calls Tryd.prog 39 #[.string s, .int .u8 c] w fun e w' => e = .returned (.int .i64 (Lib.indexByte s.data.toList c.toNat.toUInt8)) ∧ w' = w := by
  go_enter Tryd.func39, Tryd.ntmps39
  go_wp2
  rw [run_callFunc_extern Tryd.func46 (by kernel_rfl) (by kernel_rfl) (by kernel_rfl) (e := Extern.BytealgIndexByte.indexByte) (by kernel_rfl), Lib.run_indexByteString]
  simp only [Result.andThen]
  rw [Oper.upon_value]
  go_wp2
  go_ret
  exact ⟨rfl, rfl⟩

/-- what internal/stringslite.IndexByte comes to. -/
def liteIndexByte (n : Nat) (x : (List Int) × Int) : Option (Int) := some (ixb x.1 x.2)
def sp_liteIndexByte (n : Nat) : Spec := ⟨ixsPre, ixPost, liteIndexByte n⟩
theorem ok_liteIndexByte (n : Nat) : FnOK Tryd.prog 45 LD 39 (sp_liteIndexByte n) := ixStr_ok ⟨_, Tryd.func39, by kernel_rfl, by kernel_rfl⟩ w_stringsliteIndexByte
end Go.Sx.YtdcogkfjnlpidaaDoor
