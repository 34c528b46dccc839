/- Part of a proof by a small interpreter on plain values; no condition. -/
import Derived.Test.YtojecfdacijcaaaSx22
import Derived.Test.YtojecfdacijcaaaProg
import Derived.WalkKit
import Derived.Lib.Walk
import Derived.Lib.Bytealg
namespace Go.Sx.Ytojecfdacijcaaa
open Go Go.Sx Go.Proofs Go.RowKit
set_option autoImplicit false
set_option linter.unusedVariables false

theorem w_bytesIndexByte (u : Value) (c r : Int) (w : World) (h : (Extern.BytealgIndexByte.indexByte #[u, .int .u8 c]).run Try.prog w = .ok (.int .i64 r) w) : Calls Try.prog 31 #[u, .int .u8 c] w fun e w' => e = .returned (.int .i64 r) ∧ w' = w := by
  go_enter Try.func31, Try.ntmps31
  go_wp2
  rw [run_callFunc_extern Try.func32 (by kernel_rfl) (by kernel_rfl) (by kernel_rfl) (e := Extern.BytealgIndexByte.indexByte) (by kernel_rfl), h]
  simp only [Result.andThen]
  rw [Oper.upon_value]
  go_wp2
  go_ret
  exact ⟨rfl, rfl⟩
/-- what bytes.IndexByte comes to. -/
def bytesIndexByte (n : Nat) (x : (List Int) × Int) : Option (Int) := some (ixb x.1 x.2)
def sp_bytesIndexByte (n : Nat) : Spec := ⟨ixPre, ixPost, bytesIndexByte n⟩
theorem ok_bytesIndexByte (n : Nat) : FnOK Try.prog 54 L0 31 (sp_bytesIndexByte n) := ixSlice_ok ⟨_, Try.func31, by kernel_rfl, by kernel_rfl⟩ w_bytesIndexByte
end Go.Sx.Ytojecfdacijcaaa
