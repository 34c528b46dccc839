/- Part of a proof by a small interpreter on plain values; no condition. -/
import Derived.Test.YtmbakmdgmccgiabDoorSx37
import Derived.Test.YtmbakmdgmccgiabDoorProg
import Derived.WalkKit
namespace Go.Proofs
open Go.Shelf
def Tryd.laysValid_ren : Go.Shelf.Ren := ⟨fun | 196 => 35 | 259 => 46 | n => n, fun | 9 => 9 | 4 => 4 | 3 => 3 | 5 => 5 | 12 => 12 | 119 => 77 | 0 => 0 | 46 => 72 | 139 => 80 | 138 => 79 | 53 => 88 | n => n, fun | 3 => 0 | 4 => 1 | n => n⟩
theorem Tryd.laysValid : Go.Proofs.Lays.n196 Tryd.prog Tryd.laysValid_ren := {
  mixed := by kernel_rfl,
  f196 := Tryd.func35.trans (congrArg some (by kernel_rfl)),
  f259 := Tryd.func46.trans (congrArg some (by kernel_rfl)),
  t0 := Tryd.underlying0,
  a0 := Tryd.isAgg0,
  z0 := Tryd.sizeOf0,
  v0 := Tryd.zeroValue0,
  t3 := Tryd.underlying3,
  a3 := Tryd.isAgg3,
  z3 := Tryd.sizeOf3,
  v3 := Tryd.zeroValue3,
  t4 := Tryd.underlying4,
  a4 := Tryd.isAgg4,
  z4 := Tryd.sizeOf4,
  v4 := Tryd.zeroValue4,
  t5 := Tryd.underlying5,
  a5 := Tryd.isAgg5,
  z5 := Tryd.sizeOf5,
  v5 := Tryd.zeroValue5,
  t9 := Tryd.underlying9,
  a9 := Tryd.isAgg9,
  z9 := Tryd.sizeOf9,
  v9 := Tryd.zeroValue9,
  t12 := Tryd.underlying12,
  a12 := Tryd.isAgg12,
  z12 := Tryd.sizeOf12,
  v12 := Tryd.zeroValue12,
  t46 := Tryd.underlying72,
  a46 := Tryd.isAgg72,
  z46 := Tryd.sizeOf72,
  v46 := Tryd.zeroValue72,
  t53 := Tryd.underlying88,
  a53 := Tryd.isAgg88,
  z53 := Tryd.sizeOf88,
  v53 := Tryd.zeroValue88,
  t119 := Tryd.underlying77,
  a119 := Tryd.isAgg77,
  z119 := Tryd.sizeOf77,
  t138 := Tryd.underlying79,
  a138 := Tryd.isAgg79,
  z138 := Tryd.sizeOf79,
  v138 := Tryd.zeroValue79,
  t139 := Tryd.underlying80,
  a139 := Tryd.isAgg80,
  z139 := Tryd.sizeOf80,
  v139 := Tryd.zeroValue80,
  g3 := by kernel_rfl,
  g4 := by kernel_rfl }
end Go.Proofs
namespace Go.Sx.YtmbakmdgmccgiabDoor
open Go Go.Sx Go.Proofs Go.RowKit Go.Shelf
set_option autoImplicit false
/-- what the library's tables hold. -/
def XS (w : World) : Prop := Lib.Utf8Tabs 0 1 w
def LS (R : Part) : Prop := ∀ w : World, (∀ b o, R b = some o → w.heap[b]? = some o) → XS w
theorem LS_get : ∀ R : Part, LS R → ∀ w : World, (∀ b o, R b = some o → w.heap[b]? = some o) → XS w := fun _ h => h
theorem LS_ob : ∀ R R' : Part, R.ob = R'.ob → LS R → LS R' := fun R R' e h w hw => h w (by rw [e]; exact hw)
theorem c_valid (s : ByteArray) (w : World) (hs : s.size ≤ 9223372036854775807) (hX : XS w) : Calls Tryd.prog 35 #[.string s] w fun e w' => e = .returned (.bool (Lib.validD s.data.toList)) ∧ Below w.heap.size w w' :=
  Any.utf8_ValidString Tryd.laysValid s w hs hX
/-- utf8.ValidString. -/
def strValid (_n : Nat) (x : List Int) : Option Bool := validRun x
def sp_strValid (n : Nat) : Spec := ⟨ssPre1, blPost, strValid n⟩
theorem ok_strValid (n : Nat) : FnOK Tryd.prog 46 LS 35 (sp_strValid n) := valid_ok ⟨_, Tryd.func35, by kernel_rfl, by kernel_rfl⟩ LS_get c_valid
end Go.Sx.YtmbakmdgmccgiabDoor
