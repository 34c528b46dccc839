/- Part of a proof by a small interpreter on plain values; no condition. -/
import Derived.Test.YtmbakmdgmccgiabDoorSx23
import Derived.Test.YtmbakmdgmccgiabDoorSx28
import Derived.Test.YtmbakmdgmccgiabDoorSx36
import Derived.Test.YtmbakmdgmccgiabDoorRa
import Derived.Test.YtmbakmdgmccgiabDoorProg
import Derived.WalkKit
import Derived.Lib.Walk
import Derived.Lib.Bytealg
namespace Go.Sx.YtmbakmdgmccgiabDoor
open Go Go.Sx Go.Proofs Go.RowKit
set_option autoImplicit false
set_option linter.unusedVariables false
set_option maxRecDepth 100000

theorem w_stringsliteIndexByte (s : ByteArray) (c : Int) (w : World) : Calls Tryd.prog 59 #[.string s, .int .u8 c] w fun e w' => e = .returned (.int .i64 (Lib.indexByte s.data.toList c.toNat.toUInt8)) ∧ w' = w := by
  go_enter Tryd.func59, Tryd.ntmps59
  go_wp2
  rw [run_callFunc_extern Tryd.func60 (by kernel_rfl) (by kernel_rfl) (by kernel_rfl) (e := Extern.BytealgIndexByte.indexByte) (by kernel_rfl), Lib.run_indexByteString]
  simp only [Result.andThen]
  rw [Oper.upon_value]
  go_wp2
  go_ret
  exact ⟨rfl, rfl⟩
theorem w_stringsIndexByte (s : ByteArray) (c : Int) (w : World) : Calls Tryd.prog 56 #[.string s, .int .u8 c] w fun e w' => e = .returned (.int .i64 (Lib.indexByte s.data.toList c.toNat.toUInt8)) ∧ w' = w := by
  go_enter Tryd.func56, Tryd.ntmps56
  go_wp2_with (go_at_call 59; refine (w_stringsliteIndexByte _ _ _).mono ?_; rintro e w' ⟨rfl, rfl⟩)
  go_ret
  exact ⟨rfl, rfl⟩
/-- what strings.IndexByte comes to. -/
def stringsIndexByte (n : Nat) (x : (List Int) × Int) : Option (Int) := some (ixb x.1 x.2)
def sp_stringsIndexByte (n : Nat) : Spec := ⟨ixsPre, ixPost, stringsIndexByte n⟩
theorem ok_stringsIndexByte (n : Nat) : FnOK Tryd.prog 46 LS 56 (sp_stringsIndexByte n) := ixStr_ok ⟨_, Tryd.func56, by kernel_rfl, by kernel_rfl⟩ w_stringsIndexByte

set_option maxHeartbeats 2000000 in
set_option maxRecDepth 100000 in
theorem w_bldCheckUsed (b : Nat) (w : World) (h0 : w.cell? ⟨b, 0, none⟩ = some (.pointer (some ⟨b, 0, none⟩))) :
    Calls Tryd.prog 38 #[.pointer (some ⟨b, 0, none⟩)] w fun e w' => e = .returned (.tuple #[]) ∧ w' = w := by
  obtain ⟨j, hj, _⟩ := Option.map_eq_some_iff.1 (by kernel_rfl : (Tryd.prog.info? 43).map (·.size) = some 2)
  go_enter Tryd.func38, Tryd.ntmps38
  go_wp2
  rw [Lib.run_neq_ptr_same w _ Tryd.underlying41 hj]
  go_wp2
  go_end0
  exact ⟨rfl, rfl⟩
set_option maxHeartbeats 2000000 in
set_option maxRecDepth 100000 in
theorem w_bldCheckFresh (b : Nat) (w : World) (h0 : w.cell? ⟨b, 0, none⟩ = some (.pointer none)) (hsh : w.shape? b = some (43, 2)) (hfz : w.frozen? ⟨b, 0, none⟩ = false) :
    Calls Tryd.prog 38 #[.pointer (some ⟨b, 0, none⟩)] w fun e w' => e = .returned (.tuple #[]) ∧ w' = w.setCell ⟨b, 0, none⟩ (.pointer (some ⟨b, 0, none⟩)) := by
  obtain ⟨j, hj, hjs⟩ := Option.map_eq_some_iff.1 (by kernel_rfl : (Tryd.prog.info? 43).map (·.size) = some 2)
  go_enter Tryd.func38, Tryd.ntmps38
  go_wp2
  rw [Lib.run_to_unsafe w ⟨b, 0, none⟩ Tryd.underlying41 Tryd.underlying82 hj (by rw [hjs]; decide) hsh (Nat.zero_lt_succ 1)]
  simp only [Result.andThen]
  rw [Oper.upon_value]
  go_wp2
  rw [run_callFunc_extern Tryd.func48 (by kernel_rfl) (by kernel_rfl) (by kernel_rfl) (e := Extern.AbiNoEscape.same) (by kernel_rfl)]
  rw [Lib.run_noEscape]
  simp only [Result.andThen]
  rw [Oper.upon_value]
  go_wp2
  rw [Lib.run_from_unsafe w ⟨b, 0, none⟩ Tryd.underlying82 Tryd.underlying41 hj hsh (by kernel_rfl)]
  simp only [Result.andThen]
  rw [Oper.upon_value]
  go_wp2
  go_end0
  exact ⟨rfl, rfl⟩
set_option maxHeartbeats 2000000 in
set_option maxRecDepth 100000 in
theorem w_bldString (b : Nat) (w w1 w2 : World) (A q : Option Addr) (n c : Nat) (s : ByteArray) (c0 : w.drew.cell? ⟨b, 1, none⟩ = some (.slice A n c)) (hSD : (Builtin.unsafeSliceData_ #[33] 65 #[.slice A n c]).run Tryd.prog w.drew = .ok (.pointer q) w1)
    (c2 : w1.cell? ⟨b, 1, none⟩ = some (.slice A n c)) (hUS : (Builtin.unsafeString_ #[65, 3] 9 #[.pointer q, .int .i64 n]).run Tryd.prog w1 = .ok (.string s) w2) :
    Calls Tryd.prog 14 #[.pointer (some ⟨b, 0, none⟩)] w fun e w' => e = .returned (.string s) ∧ w' = w2 := by
  go_enter Tryd.func14, Tryd.ntmps14
  go_wp2
  go_region
  all_goals (go_wp2; go_ret; exact ⟨rfl, rfl⟩)
/-- (*strings.Builder).copyCheck, String. -/
def bldCheck (n : Nat) (x : List Int) : Option (List Int) := some x
def sp_bldCheck (n : Nat) : Spec := ⟨bldPre 43 5, bldPost 43 5, bldCheck n⟩
theorem ok_bldCheck (n : Nat) : FnOK Tryd.prog 46 LS 38 (sp_bldCheck n) := bldCheck_ok ⟨_, Tryd.func38, by kernel_rfl, by kernel_rfl⟩ w_bldCheckUsed w_bldCheckFresh
def bldString (n : Nat) (x : List Int) : Option (List Int) := some x
def sp_bldString (n : Nat) : Spec := ⟨bldPre 43 5, strPost, bldString n⟩
theorem ok_bldString (n : Nat) : FnOK Tryd.prog 46 LS 14 (sp_bldString n) := bldString_ok ⟨_, Tryd.func14, by kernel_rfl, by kernel_rfl⟩ Tryd.underlying65 (by kernel_rfl) w_bldString
end Go.Sx.YtmbakmdgmccgiabDoor
