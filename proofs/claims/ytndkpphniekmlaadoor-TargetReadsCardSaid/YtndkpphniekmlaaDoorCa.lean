/- Part of a proof by a small interpreter on plain values; no condition. -/
import Derived.Test.YtndkpphniekmlaaDoorSx23
import Derived.Test.YtndkpphniekmlaaDoorSa
import Derived.Test.YtndkpphniekmlaaDoorSx28
import Derived.Test.YtndkpphniekmlaaDoorSx29
import Derived.Test.YtndkpphniekmlaaDoorSx27
import Derived.Test.YtndkpphniekmlaaDoorProg
import Derived.WalkKit
import Derived.Lib.Walk
import Derived.Lib.Bytealg
import Derived.Shelf.Strings.Builder1
namespace Go.Sx.YtndkpphniekmlaaDoor
open Go Go.Sx Go.Proofs Go.RowKit
set_option autoImplicit false
set_option linter.unusedVariables false
set_option maxRecDepth 100000

theorem w_stringsliteIndexByte (s : ByteArray) (c : Int) (w : World) : Calls Tryd.prog 74 #[.string s, .int .u8 c] w fun e w' => e = .returned (.int .i64 (Lib.indexByte s.data.toList c.toNat.toUInt8)) ∧ w' = w := by
  go_enter Tryd.func74, Tryd.ntmps74
  go_wp2
  rw [run_callFunc_extern Tryd.func88 (by kernel_rfl) (by kernel_rfl) (by kernel_rfl) (e := Extern.BytealgIndexByte.indexByte) (by kernel_rfl), Lib.run_indexByteString]
  simp only [Result.andThen]
  rw [Oper.upon_value]
  go_wp2
  go_ret
  exact ⟨rfl, rfl⟩
theorem w_stringsIndexByte (s : ByteArray) (c : Int) (w : World) : Calls Tryd.prog 54 #[.string s, .int .u8 c] w fun e w' => e = .returned (.int .i64 (Lib.indexByte s.data.toList c.toNat.toUInt8)) ∧ w' = w := by
  go_enter Tryd.func54, Tryd.ntmps54
  go_wp2_with (go_at_call 74; refine (w_stringsliteIndexByte _ _ _).mono ?_; rintro e w' ⟨rfl, rfl⟩)
  go_ret
  exact ⟨rfl, rfl⟩
/-- what strings.IndexByte comes to. -/
def stringsIndexByte (n : Nat) (x : (List Int) × Int) : Option (Int) := some (ixb x.1 x.2)
def sp_stringsIndexByte (n : Nat) : Spec := ⟨ixsPre, ixPost, stringsIndexByte n⟩
theorem ok_stringsIndexByte (n : Nat) : FnOK Tryd.prog 50 LS 54 (sp_stringsIndexByte n) := ixStr_ok ⟨_, Tryd.func54, by kernel_rfl, by kernel_rfl⟩ w_stringsIndexByte

/-- what internal/stringslite.IndexByte comes to. -/
def liteIndexByte (n : Nat) (x : (List Int) × Int) : Option (Int) := some (ixb x.1 x.2)
def sp_liteIndexByte (n : Nat) : Spec := ⟨ixsPre, ixPost, liteIndexByte n⟩
theorem ok_liteIndexByte (n : Nat) : FnOK Tryd.prog 50 LS 74 (sp_liteIndexByte n) := ixStr_ok ⟨_, Tryd.func74, by kernel_rfl, by kernel_rfl⟩ w_stringsliteIndexByte

set_option maxHeartbeats 1000000 in
set_option maxRecDepth 100000 in
theorem w_stringsCount (s : ByteArray) (c : UInt8) (w : World) : Calls Tryd.prog 80 #[.string s, .string ⟨#[c]⟩] w fun e w' => e = .returned (.int .i64 (Lib.countByte s.data.toList c)) ∧ w' = w := by
  go_enter Tryd.func80, Tryd.ntmps80
  go_wp2
  rw [run_callFunc_extern Tryd.func91 (by kernel_rfl) (by kernel_rfl) (by kernel_rfl) (e := Extern.BytealgCount.count) (by kernel_rfl), Lib.run_countString]
  simp only [Result.andThen]
  rw [Oper.upon_value]
  go_wp2
  go_ret
  first | exact ⟨rfl, rfl⟩ | (refine ⟨?_, rfl⟩; simp)
/-- what strings.Count comes to, at a text of one byte. -/
def stringsCount (n : Nat) (x : (List Int) × List Int) : Option (Int) := cntRun x
def sp_stringsCount (n : Nat) : Spec := ⟨ssPre, ixPost, stringsCount n⟩
theorem ok_stringsCount (n : Nat) : FnOK Tryd.prog 50 LS 80 (sp_stringsCount n) := cntStr_ok ⟨_, Tryd.func80, by kernel_rfl, by kernel_rfl⟩ w_stringsCount

set_option maxHeartbeats 2000000 in
set_option maxRecDepth 100000 in
theorem w_bldCheckUsed (b : Nat) (w : World) (h0 : w.cell? ⟨b, 0, none⟩ = some (.pointer (some ⟨b, 0, none⟩))) :
    Calls Tryd.prog 61 #[.pointer (some ⟨b, 0, none⟩)] w fun e w' => e = .returned (.tuple #[]) ∧ w' = w := by
  obtain ⟨j, hj, _⟩ := Option.map_eq_some_iff.1 (by kernel_rfl : (Tryd.prog.info? 60).map (·.size) = some 2)
  go_enter Tryd.func61, Tryd.ntmps61
  go_wp2
  rw [Lib.run_neq_ptr_same w _ Tryd.underlying57 hj]
  go_wp2
  go_end0
  exact ⟨rfl, rfl⟩
set_option maxHeartbeats 2000000 in
set_option maxRecDepth 100000 in
theorem w_bldCheckFresh (b : Nat) (w : World) (h0 : w.cell? ⟨b, 0, none⟩ = some (.pointer none)) (hsh : w.shape? b = some (60, 2)) (hfz : w.frozen? ⟨b, 0, none⟩ = false) :
    Calls Tryd.prog 61 #[.pointer (some ⟨b, 0, none⟩)] w fun e w' => e = .returned (.tuple #[]) ∧ w' = w.setCell ⟨b, 0, none⟩ (.pointer (some ⟨b, 0, none⟩)) := by
  obtain ⟨j, hj, hjs⟩ := Option.map_eq_some_iff.1 (by kernel_rfl : (Tryd.prog.info? 60).map (·.size) = some 2)
  go_enter Tryd.func61, Tryd.ntmps61
  go_wp2
  rw [Lib.run_to_unsafe w ⟨b, 0, none⟩ Tryd.underlying57 Tryd.underlying98 hj (by rw [hjs]; decide) hsh (Nat.zero_lt_succ 1)]
  simp only [Result.andThen]
  rw [Oper.upon_value]
  go_wp2
  rw [run_callFunc_extern Tryd.func78 (by kernel_rfl) (by kernel_rfl) (by kernel_rfl) (e := Extern.AbiNoEscape.same) (by kernel_rfl)]
  rw [Lib.run_noEscape]
  simp only [Result.andThen]
  rw [Oper.upon_value]
  go_wp2
  rw [Lib.run_from_unsafe w ⟨b, 0, none⟩ Tryd.underlying98 Tryd.underlying57 hj hsh (by kernel_rfl)]
  simp only [Result.andThen]
  rw [Oper.upon_value]
  go_wp2
  go_end0
  exact ⟨rfl, rfl⟩
set_option maxHeartbeats 2000000 in
set_option maxRecDepth 100000 in
theorem w_bldString (b : Nat) (w w1 w2 : World) (A q : Option Addr) (n c : Nat) (s : ByteArray) (c0 : w.drew.cell? ⟨b, 1, none⟩ = some (.slice A n c)) (hSD : (Builtin.unsafeSliceData_ #[58] 87 #[.slice A n c]).run Tryd.prog w.drew = .ok (.pointer q) w1)
    (c2 : w1.cell? ⟨b, 1, none⟩ = some (.slice A n c)) (hUS : (Builtin.unsafeString_ #[87, 3] 9 #[.pointer q, .int .i64 n]).run Tryd.prog w1 = .ok (.string s) w2) :
    Calls Tryd.prog 39 #[.pointer (some ⟨b, 0, none⟩)] w fun e w' => e = .returned (.string s) ∧ w' = w2 := by
  go_enter Tryd.func39, Tryd.ntmps39
  go_wp2
  go_region
  all_goals (go_wp2; go_ret; exact ⟨rfl, rfl⟩)
/-- (*strings.Builder).copyCheck, String. -/
def bldCheck (n : Nat) (x : List Int) : Option (List Int) := some x
def sp_bldCheck (n : Nat) : Spec := ⟨bldPre 60 5, bldPost 60 5, bldCheck n⟩
theorem ok_bldCheck (n : Nat) : FnOK Tryd.prog 50 LS 61 (sp_bldCheck n) := bldCheck_ok ⟨_, Tryd.func61, by kernel_rfl, by kernel_rfl⟩ w_bldCheckUsed w_bldCheckFresh
def bldString (n : Nat) (x : List Int) : Option (List Int) := some x
def sp_bldString (n : Nat) : Spec := ⟨bldPre 60 5, strPost, bldString n⟩
theorem ok_bldString (n : Nat) : FnOK Tryd.prog 50 LS 39 (sp_bldString n) := bldString_ok ⟨_, Tryd.func39, by kernel_rfl, by kernel_rfl⟩ Tryd.underlying87 (by kernel_rfl) w_bldString

set_option maxHeartbeats 2000000 in
set_option maxRecDepth 1000000 in
theorem w_bldGrow0 (b n : Nat) (w : World) (fr : Nat × Nat) (hbk : w.heap[b]? = some (.cells #[.pointer (some ⟨b, 0, none⟩), .slice none 0 0] 60 fr)) (hu : Unf fr 2) (hn : n ≤ 281474976710656) :
    Calls Tryd.prog 65 #[.pointer (some ⟨b, 0, none⟩), .int .i64 n] w fun e w' => e = .returned (.tuple #[]) ∧ ∃ cs : Array Value, cs.toList.all Value.oneCell' = true ∧ w' = ((w.setCell ⟨b, 1, none⟩ (.slice (some ⟨w.heap.size, 0, none⟩) 0 cs.size)).alloc (.cells cs 5)).drew.drew.drew := by
  obtain ⟨cs, hrun, hle, hmax, hone⟩ := run_makeNoZero1 (P := Tryd.prog) w.drew #[3] 58 5 Tryd.underlying58 n hn
  have hw : IntKind.i64.wrap (IntKind.i64.wrap 0 + (n : Int)) = n := by
    rw [IntKind.wrap_i64, IntKind.wrap_i64]
    omega
  have hcall : (callFunc 84 #[.int .i64 (IntKind.i64.wrap (IntKind.i64.wrap 0 + (n : Int)))]).run Tryd.prog w.drew = .ok (.value (.slice (some ⟨w.drew.heap.size, 0, none⟩) n cs.size)) (w.drew.drew.drew.alloc (.cells cs 5)) := by
    rw [hw, run_callFunc_extern Tryd.func84 (by kernel_rfl) (by kernel_rfl) (by kernel_rfl) (e := Extern.BytealgMakeNoZero.makeNoZero #[3] #[58]) (by kernel_rfl), hrun]
    rfl
  have hlt : b < w.heap.size := by
    rcases Nat.lt_or_ge b w.heap.size with h' | h'
    · exact h'
    · simp [Array.getElem?_eq_none h'] at hbk
  have c1 : w.drew.cell? ⟨b, 1, none⟩ = some (.slice none 0 0) := by
    have : w.drew.heap[b]? = _ := hbk
    simp [World.cell?, this]
  have c2 : (w.alloc (.cells cs 5)).cell? ⟨b, 1, none⟩ = some (.slice none 0 0) := by
    have : (w.alloc (.cells cs 5)).heap[b]? = _ := (Lib.alloc_old w _ b hlt).trans hbk
    simp [World.cell?, this]
  have f2 : (w.alloc (.cells cs 5)).frozen? ⟨b, 1, none⟩ = false := by
    have : (w.alloc (.cells cs 5)).heap[b]? = _ := (Lib.alloc_old w _ b hlt).trans hbk
    simp only [World.frozen?, this]
    exact hu.at 1 (by omega)
  have hcopy : ∀ W : World, (Builtin.copy_ #[58, 58] 3 #[.slice (some ⟨w.heap.size, 0, none⟩) 0 cs.size, .slice none 0 0]).run Tryd.prog W = .ok (goInt 0) W :=
    fun W => run_copy_none W 58 58 3 5 _ _ 0 cs.size 0 0 Tryd.underlying58 (by kernel_rfl) rfl
  clear hw
  go_enter Tryd.func65, Tryd.ntmps65
  go_wp2
  go_region
  all_goals (go_wp2; go_end0; exact ⟨rfl, cs, hone, rfl⟩)
set_option maxHeartbeats 2000000 in
set_option maxRecDepth 1000000 in
theorem w_bldGrow (b n : Nat) (w : World) (fr : Nat × Nat) (hbk : w.heap[b]? = some (.cells #[.pointer none, .slice none 0 0] 60 fr)) (hu : Unf fr 2) (hn : n ≤ 281474976710656) :
    Calls Tryd.prog 45 #[.pointer (some ⟨b, 0, none⟩), .int .i64 n] w fun e w' => e = .returned (.tuple #[]) ∧ Grown b 5 w w' := by
  have hlt : b < w.heap.size := (Array.getElem?_eq_some_iff.1 hbk).1
  have h0 : w.cell? ⟨b, 0, none⟩ = some (.pointer none) := by simp [World.cell?, hbk]
  have hsh : w.shape? b = some (60, 2) := by simp [World.shape?, hbk]
  have hfz : w.frozen? ⟨b, 0, none⟩ = false := by simp only [World.frozen?, hbk]; exact hu.at 0 (by omega)
  have hat : (w.setCell ⟨b, 0, none⟩ (.pointer (some ⟨b, 0, none⟩))).heap[b]? = some (.cells #[.pointer (some ⟨b, 0, none⟩), .slice none 0 0] 60 fr) := by
    simp only [World.setCell, Array.getElem?_modify, if_true, hbk]
    rfl
  have hsz : (w.setCell ⟨b, 0, none⟩ (.pointer (some ⟨b, 0, none⟩))).heap.size = w.heap.size := by simp [World.setCell]
  have c1 : (w.setCell ⟨b, 0, none⟩ (.pointer (some ⟨b, 0, none⟩))).drew.cell? ⟨b, 1, none⟩ = some (.slice none 0 0) := by
    have : (w.setCell ⟨b, 0, none⟩ (.pointer (some ⟨b, 0, none⟩))).drew.heap[b]? = _ := hat
    simp [World.cell?, this]
  have hcc := w_bldCheckFresh b w h0 hsh hfz
  generalize hW : w.setCell ⟨b, 0, none⟩ (.pointer (some ⟨b, 0, none⟩)) = W at hat hsz c1 hcc
  have hos : W.os = w.os ∧ W.tape = w.tape ∧ W.output = w.output := by rw [← hW]; exact ⟨rfl, rfl, rfl⟩
  have hg := w_bldGrow0 b n W.drew fr hat hu hn
  have hlt : (decide (IntKind.i64.wrap 0 - 0 < (n : Int))) = decide ((0 : Int) < n) := by rw [IntKind.wrap_i64]; simp
  clear hbk h0 hsh hfz
  go_enter Tryd.func45, Tryd.ntmps45
  go_wp2_with (go_at_call 61; refine hcc.mono ?_; rintro e w' ⟨rfl, rfl⟩)
  go_region
  go_wp2_with (go_at_call 65; refine hg.mono ?_; rintro e2 w2 ⟨rfl, cs, hone, hw2⟩)
  · go_end0
    refine ⟨rfl, ?_⟩
    subst hw2
    refine ⟨hos.1, hos.2.1, hos.2.2, .inr ⟨cs, hone, ?_⟩⟩
    rw [hW, ← hsz]
    rfl
  · go_end0
    exact ⟨rfl, hos.1, hos.2.1, hos.2.2, .inl (by rw [hW]; rfl)⟩
/-- (*strings.Builder).Grow at a fresh builder. -/
def bldGrow (n : Nat) (x : Int) : Option (List Int) := growRun x
def sp_bldGrow (n : Nat) : Spec := ⟨growPre 60, bldPost 60 5, bldGrow n⟩
theorem ok_bldGrow (n : Nat) : FnOK Tryd.prog 50 LS 45 (sp_bldGrow n) := bldGrow_ok ⟨_, Tryd.func45, by kernel_rfl, by kernel_rfl⟩ w_bldGrow
end Go.Sx.YtndkpphniekmlaaDoor
