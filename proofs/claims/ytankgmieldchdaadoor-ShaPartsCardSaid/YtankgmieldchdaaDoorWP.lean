/- Part of a proof by a small interpreter on plain values; no condition. -/
import Derived.Test.YtankgmieldchdaaDoorSx25
import Derived.Test.YtankgmieldchdaaDoorD
import Derived.Test.YtankgmieldchdaaDoorW
import Derived.Test.YtankgmieldchdaaDoorProg
/-! written by program: the functions as plain ones, and their contracts. -/
namespace Go.Sx.YtankgmieldchdaaDoor.P
open Go.Sx.YtankgmieldchdaaDoor
open Go Go.Sx Go.Proofs
set_option autoImplicit false
set_option maxRecDepth 100000
set_option linter.unusedVariables false
theorem mixed : Tryd.prog.follows .mixedOrders = true := by kernel_rfl
theorem _root_.Go.Sx.FnOK.weaken {P : Program} {E : TypeId} {L L2 : Part → Prop} {f : FuncId} {sp : Spec} (h : FnOK P E L f sp) (hl : ∀ R, L2 R → L R) : FnOK P E L2 f sp :=
  ⟨h.enters, fun x y W0 R0 g0 vals h1 h2 h3 => h.ok x y W0 R0 g0 vals h1 h2 fun R hR => hl R (h3 R hR)⟩
/-- what all listed variables hold. -/
def LP (R : Part) : Prop := LD R ∧ LG R
theorem ok_schedule (n : Nat) : FnOK Tryd.prog 57 LP 16 (sp_schedule n) := (Go.Sx.YtankgmieldchdaaDoor.ok_schedule n).weaken fun _ h => h.2
theorem ok_rSchedule (n : Nat) : FnOK Tryd.prog 57 LP 17 (sp_rSchedule n) := (Go.Sx.YtankgmieldchdaaDoor.ok_rSchedule n).weaken fun _ h => h.2
theorem ok_pad (n : Nat) : FnOK Tryd.prog 57 LP 18 (sp_pad n) := (Go.Sx.YtankgmieldchdaaDoor.ok_pad n).weaken fun _ h => h.2
theorem ok_rPad (n : Nat) : FnOK Tryd.prog 57 LP 19 (sp_rPad n) := (Go.Sx.YtankgmieldchdaaDoor.ok_rPad n).weaken fun _ h => h.2
theorem ok_sure (n : Nat) : FnOK Tryd.prog 57 LP 14 (sp_sure n) := (Go.Sx.YtankgmieldchdaaDoor.ok_sure n).weaken fun _ h => h.2
theorem ok_num (n : Nat) : FnOK Tryd.prog 57 LP 20 (sp_num n) := (Go.Sx.YtankgmieldchdaaDoor.ok_num n).weaken fun _ h => h.1
def pre_shaParts : Shape := ⟨[.sg [.blk (.arr 64 (.int .u8))], .c (.dat (.int .i64))], []⟩
def post_shaParts : List Shape := [⟨[.c (.dat .bool)], []⟩]
def ann_shaParts : Ann := (.two .no (.two .no (.two .no (.two (.two .no (.one (.loop ⟨[1, 5, 6, 7], ⟨[.c (.dat (.int .i64)), .c (.arr 500 1), .c (.dat (.list (.int .u32))), .c (.dat (.int .i64))], [(500, .row 38 (.int .u32))]⟩⟩ .no))) .no))))
/-- what turnstile/turnstilelaw03.ShaParts comes to. -/
def shaParts (n : Nat) (x : (List Int) × Int) : Option (Bool) :=
  match x with
  | (x1, x2) =>
  (if 64 = x1.length then
  (if 64 = x1.length then
  (Option.bind (schedule n x1) fun r3 =>
  (if 64 = 64 ∧ 64 = r3.length then
  (if 64 = x1.length then
  (Option.bind (rSchedule n ((x1.drop 0).take (64 - 0))) fun r4 =>
  (loopF (X := Int × (List Int) × Int × List Int) (A := Bool) (fun rec5 y6 => match y6 with
  | (a7, (a8, (a9, a10))) =>
  (if (decide (a9 < (64 : Int))) = true then
  (if 64 = a10.length then
  (if 0 ≤ a9 ∧ a9 < (a10.length : Int) then
  (Option.bind (idx a8 a9) fun v11 =>
  (if ((a10.getD a9.toNat (0 : Int)) != v11) = true then
  some false
  else
  rec5 (a7, (a8, ((IntKind.wrap .i64 (a9 + (1 : Int))), a10)))))
  else none)
  else none)
  else
  (Option.bind (pad n a7) fun r12 =>
  (Option.bind (rPad n a7) fun r13 =>
  (if (r12.1 == r13.1) = true then
  (Option.bind (num n r12.2) fun r14 =>
  (if (r14 == r13.2) = true then
  (Option.bind (sure n ()) fun r15 =>
  some r15)
  else
  some false))
  else
  some false))))) n (x2, (r4, ((0 : Int), r3)))))
  else none)
  else none))
  else none)
  else none)
def sp_shaParts (n : Nat) : Spec := ⟨pre_shaParts, post_shaParts, shaParts n⟩
def env_shaParts (n : Nat) : List (FuncId × Spec) := [(16, sp_schedule n), (17, sp_rSchedule n), (18, sp_pad n), (19, sp_rPad n), (20, sp_num n), (14, sp_sure n)]
theorem run_shaParts (n : Nat) (x : pre_shaParts.T) : fnRun Tryd.prog 57 (envG (env_shaParts n) [] (fun _ => none)) n Tryd.f5 ann_shaParts pre_shaParts post_shaParts x = shaParts n x := by kernel_rfl
theorem ok_shaParts (n : Nat) : FnOK Tryd.prog 57 LP 5 (sp_shaParts n) :=
  fn_run mixed Tryd.func5 (sp_shaParts n) n ann_shaParts (env_shaParts n) (envOf_cons (ok_schedule n) (envOf_cons (ok_rSchedule n) (envOf_cons (ok_pad n) (envOf_cons (ok_rPad n) (envOf_cons (ok_num n) (envOf_cons (ok_sure n) envOf_nil)))))) [] (fun _ => none) gl_none (run_shaParts n) (by kernel_rfl)
end Go.Sx.YtankgmieldchdaaDoor.P
