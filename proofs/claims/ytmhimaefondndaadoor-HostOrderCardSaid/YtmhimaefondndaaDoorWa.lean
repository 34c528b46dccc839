/- Part of a proof by a small interpreter on plain values; no condition. -/
import Derived.Test.YtmhimaefondndaaDoorCa
import Derived.Test.YtmhimaefondndaaDoorProg
/-! written by program: the functions as plain ones, and their contracts. -/
namespace Go.Sx.YtmhimaefondndaaDoor
open Go Go.Sx Go.Proofs
set_option autoImplicit false
set_option maxRecDepth 100000
set_option linter.unusedVariables false
theorem mixed : Tryd.prog.follows .mixedOrders = true := by kernel_rfl
def pre_turnstilelaw16Num : Shape := ⟨[.c (.dat .err)], []⟩
def post_turnstilelaw16Num : List Shape := [⟨[.c (.dat (.int .i64))], []⟩]
def ann_turnstilelaw16Num : Ann := .no
/-- what turnstile/turnstilelaw16.num comes to. -/
def turnstilelaw16Num (n : Nat) (x : Int) : Option (Int) :=
  (if (x == (0 : Int)) = true then
  some (0 : Int)
  else
  (if (!(x != 0)) = true then
  some (-1 : Int)
  else
  some x))
def sp_turnstilelaw16Num (n : Nat) : Spec := ⟨pre_turnstilelaw16Num, post_turnstilelaw16Num, turnstilelaw16Num n⟩
def env_turnstilelaw16Num (n : Nat) : List (FuncId × Spec) := []
theorem run_turnstilelaw16Num (n : Nat) (x : pre_turnstilelaw16Num.T) : fnRun Tryd.prog 72 (envG (env_turnstilelaw16Num n) [] (fun _ => none)) n Tryd.f12 ann_turnstilelaw16Num pre_turnstilelaw16Num post_turnstilelaw16Num x = turnstilelaw16Num n x := by kernel_rfl
theorem ok_turnstilelaw16Num (n : Nat) : FnOK Tryd.prog 72 L0 12 (sp_turnstilelaw16Num n) :=
  fn_run mixed Tryd.func12 (sp_turnstilelaw16Num n) n ann_turnstilelaw16Num (env_turnstilelaw16Num n) envOf_nil [] (fun _ => none) gl_none (run_turnstilelaw16Num n) (by kernel_rfl)
def pre_tnew : Shape := ⟨[], []⟩
def post_tnew : List Shape := [⟨[.c (.ptr 0 0)], [(0, .cells 79 [.own 1, .own 2]), (1, .mp (.pair .str (.pair .bool .unit)) (.int .i64)), (2, .row 81 (.pair .str (.pair .bool .unit)))]⟩]
def ann_tnew : Ann := .no
/-- what turnstile/host.New comes to. -/
def tnew (n : Nat) (x : Unit) : Option ((List ((List Int × (Bool × Unit)) × Int)) × List (List Int × (Bool × Unit))) :=
  (let u1 : List ((List Int × (Bool × Unit)) × Int) := ([] : List ((List Int × (Bool × Unit)) × Int))
  some (u1, ([] : List (List Int × (Bool × Unit)))))
def sp_tnew (n : Nat) : Spec := ⟨pre_tnew, post_tnew, tnew n⟩
def env_tnew (n : Nat) : List (FuncId × Spec) := []
theorem run_tnew (n : Nat) (x : pre_tnew.T) : fnRun Tryd.prog 72 (envG (env_tnew n) [] (fun _ => none)) n Tryd.f16 ann_tnew pre_tnew post_tnew x = tnew n x := by kernel_rfl
theorem ok_tnew (n : Nat) : FnOK Tryd.prog 72 L0 16 (sp_tnew n) :=
  fn_run mixed Tryd.func16 (sp_tnew n) n ann_tnew (env_tnew n) envOf_nil [] (fun _ => none) gl_none (run_tnew n) (by kernel_rfl)
def pre_tall : Shape := ⟨[.c (.ptr 0 0)], [(0, .cells 79 [.own 1, .own 2]), (1, .mp (.pair .str (.pair .bool .unit)) (.int .i64)), (2, .row 81 (.pair .str (.pair .bool .unit)))]⟩
def post_tall : List Shape := [⟨[.c (.dat (.list .str))], [(0, .cells 79 [.own 1, .own 2]), (1, .mp (.pair .str (.pair .bool .unit)) (.int .i64)), (2, .row 81 (.pair .str (.pair .bool .unit)))]⟩]
def ann_tall : Ann := (.two .no (.two .no (.two .no (.two (.two .no (.one (.loop ⟨[3, 11, 12, 13], ⟨[.c (.own 501), .c (.own 500), .c (.dat (.int .i64)), .c (.dat (.int .i64))], [(500, .row 81 (.pair .str (.pair .bool .unit))), (0, .cells 79 [.own 1, .own 500]), (1, .mp (.pair .str (.pair .bool .unit)) (.int .i64)), (501, .row 9 .str)]⟩⟩ .no))) .no))))
/-- what (turnstile/host.Table).All comes to. -/
def tall (n : Nat) (x : (List ((List Int × (Bool × Unit)) × Int)) × List (List Int × (Bool × Unit))) : Option ((List (List Int)) × (List ((List Int × (Bool × Unit)) × Int)) × List (List Int × (Bool × Unit))) :=
  match x with
  | (x1, x2) =>
  (loopF (X := Int × Int × (List (List Int × (Bool × Unit))) × (List ((List Int × (Bool × Unit)) × Int)) × List (List Int)) (A := (List (List Int)) × (List ((List Int × (Bool × Unit)) × Int)) × List (List Int × (Bool × Unit))) (fun rec3 y4 => match y4 with
  | (a5, (a6, (a7, (a8, a9)))) =>
  (if (decide (a6 < a5)) = true then
  (if 0 ≤ a6 ∧ a6 < (a7.length : Int) then
  (let u10 : List Int := (a7.getD a6.toNat (([] : List Int), (false, ()))).1
  (if (a9.length + 1) * 16 ≤ 140737488355328 then
  rec3 (a5, ((IntKind.wrap .i64 (a6 + (1 : Int))), (a7, (a8, (a9 ++ ([u10] : List (List Int)))))))
  else none))
  else none)
  else
  some (a9, (a8, a7)))) n ((x2.length : Int), ((0 : Int), (x2, (x1, ([] : List (List Int)))))))
def sp_tall (n : Nat) : Spec := ⟨pre_tall, post_tall, tall n⟩
def env_tall (n : Nat) : List (FuncId × Spec) := []
theorem run_tall (n : Nat) (x : pre_tall.T) : fnRun Tryd.prog 72 (envG (env_tall n) [] (fun _ => none)) n Tryd.f19 ann_tall pre_tall post_tall x = tall n x := by kernel_rfl
theorem ok_tall (n : Nat) : FnOK Tryd.prog 72 L0 19 (sp_tall n) :=
  fn_run mixed Tryd.func19 (sp_tall n) n ann_tall (env_tall n) envOf_nil [] (fun _ => none) gl_none (run_tall n) (by kernel_rfl)
def pre_tallN : Shape := ⟨[.c (.nilp)], []⟩
def post_tallN : List Shape := [⟨[.c (.dat (.list .str))], []⟩]
def ann_tallN : Ann := .no
/-- what (turnstile/host.Table).All comes to. -/
def tallN (n : Nat) (x : Unit) : Option (List (List Int)) :=
  some ([] : List (List Int))
def sp_tallN (n : Nat) : Spec := ⟨pre_tallN, post_tallN, tallN n⟩
def env_tallN (n : Nat) : List (FuncId × Spec) := []
theorem run_tallN (n : Nat) (x : pre_tallN.T) : fnRun Tryd.prog 72 (envG (env_tallN n) [] (fun _ => none)) n Tryd.f19 ann_tallN pre_tallN post_tallN x = tallN n x := by kernel_rfl
theorem ok_tallN (n : Nat) : FnOK Tryd.prog 72 L0 19 (sp_tallN n) :=
  fn_run mixed Tryd.func19 (sp_tallN n) n ann_tallN (env_tallN n) envOf_nil [] (fun _ => none) gl_none (run_tallN n) (by kernel_rfl)
def pre_tlen : Shape := ⟨[.c (.ptr 0 0)], [(0, .cells 79 [.own 1, .own 2]), (1, .mp (.pair .str (.pair .bool .unit)) (.int .i64)), (2, .row 81 (.pair .str (.pair .bool .unit)))]⟩
def post_tlen : List Shape := [⟨[.c (.dat (.int .i64))], [(0, .cells 79 [.own 1, .own 2]), (1, .mp (.pair .str (.pair .bool .unit)) (.int .i64)), (2, .row 81 (.pair .str (.pair .bool .unit)))]⟩]
def ann_tlen : Ann := .no
/-- what (turnstile/host.Table).Len comes to. -/
def tlen (n : Nat) (x : (List ((List Int × (Bool × Unit)) × Int)) × List (List Int × (Bool × Unit))) : Option (Int × (List ((List Int × (Bool × Unit)) × Int)) × List (List Int × (Bool × Unit))) :=
  match x with
  | (x1, x2) =>
  (Option.bind (tall n (x1, x2)) fun r3 =>
  some ((r3.1.length : Int), (r3.2.1, r3.2.2)))
def sp_tlen (n : Nat) : Spec := ⟨pre_tlen, post_tlen, tlen n⟩
def env_tlen (n : Nat) : List (FuncId × Spec) := [(19, sp_tall n), (19, sp_tallN n)]
theorem run_tlen (n : Nat) (x : pre_tlen.T) : fnRun Tryd.prog 72 (envG (env_tlen n) [] (fun _ => none)) n Tryd.f20 ann_tlen pre_tlen post_tlen x = tlen n x := by kernel_rfl
theorem ok_tlen (n : Nat) : FnOK Tryd.prog 72 L0 20 (sp_tlen n) :=
  fn_run mixed Tryd.func20 (sp_tlen n) n ann_tlen (env_tlen n) (envOf_cons (ok_tall n) (envOf_cons (ok_tallN n) envOf_nil)) [] (fun _ => none) gl_none (run_tlen n) (by kernel_rfl)
def pre_tlenN : Shape := ⟨[.c (.nilp)], []⟩
def post_tlenN : List Shape := [⟨[.c (.dat (.int .i64))], []⟩]
def ann_tlenN : Ann := .no
/-- what (turnstile/host.Table).Len comes to. -/
def tlenN (n : Nat) (x : Unit) : Option (Int) :=
  (Option.bind (tallN n ()) fun r1 =>
  some (r1.length : Int))
def sp_tlenN (n : Nat) : Spec := ⟨pre_tlenN, post_tlenN, tlenN n⟩
def env_tlenN (n : Nat) : List (FuncId × Spec) := [(19, sp_tall n), (19, sp_tallN n)]
theorem run_tlenN (n : Nat) (x : pre_tlenN.T) : fnRun Tryd.prog 72 (envG (env_tlenN n) [] (fun _ => none)) n Tryd.f20 ann_tlenN pre_tlenN post_tlenN x = tlenN n x := by kernel_rfl
theorem ok_tlenN (n : Nat) : FnOK Tryd.prog 72 L0 20 (sp_tlenN n) :=
  fn_run mixed Tryd.func20 (sp_tlenN n) n ann_tlenN (env_tlenN n) (envOf_cons (ok_tall n) (envOf_cons (ok_tallN n) envOf_nil)) [] (fun _ => none) gl_none (run_tlenN n) (by kernel_rfl)
def pre_rLower : Shape := ⟨[.c (.dat .str)], []⟩
def post_rLower : List Shape := [⟨[.c (.dat .str)], []⟩]
def ann_rLower : Ann := (.two .no (.two .no (.two (.two .no (.one (.loop ⟨[0, 3, 4], ⟨[.c (.dat .str), .c (.own 500), .c (.dat (.int .i64))], [(500, .row 5 (.int .u8))]⟩⟩ .no))) .no)))
/-- what turnstile/turnstileref01.Lower comes to. -/
def rLower (n : Nat) (x : List Int) : Option (List Int) :=
  (loopF (X := (List Int) × Int × List Int) (A := List Int) (fun rec2 y3 => match y3 with
  | (a4, (a5, a6)) =>
  (if (decide (a5 < (a4.length : Int))) = true then
  (Option.bind (idx a4 a5) fun v7 =>
  (if (decide (v7 ≥ (65 : Int))) = true then
  (if (decide (v7 ≤ (90 : Int))) = true then
  (let u8 : Int := (IntKind.wrap .u8 ((IntKind.wrap .u8 (v7 - (65 : Int))) + (97 : Int)))
  (if (a6.length + 1) * 1 ≤ 140737488355328 then
  rec2 (a4, ((IntKind.wrap .i64 (a5 + (1 : Int))), (a6 ++ ([u8] : List Int))))
  else none))
  else
  (if (a6.length + 1) * 1 ≤ 140737488355328 then
  rec2 (a4, ((IntKind.wrap .i64 (a5 + (1 : Int))), (a6 ++ ([v7] : List Int))))
  else none))
  else
  (if (a6.length + 1) * 1 ≤ 140737488355328 then
  rec2 (a4, ((IntKind.wrap .i64 (a5 + (1 : Int))), (a6 ++ ([v7] : List Int))))
  else none)))
  else
  some a6)) n (x, ((0 : Int), ([] : List Int))))
def sp_rLower (n : Nat) : Spec := ⟨pre_rLower, post_rLower, rLower n⟩
def env_rLower (n : Nat) : List (FuncId × Spec) := []
theorem run_rLower (n : Nat) (x : pre_rLower.T) : fnRun Tryd.prog 72 (envG (env_rLower n) [] (fun _ => none)) n Tryd.f32 ann_rLower pre_rLower post_rLower x = rLower n x := by kernel_rfl
theorem ok_rLower (n : Nat) : FnOK Tryd.prog 72 L0 32 (sp_rLower n) :=
  fn_run mixed Tryd.func32 (sp_rLower n) n ann_rLower (env_rLower n) envOf_nil [] (fun _ => none) gl_none (run_rLower n) (by kernel_rfl)
def pre_lower : Shape := ⟨[.c (.dat .str)], []⟩
def post_lower : List Shape := [⟨[.c (.dat .str)], []⟩]
def ann_lower : Ann := (.two .no (.two .no (.two (.two .no (.one (.loop ⟨[3, 8, 9, 10], ⟨[.c (.own 500), .c (.own 500), .c (.dat (.int .i64)), .c (.dat (.int .i64))], [(500, .row 5 (.int .u8))]⟩⟩ .no))) .no)))
/-- what turnstile/chars.Lower comes to. -/
def lower (n : Nat) (x : List Int) : Option (List Int) :=
  (loopF (X := Int × Int × List Int) (A := List Int) (fun rec2 y3 => match y3 with
  | (a4, (a5, a6)) =>
  (if (decide (a5 < a4)) = true then
  (if 0 ≤ a5 ∧ a5 < (a6.length : Int) then
  (if (decide ((a6.getD a5.toNat (0 : Int)) ≥ (65 : Int))) = true then
  (if (decide ((a6.getD a5.toNat (0 : Int)) ≤ (90 : Int))) = true then
  (let u7 : Int := (bits .or .u8 (a6.getD a5.toNat (0 : Int)) (32 : Int))
  (if 0 ≤ a5 ∧ a5 < (a6.length : Int) then
  rec2 (a4, ((IntKind.wrap .i64 (a5 + (1 : Int))), (a6.set a5.toNat u7)))
  else none))
  else
  rec2 (a4, ((IntKind.wrap .i64 (a5 + (1 : Int))), a6)))
  else
  rec2 (a4, ((IntKind.wrap .i64 (a5 + (1 : Int))), a6)))
  else none)
  else
  some a6)) n ((x.length : Int), ((0 : Int), x)))
def sp_lower (n : Nat) : Spec := ⟨pre_lower, post_lower, lower n⟩
def env_lower (n : Nat) : List (FuncId × Spec) := []
theorem run_lower (n : Nat) (x : pre_lower.T) : fnRun Tryd.prog 72 (envG (env_lower n) [] (fun _ => none)) n Tryd.f43 ann_lower pre_lower post_lower x = lower n x := by kernel_rfl
theorem ok_lower (n : Nat) : FnOK Tryd.prog 72 L0 43 (sp_lower n) :=
  fn_run mixed Tryd.func43 (sp_lower n) n ann_lower (env_lower n) envOf_nil [] (fun _ => none) gl_none (run_lower n) (by kernel_rfl)
def pre_bldStr : Shape := ⟨[.c (.ptr 0 0), .c (.dat .str)], [(0, .cells 94 [.slf 0, .own 1]), (1, .row 5 (.int .u8))]⟩
def post_bldStr : List Shape := [⟨[.c (.dat (.int .i64)), .c (.errc (0))], [(0, .cells 94 [.slf 0, .own 1]), (1, .row 5 (.int .u8))]⟩]
def ann_bldStr : Ann := .no
/-- what (strings.Builder).WriteString comes to. -/
def bldStr (n : Nat) (x : (List Int) × List Int) : Option (Int × List Int) :=
  match x with
  | (x1, x2) =>
  (Option.bind (bldCheck n x2) fun r3 =>
  (if (r3.length + x1.length) * 1 ≤ 140737488355328 then
  some ((x1.length : Int), (r3 ++ x1))
  else none))
def sp_bldStr (n : Nat) : Spec := ⟨pre_bldStr, post_bldStr, bldStr n⟩
def env_bldStr (n : Nat) : List (FuncId × Spec) := [(56, sp_bldCheck n)]
theorem run_bldStr (n : Nat) (x : pre_bldStr.T) : fnRun Tryd.prog 72 (envG (env_bldStr n) [] (fun _ => none)) n Tryd.f46 ann_bldStr pre_bldStr post_bldStr x = bldStr n x := by kernel_rfl
theorem ok_bldStr (n : Nat) : FnOK Tryd.prog 72 L0 46 (sp_bldStr n) :=
  fn_run mixed Tryd.func46 (sp_bldStr n) n ann_bldStr (env_bldStr n) (envOf_cons (ok_bldCheck n) envOf_nil) [] (fun _ => none) gl_none (run_bldStr n) (by kernel_rfl)
def pre_rDigit : Shape := ⟨[.c (.dat (.int .u8))], []⟩
def post_rDigit : List Shape := [⟨[.c (.dat .bool)], []⟩]
def ann_rDigit : Ann := .no
/-- what turnstile/turnstileref01.Digit comes to. -/
def rDigit (n : Nat) (x : Int) : Option (Bool) :=
  (if (decide (x ≥ (48 : Int))) = true then
  some (decide (x ≤ (57 : Int)))
  else
  some false)
def sp_rDigit (n : Nat) : Spec := ⟨pre_rDigit, post_rDigit, rDigit n⟩
def env_rDigit (n : Nat) : List (FuncId × Spec) := []
theorem run_rDigit (n : Nat) (x : pre_rDigit.T) : fnRun Tryd.prog 72 (envG (env_rDigit n) [] (fun _ => none)) n Tryd.f48 ann_rDigit pre_rDigit post_rDigit x = rDigit n x := by kernel_rfl
theorem ok_rDigit (n : Nat) : FnOK Tryd.prog 72 L0 48 (sp_rDigit n) :=
  fn_run mixed Tryd.func48 (sp_rDigit n) n ann_rDigit (env_rDigit n) envOf_nil [] (fun _ => none) gl_none (run_rDigit n) (by kernel_rfl)
def pre_keyfits1 : Shape := ⟨[.c (.dat .str), .c (.dat .str)], []⟩
def post_keyfits1 : List Shape := [⟨[.c (.dat .bool)], []⟩]
def ann_keyfits1 : Ann := .no
/-- what (turnstile/host.key).fits$1 comes to. -/
def keyfits1 (n : Nat) (x : (List Int) × List Int) : Option (Bool) :=
  match x with
  | (x1, x2) =>
  (if (x1 == ([(42 : Int)] : List Int)) = true then
  some true
  else
  some (x1 == x2))
def sp_keyfits1 (n : Nat) : Spec := ⟨pre_keyfits1, post_keyfits1, keyfits1 n⟩
def env_keyfits1 (n : Nat) : List (FuncId × Spec) := []
theorem run_keyfits1 (n : Nat) (x : pre_keyfits1.T) : fnRun Tryd.prog 72 (envG (env_keyfits1 n) [] (fun _ => none)) n Tryd.f53 ann_keyfits1 pre_keyfits1 post_keyfits1 x = keyfits1 n x := by kernel_rfl
theorem ok_keyfits1 (n : Nat) : FnOK Tryd.prog 72 L0 53 (sp_keyfits1 n) :=
  fn_run mixed Tryd.func53 (sp_keyfits1 n) n ann_keyfits1 (env_keyfits1 n) envOf_nil [] (fun _ => none) gl_none (run_keyfits1 n) (by kernel_rfl)
def pre_digit : Shape := ⟨[.c (.dat (.int .u8))], []⟩
def post_digit : List Shape := [⟨[.c (.dat .bool)], []⟩]
def ann_digit : Ann := .no
/-- what turnstile/chars.Digit comes to. -/
def digit (n : Nat) (x : Int) : Option (Bool) :=
  (if (decide (x ≥ (48 : Int))) = true then
  some (decide (x ≤ (57 : Int)))
  else
  some false)
def sp_digit (n : Nat) : Spec := ⟨pre_digit, post_digit, digit n⟩
def env_digit (n : Nat) : List (FuncId × Spec) := []
theorem run_digit (n : Nat) (x : pre_digit.T) : fnRun Tryd.prog 72 (envG (env_digit n) [] (fun _ => none)) n Tryd.f55 ann_digit pre_digit post_digit x = digit n x := by kernel_rfl
theorem ok_digit (n : Nat) : FnOK Tryd.prog 72 L0 55 (sp_digit n) :=
  fn_run mixed Tryd.func55 (sp_digit n) n ann_digit (env_digit n) envOf_nil [] (fun _ => none) gl_none (run_digit n) (by kernel_rfl)
def pre_index : Shape := ⟨[.c (.dat .str), .c (.dat .str)], []⟩
def post_index : List Shape := [⟨[.c (.dat (.int .i64))], []⟩]
def ann_index : Ann := .no
/-- what internal/stringslite.Index comes to. -/
def index (n : Nat) (x : (List Int) × List Int) : Option (Int) :=
  match x with
  | (x1, x2) =>
  (if ((x2.length : Int) == (0 : Int)) = true then
  some (0 : Int)
  else
  (if (x2 == x1) = true then
  some (0 : Int)
  else
  (if ((x2.length : Int) == (1 : Int)) = true then
  (Option.bind (idx x2 (0 : Int)) fun v3 =>
  (Option.bind (liteIndexByte n (x1, v3)) fun r4 =>
  some r4))
  else
  (if (decide ((x2.length : Int) ≥ (x1.length : Int))) = true then
  some (-1 : Int)
  else
  none))))
def sp_index (n : Nat) : Spec := ⟨pre_index, post_index, index n⟩
def env_index (n : Nat) : List (FuncId × Spec) := [(66, sp_liteIndexByte n)]
theorem run_index (n : Nat) (x : pre_index.T) : fnRun Tryd.prog 72 (envG (env_index n) [] (fun _ => none)) n Tryd.f58 ann_index pre_index post_index x = index n x := by kernel_rfl
theorem ok_index (n : Nat) : FnOK Tryd.prog 72 L0 58 (sp_index n) :=
  fn_run mixed Tryd.func58 (sp_index n) n ann_index (env_index n) (envOf_cons (ok_liteIndexByte n) envOf_nil) [] (fun _ => none) gl_none (run_index n) (by kernel_rfl)
def pre_hex : Shape := ⟨[.c (.dat (.int .u8))], []⟩
def post_hex : List Shape := [⟨[.c (.dat (.int .i64)), .c (.dat .bool)], []⟩]
def ann_hex : Ann := .no
/-- what turnstile/chars.Hex comes to. -/
def hex (n : Nat) (x : Int) : Option (Int × Bool) :=
  (Option.bind (digit n x) fun r2 =>
  (if r2 = true then
  (let u3 : Int := (IntKind.wrap .i64 (IntKind.wrap .u8 (x - (48 : Int))))
  some (u3, true))
  else
  (if (decide (x ≥ (97 : Int))) = true then
  (if (decide (x ≤ (102 : Int))) = true then
  (let u4 : Int := (IntKind.wrap .i64 (IntKind.wrap .u8 (x - (97 : Int))))
  (let u5 : Int := (IntKind.wrap .i64 (u4 + (10 : Int)))
  some (u5, true)))
  else
  (if (decide (x ≥ (65 : Int))) = true then
  (if (decide (x ≤ (70 : Int))) = true then
  (let u6 : Int := (IntKind.wrap .i64 (IntKind.wrap .u8 (x - (65 : Int))))
  (let u7 : Int := (IntKind.wrap .i64 (u6 + (10 : Int)))
  some (u7, true)))
  else
  some ((0 : Int), false))
  else
  some ((0 : Int), false)))
  else
  (if (decide (x ≥ (65 : Int))) = true then
  (if (decide (x ≤ (70 : Int))) = true then
  (let u8 : Int := (IntKind.wrap .i64 (IntKind.wrap .u8 (x - (65 : Int))))
  (let u9 : Int := (IntKind.wrap .i64 (u8 + (10 : Int)))
  some (u9, true)))
  else
  some ((0 : Int), false))
  else
  some ((0 : Int), false)))))
def sp_hex (n : Nat) : Spec := ⟨pre_hex, post_hex, hex n⟩
def env_hex (n : Nat) : List (FuncId × Spec) := [(55, sp_digit n)]
theorem run_hex (n : Nat) (x : pre_hex.T) : fnRun Tryd.prog 72 (envG (env_hex n) [] (fun _ => none)) n Tryd.f59 ann_hex pre_hex post_hex x = hex n x := by kernel_rfl
theorem ok_hex (n : Nat) : FnOK Tryd.prog 72 L0 59 (sp_hex n) :=
  fn_run mixed Tryd.func59 (sp_hex n) n ann_hex (env_hex n) (envOf_cons (ok_digit n) envOf_nil) [] (fun _ => none) gl_none (run_hex n) (by kernel_rfl)
def pre_rHex : Shape := ⟨[.c (.dat (.int .u8))], []⟩
def post_rHex : List Shape := [⟨[.c (.dat (.int .i64)), .c (.dat .bool)], []⟩]
def ann_rHex : Ann := .no
/-- what turnstile/turnstileref01.Hex comes to. -/
def rHex (n : Nat) (x : Int) : Option (Int × Bool) :=
  (Option.bind (rDigit n x) fun r2 =>
  (if r2 = true then
  (let u3 : Int := (IntKind.wrap .i64 (IntKind.wrap .u8 (x - (48 : Int))))
  some (u3, true))
  else
  (if (decide (x ≥ (97 : Int))) = true then
  (if (decide (x ≤ (102 : Int))) = true then
  (let u4 : Int := (IntKind.wrap .i64 (IntKind.wrap .u8 (x - (97 : Int))))
  (let u5 : Int := (IntKind.wrap .i64 (u4 + (10 : Int)))
  some (u5, true)))
  else
  (if (decide (x ≥ (65 : Int))) = true then
  (if (decide (x ≤ (70 : Int))) = true then
  (let u6 : Int := (IntKind.wrap .i64 (IntKind.wrap .u8 (x - (65 : Int))))
  (let u7 : Int := (IntKind.wrap .i64 (u6 + (10 : Int)))
  some (u7, true)))
  else
  some ((0 : Int), false))
  else
  some ((0 : Int), false)))
  else
  (if (decide (x ≥ (65 : Int))) = true then
  (if (decide (x ≤ (70 : Int))) = true then
  (let u8 : Int := (IntKind.wrap .i64 (IntKind.wrap .u8 (x - (65 : Int))))
  (let u9 : Int := (IntKind.wrap .i64 (u8 + (10 : Int)))
  some (u9, true)))
  else
  some ((0 : Int), false))
  else
  some ((0 : Int), false)))))
def sp_rHex (n : Nat) : Spec := ⟨pre_rHex, post_rHex, rHex n⟩
def env_rHex (n : Nat) : List (FuncId × Spec) := [(48, sp_rDigit n)]
theorem run_rHex (n : Nat) (x : pre_rHex.T) : fnRun Tryd.prog 72 (envG (env_rHex n) [] (fun _ => none)) n Tryd.f60 ann_rHex pre_rHex post_rHex x = rHex n x := by kernel_rfl
theorem ok_rHex (n : Nat) : FnOK Tryd.prog 72 L0 60 (sp_rHex n) :=
  fn_run mixed Tryd.func60 (sp_rHex n) n ann_rHex (env_rHex n) (envOf_cons (ok_rDigit n) envOf_nil) [] (fun _ => none) gl_none (run_rHex n) (by kernel_rfl)
def pre_stringsIndex : Shape := ⟨[.c (.dat .str), .c (.dat .str)], []⟩
def post_stringsIndex : List Shape := [⟨[.c (.dat (.int .i64))], []⟩]
def ann_stringsIndex : Ann := .no
/-- what strings.Index comes to. -/
def stringsIndex (n : Nat) (x : (List Int) × List Int) : Option (Int) :=
  match x with
  | (x1, x2) =>
  (Option.bind (index n (x1, x2)) fun r3 =>
  some r3)
def sp_stringsIndex (n : Nat) : Spec := ⟨pre_stringsIndex, post_stringsIndex, stringsIndex n⟩
def env_stringsIndex (n : Nat) : List (FuncId × Spec) := [(58, sp_index n)]
theorem run_stringsIndex (n : Nat) (x : pre_stringsIndex.T) : fnRun Tryd.prog 72 (envG (env_stringsIndex n) [] (fun _ => none)) n Tryd.f63 ann_stringsIndex pre_stringsIndex post_stringsIndex x = stringsIndex n x := by kernel_rfl
theorem ok_stringsIndex (n : Nat) : FnOK Tryd.prog 72 L0 63 (sp_stringsIndex n) :=
  fn_run mixed Tryd.func63 (sp_stringsIndex n) n ann_stringsIndex (env_stringsIndex n) (envOf_cons (ok_index n) envOf_nil) [] (fun _ => none) gl_none (run_stringsIndex n) (by kernel_rfl)
def pre_cutover : Shape := ⟨[.c (.dat (.int .i64))], []⟩
def post_cutover : List Shape := [⟨[.c (.dat (.int .i64))], []⟩]
def ann_cutover : Ann := .no
/-- what internal/bytealg.Cutover comes to. -/
def cutover (n : Nat) (x : Int) : Option (Int) :=
  (let u2 : Int := (IntKind.wrap .i64 (Int.tdiv (IntKind.wrap .i64 (x + (16 : Int))) (8 : Int)))
  some u2)
def sp_cutover (n : Nat) : Spec := ⟨pre_cutover, post_cutover, cutover n⟩
def env_cutover (n : Nat) : List (FuncId × Spec) := []
theorem run_cutover (n : Nat) (x : pre_cutover.T) : fnRun Tryd.prog 72 (envG (env_cutover n) [] (fun _ => none)) n Tryd.f68 ann_cutover pre_cutover post_cutover x = cutover n x := by kernel_rfl
theorem ok_cutover (n : Nat) : FnOK Tryd.prog 72 L0 68 (sp_cutover n) :=
  fn_run mixed Tryd.func68 (sp_cutover n) n ann_cutover (env_cutover n) envOf_nil [] (fun _ => none) gl_none (run_cutover n) (by kernel_rfl)
def pre_hashStrstring : Shape := ⟨[.c (.dat .str)], []⟩
def post_hashStrstring : List Shape := [⟨[.c (.dat (.int .u32)), .c (.dat (.int .u32))], []⟩]
def ann_hashStrstring : Ann := (.two .no (.two .no (.two (.two .no (.one (.loop ⟨[0, 4, 5], ⟨[.c (.dat .str), .c (.dat (.int .u32)), .c (.dat (.int .i64))], []⟩⟩ .no))) (.two .no (.two (.two .no (.one (.loop ⟨[4, 6, 7, 8], ⟨[.c (.dat (.int .u32)), .c (.dat (.int .u32)), .c (.dat (.int .u32)), .c (.dat (.int .i64))], []⟩⟩ .no))) .no)))))
/-- what internal/bytealg.hashStr[string] comes to. -/
def hashStrstring (n : Nat) (x : List Int) : Option (Int × Int) :=
  (loopF (X := (List Int) × Int × Int) (A := Int × Int) (fun rec2 y3 => match y3 with
  | (a4, (a5, a6)) =>
  (if (decide (a6 < (a4.length : Int))) = true then
  (let u7 : Int := (IntKind.wrap .u32 (a5 * (16777619 : Int)))
  (Option.bind (idx a4 a6) fun v8 =>
  (let u9 : Int := (IntKind.wrap .u32 (u7 + (IntKind.wrap .u32 v8)))
  rec2 (a4, (u9, (IntKind.wrap .i64 (a6 + (1 : Int))))))))
  else
  (loopF (X := Int × Int × Int × Int) (A := Int × Int) (fun rec10 y11 => match y11 with
  | (a12, (a13, (a14, a15))) =>
  (if (decide (a15 > (0 : Int))) = true then
  (if ((bits .and .i64 a15 (1 : Int)) != (0 : Int)) = true then
  rec10 (a12, ((IntKind.wrap .u32 (a13 * a14)), ((IntKind.wrap .u32 (a14 * a14)), (Int.fdiv a15 2))))
  else
  rec10 (a12, (a13, ((IntKind.wrap .u32 (a14 * a14)), (Int.fdiv a15 2)))))
  else
  some (a12, a13))) n (a5, ((1 : Int), ((16777619 : Int), (a4.length : Int))))))) n (x, ((0 : Int), (0 : Int))))
def sp_hashStrstring (n : Nat) : Spec := ⟨pre_hashStrstring, post_hashStrstring, hashStrstring n⟩
def env_hashStrstring (n : Nat) : List (FuncId × Spec) := []
theorem run_hashStrstring (n : Nat) (x : pre_hashStrstring.T) : fnRun Tryd.prog 72 (envG (env_hashStrstring n) [] (fun _ => none)) n Tryd.f74 ann_hashStrstring pre_hashStrstring post_hashStrstring x = hashStrstring n x := by kernel_rfl
theorem ok_hashStrstring (n : Nat) : FnOK Tryd.prog 72 L0 74 (sp_hashStrstring n) :=
  fn_run mixed Tryd.func74 (sp_hashStrstring n) n ann_hashStrstring (env_hashStrstring n) envOf_nil [] (fun _ => none) gl_none (run_hashStrstring n) (by kernel_rfl)
def pre_rSame : Shape := ⟨[.c (.dat .str), .c (.dat .str)], []⟩
def post_rSame : List Shape := [⟨[.c (.dat .bool)], []⟩]
def ann_rSame : Ann := .no
/-- what turnstile/turnstileref01.Same comes to. -/
def rSame (n : Nat) (x : (List Int) × List Int) : Option (Bool) :=
  match x with
  | (x1, x2) =>
  (Option.bind (rLower n x1) fun r3 =>
  (Option.bind (rLower n x2) fun r4 =>
  some (r3 == r4)))
def sp_rSame (n : Nat) : Spec := ⟨pre_rSame, post_rSame, rSame n⟩
def env_rSame (n : Nat) : List (FuncId × Spec) := [(32, sp_rLower n)]
theorem run_rSame (n : Nat) (x : pre_rSame.T) : fnRun Tryd.prog 72 (envG (env_rSame n) [] (fun _ => none)) n Tryd.f27 ann_rSame pre_rSame post_rSame x = rSame n x := by kernel_rfl
theorem ok_rSame (n : Nat) : FnOK Tryd.prog 72 L0 27 (sp_rSame n) :=
  fn_run mixed Tryd.func27 (sp_rSame n) n ann_rSame (env_rSame n) (envOf_cons (ok_rLower n) envOf_nil) [] (fun _ => none) gl_none (run_rSame n) (by kernel_rfl)
def pre_join : Shape := ⟨[.c (.dat (.list .str)), .c (.dat .str)], []⟩
def post_join : List Shape := [⟨[.c (.dat .str)], []⟩]
def ann_join : Ann := (.two .no (.two .no (.two .no (.two (.join ⟨[0, 1, 5], ⟨[.c (.dat (.list .str)), .c (.dat .str), .c (.dat (.int .i64))], []⟩⟩ .no) (.two (.two .no (.one (.loop ⟨[0, 1, 5, 39, 40, 41], ⟨[.c (.dat (.list .str)), .c (.dat .str), .c (.dat (.int .i64)), .c (.dat (.list .str)), .c (.dat (.int .i64)), .c (.dat (.int .i64))], []⟩⟩ .no))) (.two .no (.two .no (.two .no (.two (.two .no (.one (.loop ⟨[1, 8, 63, 64, 65], ⟨[.c (.dat .str), .c (.ptr 500 0), .c (.dat (.list .str)), .c (.dat (.int .i64)), .c (.dat (.int .i64))], [(500, .cells 94 [.slf 500, .own 501]), (501, .row 5 (.int .u8))]⟩⟩ .no))) .no)))))))))
/-- what strings.Join comes to. -/
def join (n : Nat) (x : (List (List Int)) × List Int) : Option (List Int) :=
  match x with
  | (x1, x2) =>
  (if ((x1.length : Int) == (0 : Int)) = true then
  some ([] : List Int)
  else
  (if ((x1.length : Int) == (1 : Int)) = true then
  (Option.bind (idx x1 (0 : Int)) fun v3 =>
  some v3)
  else
  (Option.bind (α := Out ((List (List Int)) × (List Int) × Int) (List Int)) ((if (decide ((x2.length : Int) > (0 : Int))) = true then
  (let u4 : Int := (IntKind.wrap .i64 ((x1.length : Int) - (1 : Int)))
  (if u4 = 0 then none else
  (let u5 : Int := (IntKind.wrap .i64 (Int.tdiv (9223372036854775807 : Int) u4))
  (if (decide ((x2.length : Int) ≥ u5)) = true then
  none
  else
  (let u6 : Int := (IntKind.wrap .i64 ((x1.length : Int) - (1 : Int)))
  (let u7 : Int := (IntKind.wrap .i64 ((x2.length : Int) * u6))
  (some (Out.go (x1, (x2, (IntKind.wrap .i64 ((0 : Int) + u7))))))))))))
  else
  (some (Out.go (x1, (x2, (0 : Int))))))) fun o => match o with
  | .go (z9, (z10, z11)) =>
  (loopF (X := (List (List Int)) × (List Int) × Int × (List (List Int)) × Int × Int) (A := List Int) (fun rec12 y13 => match y13 with
  | (a14, (a15, (a16, (a17, (a18, a19))))) =>
  (if (decide (a19 < a18)) = true then
  (Option.bind (idx a17 a19) fun v20 =>
  (let u21 : Int := (IntKind.wrap .i64 ((9223372036854775807 : Int) - a16))
  (if (decide ((v20.length : Int) > u21)) = true then
  none
  else
  (let u22 : Int := (IntKind.wrap .i64 (a16 + (v20.length : Int)))
  (let u23 : Int := (IntKind.wrap .i64 (a19 + (1 : Int)))
  rec12 (a14, (a15, (u22, (a17, (a18, u23))))))))))
  else
  (Option.bind (bldGrow n a16) fun r24 =>
  (Option.bind (idx a14 (0 : Int)) fun v25 =>
  (Option.bind (bldStr n (v25, r24)) fun r26 =>
  (if 0 ≤ (1 : Int) ∧ (1 : Int) ≤ (a14.length : Int) ∧ (a14.length : Int) ≤ (a14.length : Int) then
  (let u27 : List (List Int) := ((a14.drop 1).take (((a14.length : Int)).toNat - 1))
  (loopF (X := (List Int) × (List (List Int)) × Int × Int × List Int) (A := List Int) (fun rec28 y29 => match y29 with
  | (a30, (a31, (a32, (a33, a34)))) =>
  (if (decide (a33 < a32)) = true then
  (Option.bind (idx a31 a33) fun v35 =>
  (Option.bind (bldStr n (a30, a34)) fun r36 =>
  (Option.bind (bldStr n (v35, r36.2)) fun r37 =>
  (let u38 : Int := (IntKind.wrap .i64 (a33 + (1 : Int)))
  rec28 (a30, (a31, (a32, (u38, r37.2))))))))
  else
  (Option.bind (bldString n a34) fun r39 =>
  some r39))) n (a15, (u27, ((u27.length : Int), ((0 : Int), r26.2))))))
  else none)))))) n (z9, (z10, (z11, (z9, ((z9.length : Int), (0 : Int)))))))
  | .ret r40 => some r40)))
def sp_join (n : Nat) : Spec := ⟨pre_join, post_join, join n⟩
def env_join (n : Nat) : List (FuncId × Spec) := [(45, sp_bldGrow n), (46, sp_bldStr n), (47, sp_bldString n)]
theorem run_join (n : Nat) (x : pre_join.T) : fnRun Tryd.prog 72 (envG (env_join n) [] (fun _ => none)) n Tryd.f30 ann_join pre_join post_join x = join n x := by kernel_rfl
theorem ok_join (n : Nat) : FnOK Tryd.prog 72 L0 30 (sp_join n) :=
  fn_run mixed Tryd.func30 (sp_join n) n ann_join (env_join n) (envOf_cons (ok_bldGrow n) (envOf_cons (ok_bldStr n) (envOf_cons (ok_bldString n) envOf_nil))) [] (fun _ => none) gl_none (run_join n) (by kernel_rfl)
def pre_rLabels : Shape := ⟨[.c (.dat .str), .c (.dat .bool)], []⟩
def post_rLabels : List Shape := [⟨[.c (.dat (.list .str)), .c (.dat .bool)], []⟩]
def ann_rLabels : Ann := (.two .no (.two .no (.two .no (.two .no (.two (.two .no (.one (.loop ⟨[0, 1, 6, 7, 8], ⟨[.c (.dat .str), .c (.dat .bool), .c (.own 500), .c (.dat (.int .i64)), .c (.dat (.int .i64))], [(500, .row 9 .str)]⟩⟩ (.two .no (.two (.one (.two (.two (.join ⟨[0, 1, 6, 7, 8, 34], ⟨[.c (.dat .str), .c (.dat .bool), .c (.own 500), .c (.dat (.int .i64)), .c (.dat (.int .i64)), .c (.dat .bool)], [(500, .row 9 .str)]⟩⟩ .no) .no) (.two .no (.two .no (.two .no (.two .no (.two (.two (.join ⟨[0, 1, 6, 7, 8, 9, 58], ⟨[.c (.dat .str), .c (.dat .bool), .c (.own 500), .c (.dat (.int .i64)), .c (.dat (.int .i64)), .c (.dat .str), .c (.dat .bool)], [(500, .row 9 .str)]⟩⟩ .no) .no) (.two .no (.one (.loop ⟨[0, 1, 6, 7, 8, 9, 10], ⟨[.c (.dat .str), .c (.dat .bool), .c (.own 500), .c (.dat (.int .i64)), .c (.dat (.int .i64)), .c (.dat .str), .c (.dat (.int .i64))], [(500, .row 9 .str)]⟩⟩ (.two .no (.two (.one (.two .no (.two (.join ⟨[0, 1, 6, 7, 8, 9, 10, 94], ⟨[.c (.dat .str), .c (.dat .bool), .c (.own 500), .c (.dat (.int .i64)), .c (.dat (.int .i64)), .c (.dat .str), .c (.dat (.int .i64)), .c (.dat .bool)], [(500, .row 9 .str)]⟩⟩ .no) .no))) .no)))))))))))) .no))))) .no)))))
/-- what turnstile/turnstileref16.labels comes to. -/
def rLabels (n : Nat) (x : (List Int) × Bool) : Option ((List (List Int)) × Bool) :=
  match x with
  | (x1, x2) =>
  (if (x1 == ([] : List Int)) = true then
  some (([] : List (List Int)), false)
  else
  (if (decide ((x1.length : Int) > (253 : Int))) = true then
  some (([] : List (List Int)), false)
  else
  (loopF (X := (List Int) × Bool × Int × Int × List (List Int)) (A := (List (List Int)) × Bool) (fun rec3 y4 => match y4 with
  | (a5, (a6, (a7, (a8, a9)))) =>
  (if (decide (a8 ≤ (a5.length : Int))) = true then
  (Option.bind (α := Out ((List Int) × Bool × Int × Int × Bool × List (List Int)) ((List (List Int)) × Bool)) ((if (decide (a8 < (a5.length : Int))) = true then
  (Option.bind (idx a5 a8) fun v10 =>
  (some (Out.go (a5, (a6, (a7, (a8, ((v10 != (46 : Int)), a9))))))))
  else
  (some (Out.go (a5, (a6, (a7, (a8, (false, a9))))))))) fun o => match o with
  | .go (z12, (z13, (z14, (z15, (z16, z17))))) =>
  (if z16 = true then
  (let u18 : Int := (IntKind.wrap .i64 (z15 + (1 : Int)))
  rec3 (z12, (z13, (z14, (u18, z17)))))
  else
  (if 0 ≤ z14 ∧ z14 ≤ z15 ∧ z15 ≤ (z12.length : Int) then
  (let u19 : List Int := ((z12.drop z14.toNat).take (z15.toNat - z14.toNat))
  (let u20 : Int := (IntKind.wrap .i64 (z15 + (1 : Int)))
  (if (decide ((u19.length : Int) < (1 : Int))) = true then
  some (([] : List (List Int)), false)
  else
  (if (decide ((u19.length : Int) > (63 : Int))) = true then
  some (([] : List (List Int)), false)
  else
  (Option.bind (rLower n u19) fun r21 =>
  (if (z17.length + 1) * 16 ≤ 140737488355328 then
  (Option.bind (α := Out ((List Int) × Bool × Int × Int × (List Int) × Bool × List (List Int)) ((List (List Int)) × Bool)) ((if z13 = true then
  (some (Out.go (z12, (z13, (u20, (z15, (u19, ((u19 == ([(42 : Int)] : List Int)), (z17 ++ ([r21] : List (List Int)))))))))))
  else
  (some (Out.go (z12, (z13, (u20, (z15, (u19, (false, (z17 ++ ([r21] : List (List Int))))))))))))) fun o => match o with
  | .go (z23, (z24, (z25, (z26, (z27, (z28, z29)))))) =>
  (if z28 = true then
  (let u30 : Int := (IntKind.wrap .i64 (z26 + (1 : Int)))
  rec3 (z23, (z24, (z25, (u30, z29)))))
  else
  (loopF (X := (List Int) × Bool × Int × Int × (List Int) × Int × List (List Int)) (A := (List (List Int)) × Bool) (fun rec31 y32 => match y32 with
  | (a33, (a34, (a35, (a36, (a37, (a38, a39)))))) =>
  (if (decide (a38 < (a37.length : Int))) = true then
  (Option.bind (idx a37 a38) fun v40 =>
  (Option.bind (α := Out ((List Int) × Bool × Int × Int × (List Int) × Int × Bool × List (List Int)) ((List (List Int)) × Bool)) ((if (decide (v40 < (97 : Int))) = true then
  (if (decide (v40 < (65 : Int))) = true then
  (Option.bind (rDigit n v40) fun r41 =>
  (if (!r41) = true then
  (if (v40 != (45 : Int)) = true then
  (some (Out.go (a33, (a34, (a35, (a36, (a37, (a38, ((v40 != (95 : Int)), a39)))))))))
  else
  (some (Out.go (a33, (a34, (a35, (a36, (a37, (a38, (false, a39))))))))))
  else
  (some (Out.go (a33, (a34, (a35, (a36, (a37, (a38, (false, a39)))))))))))
  else
  (if (decide (v40 > (90 : Int))) = true then
  (Option.bind (rDigit n v40) fun r42 =>
  (if (!r42) = true then
  (if (v40 != (45 : Int)) = true then
  (some (Out.go (a33, (a34, (a35, (a36, (a37, (a38, ((v40 != (95 : Int)), a39)))))))))
  else
  (some (Out.go (a33, (a34, (a35, (a36, (a37, (a38, (false, a39))))))))))
  else
  (some (Out.go (a33, (a34, (a35, (a36, (a37, (a38, (false, a39)))))))))))
  else
  (some (Out.go (a33, (a34, (a35, (a36, (a37, (a38, (false, a39)))))))))))
  else
  (if (decide (v40 > (122 : Int))) = true then
  (if (decide (v40 < (65 : Int))) = true then
  (Option.bind (rDigit n v40) fun r43 =>
  (if (!r43) = true then
  (if (v40 != (45 : Int)) = true then
  (some (Out.go (a33, (a34, (a35, (a36, (a37, (a38, ((v40 != (95 : Int)), a39)))))))))
  else
  (some (Out.go (a33, (a34, (a35, (a36, (a37, (a38, (false, a39))))))))))
  else
  (some (Out.go (a33, (a34, (a35, (a36, (a37, (a38, (false, a39)))))))))))
  else
  (if (decide (v40 > (90 : Int))) = true then
  (Option.bind (rDigit n v40) fun r44 =>
  (if (!r44) = true then
  (if (v40 != (45 : Int)) = true then
  (some (Out.go (a33, (a34, (a35, (a36, (a37, (a38, ((v40 != (95 : Int)), a39)))))))))
  else
  (some (Out.go (a33, (a34, (a35, (a36, (a37, (a38, (false, a39))))))))))
  else
  (some (Out.go (a33, (a34, (a35, (a36, (a37, (a38, (false, a39)))))))))))
  else
  (some (Out.go (a33, (a34, (a35, (a36, (a37, (a38, (false, a39)))))))))))
  else
  (some (Out.go (a33, (a34, (a35, (a36, (a37, (a38, (false, a39)))))))))))) fun o => match o with
  | .go (z46, (z47, (z48, (z49, (z50, (z51, (z52, z53))))))) =>
  (if z52 = true then
  some (([] : List (List Int)), false)
  else
  (let u54 : Int := (IntKind.wrap .i64 (z51 + (1 : Int)))
  rec31 (z46, (z47, (z48, (z49, (z50, (u54, z53))))))))
  | .ret r55 => some r55))
  else
  (let u56 : Int := (IntKind.wrap .i64 (a36 + (1 : Int)))
  rec3 (a33, (a34, (a35, (u56, a39))))))) n (z23, (z24, (z25, (z26, (z27, ((0 : Int), z29))))))))
  | .ret r57 => some r57)
  else none))))))
  else none))
  | .ret r58 => some r58)
  else
  some (a9, true))) n (x1, (x2, ((0 : Int), ((0 : Int), ([] : List (List Int)))))))))
def sp_rLabels (n : Nat) : Spec := ⟨pre_rLabels, post_rLabels, rLabels n⟩
def env_rLabels (n : Nat) : List (FuncId × Spec) := [(32, sp_rLower n), (48, sp_rDigit n)]
theorem run_rLabels (n : Nat) (x : pre_rLabels.T) : fnRun Tryd.prog 72 (envG (env_rLabels n) [] (fun _ => none)) n Tryd.f31 ann_rLabels pre_rLabels post_rLabels x = rLabels n x := by kernel_rfl
theorem ok_rLabels (n : Nat) : FnOK Tryd.prog 72 L0 31 (sp_rLabels n) :=
  fn_run mixed Tryd.func31 (sp_rLabels n) n ann_rLabels (env_rLabels n) (envOf_cons (ok_rLower n) (envOf_cons (ok_rDigit n) envOf_nil)) [] (fun _ => none) gl_none (run_rLabels n) (by kernel_rfl)
def pre_turnstileref16RFits : Shape := ⟨[.c (.dat .str), .c (.dat .str)], []⟩
def post_turnstileref16RFits : List Shape := [⟨[.c (.dat .bool)], []⟩]
def ann_turnstileref16RFits : Ann := (.two .no (.two .no (.two .no (.two .no (.two .no (.two (.two .no (.one (.loop ⟨[5, 7, 9], ⟨[.c (.dat (.list .str)), .c (.dat (.list .str)), .c (.dat (.int .i64))], []⟩⟩ .no))) .no))))))
/-- what turnstile/turnstileref16.fits comes to. -/
def turnstileref16RFits (n : Nat) (x : (List Int) × List Int) : Option (Bool) :=
  match x with
  | (x1, x2) =>
  (if (x1 == ([] : List Int)) = true then
  some true
  else
  (Option.bind (rLabels n (x1, true)) fun r3 =>
  (Option.bind (rLabels n (x2, false)) fun r4 =>
  (if ((r3.1.length : Int) != (r4.1.length : Int)) = true then
  some false
  else
  (loopF (X := (List (List Int)) × (List (List Int)) × Int) (A := Bool) (fun rec5 y6 => match y6 with
  | (a7, (a8, a9)) =>
  (if (decide (a9 < (a7.length : Int))) = true then
  (Option.bind (idx a7 a9) fun v10 =>
  (if (!(v10 == ([(42 : Int)] : List Int))) = true then
  (Option.bind (idx a7 a9) fun v11 =>
  (Option.bind (idx a8 a9) fun v12 =>
  (if (!(v11 == v12)) = true then
  some false
  else
  rec5 (a7, (a8, (IntKind.wrap .i64 (a9 + (1 : Int))))))))
  else
  rec5 (a7, (a8, (IntKind.wrap .i64 (a9 + (1 : Int)))))))
  else
  some true)) n (r3.1, (r4.1, (0 : Int))))))))
def sp_turnstileref16RFits (n : Nat) : Spec := ⟨pre_turnstileref16RFits, post_turnstileref16RFits, turnstileref16RFits n⟩
def env_turnstileref16RFits (n : Nat) : List (FuncId × Spec) := [(31, sp_rLabels n)]
theorem run_turnstileref16RFits (n : Nat) (x : pre_turnstileref16RFits.T) : fnRun Tryd.prog 72 (envG (env_turnstileref16RFits n) [] (fun _ => none)) n Tryd.f39 ann_turnstileref16RFits pre_turnstileref16RFits post_turnstileref16RFits x = turnstileref16RFits n x := by kernel_rfl
theorem ok_turnstileref16RFits (n : Nat) : FnOK Tryd.prog 72 L0 39 (sp_turnstileref16RFits n) :=
  fn_run mixed Tryd.func39 (sp_turnstileref16RFits n) n ann_turnstileref16RFits (env_turnstileref16RFits n) (envOf_cons (ok_rLabels n) envOf_nil) [] (fun _ => none) gl_none (run_turnstileref16RFits n) (by kernel_rfl)
def pre_rAhead : Shape := ⟨[.c (.dat .str), .c (.dat .str)], []⟩
def post_rAhead : List Shape := [⟨[.c (.dat .bool)], []⟩]
def ann_rAhead : Ann := (.two .no (.two .no (.two .no (.two .no (.two (.two .no (.one (.loop ⟨[5, 7, 9], ⟨[.c (.dat (.list .str)), .c (.dat (.list .str)), .c (.dat (.int .i64))], []⟩⟩ .no))) .no)))))
/-- what turnstile/turnstileref16.ahead comes to. -/
def rAhead (n : Nat) (x : (List Int) × List Int) : Option (Bool) :=
  match x with
  | (x1, x2) =>
  (if (x1 == ([] : List Int)) = true then
  (if (!(x1 == ([] : List Int))) = true then
  some (x2 == ([] : List Int))
  else
  some false)
  else
  (if (x2 == ([] : List Int)) = true then
  (if (!(x1 == ([] : List Int))) = true then
  some (x2 == ([] : List Int))
  else
  some false)
  else
  (Option.bind (rLabels n (x1, true)) fun r3 =>
  (Option.bind (rLabels n (x2, true)) fun r4 =>
  (let u5 : Int := (IntKind.wrap .i64 ((r3.1.length : Int) - (1 : Int)))
  (loopF (X := (List (List Int)) × (List (List Int)) × Int) (A := Bool) (fun rec6 y7 => match y7 with
  | (a8, (a9, a10)) =>
  (if (decide (a10 ≥ (0 : Int))) = true then
  (Option.bind (idx a8 a10) fun v11 =>
  (Option.bind (idx a9 a10) fun v12 =>
  (if (!((v11 == ([(42 : Int)] : List Int)) == (v12 == ([(42 : Int)] : List Int)))) = true then
  (Option.bind (idx a9 a10) fun v13 =>
  some (v13 == ([(42 : Int)] : List Int)))
  else
  (let u14 : Int := (IntKind.wrap .i64 (a10 - (1 : Int)))
  rec6 (a8, (a9, u14))))))
  else
  some false)) n (r3.1, (r4.1, u5))))))))
def sp_rAhead (n : Nat) : Spec := ⟨pre_rAhead, post_rAhead, rAhead n⟩
def env_rAhead (n : Nat) : List (FuncId × Spec) := [(31, sp_rLabels n)]
theorem run_rAhead (n : Nat) (x : pre_rAhead.T) : fnRun Tryd.prog 72 (envG (env_rAhead n) [] (fun _ => none)) n Tryd.f40 ann_rAhead pre_rAhead post_rAhead x = rAhead n x := by kernel_rfl
theorem ok_rAhead (n : Nat) : FnOK Tryd.prog 72 L0 40 (sp_rAhead n) :=
  fn_run mixed Tryd.func40 (sp_rAhead n) n ann_rAhead (env_rAhead n) (envOf_cons (ok_rLabels n) envOf_nil) [] (fun _ => none) gl_none (run_rAhead n) (by kernel_rfl)
def pre_label : Shape := ⟨[.c (.dat .str)], []⟩
def post_label : List Shape := [⟨[.c (.dat .bool)], []⟩]
def ann_label : Ann := (.two .no (.two (.two .no (.one (.loop ⟨[0, 6, 7], ⟨[.c (.dat .str), .c (.dat (.int .i64)), .c (.dat (.int .i64))], []⟩⟩ .no))) .no))
/-- what turnstile/host.label comes to. -/
def label (n : Nat) (x : List Int) : Option (Bool) :=
  (loopF (X := (List Int) × Int × Int) (A := Bool) (fun rec2 y3 => match y3 with
  | (a4, (a5, a6)) =>
  (if (decide (a6 < a5)) = true then
  (Option.bind (idx a4 a6) fun v7 =>
  (if (decide ((bits .or .u8 v7 (32 : Int)) ≥ (97 : Int))) = true then
  (if (!(decide ((bits .or .u8 v7 (32 : Int)) ≤ (122 : Int)))) = true then
  (Option.bind (digit n v7) fun r8 =>
  (if (!r8) = true then
  (if (v7 != (45 : Int)) = true then
  (if (v7 != (95 : Int)) = true then
  some false
  else
  rec2 (a4, (a5, (IntKind.wrap .i64 (a6 + (1 : Int))))))
  else
  rec2 (a4, (a5, (IntKind.wrap .i64 (a6 + (1 : Int))))))
  else
  rec2 (a4, (a5, (IntKind.wrap .i64 (a6 + (1 : Int)))))))
  else
  rec2 (a4, (a5, (IntKind.wrap .i64 (a6 + (1 : Int))))))
  else
  (Option.bind (digit n v7) fun r9 =>
  (if (!r9) = true then
  (if (v7 != (45 : Int)) = true then
  (if (v7 != (95 : Int)) = true then
  some false
  else
  rec2 (a4, (a5, (IntKind.wrap .i64 (a6 + (1 : Int))))))
  else
  rec2 (a4, (a5, (IntKind.wrap .i64 (a6 + (1 : Int))))))
  else
  rec2 (a4, (a5, (IntKind.wrap .i64 (a6 + (1 : Int)))))))))
  else
  (if (decide ((a4.length : Int) ≥ (1 : Int))) = true then
  some (decide ((a4.length : Int) ≤ (63 : Int)))
  else
  some false))) n (x, ((x.length : Int), (0 : Int))))
def sp_label (n : Nat) : Spec := ⟨pre_label, post_label, label n⟩
def env_label (n : Nat) : List (FuncId × Spec) := [(55, sp_digit n)]
theorem run_label (n : Nat) (x : pre_label.T) : fnRun Tryd.prog 72 (envG (env_label n) [] (fun _ => none)) n Tryd.f44 ann_label pre_label post_label x = label n x := by kernel_rfl
theorem ok_label (n : Nat) : FnOK Tryd.prog 72 L0 44 (sp_label n) :=
  fn_run mixed Tryd.func44 (sp_label n) n ann_label (env_label n) (envOf_cons (ok_digit n) envOf_nil) [] (fun _ => none) gl_none (run_label n) (by kernel_rfl)
def pre_stringsliteCut : Shape := ⟨[.c (.dat .str), .c (.dat .str)], []⟩
def post_stringsliteCut : List Shape := [⟨[.c (.dat .str), .c (.dat .str), .c (.dat .bool)], []⟩]
def ann_stringsliteCut : Ann := .no
/-- what internal/stringslite.Cut comes to. -/
def stringsliteCut (n : Nat) (x : (List Int) × List Int) : Option ((List Int) × (List Int) × Bool) :=
  match x with
  | (x1, x2) =>
  (Option.bind (index n (x1, x2)) fun r3 =>
  (if (decide (r3 ≥ (0 : Int))) = true then
  (if 0 ≤ (0 : Int) ∧ (0 : Int) ≤ r3 ∧ r3 ≤ (x1.length : Int) then
  (let u4 : Int := (IntKind.wrap .i64 (r3 + (x2.length : Int)))
  (if 0 ≤ u4 ∧ u4 ≤ (x1.length : Int) ∧ (x1.length : Int) ≤ (x1.length : Int) then
  (let u5 : List Int := ((x1.drop u4.toNat).take (((x1.length : Int)).toNat - u4.toNat))
  some (((x1.drop 0).take (r3.toNat - 0)), (u5, true)))
  else none))
  else none)
  else
  some (x1, (([] : List Int), false))))
def sp_stringsliteCut (n : Nat) : Spec := ⟨pre_stringsliteCut, post_stringsliteCut, stringsliteCut n⟩
def env_stringsliteCut (n : Nat) : List (FuncId × Spec) := [(58, sp_index n)]
theorem run_stringsliteCut (n : Nat) (x : pre_stringsliteCut.T) : fnRun Tryd.prog 72 (envG (env_stringsliteCut n) [] (fun _ => none)) n Tryd.f49 ann_stringsliteCut pre_stringsliteCut post_stringsliteCut x = stringsliteCut n x := by kernel_rfl
theorem ok_stringsliteCut (n : Nat) : FnOK Tryd.prog 72 L0 49 (sp_stringsliteCut n) :=
  fn_run mixed Tryd.func49 (sp_stringsliteCut n) n ann_stringsliteCut (env_stringsliteCut n) (envOf_cons (ok_index n) envOf_nil) [] (fun _ => none) gl_none (run_stringsliteCut n) (by kernel_rfl)
def pre_number : Shape := ⟨[.c (.dat .str), .c (.dat (.int .i64)), .c (.dat (.int .i64))], []⟩
def post_number : List Shape := [⟨[.c (.dat (.int .i64)), .c (.dat .err)], []⟩]
def ann_number : Ann := (.two .no (.two .no (.two .no (.two (.two .no (.one (.loop ⟨[0, 1, 2, 8, 9, 10], ⟨[.c (.dat .str), .c (.dat (.int .i64)), .c (.dat (.int .i64)), .c (.dat (.int .i64)), .c (.dat .bool), .c (.dat (.int .i64))], []⟩⟩ .no))) .no))))
/-- what turnstile/chars.number comes to. -/
def number (n : Nat) (x : (List Int) × Int × Int) : Option (Int × Int) :=
  match x with
  | (x1, (x2, x3)) =>
  (if (decide (x3 < (0 : Int))) = true then
  some ((0 : Int), (1 : Int))
  else
  (loopF (X := (List Int) × Int × Int × Int × Bool × Int) (A := Int × Int) (fun rec4 y5 => match y5 with
  | (a6, (a7, (a8, (a9, (a10, a11))))) =>
  (if (decide (a11 < (a6.length : Int))) = true then
  (Option.bind (idx a6 a11) fun v12 =>
  (Option.bind (hex n v12) fun r13 =>
  (if (!r13.2) = true then
  some ((0 : Int), (3 : Int))
  else
  (if (decide (r13.1 ≥ a7)) = true then
  some ((0 : Int), (3 : Int))
  else
  (if a10 = true then
  (let u14 : Int := (IntKind.wrap .i64 (a11 + (1 : Int)))
  rec4 (a6, (a7, (a8, (a9, (true, u14))))))
  else
  (if a7 = 0 then none else
  (let u15 : Int := (IntKind.wrap .i64 (Int.tdiv (IntKind.wrap .i64 (a8 - r13.1)) a7))
  (if (decide (a9 > u15)) = true then
  (let u16 : Int := (IntKind.wrap .i64 (a11 + (1 : Int)))
  rec4 (a6, (a7, (a8, (a9, (true, u16))))))
  else
  (if (decide (a8 < r13.1)) = true then
  (let u17 : Int := (IntKind.wrap .i64 (a11 + (1 : Int)))
  rec4 (a6, (a7, (a8, (a9, (true, u17))))))
  else
  (let u18 : Int := (IntKind.wrap .i64 ((IntKind.wrap .i64 (a9 * a7)) + r13.1))
  (let u19 : Int := (IntKind.wrap .i64 (a11 + (1 : Int)))
  rec4 (a6, (a7, (a8, (u18, (a10, u19))))))))))))))))
  else
  (if (a6 == ([] : List Int)) = true then
  some ((0 : Int), (3 : Int))
  else
  (if a10 = true then
  some ((0 : Int), (4 : Int))
  else
  some (a9, (0 : Int)))))) n (x1, (x2, (x3, ((0 : Int), ((x1 == ([] : List Int)), (0 : Int))))))))
def sp_number (n : Nat) : Spec := ⟨pre_number, post_number, number n⟩
def env_number (n : Nat) : List (FuncId × Spec) := [(59, sp_hex n)]
theorem run_number (n : Nat) (x : pre_number.T) : fnRun Tryd.prog 72 (envG (env_number n) [] (fun _ => none)) n Tryd.f50 ann_number pre_number post_number x = number n x := by kernel_rfl
theorem ok_number (n : Nat) : FnOK Tryd.prog 72 L0 50 (sp_number n) :=
  fn_run mixed Tryd.func50 (sp_number n) n ann_number (env_number n) (envOf_cons (ok_hex n) envOf_nil) [] (fun _ => none) gl_none (run_number n) (by kernel_rfl)
def pre_rNumber : Shape := ⟨[.c (.dat .str), .c (.dat (.int .i64)), .c (.dat (.int .i64))], []⟩
def post_rNumber : List Shape := [⟨[.c (.dat (.int .i64)), .c (.dat (.int .i64))], []⟩]
def ann_rNumber : Ann := (.two .no (.two .no (.two (.two .no (.one (.loop ⟨[0, 1, 2, 8], ⟨[.c (.dat .str), .c (.dat (.int .i64)), .c (.dat (.int .i64)), .c (.dat (.int .i64))], []⟩⟩ .no))) (.two .no (.two .no (.two (.two .no (.one (.loop ⟨[0, 1, 2, 11, 12], ⟨[.c (.dat .str), .c (.dat (.int .i64)), .c (.dat (.int .i64)), .c (.dat (.int .i64)), .c (.dat (.int .i64))], []⟩⟩ .no))) .no))))))
/-- what turnstile/turnstileref01.number comes to. -/
def rNumber (n : Nat) (x : (List Int) × Int × Int) : Option (Int × Int) :=
  match x with
  | (x1, (x2, x3)) =>
  (if (decide (x3 < (0 : Int))) = true then
  some ((0 : Int), (1 : Int))
  else
  (loopF (X := (List Int) × Int × Int × Int) (A := Int × Int) (fun rec4 y5 => match y5 with
  | (a6, (a7, (a8, a9))) =>
  (if (decide (a9 < (a6.length : Int))) = true then
  (Option.bind (idx a6 a9) fun v10 =>
  (Option.bind (rHex n v10) fun r11 =>
  (if (!r11.2) = true then
  some ((0 : Int), (3 : Int))
  else
  (if (decide (r11.1 ≥ a7)) = true then
  some ((0 : Int), (3 : Int))
  else
  rec4 (a6, (a7, (a8, (IntKind.wrap .i64 (a9 + (1 : Int))))))))))
  else
  (if ((a6.length : Int) == (0 : Int)) = true then
  some ((0 : Int), (3 : Int))
  else
  (loopF (X := (List Int) × Int × Int × Int × Int) (A := Int × Int) (fun rec12 y13 => match y13 with
  | (a14, (a15, (a16, (a17, a18)))) =>
  (if (decide (a18 < (a14.length : Int))) = true then
  (Option.bind (idx a14 a18) fun v19 =>
  (Option.bind (rHex n v19) fun r20 =>
  (if (decide (r20.1 > a16)) = true then
  some ((0 : Int), (4 : Int))
  else
  (if a15 = 0 then none else
  (let u21 : Int := (IntKind.wrap .i64 (Int.tdiv (IntKind.wrap .i64 (a16 - r20.1)) a15))
  (if (decide (a17 > u21)) = true then
  some ((0 : Int), (4 : Int))
  else
  (let u22 : Int := (IntKind.wrap .i64 ((IntKind.wrap .i64 (a17 * a15)) + r20.1))
  (let u23 : Int := (IntKind.wrap .i64 (a18 + (1 : Int)))
  rec12 (a14, (a15, (a16, (u22, u23))))))))))))
  else
  some (a17, (0 : Int)))) n (a6, (a7, (a8, ((0 : Int), (0 : Int))))))))) n (x1, (x2, (x3, (0 : Int))))))
def sp_rNumber (n : Nat) : Spec := ⟨pre_rNumber, post_rNumber, rNumber n⟩
def env_rNumber (n : Nat) : List (FuncId × Spec) := [(60, sp_rHex n)]
theorem run_rNumber (n : Nat) (x : pre_rNumber.T) : fnRun Tryd.prog 72 (envG (env_rNumber n) [] (fun _ => none)) n Tryd.f51 ann_rNumber pre_rNumber post_rNumber x = rNumber n x := by kernel_rfl
theorem ok_rNumber (n : Nat) : FnOK Tryd.prog 72 L0 51 (sp_rNumber n) :=
  fn_run mixed Tryd.func51 (sp_rNumber n) n ann_rNumber (env_rNumber n) (envOf_cons (ok_rHex n) envOf_nil) [] (fun _ => none) gl_none (run_rNumber n) (by kernel_rfl)
def pre_equalFunc : Shape := ⟨[.c (.dat (.list .str)), .c (.dat (.list .str)), .c (.fnc 53)], []⟩
def post_equalFunc : List Shape := [⟨[.c (.dat .bool)], []⟩]
def ann_equalFunc : Ann := (.two .no (.two .no (.two (.two .no (.one (.loop ⟨[1, 2, 15, 16, 17], ⟨[.c (.dat (.list .str)), .c (.fnc 53), .c (.dat (.list .str)), .c (.dat (.int .i64)), .c (.dat (.int .i64))], []⟩⟩ .no))) .no)))
/-- what slices.EqualFunc[[]string,[]string,string,string] comes to. -/
def equalFunc (n : Nat) (x : (List (List Int)) × List (List Int)) : Option (Bool) :=
  match x with
  | (x1, x2) =>
  (if ((x1.length : Int) != (x2.length : Int)) = true then
  some false
  else
  (loopF (X := (List (List Int)) × (List (List Int)) × Int × Int) (A := Bool) (fun rec3 y4 => match y4 with
  | (a5, (a6, (a7, a8))) =>
  (if (decide (a8 < a7)) = true then
  (Option.bind (idx a6 a8) fun v9 =>
  (Option.bind (idx a5 a8) fun v10 =>
  (Option.bind (keyfits1 n (v9, v10)) fun r11 =>
  (if (!r11) = true then
  some false
  else
  rec3 (a5, (a6, (a7, (IntKind.wrap .i64 (a8 + (1 : Int))))))))))
  else
  some true)) n (x2, (x1, ((x1.length : Int), (0 : Int))))))
def sp_equalFunc (n : Nat) : Spec := ⟨pre_equalFunc, post_equalFunc, equalFunc n⟩
def env_equalFunc (n : Nat) : List (FuncId × Spec) := [(53, sp_keyfits1 n)]
theorem run_equalFunc (n : Nat) (x : pre_equalFunc.T) : fnRun Tryd.prog 72 (envG (env_equalFunc n) [] (fun _ => none)) n Tryd.f52 ann_equalFunc pre_equalFunc post_equalFunc x = equalFunc n x := by kernel_rfl
theorem ok_equalFunc (n : Nat) : FnOK Tryd.prog 72 L0 52 (sp_equalFunc n) :=
  fn_run mixed Tryd.func52 (sp_equalFunc n) n ann_equalFunc (env_equalFunc n) (envOf_cons (ok_keyfits1 n) envOf_nil) [] (fun _ => none) gl_none (run_equalFunc n) (by kernel_rfl)
def pre_genSplit : Shape := ⟨[.c (.dat .str), .c (.dat .str), .c (.dat (.int .i64)), .c (.dat (.int .i64))], []⟩
def post_genSplit : List Shape := [⟨[.c (.dat (.list .str))], []⟩]
def ann_genSplit : Ann := (.two .no (.two .no (.two .no (.two (.join ⟨[0, 1, 2, 3], ⟨[.c (.dat .str), .c (.dat .str), .c (.dat (.int .i64)), .c (.dat (.int .i64))], []⟩⟩ .no) (.two .no (.two .no (.two .no (.two .no (.two (.one (.loop ⟨[0, 1, 2, 3, 9, 10], ⟨[.c (.dat .str), .c (.dat .str), .c (.dat (.int .i64)), .c (.dat (.int .i64)), .c (.own 500), .c (.dat (.int .i64))], [(500, .row 9 .str)]⟩⟩ .no)) .no)))))))))
/-- what strings.genSplit comes to. -/
def genSplit (n : Nat) (x : (List Int) × (List Int) × Int × Int) : Option (List (List Int)) :=
  match x with
  | (x1, (x2, (x3, x4))) =>
  (if (x4 == (0 : Int)) = true then
  some ([] : List (List Int))
  else
  (if (x2 == ([] : List Int)) = true then
  none
  else
  (Option.bind (α := Out ((List Int) × (List Int) × Int × Int) (List (List Int))) ((if (decide (x4 < (0 : Int))) = true then
  (Option.bind (stringsCount n (x1, x2)) fun r5 =>
  (some (Out.go (x1, (x2, (x3, (IntKind.wrap .i64 (r5 + (1 : Int)))))))))
  else
  (some (Out.go (x1, (x2, (x3, x4))))))) fun o => match o with
  | .go (z7, (z8, (z9, z10))) =>
  (let u11 : Int := (IntKind.wrap .i64 ((z7.length : Int) + (1 : Int)))
  (if 0 ≤ (if u11 < z10 then u11 else z10) ∧ (if u11 < z10 then u11 else z10) ≤ (if u11 < z10 then u11 else z10) ∧ (16 : Int) * (if u11 < z10 then u11 else z10) ≤ 140737488355328 then
  (let u12 : List (List Int) := (List.replicate (if u11 < z10 then u11 else z10).toNat ([] : List Int))
  (let u13 : Int := (IntKind.wrap .i64 ((if u11 < z10 then u11 else z10) - (1 : Int)))
  (loopF (X := (List Int) × (List Int) × Int × Int × Int × List (List Int)) (A := List (List Int)) (fun rec14 y15 => match y15 with
  | (a16, (a17, (a18, (a19, (a20, a21))))) =>
  (if (decide (a20 < a19)) = true then
  (Option.bind (stringsIndex n (a16, a17)) fun r22 =>
  (if (decide (r22 < (0 : Int))) = true then
  (if 0 ≤ a20 ∧ a20 < (a21.length : Int) then
  (let u23 : Int := (IntKind.wrap .i64 (a20 + (1 : Int)))
  (if 0 ≤ (0 : Int) ∧ (0 : Int) ≤ u23 ∧ u23 ≤ ((a21.set a20.toNat a16).length : Int) then
  (let u24 : List (List Int) := ((a21.set a20.toNat a16).take u23.toNat)
  some u24)
  else none))
  else none)
  else
  (if 0 ≤ (0 : Int) ∧ (0 : Int) ≤ (IntKind.wrap .i64 (r22 + a18)) ∧ (IntKind.wrap .i64 (r22 + a18)) ≤ (a16.length : Int) then
  (let u25 : List Int := ((a16.drop 0).take ((IntKind.wrap .i64 (r22 + a18)).toNat - 0))
  (if 0 ≤ a20 ∧ a20 < (a21.length : Int) then
  (let u26 : Int := (IntKind.wrap .i64 (r22 + (a17.length : Int)))
  (if 0 ≤ u26 ∧ u26 ≤ (a16.length : Int) ∧ (a16.length : Int) ≤ (a16.length : Int) then
  (let u27 : List Int := ((a16.drop u26.toNat).take (((a16.length : Int)).toNat - u26.toNat))
  (let u28 : Int := (IntKind.wrap .i64 (a20 + (1 : Int)))
  rec14 (u27, (a17, (a18, (a19, (u28, (a21.set a20.toNat u25))))))))
  else none))
  else none))
  else none)))
  else
  (if 0 ≤ a20 ∧ a20 < (a21.length : Int) then
  (let u29 : Int := (IntKind.wrap .i64 (a20 + (1 : Int)))
  (if 0 ≤ (0 : Int) ∧ (0 : Int) ≤ u29 ∧ u29 ≤ ((a21.set a20.toNat a16).length : Int) then
  (let u30 : List (List Int) := ((a21.set a20.toNat a16).take u29.toNat)
  some u30)
  else none))
  else none))) n (z7, (z8, (z9, (u13, ((0 : Int), u12))))))))
  else none))
  | .ret r31 => some r31)))
def sp_genSplit (n : Nat) : Spec := ⟨pre_genSplit, post_genSplit, genSplit n⟩
def env_genSplit (n : Nat) : List (FuncId × Spec) := [(62, sp_stringsCount n), (63, sp_stringsIndex n)]
theorem run_genSplit (n : Nat) (x : pre_genSplit.T) : fnRun Tryd.prog 72 (envG (env_genSplit n) [296104] (fun _ => none)) n Tryd.f54 ann_genSplit pre_genSplit post_genSplit x = genSplit n x := by kernel_rfl
theorem ok_genSplit (n : Nat) : FnOK Tryd.prog 72 L0 54 (sp_genSplit n) :=
  fn_run mixed Tryd.func54 (sp_genSplit n) n ann_genSplit (env_genSplit n) (envOf_cons (ok_stringsCount n) (envOf_cons (ok_stringsIndex n) envOf_nil)) [296104] (fun _ => none) gl_none (run_genSplit n) (by kernel_rfl)
def pre_indexRabinKarpstring : Shape := ⟨[.c (.dat .str), .c (.dat .str)], []⟩
def post_indexRabinKarpstring : List Shape := [⟨[.c (.dat (.int .i64))], []⟩]
def ann_indexRabinKarpstring : Ann := (.two .no (.two .no (.two .no (.two .no (.two (.two .no (.one (.loop ⟨[0, 1, 5, 6, 7, 8, 9], ⟨[.c (.dat .str), .c (.dat .str), .c (.dat (.int .u32)), .c (.dat (.int .u32)), .c (.dat (.int .i64)), .c (.dat (.int .u32)), .c (.dat (.int .i64))], []⟩⟩ .no))) (.two (.two (.join ⟨[0, 1, 5, 6, 7, 8, 39], ⟨[.c (.dat .str), .c (.dat .str), .c (.dat (.int .u32)), .c (.dat (.int .u32)), .c (.dat (.int .i64)), .c (.dat (.int .u32)), .c (.dat .bool)], []⟩⟩ .no) .no) (.two (.two .no (.one (.loop ⟨[0, 1, 5, 6, 7, 8, 10], ⟨[.c (.dat .str), .c (.dat .str), .c (.dat (.int .u32)), .c (.dat (.int .u32)), .c (.dat (.int .i64)), .c (.dat (.int .u32)), .c (.dat (.int .i64))], []⟩⟩ .no))) .no)))))))
/-- what internal/bytealg.IndexRabinKarp[string] comes to. -/
def indexRabinKarpstring (n : Nat) (x : (List Int) × List Int) : Option (Int) :=
  match x with
  | (x1, x2) =>
  (Option.bind (hashStrstring n x2) fun r3 =>
  (loopF (X := (List Int) × (List Int) × Int × Int × Int × Int × Int) (A := Int) (fun rec4 y5 => match y5 with
  | (a6, (a7, (a8, (a9, (a10, (a11, a12)))))) =>
  (if (decide (a12 < a10)) = true then
  (let u13 : Int := (IntKind.wrap .u32 (a11 * (16777619 : Int)))
  (Option.bind (idx a6 a12) fun v14 =>
  (let u15 : Int := (IntKind.wrap .u32 (u13 + (IntKind.wrap .u32 v14)))
  (let u16 : Int := (IntKind.wrap .i64 (a12 + (1 : Int)))
  rec4 (a6, (a7, (a8, (a9, (a10, (u15, u16))))))))))
  else
  (Option.bind (α := Out ((List Int) × (List Int) × Int × Int × Int × Int × Bool) (Int)) ((if (a11 == a8) = true then
  (if 0 ≤ (0 : Int) ∧ (0 : Int) ≤ a10 ∧ a10 ≤ (a6.length : Int) then
  (some (Out.go (a6, (a7, (a8, (a9, (a10, (a11, (((a6.drop 0).take (a10.toNat - 0)) == a7)))))))))
  else none)
  else
  (some (Out.go (a6, (a7, (a8, (a9, (a10, (a11, false)))))))))) fun o => match o with
  | .go (z18, (z19, (z20, (z21, (z22, (z23, z24)))))) =>
  (if z24 = true then
  some (0 : Int)
  else
  (loopF (X := (List Int) × (List Int) × Int × Int × Int × Int × Int) (A := Int) (fun rec25 y26 => match y26 with
  | (a27, (a28, (a29, (a30, (a31, (a32, a33)))))) =>
  (if (decide (a33 < (a27.length : Int))) = true then
  (let u34 : Int := (IntKind.wrap .u32 (a32 * (16777619 : Int)))
  (Option.bind (idx a27 a33) fun v35 =>
  (let u36 : Int := (IntKind.wrap .u32 (u34 + (IntKind.wrap .u32 v35)))
  (Option.bind (idx a27 (IntKind.wrap .i64 (a33 - a31))) fun v37 =>
  (let u38 : Int := (IntKind.wrap .u32 (a30 * (IntKind.wrap .u32 v37)))
  (let u39 : Int := (IntKind.wrap .i64 (a33 + (1 : Int)))
  (if ((IntKind.wrap .u32 (u36 - u38)) == a29) = true then
  (if 0 ≤ (IntKind.wrap .i64 (u39 - a31)) ∧ (IntKind.wrap .i64 (u39 - a31)) ≤ u39 ∧ u39 ≤ (a27.length : Int) then
  (let u40 : List Int := ((a27.drop (IntKind.wrap .i64 (u39 - a31)).toNat).take (u39.toNat - (IntKind.wrap .i64 (u39 - a31)).toNat))
  (if (u40 == a28) = true then
  some (IntKind.wrap .i64 (u39 - a31))
  else
  rec25 (a27, (a28, (a29, (a30, (a31, ((IntKind.wrap .u32 (u36 - u38)), u39))))))))
  else none)
  else
  rec25 (a27, (a28, (a29, (a30, (a31, ((IntKind.wrap .u32 (u36 - u38)), u39)))))))))))))
  else
  some (-1 : Int))) n (z18, (z19, (z20, (z21, (z22, (z23, z22))))))))
  | .ret r41 => some r41))) n (x1, (x2, (r3.1, (r3.2, ((x2.length : Int), ((0 : Int), (0 : Int)))))))))
def sp_indexRabinKarpstring (n : Nat) : Spec := ⟨pre_indexRabinKarpstring, post_indexRabinKarpstring, indexRabinKarpstring n⟩
def env_indexRabinKarpstring (n : Nat) : List (FuncId × Spec) := [(74, sp_hashStrstring n)]
theorem run_indexRabinKarpstring (n : Nat) (x : pre_indexRabinKarpstring.T) : fnRun Tryd.prog 72 (envG (env_indexRabinKarpstring n) [] (fun _ => none)) n Tryd.f69 ann_indexRabinKarpstring pre_indexRabinKarpstring post_indexRabinKarpstring x = indexRabinKarpstring n x := by kernel_rfl
theorem ok_indexRabinKarpstring (n : Nat) : FnOK Tryd.prog 72 L0 69 (sp_indexRabinKarpstring n) :=
  fn_run mixed Tryd.func69 (sp_indexRabinKarpstring n) n ann_indexRabinKarpstring (env_indexRabinKarpstring n) (envOf_cons (ok_hashStrstring n) envOf_nil) [] (fun _ => none) gl_none (run_indexRabinKarpstring n) (by kernel_rfl)
def pre_rCanon : Shape := ⟨[.c (.dat .str)], []⟩
def post_rCanon : List Shape := [⟨[.c (.dat .str), .c (.dat (.int .i64))], []⟩]
def ann_rCanon : Ann := .no
/-- what turnstile/turnstileref16.Canon comes to. -/
def rCanon (n : Nat) (x : List Int) : Option ((List Int) × Int) :=
  (Option.bind (rLabels n (x, false)) fun r2 =>
  (if (!r2.2) = true then
  some (([] : List Int), (3 : Int))
  else
  (Option.bind (rLower n x) fun r3 =>
  some (r3, (0 : Int)))))
def sp_rCanon (n : Nat) : Spec := ⟨pre_rCanon, post_rCanon, rCanon n⟩
def env_rCanon (n : Nat) : List (FuncId × Spec) := [(31, sp_rLabels n), (32, sp_rLower n)]
theorem run_rCanon (n : Nat) (x : pre_rCanon.T) : fnRun Tryd.prog 72 (envG (env_rCanon n) [] (fun _ => none)) n Tryd.f9 ann_rCanon pre_rCanon post_rCanon x = rCanon n x := by kernel_rfl
theorem ok_rCanon (n : Nat) : FnOK Tryd.prog 72 L0 9 (sp_rCanon n) :=
  fn_run mixed Tryd.func9 (sp_rCanon n) n ann_rCanon (env_rCanon n) (envOf_cons (ok_rLabels n) (envOf_cons (ok_rLower n) envOf_nil)) [] (fun _ => none) gl_none (run_rCanon n) (by kernel_rfl)
def pre_rCheck : Shape := ⟨[.c (.dat .str)], []⟩
def post_rCheck : List Shape := [⟨[.c (.dat (.int .i64))], []⟩]
def ann_rCheck : Ann := .no
/-- what turnstile/turnstileref16.Check comes to. -/
def rCheck (n : Nat) (x : List Int) : Option (Int) :=
  (Option.bind (rLabels n (x, true)) fun r2 =>
  (if (!r2.2) = true then
  (if (!(x == ([] : List Int))) = true then
  some (3 : Int)
  else
  some (0 : Int))
  else
  some (0 : Int)))
def sp_rCheck (n : Nat) : Spec := ⟨pre_rCheck, post_rCheck, rCheck n⟩
def env_rCheck (n : Nat) : List (FuncId × Spec) := [(31, sp_rLabels n)]
theorem run_rCheck (n : Nat) (x : pre_rCheck.T) : fnRun Tryd.prog 72 (envG (env_rCheck n) [] (fun _ => none)) n Tryd.f14 ann_rCheck pre_rCheck post_rCheck x = rCheck n x := by kernel_rfl
theorem ok_rCheck (n : Nat) : FnOK Tryd.prog 72 L0 14 (sp_rCheck n) :=
  fn_run mixed Tryd.func14 (sp_rCheck n) n ann_rCheck (env_rCheck n) (envOf_cons (ok_rLabels n) envOf_nil) [] (fun _ => none) gl_none (run_rCheck n) (by kernel_rfl)
def pre_rAdd : Shape := ⟨[.c (.dat (.list (.pair .str (.pair (.int .i64) .unit)))), .c (.dat .str), .c (.dat (.int .i64))], []⟩
def post_rAdd : List Shape := [⟨[.c (.dat (.list (.pair .str (.pair (.int .i64) .unit)))), .c (.dat (.int .i64))], []⟩]
def ann_rAdd : Ann := (.two .no (.two .no (.two (.two .no (.one (.loop ⟨[0, 1, 2, 8], ⟨[.c (.dat (.list (.pair .str (.pair (.int .i64) .unit)))), .c (.dat .str), .c (.dat (.int .i64)), .c (.dat (.int .i64))], []⟩⟩ .no))) .no)))
/-- what turnstile/turnstileref16.Add comes to. -/
def rAdd (n : Nat) (x : (List (List Int × (Int × Unit))) × (List Int) × Int) : Option ((List (List Int × (Int × Unit))) × Int) :=
  match x with
  | (x1, (x2, x3)) =>
  (Option.bind (rCheck n x2) fun r4 =>
  (if (r4 != (0 : Int)) = true then
  some (x1, (3 : Int))
  else
  (loopF (X := (List (List Int × (Int × Unit))) × (List Int) × Int × Int) (A := (List (List Int × (Int × Unit))) × Int) (fun rec5 y6 => match y6 with
  | (a7, (a8, (a9, a10))) =>
  (if (decide (a10 < (a7.length : Int))) = true then
  (Option.bind (idx a7 a10) fun v11 =>
  (Option.bind (rLower n a8) fun r12 =>
  (if (v11.1 == r12) = true then
  some (a7, (6 : Int))
  else
  (let u13 : Int := (IntKind.wrap .i64 (a10 + (1 : Int)))
  rec5 (a7, (a8, (a9, u13)))))))
  else
  (if (decide ((a7.length : Int) ≥ (64 : Int))) = true then
  some (a7, (9 : Int))
  else
  (if a7.length * 24 ≤ 140737488355328 then
  (Option.bind (rLower n a8) fun r14 =>
  (if (a7.length + 1) * 24 ≤ 140737488355328 then
  (let u15 : List (List Int × (Int × Unit)) := (a7 ++ ([(r14, (a9, ()))] : List (List Int × (Int × Unit))))
  some (u15, (0 : Int)))
  else none))
  else none)))) n (x1, (x2, (x3, (0 : Int)))))))
def sp_rAdd (n : Nat) : Spec := ⟨pre_rAdd, post_rAdd, rAdd n⟩
def env_rAdd (n : Nat) : List (FuncId × Spec) := [(14, sp_rCheck n), (32, sp_rLower n)]
theorem run_rAdd (n : Nat) (x : pre_rAdd.T) : fnRun Tryd.prog 72 (envG (env_rAdd n) [] (fun _ => none)) n Tryd.f17 ann_rAdd pre_rAdd post_rAdd x = rAdd n x := by kernel_rfl
theorem ok_rAdd (n : Nat) : FnOK Tryd.prog 72 L0 17 (sp_rAdd n) :=
  fn_run mixed Tryd.func17 (sp_rAdd n) n ann_rAdd (env_rAdd n) (envOf_cons (ok_rCheck n) (envOf_cons (ok_rLower n) envOf_nil)) [] (fun _ => none) gl_none (run_rAdd n) (by kernel_rfl)
def pre_rFind : Shape := ⟨[.c (.dat (.list (.pair .str (.pair (.int .i64) .unit)))), .c (.dat .str)], []⟩
def post_rFind : List Shape := [⟨[.c (.dat (.int .i64)), .c (.dat (.int .i64))], []⟩]
def ann_rFind : Ann := (.two .no (.two .no (.two .no (.two .no (.two (.two .no (.one (.loop ⟨[0, 1, 8, 9], ⟨[.c (.dat (.list (.pair .str (.pair (.int .i64) .unit)))), .c (.dat .str), .c (.dat (.int .i64)), .c (.dat (.int .i64))], []⟩⟩ .no))) .no)))))
/-- what turnstile/turnstileref16.Find comes to. -/
def rFind (n : Nat) (x : (List (List Int × (Int × Unit))) × List Int) : Option (Int × Int) :=
  match x with
  | (x1, x2) =>
  (Option.bind (rLabels n (x2, false)) fun r3 =>
  (if (!r3.2) = true then
  some ((-1 : Int), (3 : Int))
  else
  (loopF (X := (List (List Int × (Int × Unit))) × (List Int) × Int × Int) (A := Int × Int) (fun rec4 y5 => match y5 with
  | (a6, (a7, (a8, a9))) =>
  (if (decide (a9 < (a6.length : Int))) = true then
  (Option.bind (idx a6 a9) fun v10 =>
  (Option.bind (turnstileref16RFits n (v10.1, a7)) fun r11 =>
  (if r11 = true then
  (if (decide (a8 < (0 : Int))) = true then
  rec4 (a6, (a7, (a9, (IntKind.wrap .i64 (a9 + (1 : Int))))))
  else
  (Option.bind (idx a6 a9) fun v12 =>
  (Option.bind (idx a6 a8) fun v13 =>
  (Option.bind (rAhead n (v12.1, v13.1)) fun r14 =>
  (if r14 = true then
  rec4 (a6, (a7, (a9, (IntKind.wrap .i64 (a9 + (1 : Int))))))
  else
  rec4 (a6, (a7, (a8, (IntKind.wrap .i64 (a9 + (1 : Int)))))))))))
  else
  rec4 (a6, (a7, (a8, (IntKind.wrap .i64 (a9 + (1 : Int)))))))))
  else
  (if (decide (a8 < (0 : Int))) = true then
  some ((-1 : Int), (8 : Int))
  else
  some (a8, (0 : Int))))) n (x1, (x2, ((-1 : Int), (0 : Int)))))))
def sp_rFind (n : Nat) : Spec := ⟨pre_rFind, post_rFind, rFind n⟩
def env_rFind (n : Nat) : List (FuncId × Spec) := [(31, sp_rLabels n), (39, sp_turnstileref16RFits n), (40, sp_rAhead n)]
theorem run_rFind (n : Nat) (x : pre_rFind.T) : fnRun Tryd.prog 72 (envG (env_rFind n) [] (fun _ => none)) n Tryd.f22 ann_rFind pre_rFind post_rFind x = rFind n x := by kernel_rfl
theorem ok_rFind (n : Nat) : FnOK Tryd.prog 72 L0 22 (sp_rFind n) :=
  fn_run mixed Tryd.func22 (sp_rFind n) n ann_rFind (env_rFind n) (envOf_cons (ok_rLabels n) (envOf_cons (ok_turnstileref16RFits n) (envOf_cons (ok_rAhead n) envOf_nil))) [] (fun _ => none) gl_none (run_rFind n) (by kernel_rfl)
def pre_rFits : Shape := ⟨[.c (.dat .str), .c (.dat .str)], []⟩
def post_rFits : List Shape := [⟨[.c (.dat .bool), .c (.dat (.int .i64))], []⟩]
def ann_rFits : Ann := .no
/-- what turnstile/turnstileref16.Fits comes to. -/
def rFits (n : Nat) (x : (List Int) × List Int) : Option (Bool × Int) :=
  match x with
  | (x1, x2) =>
  (Option.bind (rLabels n (x2, false)) fun r3 =>
  (Option.bind (rCheck n x1) fun r4 =>
  (if (r4 != (0 : Int)) = true then
  some (false, (3 : Int))
  else
  (if (!r3.2) = true then
  some (false, (3 : Int))
  else
  (Option.bind (turnstileref16RFits n (x1, x2)) fun r5 =>
  some (r5, (0 : Int)))))))
def sp_rFits (n : Nat) : Spec := ⟨pre_rFits, post_rFits, rFits n⟩
def env_rFits (n : Nat) : List (FuncId × Spec) := [(31, sp_rLabels n), (14, sp_rCheck n), (39, sp_turnstileref16RFits n)]
theorem run_rFits (n : Nat) (x : pre_rFits.T) : fnRun Tryd.prog 72 (envG (env_rFits n) [] (fun _ => none)) n Tryd.f24 ann_rFits pre_rFits post_rFits x = rFits n x := by kernel_rfl
theorem ok_rFits (n : Nat) : FnOK Tryd.prog 72 L0 24 (sp_rFits n) :=
  fn_run mixed Tryd.func24 (sp_rFits n) n ann_rFits (env_rFits n) (envOf_cons (ok_rLabels n) (envOf_cons (ok_rCheck n) (envOf_cons (ok_turnstileref16RFits n) envOf_nil))) [] (fun _ => none) gl_none (run_rFits n) (by kernel_rfl)
def pre_rBeats : Shape := ⟨[.c (.dat .str), .c (.dat .str), .c (.dat .str)], []⟩
def post_rBeats : List Shape := [⟨[.c (.dat .bool), .c (.dat (.int .i64))], []⟩]
def ann_rBeats : Ann := .no
/-- what turnstile/turnstileref16.Beats comes to. -/
def rBeats (n : Nat) (x : (List Int) × (List Int) × List Int) : Option (Bool × Int) :=
  match x with
  | (x1, (x2, x3)) =>
  (Option.bind (rFits n (x1, x3)) fun r4 =>
  (Option.bind (rFits n (x2, x3)) fun r5 =>
  (if (r4.2 != (0 : Int)) = true then
  some (false, (3 : Int))
  else
  (if (r5.2 != (0 : Int)) = true then
  some (false, (3 : Int))
  else
  (if (!r4.1) = true then
  some (false, (8 : Int))
  else
  (if (!r5.1) = true then
  some (false, (8 : Int))
  else
  (Option.bind (rAhead n (x1, x2)) fun r6 =>
  some (r6, (0 : Int)))))))))
def sp_rBeats (n : Nat) : Spec := ⟨pre_rBeats, post_rBeats, rBeats n⟩
def env_rBeats (n : Nat) : List (FuncId × Spec) := [(24, sp_rFits n), (40, sp_rAhead n)]
theorem run_rBeats (n : Nat) (x : pre_rBeats.T) : fnRun Tryd.prog 72 (envG (env_rBeats n) [] (fun _ => none)) n Tryd.f26 ann_rBeats pre_rBeats post_rBeats x = rBeats n x := by kernel_rfl
theorem ok_rBeats (n : Nat) : FnOK Tryd.prog 72 L0 26 (sp_rBeats n) :=
  fn_run mixed Tryd.func26 (sp_rBeats n) n ann_rBeats (env_rBeats n) (envOf_cons (ok_rFits n) (envOf_cons (ok_rAhead n) envOf_nil)) [] (fun _ => none) gl_none (run_rBeats n) (by kernel_rfl)
def pre_cut : Shape := ⟨[.c (.dat .str), .c (.dat .str)], []⟩
def post_cut : List Shape := [⟨[.c (.dat .str), .c (.dat .str), .c (.dat .bool)], []⟩]
def ann_cut : Ann := .no
/-- what strings.Cut comes to. -/
def cut (n : Nat) (x : (List Int) × List Int) : Option ((List Int) × (List Int) × Bool) :=
  match x with
  | (x1, x2) =>
  (Option.bind (stringsliteCut n (x1, x2)) fun r3 =>
  some (r3.1, (r3.2.1, r3.2.2)))
def sp_cut (n : Nat) : Spec := ⟨pre_cut, post_cut, cut n⟩
def env_cut (n : Nat) : List (FuncId × Spec) := [(49, sp_stringsliteCut n)]
theorem run_cut (n : Nat) (x : pre_cut.T) : fnRun Tryd.prog 72 (envG (env_cut n) [] (fun _ => none)) n Tryd.f33 ann_cut pre_cut post_cut x = cut n x := by kernel_rfl
theorem ok_cut (n : Nat) : FnOK Tryd.prog 72 L0 33 (sp_cut n) :=
  fn_run mixed Tryd.func33 (sp_cut n) n ann_cut (env_cut n) (envOf_cons (ok_stringsliteCut n) envOf_nil) [] (fun _ => none) gl_none (run_cut n) (by kernel_rfl)
def pre_decimal : Shape := ⟨[.c (.dat .str), .c (.dat (.int .i64))], []⟩
def post_decimal : List Shape := [⟨[.c (.dat (.int .i64)), .c (.dat .err)], []⟩]
def ann_decimal : Ann := .no
/-- what turnstile/chars.Decimal comes to. -/
def decimal (n : Nat) (x : (List Int) × Int) : Option (Int × Int) :=
  match x with
  | (x1, x2) =>
  (Option.bind (number n (x1, ((10 : Int), x2))) fun r3 =>
  some (r3.1, r3.2))
def sp_decimal (n : Nat) : Spec := ⟨pre_decimal, post_decimal, decimal n⟩
def env_decimal (n : Nat) : List (FuncId × Spec) := [(50, sp_number n)]
theorem run_decimal (n : Nat) (x : pre_decimal.T) : fnRun Tryd.prog 72 (envG (env_decimal n) [] (fun _ => none)) n Tryd.f34 ann_decimal pre_decimal post_decimal x = decimal n x := by kernel_rfl
theorem ok_decimal (n : Nat) : FnOK Tryd.prog 72 L0 34 (sp_decimal n) :=
  fn_run mixed Tryd.func34 (sp_decimal n) n ann_decimal (env_decimal n) (envOf_cons (ok_number n) envOf_nil) [] (fun _ => none) gl_none (run_decimal n) (by kernel_rfl)
def pre_rDecimal : Shape := ⟨[.c (.dat .str), .c (.dat (.int .i64))], []⟩
def post_rDecimal : List Shape := [⟨[.c (.dat (.int .i64)), .c (.dat (.int .i64))], []⟩]
def ann_rDecimal : Ann := .no
/-- what turnstile/turnstileref01.Decimal comes to. -/
def rDecimal (n : Nat) (x : (List Int) × Int) : Option (Int × Int) :=
  match x with
  | (x1, x2) =>
  (Option.bind (rNumber n (x1, ((10 : Int), x2))) fun r3 =>
  some (r3.1, r3.2))
def sp_rDecimal (n : Nat) : Spec := ⟨pre_rDecimal, post_rDecimal, rDecimal n⟩
def env_rDecimal (n : Nat) : List (FuncId × Spec) := [(51, sp_rNumber n)]
theorem run_rDecimal (n : Nat) (x : pre_rDecimal.T) : fnRun Tryd.prog 72 (envG (env_rDecimal n) [] (fun _ => none)) n Tryd.f35 ann_rDecimal pre_rDecimal post_rDecimal x = rDecimal n x := by kernel_rfl
theorem ok_rDecimal (n : Nat) : FnOK Tryd.prog 72 L0 35 (sp_rDecimal n) :=
  fn_run mixed Tryd.func35 (sp_rDecimal n) n ann_rDecimal (env_rDecimal n) (envOf_cons (ok_rNumber n) envOf_nil) [] (fun _ => none) gl_none (run_rDecimal n) (by kernel_rfl)
def pre_stringsSplit : Shape := ⟨[.c (.dat .str), .c (.dat .str)], []⟩
def post_stringsSplit : List Shape := [⟨[.c (.dat (.list .str))], []⟩]
def ann_stringsSplit : Ann := .no
/-- what strings.Split comes to. -/
def stringsSplit (n : Nat) (x : (List Int) × List Int) : Option (List (List Int)) :=
  match x with
  | (x1, x2) =>
  (Option.bind (genSplit n (x1, (x2, ((0 : Int), (-1 : Int))))) fun r3 =>
  some r3)
def sp_stringsSplit (n : Nat) : Spec := ⟨pre_stringsSplit, post_stringsSplit, stringsSplit n⟩
def env_stringsSplit (n : Nat) : List (FuncId × Spec) := [(54, sp_genSplit n)]
theorem run_stringsSplit (n : Nat) (x : pre_stringsSplit.T) : fnRun Tryd.prog 72 (envG (env_stringsSplit n) [] (fun _ => none)) n Tryd.f42 ann_stringsSplit pre_stringsSplit post_stringsSplit x = stringsSplit n x := by kernel_rfl
theorem ok_stringsSplit (n : Nat) : FnOK Tryd.prog 72 L0 42 (sp_stringsSplit n) :=
  fn_run mixed Tryd.func42 (sp_stringsSplit n) n ann_stringsSplit (env_stringsSplit n) (envOf_cons (ok_genSplit n) envOf_nil) [] (fun _ => none) gl_none (run_stringsSplit n) (by kernel_rfl)
def pre_rSplit : Shape := ⟨[.c (.dat .str)], []⟩
def post_rSplit : List Shape := [⟨[.c (.dat .str), .c (.dat (.int .i64)), .c (.dat (.int .i64))], []⟩]
def ann_rSplit : Ann := (.two .no (.two .no (.two (.join ⟨[0, 5], ⟨[.c (.dat .str), .c (.dat (.int .i64))], []⟩⟩ (.two .no (.one (.loop ⟨[0, 5, 6], ⟨[.c (.dat .str), .c (.dat (.int .i64)), .c (.dat (.int .i64))], []⟩⟩ .no)))) .no)))
/-- what turnstile/turnstileref16.Split comes to. -/
def rSplit (n : Nat) (x : List Int) : Option ((List Int) × Int × Int) :=
  (Option.bind (α := Out ((List Int) × Int) ((List Int) × Int × Int)) ((loopF (X := (List Int) × Int × Int) (A := Out ((List Int) × Int) ((List Int) × Int × Int)) (fun rec2 y3 => match y3 with
  | (a4, (a5, a6)) =>
  (if (decide (a6 < (a4.length : Int))) = true then
  (Option.bind (idx a4 a6) fun v7 =>
  (if (v7 == (58 : Int)) = true then
  (some (Out.go (a4, a6)))
  else
  rec2 (a4, (a5, (IntKind.wrap .i64 (a6 + (1 : Int)))))))
  else
  (some (Out.go (a4, a5))))) n (x, ((x.length : Int), (0 : Int))))) fun o => match o with
  | .go (z9, z10) =>
  (if 0 ≤ (0 : Int) ∧ (0 : Int) ≤ z10 ∧ z10 ≤ (z9.length : Int) then
  (Option.bind (rCanon n ((z9.drop 0).take (z10.toNat - 0))) fun r11 =>
  (if (r11.2 != (0 : Int)) = true then
  some (r11.1, ((0 : Int), r11.2))
  else
  (if (z10 == (z9.length : Int)) = true then
  some (r11.1, ((0 : Int), r11.2))
  else
  (let u12 : Int := (IntKind.wrap .i64 (z10 + (1 : Int)))
  (if 0 ≤ u12 ∧ u12 ≤ (z9.length : Int) ∧ (z9.length : Int) ≤ (z9.length : Int) then
  (let u13 : List Int := ((z9.drop u12.toNat).take (((z9.length : Int)).toNat - u12.toNat))
  (Option.bind (rDecimal n (u13, (65535 : Int))) fun r14 =>
  (if (r14.2 != (0 : Int)) = true then
  some (([] : List Int), ((0 : Int), (3 : Int)))
  else
  (if (decide (r14.1 < (1 : Int))) = true then
  some (([] : List Int), ((0 : Int), (3 : Int)))
  else
  (Option.bind (idx u13 (0 : Int)) fun v15 =>
  (if (v15 == (48 : Int)) = true then
  some (([] : List Int), ((0 : Int), (3 : Int)))
  else
  some (r11.1, (r14.1, (0 : Int)))))))))
  else none)))))
  else none)
  | .ret r16 => some r16)
def sp_rSplit (n : Nat) : Spec := ⟨pre_rSplit, post_rSplit, rSplit n⟩
def env_rSplit (n : Nat) : List (FuncId × Spec) := [(9, sp_rCanon n), (35, sp_rDecimal n)]
theorem run_rSplit (n : Nat) (x : pre_rSplit.T) : fnRun Tryd.prog 72 (envG (env_rSplit n) [] (fun _ => none)) n Tryd.f11 ann_rSplit pre_rSplit post_rSplit x = rSplit n x := by kernel_rfl
theorem ok_rSplit (n : Nat) : FnOK Tryd.prog 72 L0 11 (sp_rSplit n) :=
  fn_run mixed Tryd.func11 (sp_rSplit n) n ann_rSplit (env_rSplit n) (envOf_cons (ok_rCanon n) (envOf_cons (ok_rDecimal n) envOf_nil)) [] (fun _ => none) gl_none (run_rSplit n) (by kernel_rfl)
def pre_labels : Shape := ⟨[.c (.dat .str), .c (.dat .bool)], []⟩
def post_labels : List Shape := [⟨[.c (.dat (.list .str)), .c (.dat .err)], []⟩]
def ann_labels : Ann := (.two .no (.two .no (.two .no (.two (.two .no (.one (.loop ⟨[1, 6, 21, 22, 23], ⟨[.c (.dat .bool), .c (.dat (.list .str)), .c (.dat (.list .str)), .c (.dat (.int .i64)), .c (.dat (.int .i64))], []⟩⟩ .no))) .no))))
/-- what turnstile/host.labels comes to. -/
def labels (n : Nat) (x : (List Int) × Bool) : Option ((List (List Int)) × Int) :=
  match x with
  | (x1, x2) =>
  (if (decide ((x1.length : Int) < (1 : Int))) = true then
  some (([] : List (List Int)), (3 : Int))
  else
  (if (decide ((x1.length : Int) > (253 : Int))) = true then
  some (([] : List (List Int)), (3 : Int))
  else
  (Option.bind (lower n x1) fun r3 =>
  (Option.bind (stringsSplit n (r3, ([(46 : Int)] : List Int))) fun r4 =>
  (loopF (X := Bool × (List (List Int)) × (List (List Int)) × Int × Int) (A := (List (List Int)) × Int) (fun rec5 y6 => match y6 with
  | (a7, (a8, (a9, (a10, a11)))) =>
  (if (decide (a11 < a10)) = true then
  (Option.bind (idx a9 a11) fun v12 =>
  (Option.bind (label n v12) fun r13 =>
  (if (!r13) = true then
  (if (!a7) = true then
  some (([] : List (List Int)), (3 : Int))
  else
  (if (!(v12 == ([(42 : Int)] : List Int))) = true then
  some (([] : List (List Int)), (3 : Int))
  else
  (let u14 : Int := (IntKind.wrap .i64 (a11 + (1 : Int)))
  rec5 (a7, (a8, (a9, (a10, u14)))))))
  else
  (let u15 : Int := (IntKind.wrap .i64 (a11 + (1 : Int)))
  rec5 (a7, (a8, (a9, (a10, u15))))))))
  else
  some (a8, (0 : Int)))) n (x2, (r4, (r4, ((r4.length : Int), (0 : Int))))))))))
def sp_labels (n : Nat) : Spec := ⟨pre_labels, post_labels, labels n⟩
def env_labels (n : Nat) : List (FuncId × Spec) := [(43, sp_lower n), (42, sp_stringsSplit n), (44, sp_label n)]
theorem run_labels (n : Nat) (x : pre_labels.T) : fnRun Tryd.prog 72 (envG (env_labels n) [] (fun _ => none)) n Tryd.f29 ann_labels pre_labels post_labels x = labels n x := by kernel_rfl
theorem ok_labels (n : Nat) : FnOK Tryd.prog 72 L0 29 (sp_labels n) :=
  fn_run mixed Tryd.func29 (sp_labels n) n ann_labels (env_labels n) (envOf_cons (ok_lower n) (envOf_cons (ok_stringsSplit n) (envOf_cons (ok_label n) envOf_nil))) [] (fun _ => none) gl_none (run_labels n) (by kernel_rfl)
def pre_pattern : Shape := ⟨[.c (.dat .str)], []⟩
def post_pattern : List Shape := [⟨[.a [.dat .str, .dat .bool], .c (.dat .err)], []⟩]
def ann_pattern : Ann := .no
/-- what turnstile/host.pattern comes to. -/
def pattern (n : Nat) (x : List Int) : Option ((List Int) × Bool × Int) :=
  (if (x == ([] : List Int)) = true then
  some (([] : List Int), (false, (0 : Int)))
  else
  (Option.bind (labels n (x, true)) fun r2 =>
  (Option.bind (join n (r2.1, ([(46 : Int)] : List Int))) fun r3 =>
  some (r3, (true, r2.2)))))
def sp_pattern (n : Nat) : Spec := ⟨pre_pattern, post_pattern, pattern n⟩
def env_pattern (n : Nat) : List (FuncId × Spec) := [(29, sp_labels n), (30, sp_join n)]
theorem run_pattern (n : Nat) (x : pre_pattern.T) : fnRun Tryd.prog 72 (envG (env_pattern n) [] (fun _ => none)) n Tryd.f36 ann_pattern pre_pattern post_pattern x = pattern n x := by kernel_rfl
theorem ok_pattern (n : Nat) : FnOK Tryd.prog 72 L0 36 (sp_pattern n) :=
  fn_run mixed Tryd.func36 (sp_pattern n) n ann_pattern (env_pattern n) (envOf_cons (ok_labels n) (envOf_cons (ok_join n) envOf_nil)) [] (fun _ => none) gl_none (run_pattern n) (by kernel_rfl)
def pre_keyfits : Shape := ⟨[.a [.dat .str, .dat .bool], .c (.dat (.list .str))], []⟩
def post_keyfits : List Shape := [⟨[.c (.dat .bool)], []⟩]
def ann_keyfits : Ann := .no
/-- what (turnstile/host.key).fits comes to. -/
def keyfits (n : Nat) (x : (List Int) × Bool × List (List Int)) : Option (Bool) :=
  match x with
  | (x1, (x2, x3)) =>
  (if (!x2) = true then
  some true
  else
  (Option.bind (stringsSplit n (x1, ([(46 : Int)] : List Int))) fun r4 =>
  (Option.bind (equalFunc n (r4, x3)) fun r5 =>
  some r5)))
def sp_keyfits (n : Nat) : Spec := ⟨pre_keyfits, post_keyfits, keyfits n⟩
def env_keyfits (n : Nat) : List (FuncId × Spec) := [(42, sp_stringsSplit n), (52, sp_equalFunc n)]
theorem run_keyfits (n : Nat) (x : pre_keyfits.T) : fnRun Tryd.prog 72 (envG (env_keyfits n) [] (fun _ => none)) n Tryd.f37 ann_keyfits pre_keyfits post_keyfits x = keyfits n x := by kernel_rfl
theorem ok_keyfits (n : Nat) : FnOK Tryd.prog 72 L0 37 (sp_keyfits n) :=
  fn_run mixed Tryd.func37 (sp_keyfits n) n ann_keyfits (env_keyfits n) (envOf_cons (ok_stringsSplit n) (envOf_cons (ok_equalFunc n) envOf_nil)) [] (fun _ => none) gl_none (run_keyfits n) (by kernel_rfl)
def pre_keyahead : Shape := ⟨[.a [.dat .str, .dat .bool], .a [.dat .str, .dat .bool]], []⟩
def post_keyahead : List Shape := [⟨[.c (.dat .bool)], []⟩]
def ann_keyahead : Ann := (.two .no (.two .no (.two .no (.two (.two .no (.one (.loop ⟨[5, 6, 7], ⟨[.c (.dat (.list .str)), .c (.dat (.list .str)), .c (.dat (.int .i64))], []⟩⟩ .no))) .no))))
/-- what (turnstile/host.key).ahead comes to. -/
def keyahead (n : Nat) (x : (List Int) × Bool × (List Int) × Bool) : Option (Bool) :=
  match x with
  | (x1, (x2, (x3, x4))) =>
  (if (!x2) = true then
  some x2
  else
  (if (!x4) = true then
  some x2
  else
  (Option.bind (stringsSplit n (x1, ([(46 : Int)] : List Int))) fun r5 =>
  (Option.bind (stringsSplit n (x3, ([(46 : Int)] : List Int))) fun r6 =>
  (let u7 : Int := (IntKind.wrap .i64 ((r5.length : Int) - (1 : Int)))
  (loopF (X := (List (List Int)) × (List (List Int)) × Int) (A := Bool) (fun rec8 y9 => match y9 with
  | (a10, (a11, a12)) =>
  (if (decide (a12 ≥ (0 : Int))) = true then
  (Option.bind (idx a10 a12) fun v13 =>
  (Option.bind (idx a11 a12) fun v14 =>
  (if (!((v13 == ([(42 : Int)] : List Int)) == (v14 == ([(42 : Int)] : List Int)))) = true then
  (Option.bind (idx a11 a12) fun v15 =>
  some (v15 == ([(42 : Int)] : List Int)))
  else
  (let u16 : Int := (IntKind.wrap .i64 (a12 - (1 : Int)))
  rec8 (a10, (a11, u16))))))
  else
  some false)) n (r5, (r6, u7))))))))
def sp_keyahead (n : Nat) : Spec := ⟨pre_keyahead, post_keyahead, keyahead n⟩
def env_keyahead (n : Nat) : List (FuncId × Spec) := [(42, sp_stringsSplit n)]
theorem run_keyahead (n : Nat) (x : pre_keyahead.T) : fnRun Tryd.prog 72 (envG (env_keyahead n) [] (fun _ => none)) n Tryd.f38 ann_keyahead pre_keyahead post_keyahead x = keyahead n x := by kernel_rfl
theorem ok_keyahead (n : Nat) : FnOK Tryd.prog 72 L0 38 (sp_keyahead n) :=
  fn_run mixed Tryd.func38 (sp_keyahead n) n ann_keyahead (env_keyahead n) (envOf_cons (ok_stringsSplit n) envOf_nil) [] (fun _ => none) gl_none (run_keyahead n) (by kernel_rfl)
def pre_both : Shape := ⟨[.c (.dat .str), .c (.dat .str)], []⟩
def post_both : List Shape := [⟨[.a [.dat .str, .dat .bool], .c (.dat (.list .str)), .c (.dat .err)], []⟩]
def ann_both : Ann := .no
/-- what turnstile/host.both comes to. -/
def both (n : Nat) (x : (List Int) × List Int) : Option ((List Int) × Bool × (List (List Int)) × Int) :=
  match x with
  | (x1, x2) =>
  (Option.bind (pattern n x1) fun r3 =>
  (Option.bind (labels n (x2, false)) fun r4 =>
  (if (r3.2.2 == (0 : Int)) = true then
  some (r3.1, (r3.2.1, (r4.1, r4.2)))
  else
  some (r3.1, (r3.2.1, (r4.1, r3.2.2))))))
def sp_both (n : Nat) : Spec := ⟨pre_both, post_both, both n⟩
def env_both (n : Nat) : List (FuncId × Spec) := [(36, sp_pattern n), (29, sp_labels n)]
theorem run_both (n : Nat) (x : pre_both.T) : fnRun Tryd.prog 72 (envG (env_both n) [] (fun _ => none)) n Tryd.f41 ann_both pre_both post_both x = both n x := by kernel_rfl
theorem ok_both (n : Nat) : FnOK Tryd.prog 72 L0 41 (sp_both n) :=
  fn_run mixed Tryd.func41 (sp_both n) n ann_both (env_both n) (envOf_cons (ok_pattern n) (envOf_cons (ok_labels n) envOf_nil)) [] (fun _ => none) gl_none (run_both n) (by kernel_rfl)
def pre_canon : Shape := ⟨[.c (.dat .str)], []⟩
def post_canon : List Shape := [⟨[.c (.dat .str), .c (.dat .err)], []⟩]
def ann_canon : Ann := .no
/-- what turnstile/host.Canon comes to. -/
def canon (n : Nat) (x : List Int) : Option ((List Int) × Int) :=
  (Option.bind (labels n (x, false)) fun r2 =>
  (Option.bind (join n (r2.1, ([(46 : Int)] : List Int))) fun r3 =>
  some (r3, r2.2)))
def sp_canon (n : Nat) : Spec := ⟨pre_canon, post_canon, canon n⟩
def env_canon (n : Nat) : List (FuncId × Spec) := [(29, sp_labels n), (30, sp_join n)]
theorem run_canon (n : Nat) (x : pre_canon.T) : fnRun Tryd.prog 72 (envG (env_canon n) [] (fun _ => none)) n Tryd.f8 ann_canon pre_canon post_canon x = canon n x := by kernel_rfl
theorem ok_canon (n : Nat) : FnOK Tryd.prog 72 L0 8 (sp_canon n) :=
  fn_run mixed Tryd.func8 (sp_canon n) n ann_canon (env_canon n) (envOf_cons (ok_labels n) (envOf_cons (ok_join n) envOf_nil)) [] (fun _ => none) gl_none (run_canon n) (by kernel_rfl)
def pre_split : Shape := ⟨[.c (.dat .str)], []⟩
def post_split : List Shape := [⟨[.c (.dat .str), .c (.dat (.int .i64)), .c (.dat .err)], []⟩]
def ann_split : Ann := .no
/-- what turnstile/host.Split comes to. -/
def split (n : Nat) (x : List Int) : Option ((List Int) × Int × Int) :=
  (Option.bind (cut n (x, ([(58 : Int)] : List Int))) fun r2 =>
  (Option.bind (canon n r2.1) fun r3 =>
  (if (!(r3.2 == (0 : Int))) = true then
  some (r3.1, ((0 : Int), r3.2))
  else
  (if (!r2.2.2) = true then
  some (r3.1, ((0 : Int), r3.2))
  else
  (if (decide ((r2.2.1.length : Int) < (1 : Int))) = true then
  some (([] : List Int), ((0 : Int), (3 : Int)))
  else
  (if (decide ((r2.2.1.length : Int) > (5 : Int))) = true then
  some (([] : List Int), ((0 : Int), (3 : Int)))
  else
  (Option.bind (idx r2.2.1 (0 : Int)) fun v4 =>
  (if (v4 == (48 : Int)) = true then
  some (([] : List Int), ((0 : Int), (3 : Int)))
  else
  (Option.bind (decimal n (r2.2.1, (65535 : Int))) fun r5 =>
  (if (!(r5.2 == (0 : Int))) = true then
  some (([] : List Int), ((0 : Int), (3 : Int)))
  else
  some (r3.1, (r5.1, (0 : Int)))))))))))))
def sp_split (n : Nat) : Spec := ⟨pre_split, post_split, split n⟩
def env_split (n : Nat) : List (FuncId × Spec) := [(33, sp_cut n), (8, sp_canon n), (34, sp_decimal n)]
theorem run_split (n : Nat) (x : pre_split.T) : fnRun Tryd.prog 72 (envG (env_split n) [] (fun _ => none)) n Tryd.f10 ann_split pre_split post_split x = split n x := by kernel_rfl
theorem ok_split (n : Nat) : FnOK Tryd.prog 72 L0 10 (sp_split n) :=
  fn_run mixed Tryd.func10 (sp_split n) n ann_split (env_split n) (envOf_cons (ok_cut n) (envOf_cons (ok_canon n) (envOf_cons (ok_decimal n) envOf_nil))) [] (fun _ => none) gl_none (run_split n) (by kernel_rfl)
def pre_check : Shape := ⟨[.c (.dat .str)], []⟩
def post_check : List Shape := [⟨[.c (.dat .err)], []⟩]
def ann_check : Ann := .no
/-- what turnstile/host.Check comes to. -/
def check (n : Nat) (x : List Int) : Option (Int) :=
  (if (x == ([] : List Int)) = true then
  some (0 : Int)
  else
  (Option.bind (labels n (x, true)) fun r2 =>
  some r2.2))
def sp_check (n : Nat) : Spec := ⟨pre_check, post_check, check n⟩
def env_check (n : Nat) : List (FuncId × Spec) := [(29, sp_labels n)]
theorem run_check (n : Nat) (x : pre_check.T) : fnRun Tryd.prog 72 (envG (env_check n) [] (fun _ => none)) n Tryd.f13 ann_check pre_check post_check x = check n x := by kernel_rfl
theorem ok_check (n : Nat) : FnOK Tryd.prog 72 L0 13 (sp_check n) :=
  fn_run mixed Tryd.func13 (sp_check n) n ann_check (env_check n) (envOf_cons (ok_labels n) envOf_nil) [] (fun _ => none) gl_none (run_check n) (by kernel_rfl)
def pre_tadd : Shape := ⟨[.c (.ptr 0 0), .c (.dat .str), .c (.dat (.int .i64))], [(0, .cells 79 [.own 1, .own 2]), (1, .mp (.pair .str (.pair .bool .unit)) (.int .i64)), (2, .row 81 (.pair .str (.pair .bool .unit)))]⟩
def post_tadd : List Shape := [⟨[.c (.dat .err)], [(0, .cells 79 [.own 1, .own 2]), (1, .mp (.pair .str (.pair .bool .unit)) (.int .i64)), (2, .row 81 (.pair .str (.pair .bool .unit)))]⟩]
def ann_tadd : Ann := .no
/-- what (turnstile/host.Table).Add comes to. -/
def tadd (n : Nat) (x : (List Int) × Int × (List ((List Int × (Bool × Unit)) × Int)) × List (List Int × (Bool × Unit))) : Option (Int × (List ((List Int × (Bool × Unit)) × Int)) × List (List Int × (Bool × Unit))) :=
  match x with
  | (x1, (x2, (x3, x4))) =>
  (Option.bind (pattern n x1) fun r5 =>
  (if (!(r5.2.2 == (0 : Int))) = true then
  some (r5.2.2, (x3, x4))
  else
  (let u6 : Int := (Option.getD (mget (K.eqb (.pair .str (.pair .bool .unit))) (r5.1, (r5.2.1, ())) x3) (0 : Int))
  (if (Option.isSome (mget (K.eqb (.pair .str (.pair .bool .unit))) (r5.1, (r5.2.1, ())) x3)) = true then
  some ((6 : Int), (x3, x4))
  else
  (if ((x4.length : Int) == (64 : Int)) = true then
  some ((9 : Int), (x3, x4))
  else
  (let u7 : List ((List Int × (Bool × Unit)) × Int) := (mput (K.eqb (.pair .str (.pair .bool .unit))) (r5.1, (r5.2.1, ())) x2 x3)
  (if (x4.length + 1) * 24 ≤ 140737488355328 then
  (let u8 : List (List Int × (Bool × Unit)) := (x4 ++ ([(r5.1, (r5.2.1, ()))] : List (List Int × (Bool × Unit))))
  some ((0 : Int), (u7, u8)))
  else none)))))))
def sp_tadd (n : Nat) : Spec := ⟨pre_tadd, post_tadd, tadd n⟩
def env_tadd (n : Nat) : List (FuncId × Spec) := [(36, sp_pattern n)]
theorem run_tadd (n : Nat) (x : pre_tadd.T) : fnRun Tryd.prog 72 (envG (env_tadd n) [] (fun _ => none)) n Tryd.f18 ann_tadd pre_tadd post_tadd x = tadd n x := by kernel_rfl
theorem ok_tadd (n : Nat) : FnOK Tryd.prog 72 L0 18 (sp_tadd n) :=
  fn_run mixed Tryd.func18 (sp_tadd n) n ann_tadd (env_tadd n) (envOf_cons (ok_pattern n) envOf_nil) [] (fun _ => none) gl_none (run_tadd n) (by kernel_rfl)
def pre_taddN : Shape := ⟨[.c (.nilp), .c (.dat .str), .c (.dat (.int .i64))], []⟩
def post_taddN : List Shape := [⟨[.c (.dat .err)], []⟩]
def ann_taddN : Ann := .no
/-- what (turnstile/host.Table).Add comes to. -/
def taddN (n : Nat) (x : (List Int) × Int) : Option (Int) :=
  match x with
  | (x1, x2) =>
  (Option.bind (pattern n x1) fun r3 =>
  (if (!(r3.2.2 == (0 : Int))) = true then
  some r3.2.2
  else
  some (9 : Int)))
def sp_taddN (n : Nat) : Spec := ⟨pre_taddN, post_taddN, taddN n⟩
def env_taddN (n : Nat) : List (FuncId × Spec) := [(36, sp_pattern n)]
theorem run_taddN (n : Nat) (x : pre_taddN.T) : fnRun Tryd.prog 72 (envG (env_taddN n) [] (fun _ => none)) n Tryd.f18 ann_taddN pre_taddN post_taddN x = taddN n x := by kernel_rfl
theorem ok_taddN (n : Nat) : FnOK Tryd.prog 72 L0 18 (sp_taddN n) :=
  fn_run mixed Tryd.func18 (sp_taddN n) n ann_taddN (env_taddN n) (envOf_cons (ok_pattern n) envOf_nil) [] (fun _ => none) gl_none (run_taddN n) (by kernel_rfl)
def pre_tfind : Shape := ⟨[.c (.ptr 0 0), .c (.dat .str)], [(0, .cells 79 [.own 1, .own 2]), (1, .mp (.pair .str (.pair .bool .unit)) (.int .i64)), (2, .row 81 (.pair .str (.pair .bool .unit)))]⟩
def post_tfind : List Shape := [⟨[.c (.dat (.int .i64)), .c (.dat .err)], [(0, .cells 79 [.own 1, .own 2]), (1, .mp (.pair .str (.pair .bool .unit)) (.int .i64)), (2, .row 81 (.pair .str (.pair .bool .unit)))]⟩]
def ann_tfind : Ann := (.two .no (.two .no (.two .no (.two .no (.two .no (.two (.two .no (.one (.loop ⟨[0, 6, 8, 26, 27], ⟨[.c (.ptr 0 0), .c (.dat (.list .str)), .c (.oel 500 2), .c (.dat (.int .i64)), .c (.dat (.int .i64))], [(0, .cells 79 [.own 1, .own 500]), (1, .mp (.pair .str (.pair .bool .unit)) (.int .i64)), (500, .row 81 (.pair .str (.pair .bool .unit)))]⟩⟩ .no))) .no))))))
/-- what (turnstile/host.Table).Find comes to. -/
def tfind (n : Nat) (x : (List Int) × (List ((List Int × (Bool × Unit)) × Int)) × List (List Int × (Bool × Unit))) : Option (Int × Int × (List ((List Int × (Bool × Unit)) × Int)) × List (List Int × (Bool × Unit))) :=
  match x with
  | (x1, (x2, x3)) =>
  (Option.bind (labels n (x1, false)) fun r4 =>
  (if (!(r4.2 == (0 : Int))) = true then
  some ((0 : Int), (r4.2, (x2, x3)))
  else
  (loopF (X := (List (List Int)) × Int × Int × Int × (List ((List Int × (Bool × Unit)) × Int)) × List (List Int × (Bool × Unit))) (A := Int × Int × (List ((List Int × (Bool × Unit)) × Int)) × List (List Int × (Bool × Unit))) (fun rec5 y6 => match y6 with
  | (a7, (a8, (a9, (a10, (a11, a12))))) =>
  (if (decide (a10 < a9)) = true then
  (if 0 ≤ a10 ∧ a10 < (a12.length : Int) then
  (let u13 : List Int := (a12.getD a10.toNat (([] : List Int), (false, ()))).1
  (Option.bind (keyfits n (u13, ((a12.getD a10.toNat (([] : List Int), (false, ()))).2.1, a7))) fun r14 =>
  (if r14 = true then
  (if (decide (a8 < 0)) = true then
  (let u15 : Int := (IntKind.wrap .i64 (a10 + (1 : Int)))
  rec5 (a7, (((a10.toNat : Nat) : Int), (a9, (u15, (a11, a12))))))
  else
  (let u16 : List Int := (a12.getD a10.toNat (([] : List Int), (false, ()))).1
  (if a8 < 0 then none else
  (let u17 : List Int := (a12.getD a8.toNat (([] : List Int), (false, ()))).1
  (Option.bind (keyahead n (u16, ((a12.getD a10.toNat (([] : List Int), (false, ()))).2.1, (u17, (a12.getD a8.toNat (([] : List Int), (false, ()))).2.1)))) fun r18 =>
  (if r18 = true then
  (let u19 : Int := (IntKind.wrap .i64 (a10 + (1 : Int)))
  rec5 (a7, (((a10.toNat : Nat) : Int), (a9, (u19, (a11, a12))))))
  else
  (let u20 : Int := (IntKind.wrap .i64 (a10 + (1 : Int)))
  rec5 (a7, (a8, (a9, (u20, (a11, a12))))))))))))
  else
  (let u21 : Int := (IntKind.wrap .i64 (a10 + (1 : Int)))
  rec5 (a7, (a8, (a9, (u21, (a11, a12)))))))))
  else none)
  else
  (if (decide (a8 < 0)) = true then
  some ((0 : Int), ((8 : Int), (a11, a12)))
  else
  (if a8 < 0 then none else
  (let u22 : List Int := (a12.getD a8.toNat (([] : List Int), (false, ()))).1
  (let u23 : Int := (Option.getD (mget (K.eqb (.pair .str (.pair .bool .unit))) (u22, ((a12.getD a8.toNat (([] : List Int), (false, ()))).2.1, ())) a11) (0 : Int))
  some (u23, ((0 : Int), (a11, a12))))))))) n (r4.1, ((-1 : Int), ((x3.length : Int), ((0 : Int), (x2, x3))))))))
def sp_tfind (n : Nat) : Spec := ⟨pre_tfind, post_tfind, tfind n⟩
def env_tfind (n : Nat) : List (FuncId × Spec) := [(29, sp_labels n), (37, sp_keyfits n), (38, sp_keyahead n)]
theorem run_tfind (n : Nat) (x : pre_tfind.T) : fnRun Tryd.prog 72 (envG (env_tfind n) [] (fun _ => none)) n Tryd.f21 ann_tfind pre_tfind post_tfind x = tfind n x := by kernel_rfl
theorem ok_tfind (n : Nat) : FnOK Tryd.prog 72 L0 21 (sp_tfind n) :=
  fn_run mixed Tryd.func21 (sp_tfind n) n ann_tfind (env_tfind n) (envOf_cons (ok_labels n) (envOf_cons (ok_keyfits n) (envOf_cons (ok_keyahead n) envOf_nil))) [] (fun _ => none) gl_none (run_tfind n) (by kernel_rfl)
def pre_tfindN : Shape := ⟨[.c (.nilp), .c (.dat .str)], []⟩
def post_tfindN : List Shape := [⟨[.c (.dat (.int .i64)), .c (.dat .err)], []⟩]
def ann_tfindN : Ann := .no
/-- what (turnstile/host.Table).Find comes to. -/
def tfindN (n : Nat) (x : List Int) : Option (Int × Int) :=
  (Option.bind (labels n (x, false)) fun r2 =>
  (if (!(r2.2 == (0 : Int))) = true then
  some ((0 : Int), r2.2)
  else
  some ((0 : Int), (8 : Int))))
def sp_tfindN (n : Nat) : Spec := ⟨pre_tfindN, post_tfindN, tfindN n⟩
def env_tfindN (n : Nat) : List (FuncId × Spec) := [(29, sp_labels n), (37, sp_keyfits n), (38, sp_keyahead n)]
theorem run_tfindN (n : Nat) (x : pre_tfindN.T) : fnRun Tryd.prog 72 (envG (env_tfindN n) [] (fun _ => none)) n Tryd.f21 ann_tfindN pre_tfindN post_tfindN x = tfindN n x := by kernel_rfl
theorem ok_tfindN (n : Nat) : FnOK Tryd.prog 72 L0 21 (sp_tfindN n) :=
  fn_run mixed Tryd.func21 (sp_tfindN n) n ann_tfindN (env_tfindN n) (envOf_cons (ok_labels n) (envOf_cons (ok_keyfits n) (envOf_cons (ok_keyahead n) envOf_nil))) [] (fun _ => none) gl_none (run_tfindN n) (by kernel_rfl)
def pre_fits : Shape := ⟨[.c (.dat .str), .c (.dat .str)], []⟩
def post_fits : List Shape := [⟨[.c (.dat .bool), .c (.dat .err)], []⟩]
def ann_fits : Ann := .no
/-- what turnstile/host.Fits comes to. -/
def fits (n : Nat) (x : (List Int) × List Int) : Option (Bool × Int) :=
  match x with
  | (x1, x2) =>
  (Option.bind (both n (x1, x2)) fun r3 =>
  (if (r3.2.2.2 == (0 : Int)) = true then
  (Option.bind (keyfits n (r3.1, (r3.2.1, r3.2.2.1))) fun r4 =>
  some (r4, r3.2.2.2))
  else
  some (false, r3.2.2.2)))
def sp_fits (n : Nat) : Spec := ⟨pre_fits, post_fits, fits n⟩
def env_fits (n : Nat) : List (FuncId × Spec) := [(41, sp_both n), (37, sp_keyfits n)]
theorem run_fits (n : Nat) (x : pre_fits.T) : fnRun Tryd.prog 72 (envG (env_fits n) [] (fun _ => none)) n Tryd.f23 ann_fits pre_fits post_fits x = fits n x := by kernel_rfl
theorem ok_fits (n : Nat) : FnOK Tryd.prog 72 L0 23 (sp_fits n) :=
  fn_run mixed Tryd.func23 (sp_fits n) n ann_fits (env_fits n) (envOf_cons (ok_both n) (envOf_cons (ok_keyfits n) envOf_nil)) [] (fun _ => none) gl_none (run_fits n) (by kernel_rfl)
def pre_beats : Shape := ⟨[.c (.dat .str), .c (.dat .str), .c (.dat .str)], []⟩
def post_beats : List Shape := [⟨[.c (.dat .bool), .c (.dat .err)], []⟩]
def ann_beats : Ann := .no
/-- what turnstile/host.Beats comes to. -/
def beats (n : Nat) (x : (List Int) × (List Int) × List Int) : Option (Bool × Int) :=
  match x with
  | (x1, (x2, x3)) =>
  (Option.bind (both n (x1, x3)) fun r4 =>
  (Option.bind (both n (x2, x3)) fun r5 =>
  (if (!(r4.2.2.2 == (0 : Int))) = true then
  some (false, (3 : Int))
  else
  (if (!(r5.2.2.2 == (0 : Int))) = true then
  some (false, (3 : Int))
  else
  (Option.bind (keyfits n (r4.1, (r4.2.1, r4.2.2.1))) fun r6 =>
  (if (!r6) = true then
  some (false, (8 : Int))
  else
  (Option.bind (keyfits n (r5.1, (r5.2.1, r4.2.2.1))) fun r7 =>
  (if (!r7) = true then
  some (false, (8 : Int))
  else
  (Option.bind (keyahead n (r4.1, (r4.2.1, (r5.1, r5.2.1)))) fun r8 =>
  some (r8, (0 : Int)))))))))))
def sp_beats (n : Nat) : Spec := ⟨pre_beats, post_beats, beats n⟩
def env_beats (n : Nat) : List (FuncId × Spec) := [(41, sp_both n), (37, sp_keyfits n), (38, sp_keyahead n)]
theorem run_beats (n : Nat) (x : pre_beats.T) : fnRun Tryd.prog 72 (envG (env_beats n) [] (fun _ => none)) n Tryd.f25 ann_beats pre_beats post_beats x = beats n x := by kernel_rfl
theorem ok_beats (n : Nat) : FnOK Tryd.prog 72 L0 25 (sp_beats n) :=
  fn_run mixed Tryd.func25 (sp_beats n) n ann_beats (env_beats n) (envOf_cons (ok_both n) (envOf_cons (ok_keyfits n) (envOf_cons (ok_keyahead n) envOf_nil))) [] (fun _ => none) gl_none (run_beats n) (by kernel_rfl)
def pre_strict : Shape := ⟨[.c (.dat .str), .c (.dat .str), .c (.dat .str), .c (.dat .str)], []⟩
def post_strict : List Shape := [⟨[.c (.dat .bool)], []⟩]
def ann_strict : Ann := (.two .no (.two .no (.two .no (.two .no (.two .no (.two .no (.two .no (.two .no (.two (.two (.join ⟨[0, 1, 2, 3, 13, 15, 80], ⟨[.c (.dat .str), .c (.dat .str), .c (.dat .str), .c (.dat .str), .c (.dat .bool), .c (.dat .bool), .c (.dat .bool)], []⟩⟩ .no) .no) .no)))))))))
/-- what turnstile/turnstilelaw16.strict comes to. -/
def strict (n : Nat) (x : (List Int) × (List Int) × (List Int) × List Int) : Option (Bool) :=
  match x with
  | (x1, (x2, (x3, x4))) =>
  (Option.bind (fits n (x1, x4)) fun r5 =>
  (Option.bind (fits n (x2, x4)) fun r6 =>
  (Option.bind (fits n (x3, x4)) fun r7 =>
  (if (!r5.1) = true then
  some true
  else
  (if (!r6.1) = true then
  some true
  else
  (Option.bind (beats n (x1, (x2, x4))) fun r8 =>
  (Option.bind (beats n (x2, (x1, x4))) fun r9 =>
  (Option.bind (rSame n (x1, x2)) fun r10 =>
  (Option.bind (α := Out ((List Int) × (List Int) × (List Int) × (List Int) × Bool × Bool × Bool) (Bool)) ((if r10 = true then
  (if r8.1 = true then
  (some (Out.go (x1, (x2, (x3, (x4, (r7.1, (r8.1, true))))))))
  else
  (if r9.1 = true then
  (some (Out.go (x1, (x2, (x3, (x4, (r7.1, (r8.1, true))))))))
  else
  (if (!r10) = true then
  (some (Out.go (x1, (x2, (x3, (x4, (r7.1, (r8.1, (r8.1 == r9.1)))))))))
  else
  (some (Out.go (x1, (x2, (x3, (x4, (r7.1, (r8.1, false)))))))))))
  else
  (if (!r10) = true then
  (some (Out.go (x1, (x2, (x3, (x4, (r7.1, (r8.1, (r8.1 == r9.1)))))))))
  else
  (some (Out.go (x1, (x2, (x3, (x4, (r7.1, (r8.1, false))))))))))) fun o => match o with
  | .go (z12, (z13, (z14, (z15, (z16, (z17, z18)))))) =>
  (if z18 = true then
  some false
  else
  (if (!z16) = true then
  some true
  else
  (Option.bind (beats n (z13, (z14, z15))) fun r19 =>
  (Option.bind (beats n (z12, (z14, z15))) fun r20 =>
  (if (!z17) = true then
  some true
  else
  (if (!r19.1) = true then
  some true
  else
  some r20.1))))))
  | .ret r21 => some r21)))))))))
def sp_strict (n : Nat) : Spec := ⟨pre_strict, post_strict, strict n⟩
def env_strict (n : Nat) : List (FuncId × Spec) := [(23, sp_fits n), (25, sp_beats n), (27, sp_rSame n)]
theorem run_strict (n : Nat) (x : pre_strict.T) : fnRun Tryd.prog 72 (envG (env_strict n) [] (fun _ => none)) n Tryd.f28 ann_strict pre_strict post_strict x = strict n x := by kernel_rfl
theorem ok_strict (n : Nat) : FnOK Tryd.prog 72 L0 28 (sp_strict n) :=
  fn_run mixed Tryd.func28 (sp_strict n) n ann_strict (env_strict n) (envOf_cons (ok_fits n) (envOf_cons (ok_beats n) (envOf_cons (ok_rSame n) envOf_nil))) [] (fun _ => none) gl_none (run_strict n) (by kernel_rfl)
def pre_works : Shape := ⟨[], []⟩
def post_works : List Shape := [⟨[.c (.dat .bool)], []⟩]
def ann_works : Ann := .no
/-- what turnstile/turnstilelaw16.works comes to. -/
def works (n : Nat) (x : Unit) : Option (Bool) :=
  (Option.bind (tnew n ()) fun r1 =>
  (Option.bind (tadd n (([(42 : Int), (46 : Int), (98 : Int), (46 : Int), (99 : Int)] : List Int), ((1 : Int), (r1.1, r1.2)))) fun r2 =>
  (if (!(r2.1 == (0 : Int))) = true then
  some false
  else
  (Option.bind (tadd n (([(97 : Int), (46 : Int), (42 : Int), (46 : Int), (99 : Int)] : List Int), ((2 : Int), (r2.2.1, r2.2.2)))) fun r3 =>
  (if (!(r3.1 == (0 : Int))) = true then
  some false
  else
  (Option.bind (tadd n (([] : List Int), ((3 : Int), (r3.2.1, r3.2.2)))) fun r4 =>
  (if (!(r4.1 == (0 : Int))) = true then
  some false
  else
  (Option.bind (tfind n (([(65 : Int), (46 : Int), (98 : Int), (46 : Int), (99 : Int)] : List Int), (r4.2.1, r4.2.2))) fun r5 =>
  (Option.bind (tfind n (([(97 : Int), (46 : Int), (120 : Int), (46 : Int), (99 : Int)] : List Int), (r5.2.2.1, r5.2.2.2))) fun r6 =>
  (Option.bind (tfind n (([(98 : Int), (46 : Int), (99 : Int)] : List Int), (r6.2.2.1, r6.2.2.2))) fun r7 =>
  (Option.bind (split n ([(72 : Int), (46 : Int), (120 : Int), (58 : Int), (56 : Int), (48 : Int)] : List Int)) fun r8 =>
  (if (r5.1 == (1 : Int)) = true then
  (if (r5.2.1 == (0 : Int)) = true then
  (if (r6.1 == (2 : Int)) = true then
  (if (r6.2.1 == (0 : Int)) = true then
  (if (r7.1 == (3 : Int)) = true then
  (if (r7.2.1 == (0 : Int)) = true then
  (if (r8.1 == ([(104 : Int), (46 : Int), (120 : Int)] : List Int)) = true then
  (if (r8.2.1 == (80 : Int)) = true then
  (if (r8.2.2 == (0 : Int)) = true then
  (Option.bind (tadd n (([(65 : Int), (46 : Int), (42 : Int), (46 : Int), (67 : Int)] : List Int), ((4 : Int), (r7.2.2.1, r7.2.2.2)))) fun r9 =>
  (Option.bind (turnstilelaw16Num n r9.1) fun r10 =>
  some (r10 == (6 : Int))))
  else
  some false)
  else
  some false)
  else
  some false)
  else
  some false)
  else
  some false)
  else
  some false)
  else
  some false)
  else
  some false)
  else
  some false))))))))))))
def sp_works (n : Nat) : Spec := ⟨pre_works, post_works, works n⟩
def env_works (n : Nat) : List (FuncId × Spec) := [(16, sp_tnew n), (18, sp_tadd n), (18, sp_taddN n), (21, sp_tfind n), (21, sp_tfindN n), (10, sp_split n), (12, sp_turnstilelaw16Num n)]
theorem run_works (n : Nat) (x : pre_works.T) : fnRun Tryd.prog 72 (envG (env_works n) [] (fun _ => none)) n Tryd.f15 ann_works pre_works post_works x = works n x := by kernel_rfl
theorem ok_works (n : Nat) : FnOK Tryd.prog 72 L0 15 (sp_works n) :=
  fn_run mixed Tryd.func15 (sp_works n) n ann_works (env_works n) (envOf_cons (ok_tnew n) (envOf_cons (ok_tadd n) (envOf_cons (ok_taddN n) (envOf_cons (ok_tfind n) (envOf_cons (ok_tfindN n) (envOf_cons (ok_split n) (envOf_cons (ok_turnstilelaw16Num n) envOf_nil))))))) [] (fun _ => none) gl_none (run_works n) (by kernel_rfl)
def pre_hostTexts : Shape := ⟨[.c (.dat .str)], []⟩
def post_hostTexts : List Shape := [⟨[.c (.dat .bool)], []⟩]
def ann_hostTexts : Ann := .no
/-- what turnstile/turnstilelaw16.HostTexts comes to. -/
def hostTexts (n : Nat) (x : List Int) : Option (Bool) :=
  (Option.bind (canon n x) fun r2 =>
  (Option.bind (rCanon n x) fun r3 =>
  (Option.bind (split n x) fun r4 =>
  (Option.bind (rSplit n x) fun r5 =>
  (if (r2.1 == r3.1) = true then
  (Option.bind (turnstilelaw16Num n r2.2) fun r6 =>
  (if (r6 == r3.2) = true then
  (Option.bind (check n x) fun r7 =>
  (Option.bind (turnstilelaw16Num n r7) fun r8 =>
  (Option.bind (rCheck n x) fun r9 =>
  (if (r8 == r9) = true then
  (if (r4.1 == r5.1) = true then
  (if (r4.2.1 == r5.2.1) = true then
  (Option.bind (turnstilelaw16Num n r4.2.2) fun r10 =>
  (if (r10 == r5.2.2) = true then
  (Option.bind (works n ()) fun r11 =>
  some r11)
  else
  some false))
  else
  some false)
  else
  some false)
  else
  some false))))
  else
  some false))
  else
  some false)))))
def sp_hostTexts (n : Nat) : Spec := ⟨pre_hostTexts, post_hostTexts, hostTexts n⟩
def env_hostTexts (n : Nat) : List (FuncId × Spec) := [(8, sp_canon n), (9, sp_rCanon n), (10, sp_split n), (11, sp_rSplit n), (12, sp_turnstilelaw16Num n), (13, sp_check n), (14, sp_rCheck n), (15, sp_works n)]
theorem run_hostTexts (n : Nat) (x : pre_hostTexts.T) : fnRun Tryd.prog 72 (envG (env_hostTexts n) [] (fun _ => none)) n Tryd.f3 ann_hostTexts pre_hostTexts post_hostTexts x = hostTexts n x := by kernel_rfl
theorem ok_hostTexts (n : Nat) : FnOK Tryd.prog 72 L0 3 (sp_hostTexts n) :=
  fn_run mixed Tryd.func3 (sp_hostTexts n) n ann_hostTexts (env_hostTexts n) (envOf_cons (ok_canon n) (envOf_cons (ok_rCanon n) (envOf_cons (ok_split n) (envOf_cons (ok_rSplit n) (envOf_cons (ok_turnstilelaw16Num n) (envOf_cons (ok_check n) (envOf_cons (ok_rCheck n) (envOf_cons (ok_works n) envOf_nil)))))))) [] (fun _ => none) gl_none (run_hostTexts n) (by kernel_rfl)
def pre_hostTables : Shape := ⟨[.c (.dat (.list .str)), .c (.dat (.list .str))], []⟩
def post_hostTables : List Shape := [⟨[.c (.dat .bool)], []⟩]
def ann_hostTables : Ann := (.two .no (.two .no (.two .no (.two .no (.two (.two .no (.one (.loop ⟨[0, 1, 5, 6, 7], ⟨[.c (.dat (.list .str)), .c (.dat (.list .str)), .c (.ptr 500 0), .c (.dat (.list (.pair .str (.pair (.int .i64) .unit)))), .c (.dat (.int .i64))], [(500, .cells 79 [.own 501, .own 502]), (501, .mp (.pair .str (.pair .bool .unit)) (.int .i64)), (502, .row 81 (.pair .str (.pair .bool .unit)))]⟩⟩ (.two (.two (.join ⟨[0, 1, 5, 6, 7, 31], ⟨[.c (.dat (.list .str)), .c (.dat (.list .str)), .c (.ptr 500 0), .c (.dat (.list (.pair .str (.pair (.int .i64) .unit)))), .c (.dat (.int .i64)), .c (.dat .bool)], [(500, .cells 79 [.own 501, .own 502]), (501, .mp (.pair .str (.pair .bool .unit)) (.int .i64)), (502, .row 81 (.pair .str (.pair .bool .unit)))]⟩⟩ .no) .no) .no)))) (.two .no (.two .no (.two (.two .no (.one (.loop ⟨[1, 5, 6, 10, 11], ⟨[.c (.dat (.list .str)), .c (.ptr 500 0), .c (.dat (.list (.pair .str (.pair (.int .i64) .unit)))), .c (.dat (.list .str)), .c (.dat (.int .i64))], [(500, .cells 79 [.own 501, .own 502]), (501, .mp (.pair .str (.pair .bool .unit)) (.int .i64)), (502, .row 81 (.pair .str (.pair .bool .unit)))]⟩⟩ .no))) (.two (.two .no (.one (.loop ⟨[1, 5, 6, 12], ⟨[.c (.dat (.list .str)), .c (.ptr 500 0), .c (.dat (.list (.pair .str (.pair (.int .i64) .unit)))), .c (.dat (.int .i64))], [(500, .cells 79 [.own 501, .own 502]), (501, .mp (.pair .str (.pair .bool .unit)) (.int .i64)), (502, .row 81 (.pair .str (.pair .bool .unit)))]⟩⟩ (.two (.two (.join ⟨[1, 5, 6, 12, 94], ⟨[.c (.dat (.list .str)), .c (.ptr 500 0), .c (.dat (.list (.pair .str (.pair (.int .i64) .unit)))), .c (.dat (.int .i64)), .c (.dat .bool)], [(500, .cells 79 [.own 501, .own 502]), (501, .mp (.pair .str (.pair .bool .unit)) (.int .i64)), (502, .row 81 (.pair .str (.pair .bool .unit)))]⟩⟩ .no) .no) .no)))) .no)))))))))
/-- what turnstile/turnstilelaw16.HostTables comes to. -/
def hostTables (n : Nat) (x : (List (List Int)) × List (List Int)) : Option (Bool) :=
  match x with
  | (x1, x2) =>
  (Option.bind (tnew n ()) fun r3 =>
  (loopF (X := (List (List Int)) × (List (List Int)) × (List (List Int × (Int × Unit))) × Int × (List ((List Int × (Bool × Unit)) × Int)) × List (List Int × (Bool × Unit))) (A := Bool) (fun rec4 y5 => match y5 with
  | (a6, (a7, (a8, (a9, (a10, a11))))) =>
  (Option.bind (α := Out ((List (List Int)) × (List (List Int)) × (List (List Int × (Int × Unit))) × Int × Bool × (List ((List Int × (Bool × Unit)) × Int)) × List (List Int × (Bool × Unit))) (Bool)) ((if (decide (a9 < (a6.length : Int))) = true then
  (some (Out.go (a6, (a7, (a8, (a9, ((decide (a9 < (200 : Int))), (a10, a11))))))))
  else
  (some (Out.go (a6, (a7, (a8, (a9, (false, (a10, a11)))))))))) fun o => match o with
  | .go (z13, (z14, (z15, (z16, (z17, (z18, z19)))))) =>
  (if z17 = true then
  (Option.bind (idx z13 z16) fun v20 =>
  (let u21 : Int := (IntKind.wrap .i64 (z16 * (3 : Int)))
  (Option.bind (rAdd n (z15, (v20, u21))) fun r22 =>
  (Option.bind (idx z13 z16) fun v23 =>
  (let u24 : Int := (IntKind.wrap .i64 (z16 * (3 : Int)))
  (Option.bind (tadd n (v23, (u24, (z18, z19)))) fun r25 =>
  (Option.bind (turnstilelaw16Num n r25.1) fun r26 =>
  (if (r26 != r22.2) = true then
  some false
  else
  (let u27 : Int := (IntKind.wrap .i64 (z16 + (1 : Int)))
  rec4 (z13, (z14, (r22.1, (u27, (r25.2.1, r25.2.2))))))))))))))
  else
  (Option.bind (tall n (z18, z19)) fun r28 =>
  (Option.bind (tlen n (r28.2.1, r28.2.2)) fun r29 =>
  (if (r29.1 != (z15.length : Int)) = true then
  some false
  else
  (if ((r28.1.length : Int) != (z15.length : Int)) = true then
  some false
  else
  (loopF (X := (List (List Int)) × (List (List Int × (Int × Unit))) × (List (List Int)) × Int × (List ((List Int × (Bool × Unit)) × Int)) × List (List Int × (Bool × Unit))) (A := Bool) (fun rec30 y31 => match y31 with
  | (a32, (a33, (a34, (a35, (a36, a37))))) =>
  (if (decide (a35 < (a33.length : Int))) = true then
  (Option.bind (idx a34 a35) fun v38 =>
  (Option.bind (idx a33 a35) fun v39 =>
  (if (!(v38 == v39.1)) = true then
  some false
  else
  (let u40 : Int := (IntKind.wrap .i64 (a35 + (1 : Int)))
  rec30 (a32, (a33, (a34, (u40, (a36, a37)))))))))
  else
  (loopF (X := (List (List Int)) × (List (List Int × (Int × Unit))) × Int × (List ((List Int × (Bool × Unit)) × Int)) × List (List Int × (Bool × Unit))) (A := Bool) (fun rec41 y42 => match y42 with
  | (a43, (a44, (a45, (a46, a47)))) =>
  (Option.bind (α := Out ((List (List Int)) × (List (List Int × (Int × Unit))) × Int × Bool × (List ((List Int × (Bool × Unit)) × Int)) × List (List Int × (Bool × Unit))) (Bool)) ((if (decide (a45 < (a43.length : Int))) = true then
  (some (Out.go (a43, (a44, (a45, ((decide (a45 < (50 : Int))), (a46, a47)))))))
  else
  (some (Out.go (a43, (a44, (a45, (false, (a46, a47))))))))) fun o => match o with
  | .go (z49, (z50, (z51, (z52, (z53, z54))))) =>
  (if z52 = true then
  (Option.bind (idx z49 z51) fun v55 =>
  (Option.bind (tfind n (v55, (z53, z54))) fun r56 =>
  (Option.bind (idx z49 z51) fun v57 =>
  (Option.bind (rFind n (z50, v57)) fun r58 =>
  (if (decide (r58.1 ≥ (0 : Int))) = true then
  (Option.bind (idx z50 r58.1) fun v59 =>
  (if (r56.1 != v59.2.1) = true then
  some false
  else
  (Option.bind (turnstilelaw16Num n r56.2.1) fun r60 =>
  (if (r60 != r58.2) = true then
  some false
  else
  (let u61 : Int := (IntKind.wrap .i64 (z51 + (1 : Int)))
  rec41 (z49, (z50, (u61, (r56.2.2.1, r56.2.2.2)))))))))
  else
  (if (r56.1 != (0 : Int)) = true then
  some false
  else
  (Option.bind (turnstilelaw16Num n r56.2.1) fun r62 =>
  (if (r62 != r58.2) = true then
  some false
  else
  (let u63 : Int := (IntKind.wrap .i64 (z51 + (1 : Int)))
  rec41 (z49, (z50, (u63, (r56.2.2.1, r56.2.2.2)))))))))))))
  else
  (Option.bind (tfindN n ([(97 : Int)] : List Int)) fun r64 =>
  (Option.bind (taddN n (([(97 : Int)] : List Int), (1 : Int))) fun r65 =>
  (Option.bind (turnstilelaw16Num n r65) fun r66 =>
  (if (r66 == (9 : Int)) = true then
  (Option.bind (taddN n (([(97 : Int), (32 : Int), (98 : Int)] : List Int), (1 : Int))) fun r67 =>
  (Option.bind (turnstilelaw16Num n r67) fun r68 =>
  (if (r68 == (3 : Int)) = true then
  (Option.bind (turnstilelaw16Num n r64.2) fun r69 =>
  (if (r69 == (8 : Int)) = true then
  (Option.bind (tlenN n ()) fun r70 =>
  (if (r70 == (0 : Int)) = true then
  (Option.bind (tallN n ()) fun r71 =>
  (if ((r71.length : Int) == (0 : Int)) = true then
  (Option.bind (works n ()) fun r72 =>
  some r72)
  else
  some false))
  else
  some false))
  else
  some false))
  else
  some false)))
  else
  some false)))))
  | .ret r73 => some r73)) n (a32, (a33, ((0 : Int), (a36, a37))))))) n (z14, (z15, (r28.1, ((0 : Int), (r29.2.1, r29.2.2)))))))))))
  | .ret r74 => some r74)) n (x1, (x2, (([] : List (List Int × (Int × Unit))), ((0 : Int), (r3.1, r3.2)))))))
def sp_hostTables (n : Nat) : Spec := ⟨pre_hostTables, post_hostTables, hostTables n⟩
def env_hostTables (n : Nat) : List (FuncId × Spec) := [(16, sp_tnew n), (17, sp_rAdd n), (18, sp_tadd n), (18, sp_taddN n), (12, sp_turnstilelaw16Num n), (19, sp_tall n), (19, sp_tallN n), (20, sp_tlen n), (20, sp_tlenN n), (21, sp_tfind n), (21, sp_tfindN n), (22, sp_rFind n), (15, sp_works n)]
theorem run_hostTables (n : Nat) (x : pre_hostTables.T) : fnRun Tryd.prog 72 (envG (env_hostTables n) [] (fun _ => none)) n Tryd.f4 ann_hostTables pre_hostTables post_hostTables x = hostTables n x := by kernel_rfl
theorem ok_hostTables (n : Nat) : FnOK Tryd.prog 72 L0 4 (sp_hostTables n) :=
  fn_run mixed Tryd.func4 (sp_hostTables n) n ann_hostTables (env_hostTables n) (envOf_cons (ok_tnew n) (envOf_cons (ok_rAdd n) (envOf_cons (ok_tadd n) (envOf_cons (ok_taddN n) (envOf_cons (ok_turnstilelaw16Num n) (envOf_cons (ok_tall n) (envOf_cons (ok_tallN n) (envOf_cons (ok_tlen n) (envOf_cons (ok_tlenN n) (envOf_cons (ok_tfind n) (envOf_cons (ok_tfindN n) (envOf_cons (ok_rFind n) (envOf_cons (ok_works n) envOf_nil))))))))))))) [] (fun _ => none) gl_none (run_hostTables n) (by kernel_rfl)
def pre_hostFits : Shape := ⟨[.c (.dat .str), .c (.dat .str), .c (.dat .str)], []⟩
def post_hostFits : List Shape := [⟨[.c (.dat .bool)], []⟩]
def ann_hostFits : Ann := .no
/-- what turnstile/turnstilelaw16.HostFits comes to. -/
def hostFits (n : Nat) (x : (List Int) × (List Int) × List Int) : Option (Bool) :=
  match x with
  | (x1, (x2, x3)) =>
  (Option.bind (fits n (x1, x3)) fun r4 =>
  (Option.bind (rFits n (x1, x3)) fun r5 =>
  (Option.bind (beats n (x1, (x2, x3))) fun r6 =>
  (Option.bind (rBeats n (x1, (x2, x3))) fun r7 =>
  (if (r4.1 == r5.1) = true then
  (Option.bind (turnstilelaw16Num n r4.2) fun r8 =>
  (if (r8 == r5.2) = true then
  (if (r6.1 == r7.1) = true then
  (Option.bind (turnstilelaw16Num n r6.2) fun r9 =>
  (if (r9 == r7.2) = true then
  (Option.bind (works n ()) fun r10 =>
  some r10)
  else
  some false))
  else
  some false)
  else
  some false))
  else
  some false)))))
def sp_hostFits (n : Nat) : Spec := ⟨pre_hostFits, post_hostFits, hostFits n⟩
def env_hostFits (n : Nat) : List (FuncId × Spec) := [(23, sp_fits n), (24, sp_rFits n), (25, sp_beats n), (26, sp_rBeats n), (12, sp_turnstilelaw16Num n), (15, sp_works n)]
theorem run_hostFits (n : Nat) (x : pre_hostFits.T) : fnRun Tryd.prog 72 (envG (env_hostFits n) [] (fun _ => none)) n Tryd.f5 ann_hostFits pre_hostFits post_hostFits x = hostFits n x := by kernel_rfl
theorem ok_hostFits (n : Nat) : FnOK Tryd.prog 72 L0 5 (sp_hostFits n) :=
  fn_run mixed Tryd.func5 (sp_hostFits n) n ann_hostFits (env_hostFits n) (envOf_cons (ok_fits n) (envOf_cons (ok_rFits n) (envOf_cons (ok_beats n) (envOf_cons (ok_rBeats n) (envOf_cons (ok_turnstilelaw16Num n) (envOf_cons (ok_works n) envOf_nil)))))) [] (fun _ => none) gl_none (run_hostFits n) (by kernel_rfl)
def pre_hostOrder : Shape := ⟨[.c (.dat (.list .str)), .c (.dat .str), .c (.dat (.int .i64))], []⟩
def post_hostOrder : List Shape := [⟨[.c (.dat .bool)], []⟩]
def ann_hostOrder : Ann := (.two .no (.two .no (.two .no (.two .no (.two .no (.two (.two .no (.one (.loop ⟨[0, 1, 2, 7, 8, 9, 10], ⟨[.c (.dat (.list .str)), .c (.dat .str), .c (.dat (.int .i64)), .c (.ptr 500 0), .c (.ptr 503 0), .c (.own 506), .c (.dat (.int .i64))], [(500, .cells 79 [.own 501, .own 502]), (501, .mp (.pair .str (.pair .bool .unit)) (.int .i64)), (502, .row 81 (.pair .str (.pair .bool .unit))), (503, .cells 79 [.own 504, .own 505]), (504, .mp (.pair .str (.pair .bool .unit)) (.int .i64)), (505, .row 81 (.pair .str (.pair .bool .unit))), (506, .row 3 (.int .i64))]⟩⟩ (.two .no (.two (.one (.two .no (.two (.two .no (.one (.loop ⟨[0, 1, 2, 7, 8, 9, 10, 11, 12], ⟨[.c (.dat (.list .str)), .c (.dat .str), .c (.dat (.int .i64)), .c (.ptr 500 0), .c (.ptr 503 0), .c (.own 506), .c (.dat (.int .i64)), .c (.dat (.int .i64)), .c (.dat (.int .i64))], [(500, .cells 79 [.own 501, .own 502]), (501, .mp (.pair .str (.pair .bool .unit)) (.int .i64)), (502, .row 81 (.pair .str (.pair .bool .unit))), (503, .cells 79 [.own 504, .own 505]), (504, .mp (.pair .str (.pair .bool .unit)) (.int .i64)), (505, .row 81 (.pair .str (.pair .bool .unit))), (506, .row 3 (.int .i64))]⟩⟩ .no))) .no))) .no))))) (.two (.two .no (.one (.loop ⟨[0, 1, 2, 7, 8, 9, 13], ⟨[.c (.dat (.list .str)), .c (.dat .str), .c (.dat (.int .i64)), .c (.ptr 500 0), .c (.ptr 503 0), .c (.own 506), .c (.dat (.int .i64))], [(500, .cells 79 [.own 501, .own 502]), (501, .mp (.pair .str (.pair .bool .unit)) (.int .i64)), (502, .row 81 (.pair .str (.pair .bool .unit))), (503, .cells 79 [.own 504, .own 505]), (504, .mp (.pair .str (.pair .bool .unit)) (.int .i64)), (505, .row 81 (.pair .str (.pair .bool .unit))), (506, .row 3 (.int .i64))]⟩⟩ .no))) (.two .no (.two .no (.two .no (.two .no (.two .no (.two .no (.two .no (.two (.two .no (.one (.loop ⟨[0, 1, 15, 21], ⟨[.c (.dat (.list .str)), .c (.dat .str), .c (.dat (.int .i64)), .c (.dat (.int .i64))], []⟩⟩ .no))) .no)))))))))))))))
/-- what turnstile/turnstilelaw16.HostOrder comes to. -/
def hostOrder (n : Nat) (x : (List (List Int)) × (List Int) × Int) : Option (Bool) :=
  match x with
  | (x1, (x2, x3)) =>
  (Option.bind (tnew n ()) fun r4 =>
  (Option.bind (tnew n ()) fun r5 =>
  (if (decide ((x1.length : Int) < (1 : Int))) = true then
  (Option.bind (works n ()) fun r6 =>
  some r6)
  else
  (if (decide ((x1.length : Int) > (60 : Int))) = true then
  (Option.bind (works n ()) fun r7 =>
  some r7)
  else
  (if (x1.length : Int) = 0 then none else
  (let u8 : Int := (IntKind.wrap .i64 ((Int.tmod x3 (x1.length : Int)) + (x1.length : Int)))
  (if (x1.length : Int) = 0 then none else
  (loopF (X := (List (List Int)) × (List Int) × Int × Int × (List ((List Int × (Bool × Unit)) × Int)) × (List (List Int × (Bool × Unit))) × (List ((List Int × (Bool × Unit)) × Int)) × (List (List Int × (Bool × Unit))) × List Int) (A := Bool) (fun rec9 y10 => match y10 with
  | (a11, (a12, (a13, (a14, (a15, (a16, (a17, (a18, a19)))))))) =>
  (if (decide (a14 < (a11.length : Int))) = true then
  (loopF (X := (List (List Int)) × (List Int) × Int × Int × Int × Int × (List ((List Int × (Bool × Unit)) × Int)) × (List (List Int × (Bool × Unit))) × (List ((List Int × (Bool × Unit)) × Int)) × (List (List Int × (Bool × Unit))) × List Int) (A := Bool) (fun rec20 y21 => match y21 with
  | (a22, (a23, (a24, (a25, (a26, (a27, (a28, (a29, (a30, (a31, a32)))))))))) =>
  (if (decide (a27 < a25)) = true then
  (Option.bind (idx a22 a27) fun v33 =>
  (Option.bind (idx a22 a25) fun v34 =>
  (Option.bind (rSame n (v33, v34)) fun r35 =>
  (if r35 = true then
  (let u36 : Int := (IntKind.wrap .i64 (a27 + (1 : Int)))
  rec20 (a22, (a23, (a24, (a25, ((if a27 < a26 then a27 else a26), (u36, (a28, (a29, (a30, (a31, a32)))))))))))
  else
  (let u37 : Int := (IntKind.wrap .i64 (a27 + (1 : Int)))
  rec20 (a22, (a23, (a24, (a25, (a26, (u37, (a28, (a29, (a30, (a31, a32)))))))))))))))
  else
  (if (a32.length + 1) * 8 ≤ 140737488355328 then
  (let u38 : Int := (IntKind.wrap .i64 (a25 + (1 : Int)))
  rec9 (a22, (a23, (a24, (u38, (a28, (a29, (a30, (a31, (a32 ++ ([a26] : List Int)))))))))))
  else none))) n (a11, (a12, (a13, (a14, (a14, ((0 : Int), (a15, (a16, (a17, (a18, a19)))))))))))
  else
  (loopF (X := (List (List Int)) × (List Int) × Int × Int × (List ((List Int × (Bool × Unit)) × Int)) × (List (List Int × (Bool × Unit))) × (List ((List Int × (Bool × Unit)) × Int)) × (List (List Int × (Bool × Unit))) × List Int) (A := Bool) (fun rec39 y40 => match y40 with
  | (a41, (a42, (a43, (a44, (a45, (a46, (a47, (a48, a49)))))))) =>
  (if (decide (a44 < (a41.length : Int))) = true then
  (Option.bind (idx a41 a44) fun v50 =>
  (if 0 ≤ a44 ∧ a44 < (a49.length : Int) then
  (Option.bind (tadd n (v50, ((a49.getD a44.toNat (0 : Int)), (a45, a46)))) fun r51 =>
  (let u52 : Int := (IntKind.wrap .i64 (a43 + (a41.length : Int)))
  (if (a41.length : Int) = 0 then none else
  (let u53 : Int := (Int.tmod (IntKind.wrap .i64 (u52 - a44)) (a41.length : Int))
  (Option.bind (idx a41 u53) fun v54 =>
  (if 0 ≤ u53 ∧ u53 < (a49.length : Int) then
  (Option.bind (tadd n (v54, ((a49.getD u53.toNat (0 : Int)), (a47, a48)))) fun r55 =>
  (let u56 : Int := (IntKind.wrap .i64 (a44 + (1 : Int)))
  rec39 (a41, (a42, (a43, (u56, (r51.2.1, (r51.2.2, (r55.2.1, (r55.2.2, a49))))))))))
  else none))))))
  else none))
  else
  (Option.bind (tfind n (a42, (a45, a46))) fun r57 =>
  (Option.bind (tfind n (a42, (a47, a48))) fun r58 =>
  (if (r57.1 != r58.1) = true then
  some false
  else
  (Option.bind (turnstilelaw16Num n r57.2.1) fun r59 =>
  (Option.bind (turnstilelaw16Num n r58.2.1) fun r60 =>
  (if (r59 != r60) = true then
  some false
  else
  (if (!(r57.2.1 == (0 : Int))) = true then
  (Option.bind (works n ()) fun r61 =>
  some r61)
  else
  (if (decide (r57.1 < (0 : Int))) = true then
  some false
  else
  (if (decide (r57.1 ≥ (a41.length : Int))) = true then
  some false
  else
  (Option.bind (idx a41 r57.1) fun v62 =>
  (Option.bind (fits n (v62, a42)) fun r63 =>
  (if (!r63.1) = true then
  some false
  else
  (if (!(r63.2 == (0 : Int))) = true then
  some false
  else
  (loopF (X := (List (List Int)) × (List Int) × Int × Int) (A := Bool) (fun rec64 y65 => match y65 with
  | (a66, (a67, (a68, a69))) =>
  (if (decide (a69 < (a66.length : Int))) = true then
  (Option.bind (idx a66 a69) fun v70 =>
  (Option.bind (idx a66 a68) fun v71 =>
  (Option.bind (beats n (v70, (v71, a67))) fun r72 =>
  (if r72.1 = true then
  some false
  else
  (let u73 : Int := (IntKind.wrap .i64 (a69 + (1 : Int)))
  rec64 (a66, (a67, (a68, u73))))))))
  else
  (Option.bind (works n ()) fun r74 =>
  some r74))) n (a41, (a42, (r57.1, (0 : Int)))))))))))))))))))) n (a11, (a12, (a13, ((0 : Int), (a15, (a16, (a17, (a18, a19))))))))))) n (x1, (x2, ((Int.tmod u8 (x1.length : Int)), ((0 : Int), (r4.1, (r4.2, (r5.1, (r5.2, ([] : List Int)))))))))))))))))
def sp_hostOrder (n : Nat) : Spec := ⟨pre_hostOrder, post_hostOrder, hostOrder n⟩
def env_hostOrder (n : Nat) : List (FuncId × Spec) := [(16, sp_tnew n), (15, sp_works n), (27, sp_rSame n), (18, sp_tadd n), (18, sp_taddN n), (21, sp_tfind n), (21, sp_tfindN n), (12, sp_turnstilelaw16Num n), (23, sp_fits n), (25, sp_beats n)]
theorem run_hostOrder (n : Nat) (x : pre_hostOrder.T) : fnRun Tryd.prog 72 (envG (env_hostOrder n) [] (fun _ => none)) n Tryd.f6 ann_hostOrder pre_hostOrder post_hostOrder x = hostOrder n x := by kernel_rfl
theorem ok_hostOrder (n : Nat) : FnOK Tryd.prog 72 L0 6 (sp_hostOrder n) :=
  fn_run mixed Tryd.func6 (sp_hostOrder n) n ann_hostOrder (env_hostOrder n) (envOf_cons (ok_tnew n) (envOf_cons (ok_works n) (envOf_cons (ok_rSame n) (envOf_cons (ok_tadd n) (envOf_cons (ok_taddN n) (envOf_cons (ok_tfind n) (envOf_cons (ok_tfindN n) (envOf_cons (ok_turnstilelaw16Num n) (envOf_cons (ok_fits n) (envOf_cons (ok_beats n) envOf_nil)))))))))) [] (fun _ => none) gl_none (run_hostOrder n) (by kernel_rfl)
def pre_hostStrict : Shape := ⟨[.c (.dat .str), .c (.dat .str), .c (.dat .str)], []⟩
def post_hostStrict : List Shape := [⟨[.c (.dat .bool)], []⟩]
def ann_hostStrict : Ann := .no
/-- what turnstile/turnstilelaw16.HostStrict comes to. -/
def hostStrict (n : Nat) (x : (List Int) × (List Int) × List Int) : Option (Bool) :=
  match x with
  | (x1, (x2, x3)) =>
  (Option.bind (strict n (x1, (x2, (x3, ([(97 : Int), (46 : Int), (98 : Int), (46 : Int), (99 : Int)] : List Int))))) fun r4 =>
  (if r4 = true then
  (Option.bind (strict n (x1, (x2, (x3, ([(120 : Int), (46 : Int), (98 : Int), (46 : Int), (99 : Int)] : List Int))))) fun r5 =>
  (if r5 = true then
  (Option.bind (strict n (x1, (x2, (x3, ([(97 : Int), (46 : Int), (121 : Int), (46 : Int), (99 : Int)] : List Int))))) fun r6 =>
  (if r6 = true then
  (Option.bind (works n ()) fun r7 =>
  some r7)
  else
  some false))
  else
  some false))
  else
  some false))
def sp_hostStrict (n : Nat) : Spec := ⟨pre_hostStrict, post_hostStrict, hostStrict n⟩
def env_hostStrict (n : Nat) : List (FuncId × Spec) := [(28, sp_strict n), (15, sp_works n)]
theorem run_hostStrict (n : Nat) (x : pre_hostStrict.T) : fnRun Tryd.prog 72 (envG (env_hostStrict n) [] (fun _ => none)) n Tryd.f7 ann_hostStrict pre_hostStrict post_hostStrict x = hostStrict n x := by kernel_rfl
theorem ok_hostStrict (n : Nat) : FnOK Tryd.prog 72 L0 7 (sp_hostStrict n) :=
  fn_run mixed Tryd.func7 (sp_hostStrict n) n ann_hostStrict (env_hostStrict n) (envOf_cons (ok_strict n) (envOf_cons (ok_works n) envOf_nil)) [] (fun _ => none) gl_none (run_hostStrict n) (by kernel_rfl)
end Go.Sx.YtmhimaefondndaaDoor
