/- Part of a proof by a small interpreter on plain values; no condition. -/
import Derived.Test.YtmbakmdgmccgiabDoorBa
import Derived.Test.YtmbakmdgmccgiabDoorProg
/-! written by program: the functions as plain ones, and their contracts. -/
namespace Go.Sx.YtmbakmdgmccgiabDoor
open Go Go.Sx Go.Proofs
set_option autoImplicit false
set_option maxRecDepth 100000
set_option maxHeartbeats 2000000
set_option linter.unusedVariables false
theorem mixed : Tryd.prog.follows .mixedOrders = true := by kernel_rfl
def pre_jValue : Shape := ⟨[.c (.ptr 0 0), .c (.dat (.int .i64))], [(0, .cells 51 [.dat .str, .dat (.int .i64), .dat (.nd 200)]), (200, .pool 55 (.pair (.int .i64) (.pair (.int .i64) .unit)))]⟩
def post_jValue : List Shape := [⟨[.a [.dat (.int .i64), .dat .bool, .dat .str, .dat (.int .i64), .dat .bool, .dat (.list .js), .dat (.list .str)]], [(0, .cells 51 [.dat .str, .dat (.int .i64), .dat (.nd 200)]), (200, .pool 55 (.pair (.int .i64) (.pair (.int .i64) .unit)))]⟩]
def pre_deep : Shape := ⟨[.a [.dat (.int .i64), .dat .bool, .dat .str, .dat (.int .i64), .dat .bool, .dat (.list .js), .dat (.list .str)], .c (.dat (.int .i64))], []⟩
def post_deep : List Shape := [⟨[.c (.dat (.int .i64))], []⟩]
def pre_jSame : Shape := ⟨[.a [.dat (.int .i64), .dat .bool, .dat .str, .dat (.int .i64), .dat .bool, .dat (.list .js), .dat (.list .str)], .a [.dat (.int .i64), .dat .bool, .dat .str, .dat (.int .i64), .dat .bool, .dat (.list .js), .dat (.list .str)]], []⟩
def post_jSame : List Shape := [⟨[.c (.dat .bool)], []⟩]
def pre_many : Shape := ⟨[.a [.dat (.int .i64), .dat .bool, .dat .str, .dat (.int .i64), .dat .bool, .dat (.list .js), .dat (.list .str)], .c (.dat (.int .i64)), .c (.dat (.int .i64))], []⟩
def post_many : List Shape := [⟨[.c (.dat (.int .i64))], []⟩]
def pre_twice : Shape := ⟨[.a [.dat (.int .i64), .dat .bool, .dat .str, .dat (.int .i64), .dat .bool, .dat (.list .js), .dat (.list .str)]], []⟩
def post_twice : List Shape := [⟨[.c (.dat .bool)], []⟩]
def pre_jWell : Shape := ⟨[.a [.dat (.int .i64), .dat .bool, .dat .str, .dat (.int .i64), .dat .bool, .dat (.list .js), .dat (.list .str)]], [(200, .pool 55 (.pair (.int .i64) (.pair (.int .i64) .unit)))]⟩
def post_jWell : List Shape := [⟨[.c (.dat .bool)], [(200, .pool 55 (.pair (.int .i64) (.pair (.int .i64) .unit)))]⟩]
def pre_jWritten : Shape := ⟨[.c (.ptr 0 0), .a [.dat (.int .i64), .dat .bool, .dat .str, .dat (.int .i64), .dat .bool, .dat (.list .js), .dat (.list .str)]], [(0, .cells 43 [.slf 0, .own 1]), (1, .row 5 (.int .u8))]⟩
def post_jWritten : List Shape := [⟨[], [(0, .cells 43 [.slf 0, .own 1]), (1, .row 5 (.int .u8))]⟩]
def ann_many : Ann := (.two .no (.two .no (.two .no (.two (.two .no (.one (.loop ⟨[1, 2, 3, 7], ⟨[.c (.dat (.int .i64)), .c (.dat (.int .i64)), .c (.ptr 500 0), .c (.dat (.int .i64))], [(500, .cells 25 [.dat (.int .i64), .dat .bool, .dat .str, .dat (.int .i64), .dat .bool, .dat (.list .js), .dat (.list .str)])]⟩⟩ .no))) .no))))
/-- what turnstile/turnstilelaw06.many comes to. -/
def manyStep (n : Nat) (s_many : (Int × Bool × (List Int) × Int × Bool × (List JV) × (List (List Int)) × Int × Int) → Option (Int)) (x : Int × Bool × (List Int) × Int × Bool × (List JV) × (List (List Int)) × Int × Int) : Option (Int) :=
  match x with
  | (x1, (x2, (x3, (x4, (x5, (x6, (x7, (x8, x9)))))))) =>
  (if (x9 == (0 : Int)) = true then
  some (-1 : Int)
  else
  (loopF (X := Int × Int × Int × Int × Bool × (List Int) × Int × Bool × (List JV) × List (List Int)) (A := Int) (fun rec10 y11 => match y11 with
  | (a12, (a13, (a14, (a15, (a16, (a17, (a18, (a19, (a20, a21))))))))) =>
  (if (decide (a14 < (a20.length : Int))) = true then
  (if (decide (a12 ≥ (0 : Int))) = true then
  (Option.bind (idx a20 a14) fun v22 =>
  (let u23 : Int := (IntKind.wrap .i64 (a13 - (1 : Int)))
  (Option.bind (s_many (v22.kind, (v22.b, (v22.text, (v22.n, (v22.whole, (v22.list, (v22.names, (a12, u23))))))))) fun r24 =>
  (let u25 : Int := (IntKind.wrap .i64 (a14 + (1 : Int)))
  rec10 (r24, (a13, (u25, (a15, (a16, (a17, (a18, (a19, (a20, a21)))))))))))))
  else
  some a12)
  else
  some a12)) n ((IntKind.wrap .i64 (x8 - (1 : Int))), (x9, ((0 : Int), (x1, (x2, (x3, (x4, (x5, (x6, x7)))))))))))
def sp_manyStep (n : Nat) (s_many : (Int × Bool × (List Int) × Int × Bool × (List JV) × (List (List Int)) × Int × Int) → Option (Int)) : Spec := ⟨pre_many, post_many, manyStep n s_many⟩
def env_manyStep (n : Nat) (s_many : (Int × Bool × (List Int) × Int × Bool × (List JV) × (List (List Int)) × Int × Int) → Option (Int)) : List (FuncId × Spec) := [(9, ⟨pre_many, post_many, s_many⟩)]
theorem run_manyStep (n : Nat) (s_many : (Int × Bool × (List Int) × Int × Bool × (List JV) × (List (List Int)) × Int × Int) → Option (Int)) (x : pre_many.T) : fnRun Tryd.prog 46 (envG (env_manyStep n s_many) [] (fun _ => none)) n Tryd.f9 ann_many pre_many post_many x = manyStep n s_many x := by kernel_rfl
theorem ok_manyStep (n : Nat) (s_many : (Int × Bool × (List Int) × Int × Bool × (List JV) × (List (List Int)) × Int × Int) → Option (Int)) (h_many : FnOK Tryd.prog 46 LS 9 ⟨pre_many, post_many, s_many⟩) : FnOK Tryd.prog 46 LS 9 (sp_manyStep n s_many) :=
  fn_run mixed Tryd.func9 (sp_manyStep n s_many) n ann_many (env_manyStep n s_many) (envOf_cons (h_many) envOf_nil) [] (fun _ => none) gl_none (run_manyStep n s_many) (by kernel_rfl)
def many (n : Nat) (x : Int × Bool × (List Int) × Int × Bool × (List JV) × (List (List Int)) × Int × Int) : Option (Int) := loopF (X := Int × Bool × (List Int) × Int × Bool × (List JV) × (List (List Int)) × Int × Int) (A := Int) (manyStep n) n x
def sp_many (n : Nat) : Spec := ⟨pre_many, post_many, many n⟩
theorem ok_many (n : Nat) : FnOK Tryd.prog 46 LS 9 (sp_many n) := rec_ok (pre := pre_many) (post := post_many) ⟨_, Tryd.func9, by kernel_rfl, by kernel_rfl⟩ (manyStep n) (fun s h => ok_manyStep n s h) n
def pre_turnstilelaw06Num : Shape := ⟨[.c (.dat .err)], []⟩
def post_turnstilelaw06Num : List Shape := [⟨[.c (.dat (.int .i64))], []⟩]
def ann_turnstilelaw06Num : Ann := .no
/-- what turnstile/turnstilelaw06.num comes to. -/
def turnstilelaw06Num (n : Nat) (x : Int) : Option (Int) :=
  (if (x == (0 : Int)) = true then
  some (0 : Int)
  else
  (if (!(x != 0)) = true then
  some (-1 : Int)
  else
  some x))
def sp_turnstilelaw06Num (n : Nat) : Spec := ⟨pre_turnstilelaw06Num, post_turnstilelaw06Num, turnstilelaw06Num n⟩
def env_turnstilelaw06Num (n : Nat) : List (FuncId × Spec) := []
theorem run_turnstilelaw06Num (n : Nat) (x : pre_turnstilelaw06Num.T) : fnRun Tryd.prog 46 (envG (env_turnstilelaw06Num n) [] (fun _ => none)) n Tryd.f10 ann_turnstilelaw06Num pre_turnstilelaw06Num post_turnstilelaw06Num x = turnstilelaw06Num n x := by kernel_rfl
theorem ok_turnstilelaw06Num (n : Nat) : FnOK Tryd.prog 46 LS 10 (sp_turnstilelaw06Num n) :=
  fn_run mixed Tryd.func10 (sp_turnstilelaw06Num n) n ann_turnstilelaw06Num (env_turnstilelaw06Num n) envOf_nil [] (fun _ => none) gl_none (run_turnstilelaw06Num n) (by kernel_rfl)
def pre_bldLen : Shape := ⟨[.c (.ptr 0 0)], [(0, .cells 43 [.slf 0, .own 1]), (1, .row 5 (.int .u8))]⟩
def post_bldLen : List Shape := [⟨[.c (.dat (.int .i64))], [(0, .cells 43 [.slf 0, .own 1]), (1, .row 5 (.int .u8))]⟩]
def ann_bldLen : Ann := .no
/-- what (strings.Builder).Len comes to. -/
def bldLen (n : Nat) (x : List Int) : Option (Int × List Int) :=
  some ((x.length : Int), x)
def sp_bldLen (n : Nat) : Spec := ⟨pre_bldLen, post_bldLen, bldLen n⟩
def env_bldLen (n : Nat) : List (FuncId × Spec) := []
theorem run_bldLen (n : Nat) (x : pre_bldLen.T) : fnRun Tryd.prog 46 (envG (env_bldLen n) [] (fun _ => none)) n Tryd.f13 ann_bldLen pre_bldLen post_bldLen x = bldLen n x := by kernel_rfl
theorem ok_bldLen (n : Nat) : FnOK Tryd.prog 46 LS 13 (sp_bldLen n) :=
  fn_run mixed Tryd.func13 (sp_bldLen n) n ann_bldLen (env_bldLen n) envOf_nil [] (fun _ => none) gl_none (run_bldLen n) (by kernel_rfl)
def pre_jFails : Shape := ⟨[.c (.ptr 0 0), .c (.dat (.int .i64)), .c (.dat (.int .i64))], [(0, .cells 51 [.dat .str, .dat (.int .i64), .dat (.nd 200)]), (200, .pool 55 (.pair (.int .i64) (.pair (.int .i64) .unit)))]⟩
def post_jFails : List Shape := [⟨[], [(0, .cells 51 [.dat .str, .dat (.int .i64), .dat (.nd 200)]), (200, .pool 55 (.pair (.int .i64) (.pair (.int .i64) .unit)))]⟩]
def ann_jFails : Ann := .no
/-- what (turnstile/json.reader).fails comes to. -/
def jFails (n : Nat) (x : Int × Int × (List Int) × Int × Int × List (Int × (Int × Unit))) : Option ((List Int) × Int × Int × List (Int × (Int × Unit))) :=
  match x with
  | (x1, (x2, (x3, (x4, (x5, x6))))) =>
  (if (decide (x5 < 0)) = true then
  some (x3, (x4, ((x6.length : Int), (x6 ++ [(x1, (x2, ()))]))))
  else
  some (x3, (x4, (x5, x6))))
def sp_jFails (n : Nat) : Spec := ⟨pre_jFails, post_jFails, jFails n⟩
def env_jFails (n : Nat) : List (FuncId × Spec) := []
theorem run_jFails (n : Nat) (x : pre_jFails.T) : fnRun Tryd.prog 46 (envG (env_jFails n) [] (fun _ => none)) n Tryd.f17 ann_jFails pre_jFails post_jFails x = jFails n x := by kernel_rfl
theorem ok_jFails (n : Nat) : FnOK Tryd.prog 46 LS 17 (sp_jFails n) :=
  fn_run mixed Tryd.func17 (sp_jFails n) n ann_jFails (env_jFails n) envOf_nil [] (fun _ => none) gl_none (run_jFails n) (by kernel_rfl)
def pre_slEqualFunc : Shape := ⟨[.c (.dat (.list .js)), .c (.dat (.list .js)), .c (.fnc 8)], []⟩
def post_slEqualFunc : List Shape := [⟨[.c (.dat .bool)], []⟩]
def ann_slEqualFunc : Ann := (.two .no (.two .no (.two (.two .no (.one (.loop ⟨[1, 2, 15, 16, 17], ⟨[.c (.dat (.list .js)), .c (.fnc 8), .c (.dat (.list .js)), .c (.dat (.int .i64)), .c (.dat (.int .i64))], []⟩⟩ .no))) .no)))
/-- what slices.EqualFunc[[]turnstile/api.Value,[]turnstile/api.Value,turnstile/api.Value,turnstile/api.Value] comes to. -/
def slEqualFunc (n : Nat) (s_jSame : (Int × Bool × (List Int) × Int × Bool × (List JV) × (List (List Int)) × Int × Bool × (List Int) × Int × Bool × (List JV) × List (List Int)) → Option (Bool)) (x : (List JV) × List JV) : Option (Bool) :=
  match x with
  | (x1, x2) =>
  (if ((x1.length : Int) != (x2.length : Int)) = true then
  some false
  else
  (loopF (X := (List JV) × (List JV) × Int × Int) (A := Bool) (fun rec3 y4 => match y4 with
  | (a5, (a6, (a7, a8))) =>
  (if (decide (a8 < a7)) = true then
  (Option.bind (idx a6 a8) fun v9 =>
  (Option.bind (idx a5 a8) fun v10 =>
  (Option.bind (s_jSame (v9.kind, (v9.b, (v9.text, (v9.n, (v9.whole, (v9.list, (v9.names, (v10.kind, (v10.b, (v10.text, (v10.n, (v10.whole, (v10.list, v10.names)))))))))))))) fun r11 =>
  (if (!r11) = true then
  some false
  else
  rec3 (a5, (a6, (a7, (IntKind.wrap .i64 (a8 + (1 : Int))))))))))
  else
  some true)) n (x2, (x1, ((x1.length : Int), (0 : Int))))))
def sp_slEqualFunc (n : Nat) (s_jSame : (Int × Bool × (List Int) × Int × Bool × (List JV) × (List (List Int)) × Int × Bool × (List Int) × Int × Bool × (List JV) × List (List Int)) → Option (Bool)) : Spec := ⟨pre_slEqualFunc, post_slEqualFunc, slEqualFunc n s_jSame⟩
def env_slEqualFunc (n : Nat) (s_jSame : (Int × Bool × (List Int) × Int × Bool × (List JV) × (List (List Int)) × Int × Bool × (List Int) × Int × Bool × (List JV) × List (List Int)) → Option (Bool)) : List (FuncId × Spec) := [(8, ⟨pre_jSame, post_jSame, s_jSame⟩)]
theorem run_slEqualFunc (n : Nat) (s_jSame : (Int × Bool × (List Int) × Int × Bool × (List JV) × (List (List Int)) × Int × Bool × (List Int) × Int × Bool × (List JV) × List (List Int)) → Option (Bool)) (x : pre_slEqualFunc.T) : fnRun Tryd.prog 46 (envG (env_slEqualFunc n s_jSame) [] (fun _ => none)) n Tryd.f18 ann_slEqualFunc pre_slEqualFunc post_slEqualFunc x = slEqualFunc n s_jSame x := by kernel_rfl
theorem ok_slEqualFunc (n : Nat) (s_jSame : (Int × Bool × (List Int) × Int × Bool × (List JV) × (List (List Int)) × Int × Bool × (List Int) × Int × Bool × (List JV) × List (List Int)) → Option (Bool)) (h_jSame : FnOK Tryd.prog 46 LS 8 ⟨pre_jSame, post_jSame, s_jSame⟩) : FnOK Tryd.prog 46 LS 18 (sp_slEqualFunc n s_jSame) :=
  fn_run mixed Tryd.func18 (sp_slEqualFunc n s_jSame) n ann_slEqualFunc (env_slEqualFunc n s_jSame) (envOf_cons (h_jSame) envOf_nil) [] (fun _ => none) gl_none (run_slEqualFunc n s_jSame) (by kernel_rfl)
def pre_equalstringstring : Shape := ⟨[.c (.dat (.list .str)), .c (.dat (.list .str))], []⟩
def post_equalstringstring : List Shape := [⟨[.c (.dat .bool)], []⟩]
def ann_equalstringstring : Ann := (.two .no (.two .no (.two (.two .no (.one (.loop ⟨[0, 1, 12, 13], ⟨[.c (.dat (.list .str)), .c (.dat (.list .str)), .c (.dat (.int .i64)), .c (.dat (.int .i64))], []⟩⟩ .no))) .no)))
/-- what slices.Equal[[]string,string] comes to. -/
def equalstringstring (n : Nat) (x : (List (List Int)) × List (List Int)) : Option (Bool) :=
  match x with
  | (x1, x2) =>
  (if ((x1.length : Int) != (x2.length : Int)) = true then
  some false
  else
  (loopF (X := (List (List Int)) × (List (List Int)) × Int × Int) (A := Bool) (fun rec3 y4 => match y4 with
  | (a5, (a6, (a7, a8))) =>
  (if (decide (a8 < a7)) = true then
  (Option.bind (idx a5 a8) fun v9 =>
  (Option.bind (idx a6 a8) fun v10 =>
  (if (!(v9 == v10)) = true then
  some false
  else
  rec3 (a5, (a6, (a7, (IntKind.wrap .i64 (a8 + (1 : Int)))))))))
  else
  some true)) n (x1, (x2, ((x1.length : Int), (0 : Int))))))
def sp_equalstringstring (n : Nat) : Spec := ⟨pre_equalstringstring, post_equalstringstring, equalstringstring n⟩
def env_equalstringstring (n : Nat) : List (FuncId × Spec) := []
theorem run_equalstringstring (n : Nat) (x : pre_equalstringstring.T) : fnRun Tryd.prog 46 (envG (env_equalstringstring n) [] (fun _ => none)) n Tryd.f19 ann_equalstringstring pre_equalstringstring post_equalstringstring x = equalstringstring n x := by kernel_rfl
theorem ok_equalstringstring (n : Nat) : FnOK Tryd.prog 46 LS 19 (sp_equalstringstring n) :=
  fn_run mixed Tryd.func19 (sp_equalstringstring n) n ann_equalstringstring (env_equalstringstring n) envOf_nil [] (fun _ => none) gl_none (run_equalstringstring n) (by kernel_rfl)
def pre_bldStr : Shape := ⟨[.c (.ptr 0 0), .c (.dat .str)], [(0, .cells 43 [.slf 0, .own 1]), (1, .row 5 (.int .u8))]⟩
def post_bldStr : List Shape := [⟨[.c (.dat (.int .i64)), .c (.errc (0))], [(0, .cells 43 [.slf 0, .own 1]), (1, .row 5 (.int .u8))]⟩]
def ann_bldStr : Ann := .no
/-- what (strings.Builder).WriteString comes to. -/
def bldStr (n : Nat) (x : (List Int) × List Int) : Option (Int × List Int) :=
  match x with
  | (x1, x2) =>
  (Option.bind (bldCheck n x2) fun r3 =>
  (if (r3.length + x1.length) * 1 ≤ 140737488355328 then
  some ((x1.length : Int), (r3 ++ x1))
  else none))
def sp_bldStr (n : Nat) : Spec := ⟨pre_bldStr, post_bldStr, bldStr n⟩
def env_bldStr (n : Nat) : List (FuncId × Spec) := [(38, sp_bldCheck n)]
theorem run_bldStr (n : Nat) (x : pre_bldStr.T) : fnRun Tryd.prog 46 (envG (env_bldStr n) [] (fun _ => none)) n Tryd.f25 ann_bldStr pre_bldStr post_bldStr x = bldStr n x := by kernel_rfl
theorem ok_bldStr (n : Nat) : FnOK Tryd.prog 46 LS 25 (sp_bldStr n) :=
  fn_run mixed Tryd.func25 (sp_bldStr n) n ann_bldStr (env_bldStr n) (envOf_cons (ok_bldCheck n) envOf_nil) [] (fun _ => none) gl_none (run_bldStr n) (by kernel_rfl)
def pre_bldByte : Shape := ⟨[.c (.ptr 0 0), .c (.dat (.int .u8))], [(0, .cells 43 [.slf 0, .own 1]), (1, .row 5 (.int .u8))]⟩
def post_bldByte : List Shape := [⟨[.c (.errc (0))], [(0, .cells 43 [.slf 0, .own 1]), (1, .row 5 (.int .u8))]⟩]
def ann_bldByte : Ann := .no
/-- what (strings.Builder).WriteByte comes to. -/
def bldByte (n : Nat) (x : Int × List Int) : Option (List Int) :=
  match x with
  | (x1, x2) =>
  (Option.bind (bldCheck n x2) fun r3 =>
  (if (r3.length + 1) * 1 ≤ 140737488355328 then
  some (r3 ++ ([x1] : List Int))
  else none))
def sp_bldByte (n : Nat) : Spec := ⟨pre_bldByte, post_bldByte, bldByte n⟩
def env_bldByte (n : Nat) : List (FuncId × Spec) := [(38, sp_bldCheck n)]
theorem run_bldByte (n : Nat) (x : pre_bldByte.T) : fnRun Tryd.prog 46 (envG (env_bldByte n) [] (fun _ => none)) n Tryd.f26 ann_bldByte pre_bldByte post_bldByte x = bldByte n x := by kernel_rfl
theorem ok_bldByte (n : Nat) : FnOK Tryd.prog 46 LS 26 (sp_bldByte n) :=
  fn_run mixed Tryd.func26 (sp_bldByte n) n ann_bldByte (env_bldByte n) (envOf_cons (ok_bldCheck n) envOf_nil) [] (fun _ => none) gl_none (run_bldByte n) (by kernel_rfl)
def pre_jPeek : Shape := ⟨[.c (.ptr 0 0)], [(0, .cells 51 [.dat .str, .dat (.int .i64), .dat (.nd 200)]), (200, .pool 55 (.pair (.int .i64) (.pair (.int .i64) .unit)))]⟩
def post_jPeek : List Shape := [⟨[.c (.dat (.int .i64))], [(0, .cells 51 [.dat .str, .dat (.int .i64), .dat (.nd 200)]), (200, .pool 55 (.pair (.int .i64) (.pair (.int .i64) .unit)))]⟩]
def ann_jPeek : Ann := .no
/-- what (turnstile/json.reader).peek comes to. -/
def jPeek (n : Nat) (x : (List Int) × Int × Int × List (Int × (Int × Unit))) : Option (Int × (List Int) × Int × Int × List (Int × (Int × Unit))) :=
  match x with
  | (x1, (x2, (x3, x4))) =>
  (if (!(decide (x3 < 0))) = true then
  some ((-1 : Int), (x1, (x2, (x3, x4))))
  else
  (if (decide (x2 ≥ (x1.length : Int))) = true then
  some ((-1 : Int), (x1, (x2, (x3, x4))))
  else
  (Option.bind (idx x1 x2) fun v5 =>
  some ((IntKind.wrap .i64 v5), (x1, (x2, (x3, x4)))))))
def sp_jPeek (n : Nat) : Spec := ⟨pre_jPeek, post_jPeek, jPeek n⟩
def env_jPeek (n : Nat) : List (FuncId × Spec) := []
theorem run_jPeek (n : Nat) (x : pre_jPeek.T) : fnRun Tryd.prog 46 (envG (env_jPeek n) [] (fun _ => none)) n Tryd.f27 ann_jPeek pre_jPeek post_jPeek x = jPeek n x := by kernel_rfl
theorem ok_jPeek (n : Nat) : FnOK Tryd.prog 46 LS 27 (sp_jPeek n) :=
  fn_run mixed Tryd.func27 (sp_jPeek n) n ann_jPeek (env_jPeek n) envOf_nil [] (fun _ => none) gl_none (run_jPeek n) (by kernel_rfl)
def pre_jWord : Shape := ⟨[.c (.ptr 0 0), .c (.dat .str)], [(0, .cells 51 [.dat .str, .dat (.int .i64), .dat (.nd 200)]), (200, .pool 55 (.pair (.int .i64) (.pair (.int .i64) .unit)))]⟩
def post_jWord : List Shape := [⟨[], [(0, .cells 51 [.dat .str, .dat (.int .i64), .dat (.nd 200)]), (200, .pool 55 (.pair (.int .i64) (.pair (.int .i64) .unit)))]⟩]
def ann_jWord : Ann := (.two .no (.one (.loop ⟨[0, 1, 6, 7], ⟨[.c (.ptr 0 0), .c (.dat .str), .c (.dat (.int .i64)), .c (.dat (.int .i64))], [(0, .cells 51 [.dat .str, .dat (.int .i64), .dat (.nd 200)]), (200, .pool 55 (.pair (.int .i64) (.pair (.int .i64) .unit)))]⟩⟩ .no)))
/-- what (turnstile/json.reader).word comes to. -/
def jWord (n : Nat) (x : (List Int) × (List Int) × Int × Int × List (Int × (Int × Unit))) : Option ((List Int) × Int × Int × List (Int × (Int × Unit))) :=
  match x with
  | (x1, (x2, (x3, (x4, x5)))) =>
  (loopF (X := (List Int) × Int × Int × (List Int) × Int × Int × List (Int × (Int × Unit))) (A := (List Int) × Int × Int × List (Int × (Int × Unit))) (fun rec6 y7 => match y7 with
  | (a8, (a9, (a10, (a11, (a12, (a13, a14)))))) =>
  (if (decide (a10 < a9)) = true then
  (Option.bind (jPeek n (a11, (a12, (a13, a14)))) fun r15 =>
  (Option.bind (idx a8 a10) fun v16 =>
  (if (r15.1 != (IntKind.wrap .i64 v16)) = true then
  (Option.bind (jFails n (r15.2.2.1, ((3 : Int), (r15.2.1, (r15.2.2.1, (r15.2.2.2.1, r15.2.2.2.2)))))) fun r17 =>
  some (r17.1, (r17.2.1, (r17.2.2.1, r17.2.2.2))))
  else
  (let u18 : Int := (IntKind.wrap .i64 (r15.2.2.1 + (1 : Int)))
  (let u19 : Int := (IntKind.wrap .i64 (a10 + (1 : Int)))
  rec6 (a8, (a9, (u19, (r15.2.1, (u18, (r15.2.2.2.1, r15.2.2.2.2)))))))))))
  else
  some (a11, (a12, (a13, a14))))) n (x1, ((x1.length : Int), ((0 : Int), (x2, (x3, (x4, x5)))))))
def sp_jWord (n : Nat) : Spec := ⟨pre_jWord, post_jWord, jWord n⟩
def env_jWord (n : Nat) : List (FuncId × Spec) := [(27, sp_jPeek n), (17, sp_jFails n)]
theorem run_jWord (n : Nat) (x : pre_jWord.T) : fnRun Tryd.prog 46 (envG (env_jWord n) [] (fun _ => none)) n Tryd.f28 ann_jWord pre_jWord post_jWord x = jWord n x := by kernel_rfl
theorem ok_jWord (n : Nat) : FnOK Tryd.prog 46 LS 28 (sp_jWord n) :=
  fn_run mixed Tryd.func28 (sp_jWord n) n ann_jWord (env_jWord n) (envOf_cons (ok_jPeek n) (envOf_cons (ok_jFails n) envOf_nil)) [] (fun _ => none) gl_none (run_jWord n) (by kernel_rfl)
def ann_deep : Ann := (.two .no (.two (.two (.join ⟨[1, 2, 19], ⟨[.c (.dat (.int .i64)), .c (.ptr 500 0), .c (.dat .bool)], [(500, .cells 25 [.dat (.int .i64), .dat .bool, .dat .str, .dat (.int .i64), .dat .bool, .dat (.list .js), .dat (.list .str)])]⟩⟩ .no) .no) (.two .no (.two (.two .no (.one (.loop ⟨[1, 5, 21, 22, 23], ⟨[.c (.dat (.int .i64)), .c (.dat (.int .i64)), .c (.dat (.list .js)), .c (.dat (.int .i64)), .c (.dat (.int .i64))], []⟩⟩ .no))) .no))))
/-- what turnstile/json.deep comes to. -/
def deepStep (n : Nat) (s_deep : (Int × Bool × (List Int) × Int × Bool × (List JV) × (List (List Int)) × Int) → Option (Int)) (x : Int × Bool × (List Int) × Int × Bool × (List JV) × (List (List Int)) × Int) : Option (Int) :=
  match x with
  | (x1, (x2, (x3, (x4, (x5, (x6, (x7, x8))))))) =>
  (Option.bind (α := Out (Int × Bool × Int × Bool × (List Int) × Int × Bool × (List JV) × List (List Int)) (Int)) ((if (x1 != (5 : Int)) = true then
  (if (x1 != (6 : Int)) = true then
  (some (Out.go (x8, (true, (x1, (x2, (x3, (x4, (x5, (x6, x7))))))))))
  else
  (some (Out.go (x8, ((x8 == (0 : Int)), (x1, (x2, (x3, (x4, (x5, (x6, x7)))))))))))
  else
  (some (Out.go (x8, ((x8 == (0 : Int)), (x1, (x2, (x3, (x4, (x5, (x6, x7)))))))))))) fun o => match o with
  | .go (z10, (z11, (z12, (z13, (z14, (z15, (z16, (z17, z18)))))))) =>
  (if z11 = true then
  some (0 : Int)
  else
  (loopF (X := Int × Int × (List JV) × Int × Int) (A := Int) (fun rec19 y20 => match y20 with
  | (a21, (a22, (a23, (a24, a25)))) =>
  (if (decide (a25 < a24)) = true then
  (Option.bind (idx a23 a25) fun v26 =>
  (let u27 : Int := (IntKind.wrap .i64 (a21 - (1 : Int)))
  (Option.bind (s_deep (v26.kind, (v26.b, (v26.text, (v26.n, (v26.whole, (v26.list, (v26.names, u27)))))))) fun r28 =>
  (let u29 : Int := (IntKind.wrap .i64 (a25 + (1 : Int)))
  rec19 (a21, ((if r28 > a22 then r28 else a22), (a23, (a24, u29))))))))
  else
  (let u30 : Int := (IntKind.wrap .i64 ((1 : Int) + a22))
  some u30))) n (z10, ((0 : Int), (z17, ((z17.length : Int), (0 : Int)))))))
  | .ret r31 => some r31)
def sp_deepStep (n : Nat) (s_deep : (Int × Bool × (List Int) × Int × Bool × (List JV) × (List (List Int)) × Int) → Option (Int)) : Spec := ⟨pre_deep, post_deep, deepStep n s_deep⟩
def env_deepStep (n : Nat) (s_deep : (Int × Bool × (List Int) × Int × Bool × (List JV) × (List (List Int)) × Int) → Option (Int)) : List (FuncId × Spec) := [(33, ⟨pre_deep, post_deep, s_deep⟩)]
theorem run_deepStep (n : Nat) (s_deep : (Int × Bool × (List Int) × Int × Bool × (List JV) × (List (List Int)) × Int) → Option (Int)) (x : pre_deep.T) : fnRun Tryd.prog 46 (envG (env_deepStep n s_deep) [] (fun _ => none)) n Tryd.f33 ann_deep pre_deep post_deep x = deepStep n s_deep x := by kernel_rfl
theorem ok_deepStep (n : Nat) (s_deep : (Int × Bool × (List Int) × Int × Bool × (List JV) × (List (List Int)) × Int) → Option (Int)) (h_deep : FnOK Tryd.prog 46 LS 33 ⟨pre_deep, post_deep, s_deep⟩) : FnOK Tryd.prog 46 LS 33 (sp_deepStep n s_deep) :=
  fn_run mixed Tryd.func33 (sp_deepStep n s_deep) n ann_deep (env_deepStep n s_deep) (envOf_cons (h_deep) envOf_nil) [] (fun _ => none) gl_none (run_deepStep n s_deep) (by kernel_rfl)
def deep (n : Nat) (x : Int × Bool × (List Int) × Int × Bool × (List JV) × (List (List Int)) × Int) : Option (Int) := loopF (X := Int × Bool × (List Int) × Int × Bool × (List JV) × (List (List Int)) × Int) (A := Int) (deepStep n) n x
def sp_deep (n : Nat) : Spec := ⟨pre_deep, post_deep, deep n⟩
theorem ok_deep (n : Nat) : FnOK Tryd.prog 46 LS 33 (sp_deep n) := rec_ok (pre := pre_deep) (post := post_deep) ⟨_, Tryd.func33, by kernel_rfl, by kernel_rfl⟩ (deepStep n) (fun s h => ok_deepStep n s h) n
def pre_jBare : Shape := ⟨[.a [.dat (.int .i64), .dat .bool, .dat .str, .dat (.int .i64), .dat .bool, .dat (.list .js), .dat (.list .str)], .c (.ref .js)], []⟩
def post_jBare : List Shape := [⟨[.c (.dat .bool)], []⟩]
def ann_jBare : Ann := .no
/-- what turnstile/json.well$1 comes to. -/
def jBare (n : Nat) (x : Int × Bool × (List Int) × Int × Bool × (List JV) × (List (List Int)) × JV) : Option (Bool) :=
  match x with
  | (x1, (x2, (x3, (x4, (x5, (x6, (x7, x8))))))) =>
  (if (x1 == x8.kind) = true then
  (if (!x2) = true then
  (if (x3 == ([] : List Int)) = true then
  (if (x4 == (0 : Int)) = true then
  (if (!x5) = true then
  (if ((x6.length : Int) == (0 : Int)) = true then
  some ((x7.length : Int) == (0 : Int))
  else
  some false)
  else
  some false)
  else
  some false)
  else
  some false)
  else
  some false)
  else
  some false)
def sp_jBare (n : Nat) : Spec := ⟨pre_jBare, post_jBare, jBare n⟩
def env_jBare (n : Nat) : List (FuncId × Spec) := []
theorem run_jBare (n : Nat) (x : pre_jBare.T) : fnRun Tryd.prog 46 (envG (env_jBare n) [] (fun _ => none)) n Tryd.f34 ann_jBare pre_jBare post_jBare x = jBare n x := by kernel_rfl
theorem ok_jBare (n : Nat) : FnOK Tryd.prog 46 LS 34 (sp_jBare n) :=
  fn_run mixed Tryd.func34 (sp_jBare n) n ann_jBare (env_jBare n) envOf_nil [] (fun _ => none) gl_none (run_jBare n) (by kernel_rfl)
def pre_all : Shape := ⟨[.c (.dat (.list .str))], []⟩
def post_all : List Shape := [⟨[.c (.dat .bool)], []⟩]
def ann_all : Ann := (.two .no (.two (.two .no (.one (.loop ⟨[5, 6, 7], ⟨[.c (.dat (.list .str)), .c (.dat (.int .i64)), .c (.dat (.int .i64))], []⟩⟩ .no))) .no))
/-- what turnstile/json.all comes to. -/
def all (n : Nat) (x : List (List Int)) : Option (Bool) :=
  (loopF (X := (List (List Int)) × Int × Int) (A := Bool) (fun rec2 y3 => match y3 with
  | (a4, (a5, a6)) =>
  (if (decide (a6 < a5)) = true then
  (Option.bind (idx a4 a6) fun v7 =>
  (Option.bind (strValid n v7) fun r8 =>
  (if (!r8) = true then
  some false
  else
  rec2 (a4, (a5, (IntKind.wrap .i64 (a6 + (1 : Int))))))))
  else
  some true)) n (x, ((x.length : Int), (0 : Int))))
def sp_all (n : Nat) : Spec := ⟨pre_all, post_all, all n⟩
def env_all (n : Nat) : List (FuncId × Spec) := [(35, sp_strValid n)]
theorem run_all (n : Nat) (x : pre_all.T) : fnRun Tryd.prog 46 (envG (env_all n) [] (fun _ => none)) n Tryd.f36 ann_all pre_all post_all x = all n x := by kernel_rfl
theorem ok_all (n : Nat) : FnOK Tryd.prog 46 LS 36 (sp_all n) :=
  fn_run mixed Tryd.func36 (sp_all n) n ann_all (env_all n) (envOf_cons (ok_strValid n) envOf_nil) [] (fun _ => none) gl_none (run_all n) (by kernel_rfl)
def pre_jStep : Shape := ⟨[.c (.ptr 0 0), .c (.dat (.int .i64))], [(0, .cells 51 [.dat .str, .dat (.int .i64), .dat (.nd 200)]), (200, .pool 55 (.pair (.int .i64) (.pair (.int .i64) .unit)))]⟩
def post_jStep : List Shape := [⟨[], [(0, .cells 51 [.dat .str, .dat (.int .i64), .dat (.nd 200)]), (200, .pool 55 (.pair (.int .i64) (.pair (.int .i64) .unit)))]⟩]
def ann_jStep : Ann := .no
/-- what (turnstile/json.reader).step comes to. -/
def jStep (n : Nat) (x : Int × (List Int) × Int × Int × List (Int × (Int × Unit))) : Option ((List Int) × Int × Int × List (Int × (Int × Unit))) :=
  match x with
  | (x1, (x2, (x3, (x4, x5)))) =>
  (if (decide ((IntKind.wrap .i64 (x3 - x1)) ≥ (64 : Int))) = true then
  (Option.bind (jFails n (x3, ((3 : Int), (x2, (x3, (x4, x5)))))) fun r6 =>
  some (r6.1, (r6.2.1, (r6.2.2.1, r6.2.2.2))))
  else
  some (x2, ((IntKind.wrap .i64 (x3 + (1 : Int))), (x4, x5))))
def sp_jStep (n : Nat) : Spec := ⟨pre_jStep, post_jStep, jStep n⟩
def env_jStep (n : Nat) : List (FuncId × Spec) := [(17, sp_jFails n)]
theorem run_jStep (n : Nat) (x : pre_jStep.T) : fnRun Tryd.prog 46 (envG (env_jStep n) [] (fun _ => none)) n Tryd.f43 ann_jStep pre_jStep post_jStep x = jStep n x := by kernel_rfl
theorem ok_jStep (n : Nat) : FnOK Tryd.prog 46 LS 43 (sp_jStep n) :=
  fn_run mixed Tryd.func43 (sp_jStep n) n ann_jStep (env_jStep n) (envOf_cons (ok_jFails n) envOf_nil) [] (fun _ => none) gl_none (run_jStep n) (by kernel_rfl)
def pre_jDigits : Shape := ⟨[.c (.ptr 0 0), .c (.dat (.int .i64))], [(0, .cells 51 [.dat .str, .dat (.int .i64), .dat (.nd 200)]), (200, .pool 55 (.pair (.int .i64) (.pair (.int .i64) .unit)))]⟩
def post_jDigits : List Shape := [⟨[], [(0, .cells 51 [.dat .str, .dat (.int .i64), .dat (.nd 200)]), (200, .pool 55 (.pair (.int .i64) (.pair (.int .i64) .unit)))]⟩]
def ann_jDigits : Ann := (.two .no (.two (.two .no (.one (.loop ⟨[0, 1, 4, 5], ⟨[.c (.ptr 0 0), .c (.dat (.int .i64)), .c (.dat (.int .i64)), .c (.dat (.int .i64))], [(0, .cells 51 [.dat .str, .dat (.int .i64), .dat (.nd 200)]), (200, .pool 55 (.pair (.int .i64) (.pair (.int .i64) .unit)))]⟩⟩ .no))) .no))
/-- what (turnstile/json.reader).digits comes to. -/
def jDigits (n : Nat) (x : Int × (List Int) × Int × Int × List (Int × (Int × Unit))) : Option ((List Int) × Int × Int × List (Int × (Int × Unit))) :=
  match x with
  | (x1, (x2, (x3, (x4, x5)))) =>
  (Option.bind (jPeek n (x2, (x3, (x4, x5)))) fun r6 =>
  (loopF (X := Int × Int × Int × (List Int) × Int × Int × List (Int × (Int × Unit))) (A := (List Int) × Int × Int × List (Int × (Int × Unit))) (fun rec7 y8 => match y8 with
  | (a9, (a10, (a11, (a12, (a13, (a14, a15)))))) =>
  (if (decide (a11 ≥ (48 : Int))) = true then
  (if (decide (a11 ≤ (57 : Int))) = true then
  (Option.bind (jStep n (a9, (a12, (a13, (a14, a15))))) fun r16 =>
  (if (!(decide (r16.2.2.1 < 0))) = true then
  some (r16.1, (r16.2.1, (r16.2.2.1, r16.2.2.2)))
  else
  (Option.bind (jPeek n (r16.1, (r16.2.1, (r16.2.2.1, r16.2.2.2)))) fun r17 =>
  rec7 (a9, (a10, (r17.1, (r17.2.1, (r17.2.2.1, (r17.2.2.2.1, r17.2.2.2.2)))))))))
  else
  (if (a13 == a10) = true then
  (Option.bind (jFails n (a13, ((3 : Int), (a12, (a13, (a14, a15)))))) fun r18 =>
  some (r18.1, (r18.2.1, (r18.2.2.1, r18.2.2.2))))
  else
  some (a12, (a13, (a14, a15)))))
  else
  (if (a13 == a10) = true then
  (Option.bind (jFails n (a13, ((3 : Int), (a12, (a13, (a14, a15)))))) fun r19 =>
  some (r19.1, (r19.2.1, (r19.2.2.1, r19.2.2.2))))
  else
  some (a12, (a13, (a14, a15)))))) n (x1, (x3, (r6.1, (r6.2.1, (r6.2.2.1, (r6.2.2.2.1, r6.2.2.2.2))))))))
def sp_jDigits (n : Nat) : Spec := ⟨pre_jDigits, post_jDigits, jDigits n⟩
def env_jDigits (n : Nat) : List (FuncId × Spec) := [(27, sp_jPeek n), (43, sp_jStep n), (17, sp_jFails n)]
theorem run_jDigits (n : Nat) (x : pre_jDigits.T) : fnRun Tryd.prog 46 (envG (env_jDigits n) [] (fun _ => none)) n Tryd.f44 ann_jDigits pre_jDigits post_jDigits x = jDigits n x := by kernel_rfl
theorem ok_jDigits (n : Nat) : FnOK Tryd.prog 46 LS 44 (sp_jDigits n) :=
  fn_run mixed Tryd.func44 (sp_jDigits n) n ann_jDigits (env_jDigits n) (envOf_cons (ok_jPeek n) (envOf_cons (ok_jStep n) (envOf_cons (ok_jFails n) envOf_nil))) [] (fun _ => none) gl_none (run_jDigits n) (by kernel_rfl)
def pre_slIndexFunc : Shape := ⟨[.c (.dat (.list .js)), .c (.fnc 22)], []⟩
def post_slIndexFunc : List Shape := [⟨[.c (.dat (.int .i64))], []⟩]
def ann_slIndexFunc : Ann := (.two .no (.two (.two .no (.one (.loop ⟨[0, 1, 7, 8], ⟨[.c (.dat (.list .js)), .c (.fnc 22), .c (.dat (.int .i64)), .c (.dat (.int .i64))], []⟩⟩ .no))) .no))
/-- what slices.IndexFunc[[]turnstile/api.Value,turnstile/api.Value] comes to. -/
def slIndexFunc (n : Nat) (s_twice : (Int × Bool × (List Int) × Int × Bool × (List JV) × List (List Int)) → Option (Bool)) (x : List JV) : Option (Int) :=
  (loopF (X := (List JV) × Int × Int) (A := Int) (fun rec2 y3 => match y3 with
  | (a4, (a5, a6)) =>
  (if (decide (a6 < a5)) = true then
  (Option.bind (idx a4 a6) fun v7 =>
  (Option.bind (s_twice (v7.kind, (v7.b, (v7.text, (v7.n, (v7.whole, (v7.list, v7.names))))))) fun r8 =>
  (if r8 = true then
  some a6
  else
  rec2 (a4, (a5, (IntKind.wrap .i64 (a6 + (1 : Int))))))))
  else
  some (-1 : Int))) n (x, ((x.length : Int), (0 : Int))))
def sp_slIndexFunc (n : Nat) (s_twice : (Int × Bool × (List Int) × Int × Bool × (List JV) × List (List Int)) → Option (Bool)) : Spec := ⟨pre_slIndexFunc, post_slIndexFunc, slIndexFunc n s_twice⟩
def env_slIndexFunc (n : Nat) (s_twice : (Int × Bool × (List Int) × Int × Bool × (List JV) × List (List Int)) → Option (Bool)) : List (FuncId × Spec) := [(22, ⟨pre_twice, post_twice, s_twice⟩)]
theorem run_slIndexFunc (n : Nat) (s_twice : (Int × Bool × (List Int) × Int × Bool × (List JV) × List (List Int)) → Option (Bool)) (x : pre_slIndexFunc.T) : fnRun Tryd.prog 46 (envG (env_slIndexFunc n s_twice) [] (fun _ => none)) n Tryd.f47 ann_slIndexFunc pre_slIndexFunc post_slIndexFunc x = slIndexFunc n s_twice x := by kernel_rfl
theorem ok_slIndexFunc (n : Nat) (s_twice : (Int × Bool × (List Int) × Int × Bool × (List JV) × List (List Int)) → Option (Bool)) (h_twice : FnOK Tryd.prog 46 LS 22 ⟨pre_twice, post_twice, s_twice⟩) : FnOK Tryd.prog 46 LS 47 (sp_slIndexFunc n s_twice) :=
  fn_run mixed Tryd.func47 (sp_slIndexFunc n s_twice) n ann_slIndexFunc (env_slIndexFunc n s_twice) (envOf_cons (h_twice) envOf_nil) [] (fun _ => none) gl_none (run_slIndexFunc n s_twice) (by kernel_rfl)
def pre_bound : Shape := ⟨[.c (.dat (.int .u8))], []⟩
def post_bound : List Shape := [⟨[.c (.dat (.int .i64)), .c (.dat (.int .u8)), .c (.dat (.int .u8))], []⟩]
def ann_bound : Ann := (.two .no (.two (.one (.two (.join ⟨[0, 5], ⟨[.c (.dat (.int .u8)), .c (.dat .bool)], []⟩⟩ .no) .no)) .no))
/-- what turnstile/json.bound comes to. -/
def bound (n : Nat) (x : Int) : Option (Int × Int × Int) :=
  (Option.bind (α := Out (Int × Bool) (Int × Int × Int)) ((if (decide (x ≥ (194 : Int))) = true then
  (some (Out.go (x, (decide (x ≤ (223 : Int))))))
  else
  (some (Out.go (x, false))))) fun o => match o with
  | .go (z3, z4) =>
  (if z4 = true then
  some ((1 : Int), ((128 : Int), (191 : Int)))
  else
  (if (z3 == (224 : Int)) = true then
  some ((2 : Int), ((160 : Int), (191 : Int)))
  else
  (if (z3 == (237 : Int)) = true then
  some ((2 : Int), ((128 : Int), (159 : Int)))
  else
  (if (decide (z3 ≥ (225 : Int))) = true then
  (if (decide (z3 ≤ (239 : Int))) = true then
  some ((2 : Int), ((128 : Int), (191 : Int)))
  else
  (if (z3 == (240 : Int)) = true then
  some ((3 : Int), ((144 : Int), (191 : Int)))
  else
  (if (decide (z3 ≥ (241 : Int))) = true then
  (if (decide (z3 ≤ (243 : Int))) = true then
  some ((3 : Int), ((128 : Int), (191 : Int)))
  else
  (if (z3 == (244 : Int)) = true then
  some ((3 : Int), ((128 : Int), (143 : Int)))
  else
  some ((0 : Int), ((0 : Int), (0 : Int)))))
  else
  (if (z3 == (244 : Int)) = true then
  some ((3 : Int), ((128 : Int), (143 : Int)))
  else
  some ((0 : Int), ((0 : Int), (0 : Int)))))))
  else
  (if (z3 == (240 : Int)) = true then
  some ((3 : Int), ((144 : Int), (191 : Int)))
  else
  (if (decide (z3 ≥ (241 : Int))) = true then
  (if (decide (z3 ≤ (243 : Int))) = true then
  some ((3 : Int), ((128 : Int), (191 : Int)))
  else
  (if (z3 == (244 : Int)) = true then
  some ((3 : Int), ((128 : Int), (143 : Int)))
  else
  some ((0 : Int), ((0 : Int), (0 : Int)))))
  else
  (if (z3 == (244 : Int)) = true then
  some ((3 : Int), ((128 : Int), (143 : Int)))
  else
  some ((0 : Int), ((0 : Int), (0 : Int))))))))))
  | .ret r5 => some r5)
def sp_bound (n : Nat) : Spec := ⟨pre_bound, post_bound, bound n⟩
def env_bound (n : Nat) : List (FuncId × Spec) := []
theorem run_bound (n : Nat) (x : pre_bound.T) : fnRun Tryd.prog 46 (envG (env_bound n) [] (fun _ => none)) n Tryd.f50 ann_bound pre_bound post_bound x = bound n x := by kernel_rfl
theorem ok_bound (n : Nat) : FnOK Tryd.prog 46 LS 50 (sp_bound n) :=
  fn_run mixed Tryd.func50 (sp_bound n) n ann_bound (env_bound n) envOf_nil [] (fun _ => none) gl_none (run_bound n) (by kernel_rfl)
def pre_jHex : Shape := ⟨[.c (.ptr 0 0)], [(0, .cells 51 [.dat .str, .dat (.int .i64), .dat (.nd 200)]), (200, .pool 55 (.pair (.int .i64) (.pair (.int .i64) .unit)))]⟩
def post_jHex : List Shape := [⟨[.c (.dat (.int .i32))], [(0, .cells 51 [.dat .str, .dat (.int .i64), .dat (.nd 200)]), (200, .pool 55 (.pair (.int .i64) (.pair (.int .i64) .unit)))]⟩]
def ann_jHex : Ann := (.two .no (.two .no (.two .no (.two .no (.two (.join ⟨[0, 4], ⟨[.c (.ptr 0 0), .c (.dat (.int .i64))], [(0, .cells 51 [.dat .str, .dat (.int .i64), .dat (.nd 200)]), (200, .pool 55 (.pair (.int .i64) (.pair (.int .i64) .unit)))]⟩⟩ .no) .no)))))
/-- what (turnstile/json.reader).hex comes to. -/
def jHex (n : Nat) (x : (List Int) × Int × Int × List (Int × (Int × Unit))) : Option (Int × (List Int) × Int × Int × List (Int × (Int × Unit))) :=
  match x with
  | (x1, (x2, (x3, x4))) =>
  (Option.bind (jPeek n (x1, (x2, (x3, x4)))) fun r5 =>
  (if (decide (r5.1 < (0 : Int))) = true then
  (Option.bind (jFails n (r5.2.2.1, ((3 : Int), (r5.2.1, (r5.2.2.1, (r5.2.2.2.1, r5.2.2.2.2)))))) fun r6 =>
  some ((0 : Int), (r6.1, (r6.2.1, (r6.2.2.1, r6.2.2.2)))))
  else
  (let u7 : Int := (bits .or .u8 (IntKind.wrap .u8 r5.1) (32 : Int))
  (Option.bind (stringsIndexByte n (([(48 : Int), (49 : Int), (50 : Int), (51 : Int), (52 : Int), (53 : Int), (54 : Int), (55 : Int), (56 : Int), (57 : Int), (97 : Int), (98 : Int), (99 : Int), (100 : Int), (101 : Int), (102 : Int)] : List Int), u7)) fun r8 =>
  (Option.bind (α := Out (Int × (List Int) × Int × Int × List (Int × (Int × Unit))) (Int × (List Int) × Int × Int × List (Int × (Int × Unit)))) ((if (decide (r5.1 ≥ (48 : Int))) = true then
  (if (decide (r5.1 ≤ (57 : Int))) = true then
  (let u9 : Int := (IntKind.wrap .i64 (r5.1 - (48 : Int)))
  (some (Out.go (u9, (r5.2.1, (r5.2.2.1, (r5.2.2.2.1, r5.2.2.2.2)))))))
  else
  (if (decide (r5.1 < (65 : Int))) = true then
  (some (Out.go ((-1 : Int), (r5.2.1, (r5.2.2.1, (r5.2.2.2.1, r5.2.2.2.2))))))
  else
  (some (Out.go (r8, (r5.2.1, (r5.2.2.1, (r5.2.2.2.1, r5.2.2.2.2))))))))
  else
  (if (decide (r5.1 < (65 : Int))) = true then
  (some (Out.go ((-1 : Int), (r5.2.1, (r5.2.2.1, (r5.2.2.2.1, r5.2.2.2.2))))))
  else
  (some (Out.go (r8, (r5.2.1, (r5.2.2.1, (r5.2.2.2.1, r5.2.2.2.2))))))))) fun o => match o with
  | .go (z11, (z12, (z13, (z14, z15)))) =>
  (if (decide (z11 < (0 : Int))) = true then
  (Option.bind (jFails n (z13, ((3 : Int), (z12, (z13, (z14, z15)))))) fun r16 =>
  some ((0 : Int), (r16.1, (r16.2.1, (r16.2.2.1, r16.2.2.2)))))
  else
  (let u17 : Int := (IntKind.wrap .i64 (z13 + (1 : Int)))
  some ((IntKind.wrap .i32 z11), (z12, (u17, (z14, z15))))))
  | .ret r18 => some r18)))))
def sp_jHex (n : Nat) : Spec := ⟨pre_jHex, post_jHex, jHex n⟩
def env_jHex (n : Nat) : List (FuncId × Spec) := [(27, sp_jPeek n), (17, sp_jFails n), (56, sp_stringsIndexByte n)]
theorem run_jHex (n : Nat) (x : pre_jHex.T) : fnRun Tryd.prog 46 (envG (env_jHex n) [] (fun _ => none)) n Tryd.f52 ann_jHex pre_jHex post_jHex x = jHex n x := by kernel_rfl
theorem ok_jHex (n : Nat) : FnOK Tryd.prog 46 LS 52 (sp_jHex n) :=
  fn_run mixed Tryd.func52 (sp_jHex n) n ann_jHex (env_jHex n) (envOf_cons (ok_jPeek n) (envOf_cons (ok_jFails n) (envOf_cons (ok_stringsIndexByte n) envOf_nil))) [] (fun _ => none) gl_none (run_jHex n) (by kernel_rfl)
def pre_jPair : Shape := ⟨[.c (.ptr 0 0), .c (.dat (.int .i32))], [(0, .cells 51 [.dat .str, .dat (.int .i64), .dat (.nd 200)]), (200, .pool 55 (.pair (.int .i64) (.pair (.int .i64) .unit)))]⟩
def post_jPair : List Shape := [⟨[.c (.dat .str)], [(0, .cells 51 [.dat .str, .dat (.int .i64), .dat (.nd 200)]), (200, .pool 55 (.pair (.int .i64) (.pair (.int .i64) .unit)))]⟩]
def ann_jPair : Ann := (.two .no (.two .no (.two .no (.two (.two .no (.one (.loop ⟨[0, 1, 5, 11], ⟨[.c (.ptr 0 0), .c (.dat (.int .i32)), .c (.dat (.int .i32)), .c (.dat (.int .i64))], [(0, .cells 51 [.dat .str, .dat (.int .i64), .dat (.nd 200)]), (200, .pool 55 (.pair (.int .i64) (.pair (.int .i64) .unit)))]⟩⟩ (.two .no (.two .no (.two (.one (.two .no (.two .no (.two .no (.two (.two (.join ⟨[0, 1, 5, 7, 8, 11, 40], ⟨[.c (.ptr 0 0), .c (.dat (.int .i32)), .c (.dat (.int .i32)), .c (.dat (.int .i64)), .c (.dat (.int .i32)), .c (.dat (.int .i64)), .c (.dat .bool)], [(0, .cells 51 [.dat .str, .dat (.int .i64), .dat (.nd 200)]), (200, .pool 55 (.pair (.int .i64) (.pair (.int .i64) .unit)))]⟩⟩ .no) .no) .no))))) .no)))))) .no))))
/-- what (turnstile/json.reader).pair comes to. -/
def jPair (n : Nat) (x : Int × (List Int) × Int × Int × List (Int × (Int × Unit))) : Option ((List Int) × (List Int) × Int × Int × List (Int × (Int × Unit))) :=
  match x with
  | (x1, (x2, (x3, (x4, x5)))) =>
  (Option.bind (jWord n (([(92 : Int), (117 : Int)] : List Int), (x2, (x3, (x4, x5))))) fun r6 =>
  (loopF (X := Int × Int × Int × (List Int) × Int × Int × List (Int × (Int × Unit))) (A := (List Int) × (List Int) × Int × Int × List (Int × (Int × Unit))) (fun rec7 y8 => match y8 with
  | (a9, (a10, (a11, (a12, (a13, (a14, a15)))))) =>
  (if (decide (a11 < (4 : Int))) = true then
  (Option.bind (jHex n (a12, (a13, (a14, a15)))) fun r16 =>
  (Option.bind (α := Out (Int × Int × Int × Int × Int × Bool × (List Int) × Int × Int × List (Int × (Int × Unit))) ((List Int) × (List Int) × Int × Int × List (Int × (Int × Unit)))) ((if (decide (r16.2.2.2.1 < 0)) = true then
  (if (a11 == (0 : Int)) = true then
  (if (r16.1 != (13 : Int)) = true then
  (some (Out.go (a9, (a10, (a13, (r16.1, (a11, (true, (r16.2.1, (r16.2.2.1, (r16.2.2.2.1, r16.2.2.2.2)))))))))))
  else
  (if (a11 == (1 : Int)) = true then
  (some (Out.go (a9, (a10, (a13, (r16.1, (a11, ((decide (r16.1 < (12 : Int))), (r16.2.1, (r16.2.2.1, (r16.2.2.2.1, r16.2.2.2.2)))))))))))
  else
  (some (Out.go (a9, (a10, (a13, (r16.1, (a11, (false, (r16.2.1, (r16.2.2.1, (r16.2.2.2.1, r16.2.2.2.2)))))))))))))
  else
  (if (a11 == (1 : Int)) = true then
  (some (Out.go (a9, (a10, (a13, (r16.1, (a11, ((decide (r16.1 < (12 : Int))), (r16.2.1, (r16.2.2.1, (r16.2.2.2.1, r16.2.2.2.2)))))))))))
  else
  (some (Out.go (a9, (a10, (a13, (r16.1, (a11, (false, (r16.2.1, (r16.2.2.1, (r16.2.2.2.1, r16.2.2.2.2)))))))))))))
  else
  (some (Out.go (a9, (a10, (a13, (r16.1, (a11, (false, (r16.2.1, (r16.2.2.1, (r16.2.2.2.1, r16.2.2.2.2))))))))))))) fun o => match o with
  | .go (z18, (z19, (z20, (z21, (z22, (z23, (z24, (z25, (z26, z27))))))))) =>
  (if z23 = true then
  (Option.bind (jFails n (z20, ((3 : Int), (z24, (z25, (z26, z27)))))) fun r28 =>
  (let u29 : Int := (bits .or .i32 (IntKind.wrap .i32 (z19 * 16)) z21)
  (let u30 : Int := (IntKind.wrap .i64 (z22 + (1 : Int)))
  rec7 (z18, (u29, (u30, (r28.1, (r28.2.1, (r28.2.2.1, r28.2.2.2)))))))))
  else
  (let u31 : Int := (bits .or .i32 (IntKind.wrap .i32 (z19 * 16)) z21)
  (let u32 : Int := (IntKind.wrap .i64 (z22 + (1 : Int)))
  rec7 (z18, (u31, (u32, (z24, (z25, (z26, z27)))))))))
  | .ret r33 => some r33))
  else
  (if (!(decide (a14 < 0))) = true then
  some (([] : List Int), (a12, (a13, (a14, a15))))
  else
  (let u34 : Int := (IntKind.wrap .i32 (a9 - (55296 : Int)))
  (let u35 : Int := (IntKind.wrap .i32 (a10 - (56320 : Int)))
  (let u36 : Int := (IntKind.wrap .i32 ((IntKind.wrap .i32 (u34 * 1024)) + u35))
  (let u37 : Int := (IntKind.wrap .i32 (u36 + (65536 : Int)))
  some ((bytesL (Utf8.encode u37)), (a12, (a13, (a14, a15))))))))))) n (x1, ((0 : Int), ((0 : Int), (r6.1, (r6.2.1, (r6.2.2.1, r6.2.2.2))))))))
def sp_jPair (n : Nat) : Spec := ⟨pre_jPair, post_jPair, jPair n⟩
def env_jPair (n : Nat) : List (FuncId × Spec) := [(28, sp_jWord n), (52, sp_jHex n), (17, sp_jFails n)]
theorem run_jPair (n : Nat) (x : pre_jPair.T) : fnRun Tryd.prog 46 (envG (env_jPair n) [] (fun _ => none)) n Tryd.f53 ann_jPair pre_jPair post_jPair x = jPair n x := by kernel_rfl
theorem ok_jPair (n : Nat) : FnOK Tryd.prog 46 LS 53 (sp_jPair n) :=
  fn_run mixed Tryd.func53 (sp_jPair n) n ann_jPair (env_jPair n) (envOf_cons (ok_jWord n) (envOf_cons (ok_jHex n) (envOf_cons (ok_jFails n) envOf_nil))) [] (fun _ => none) gl_none (run_jPair n) (by kernel_rfl)
def pre_stringsliteHasPrefix : Shape := ⟨[.c (.dat .str), .c (.dat .str)], []⟩
def post_stringsliteHasPrefix : List Shape := [⟨[.c (.dat .bool)], []⟩]
def ann_stringsliteHasPrefix : Ann := .no
/-- what internal/stringslite.HasPrefix comes to. -/
def stringsliteHasPrefix (n : Nat) (x : (List Int) × List Int) : Option (Bool) :=
  match x with
  | (x1, x2) =>
  (if (decide ((x1.length : Int) ≥ (x2.length : Int))) = true then
  (if 0 ≤ (0 : Int) ∧ (0 : Int) ≤ (x2.length : Int) ∧ (x2.length : Int) ≤ (x1.length : Int) then
  (let u3 : List Int := ((x1.drop 0).take ((x2.length : Int).toNat - 0))
  some (u3 == x2))
  else none)
  else
  some false)
def sp_stringsliteHasPrefix (n : Nat) : Spec := ⟨pre_stringsliteHasPrefix, post_stringsliteHasPrefix, stringsliteHasPrefix n⟩
def env_stringsliteHasPrefix (n : Nat) : List (FuncId × Spec) := []
theorem run_stringsliteHasPrefix (n : Nat) (x : pre_stringsliteHasPrefix.T) : fnRun Tryd.prog 46 (envG (env_stringsliteHasPrefix n) [] (fun _ => none)) n Tryd.f57 ann_stringsliteHasPrefix pre_stringsliteHasPrefix post_stringsliteHasPrefix x = stringsliteHasPrefix n x := by kernel_rfl
theorem ok_stringsliteHasPrefix (n : Nat) : FnOK Tryd.prog 46 LS 57 (sp_stringsliteHasPrefix n) :=
  fn_run mixed Tryd.func57 (sp_stringsliteHasPrefix n) n ann_stringsliteHasPrefix (env_stringsliteHasPrefix n) envOf_nil [] (fun _ => none) gl_none (run_stringsliteHasPrefix n) (by kernel_rfl)
def pre_stringsliteTrimPrefix : Shape := ⟨[.c (.dat .str), .c (.dat .str)], []⟩
def post_stringsliteTrimPrefix : List Shape := [⟨[.c (.dat .str)], []⟩]
def ann_stringsliteTrimPrefix : Ann := .no
/-- what internal/stringslite.TrimPrefix comes to. -/
def stringsliteTrimPrefix (n : Nat) (x : (List Int) × List Int) : Option (List Int) :=
  match x with
  | (x1, x2) =>
  (Option.bind (stringsliteHasPrefix n (x1, x2)) fun r3 =>
  (if r3 = true then
  (if 0 ≤ (x2.length : Int) ∧ (x2.length : Int) ≤ (x1.length : Int) ∧ (x1.length : Int) ≤ (x1.length : Int) then
  (let u4 : List Int := ((x1.drop (x2.length : Int).toNat).take (((x1.length : Int)).toNat - (x2.length : Int).toNat))
  some u4)
  else none)
  else
  some x1))
def sp_stringsliteTrimPrefix (n : Nat) : Spec := ⟨pre_stringsliteTrimPrefix, post_stringsliteTrimPrefix, stringsliteTrimPrefix n⟩
def env_stringsliteTrimPrefix (n : Nat) : List (FuncId × Spec) := [(57, sp_stringsliteHasPrefix n)]
theorem run_stringsliteTrimPrefix (n : Nat) (x : pre_stringsliteTrimPrefix.T) : fnRun Tryd.prog 46 (envG (env_stringsliteTrimPrefix n) [] (fun _ => none)) n Tryd.f58 ann_stringsliteTrimPrefix pre_stringsliteTrimPrefix post_stringsliteTrimPrefix x = stringsliteTrimPrefix n x := by kernel_rfl
theorem ok_stringsliteTrimPrefix (n : Nat) : FnOK Tryd.prog 46 LS 58 (sp_stringsliteTrimPrefix n) :=
  fn_run mixed Tryd.func58 (sp_stringsliteTrimPrefix n) n ann_stringsliteTrimPrefix (env_stringsliteTrimPrefix n) (envOf_cons (ok_stringsliteHasPrefix n) envOf_nil) [] (fun _ => none) gl_none (run_stringsliteTrimPrefix n) (by kernel_rfl)
def pre_small : Shape := ⟨[.a [.dat (.int .i64), .dat .bool, .dat .str, .dat (.int .i64), .dat .bool, .dat (.list .js), .dat (.list .str)]], []⟩
def post_small : List Shape := [⟨[.c (.dat .bool)], []⟩]
def ann_small : Ann := .no
/-- what turnstile/turnstilelaw06.small comes to. -/
def small (n : Nat) (x : Int × Bool × (List Int) × Int × Bool × (List JV) × List (List Int)) : Option (Bool) :=
  match x with
  | (x1, (x2, (x3, (x4, (x5, (x6, x7)))))) =>
  (Option.bind (many n (x1, (x2, (x3, (x4, (x5, (x6, (x7, ((3000 : Int), (200 : Int)))))))))) fun r8 =>
  some (decide (r8 ≥ (0 : Int))))
def sp_small (n : Nat) : Spec := ⟨pre_small, post_small, small n⟩
def env_small (n : Nat) : List (FuncId × Spec) := [(9, sp_many n)]
theorem run_small (n : Nat) (x : pre_small.T) : fnRun Tryd.prog 46 (envG (env_small n) [] (fun _ => none)) n Tryd.f4 ann_small pre_small post_small x = small n x := by kernel_rfl
theorem ok_small (n : Nat) : FnOK Tryd.prog 46 LS 4 (sp_small n) :=
  fn_run mixed Tryd.func4 (sp_small n) n ann_small (env_small n) (envOf_cons (ok_many n) envOf_nil) [] (fun _ => none) gl_none (run_small n) (by kernel_rfl)
def ann_jSame : Ann := .no
/-- what turnstile/json.Same comes to. -/
def jSameStep (n : Nat) (s_jSame : (Int × Bool × (List Int) × Int × Bool × (List JV) × (List (List Int)) × Int × Bool × (List Int) × Int × Bool × (List JV) × List (List Int)) → Option (Bool)) (x : Int × Bool × (List Int) × Int × Bool × (List JV) × (List (List Int)) × Int × Bool × (List Int) × Int × Bool × (List JV) × List (List Int)) : Option (Bool) :=
  match x with
  | (x1, (x2, (x3, (x4, (x5, (x6, (x7, (x8, (x9, (x10, (x11, (x12, (x13, x14))))))))))))) =>
  (if (x1 != x8) = true then
  some false
  else
  (if (!(x2 == x9)) = true then
  some false
  else
  (if (!(x3 == x10)) = true then
  some false
  else
  (if (x4 != x11) = true then
  some false
  else
  (if (!(x5 == x12)) = true then
  some false
  else
  (Option.bind (slEqualFunc n s_jSame (x6, x13)) fun r15 =>
  (if r15 = true then
  (Option.bind (equalstringstring n (x7, x14)) fun r16 =>
  some r16)
  else
  some false)))))))
def sp_jSameStep (n : Nat) (s_jSame : (Int × Bool × (List Int) × Int × Bool × (List JV) × (List (List Int)) × Int × Bool × (List Int) × Int × Bool × (List JV) × List (List Int)) → Option (Bool)) : Spec := ⟨pre_jSame, post_jSame, jSameStep n s_jSame⟩
def env_jSameStep (n : Nat) (s_jSame : (Int × Bool × (List Int) × Int × Bool × (List JV) × (List (List Int)) × Int × Bool × (List Int) × Int × Bool × (List JV) × List (List Int)) → Option (Bool)) : List (FuncId × Spec) := [(18, sp_slEqualFunc n s_jSame), (19, sp_equalstringstring n)]
theorem run_jSameStep (n : Nat) (s_jSame : (Int × Bool × (List Int) × Int × Bool × (List JV) × (List (List Int)) × Int × Bool × (List Int) × Int × Bool × (List JV) × List (List Int)) → Option (Bool)) (x : pre_jSame.T) : fnRun Tryd.prog 46 (envG (env_jSameStep n s_jSame) [] (fun _ => none)) n Tryd.f8 ann_jSame pre_jSame post_jSame x = jSameStep n s_jSame x := by kernel_rfl
theorem ok_jSameStep (n : Nat) (s_jSame : (Int × Bool × (List Int) × Int × Bool × (List JV) × (List (List Int)) × Int × Bool × (List Int) × Int × Bool × (List JV) × List (List Int)) → Option (Bool)) (h_jSame : FnOK Tryd.prog 46 LS 8 ⟨pre_jSame, post_jSame, s_jSame⟩) : FnOK Tryd.prog 46 LS 8 (sp_jSameStep n s_jSame) :=
  fn_run mixed Tryd.func8 (sp_jSameStep n s_jSame) n ann_jSame (env_jSameStep n s_jSame) (envOf_cons (ok_slEqualFunc n s_jSame h_jSame) (envOf_cons (ok_equalstringstring n) envOf_nil)) [] (fun _ => none) gl_none (run_jSameStep n s_jSame) (by kernel_rfl)
def jSame (n : Nat) (x : Int × Bool × (List Int) × Int × Bool × (List JV) × (List (List Int)) × Int × Bool × (List Int) × Int × Bool × (List JV) × List (List Int)) : Option (Bool) := loopF (X := Int × Bool × (List Int) × Int × Bool × (List JV) × (List (List Int)) × Int × Bool × (List Int) × Int × Bool × (List JV) × List (List Int)) (A := Bool) (jSameStep n) n x
def sp_jSame (n : Nat) : Spec := ⟨pre_jSame, post_jSame, jSame n⟩
theorem ok_jSame (n : Nat) : FnOK Tryd.prog 46 LS 8 (sp_jSame n) := rec_ok (pre := pre_jSame) (post := post_jSame) ⟨_, Tryd.func8, by kernel_rfl, by kernel_rfl⟩ (jSameStep n) (fun s h => ok_jSameStep n s h) n
def pre_jBlanks : Shape := ⟨[.c (.ptr 0 0)], [(0, .cells 51 [.dat .str, .dat (.int .i64), .dat (.nd 200)]), (200, .pool 55 (.pair (.int .i64) (.pair (.int .i64) .unit)))]⟩
def post_jBlanks : List Shape := [⟨[], [(0, .cells 51 [.dat .str, .dat (.int .i64), .dat (.nd 200)]), (200, .pool 55 (.pair (.int .i64) (.pair (.int .i64) .unit)))]⟩]
def ann_jBlanks : Ann := (.two .no (.one (.loop ⟨[0, 2], ⟨[.c (.ptr 0 0), .c (.dat (.int .i64))], [(0, .cells 51 [.dat .str, .dat (.int .i64), .dat (.nd 200)]), (200, .pool 55 (.pair (.int .i64) (.pair (.int .i64) .unit)))]⟩⟩ .no)))
/-- what (turnstile/json.reader).blanks comes to. -/
def jBlanks (n : Nat) (x : (List Int) × Int × Int × List (Int × (Int × Unit))) : Option ((List Int) × Int × Int × List (Int × (Int × Unit))) :=
  match x with
  | (x1, (x2, (x3, x4))) =>
  (Option.bind (jPeek n (x1, (x2, (x3, x4)))) fun r5 =>
  (loopF (X := Int × (List Int) × Int × Int × List (Int × (Int × Unit))) (A := (List Int) × Int × Int × List (Int × (Int × Unit))) (fun rec6 y7 => match y7 with
  | (a8, (a9, (a10, (a11, a12)))) =>
  (if (a8 == (32 : Int)) = true then
  (let u13 : Int := (IntKind.wrap .i64 (a10 + (1 : Int)))
  (Option.bind (jPeek n (a9, (u13, (a11, a12)))) fun r14 =>
  rec6 (r14.1, (r14.2.1, (r14.2.2.1, (r14.2.2.2.1, r14.2.2.2.2))))))
  else
  (if (a8 == (9 : Int)) = true then
  (let u15 : Int := (IntKind.wrap .i64 (a10 + (1 : Int)))
  (Option.bind (jPeek n (a9, (u15, (a11, a12)))) fun r16 =>
  rec6 (r16.1, (r16.2.1, (r16.2.2.1, (r16.2.2.2.1, r16.2.2.2.2))))))
  else
  (if (a8 == (10 : Int)) = true then
  (let u17 : Int := (IntKind.wrap .i64 (a10 + (1 : Int)))
  (Option.bind (jPeek n (a9, (u17, (a11, a12)))) fun r18 =>
  rec6 (r18.1, (r18.2.1, (r18.2.2.1, (r18.2.2.2.1, r18.2.2.2.2))))))
  else
  (if (a8 == (13 : Int)) = true then
  (let u19 : Int := (IntKind.wrap .i64 (a10 + (1 : Int)))
  (Option.bind (jPeek n (a9, (u19, (a11, a12)))) fun r20 =>
  rec6 (r20.1, (r20.2.1, (r20.2.2.1, (r20.2.2.2.1, r20.2.2.2.2))))))
  else
  some (a9, (a10, (a11, a12)))))))) n (r5.1, (r5.2.1, (r5.2.2.1, (r5.2.2.2.1, r5.2.2.2.2))))))
def sp_jBlanks (n : Nat) : Spec := ⟨pre_jBlanks, post_jBlanks, jBlanks n⟩
def env_jBlanks (n : Nat) : List (FuncId × Spec) := [(27, sp_jPeek n)]
theorem run_jBlanks (n : Nat) (x : pre_jBlanks.T) : fnRun Tryd.prog 46 (envG (env_jBlanks n) [] (fun _ => none)) n Tryd.f16 ann_jBlanks pre_jBlanks post_jBlanks x = jBlanks n x := by kernel_rfl
theorem ok_jBlanks (n : Nat) : FnOK Tryd.prog 46 LS 16 (sp_jBlanks n) :=
  fn_run mixed Tryd.func16 (sp_jBlanks n) n ann_jBlanks (env_jBlanks n) (envOf_cons (ok_jPeek n) envOf_nil) [] (fun _ => none) gl_none (run_jBlanks n) (by kernel_rfl)
def pre_jDepth : Shape := ⟨[.a [.dat (.int .i64), .dat .bool, .dat .str, .dat (.int .i64), .dat .bool, .dat (.list .js), .dat (.list .str)]], []⟩
def post_jDepth : List Shape := [⟨[.c (.dat (.int .i64))], []⟩]
def ann_jDepth : Ann := .no
/-- what turnstile/json.Depth comes to. -/
def jDepth (n : Nat) (x : Int × Bool × (List Int) × Int × Bool × (List JV) × List (List Int)) : Option (Int) :=
  match x with
  | (x1, (x2, (x3, (x4, (x5, (x6, x7)))))) =>
  (Option.bind (deep n (x1, (x2, (x3, (x4, (x5, (x6, (x7, (10000 : Int))))))))) fun r8 =>
  some r8)
def sp_jDepth (n : Nat) : Spec := ⟨pre_jDepth, post_jDepth, jDepth n⟩
def env_jDepth (n : Nat) : List (FuncId × Spec) := [(33, sp_deep n)]
theorem run_jDepth (n : Nat) (x : pre_jDepth.T) : fnRun Tryd.prog 46 (envG (env_jDepth n) [] (fun _ => none)) n Tryd.f20 ann_jDepth pre_jDepth post_jDepth x = jDepth n x := by kernel_rfl
theorem ok_jDepth (n : Nat) : FnOK Tryd.prog 46 LS 20 (sp_jDepth n) :=
  fn_run mixed Tryd.func20 (sp_jDepth n) n ann_jDepth (env_jDepth n) (envOf_cons (ok_deep n) envOf_nil) [] (fun _ => none) gl_none (run_jDepth n) (by kernel_rfl)
def pre_jQuote : Shape := ⟨[.c (.dat .str)], []⟩
def post_jQuote : List Shape := [⟨[.c (.dat .str), .c (.dat .err)], []⟩]
def ann_jQuote : Ann := (.two .no (.two .no (.two .no (.two .no (.two (.two .no (.one (.loop ⟨[0, 4, 13, 14], ⟨[.c (.dat .str), .c (.ptr 500 0), .c (.dat (.int .i64)), .c (.dat (.int .i64))], [(500, .cells 43 [.slf 500, .own 501]), (501, .row 5 (.int .u8))]⟩⟩ (.two .no (.two .no (.two (.one (.two .no (.two .no (.two .no (.one (.two (.join ⟨[0, 4, 6, 13, 14, 20, 40], ⟨[.c (.dat .str), .c (.ptr 500 0), .c (.dat (.int .u8)), .c (.dat (.int .i64)), .c (.dat (.int .i64)), .c (.dat (.int .u8)), .c (.dat .bool)], [(500, .cells 43 [.slf 500, .own 501]), (501, .row 5 (.int .u8))]⟩⟩ .no) .no)))))) .no)))))) .no)))))
/-- what turnstile/json.Quote comes to. -/
def jQuote (n : Nat) (x : List Int) : Option ((List Int) × Int) :=
  (Option.bind (strValid n x) fun r2 =>
  (if (!r2) = true then
  some (([] : List Int), (3 : Int))
  else
  (Option.bind (bldByte n ((34 : Int), ([] : List Int))) fun r3 =>
  (loopF (X := (List Int) × Int × Int × List Int) (A := (List Int) × Int) (fun rec4 y5 => match y5 with
  | (a6, (a7, (a8, a9))) =>
  (if (decide (a8 < a7)) = true then
  (Option.bind (idx a6 a8) fun v10 =>
  (Option.bind (α := Out ((List Int) × Int × Int × Int × Int × Bool × List Int) ((List Int) × Int)) ((if (v10 == (34 : Int)) = true then
  (some (Out.go (a6, (v10, (a7, (a8, (v10, ((v10 == (34 : Int)), a9))))))))
  else
  (some (Out.go (a6, (v10, (a7, (a8, (v10, ((v10 == (92 : Int)), a9)))))))))) fun o => match o with
  | .go (z12, (z13, (z14, (z15, (z16, (z17, z18)))))) =>
  (if z17 = true then
  (Option.bind (bldByte n ((92 : Int), z18)) fun r19 =>
  (Option.bind (bldByte n (z13, r19)) fun r20 =>
  (let u21 : Int := (IntKind.wrap .i64 (z15 + (1 : Int)))
  rec4 (z12, (z14, (u21, r20))))))
  else
  (if (z16 == (10 : Int)) = true then
  (Option.bind (bldStr n (([(92 : Int), (110 : Int)] : List Int), z18)) fun r22 =>
  (let u23 : Int := (IntKind.wrap .i64 (z15 + (1 : Int)))
  rec4 (z12, (z14, (u23, r22.2)))))
  else
  (if (z16 == (13 : Int)) = true then
  (Option.bind (bldStr n (([(92 : Int), (114 : Int)] : List Int), z18)) fun r24 =>
  (let u25 : Int := (IntKind.wrap .i64 (z15 + (1 : Int)))
  rec4 (z12, (z14, (u25, r24.2)))))
  else
  (if (z16 == (9 : Int)) = true then
  (Option.bind (bldStr n (([(92 : Int), (116 : Int)] : List Int), z18)) fun r26 =>
  (let u27 : Int := (IntKind.wrap .i64 (z15 + (1 : Int)))
  rec4 (z12, (z14, (u27, r26.2)))))
  else
  (if (decide (z13 < (32 : Int))) = true then
  (let u28 : Int := (IntKind.wrap .u8 ((Int.fdiv z13 16) + (1 : Int)))
  (if 0 ≤ (Int.fdiv z13 16) ∧ (Int.fdiv z13 16) ≤ u28 ∧ u28 ≤ (16 : Int) then
  (let u29 : List Int := ((([(48 : Int), (49 : Int), (50 : Int), (51 : Int), (52 : Int), (53 : Int), (54 : Int), (55 : Int), (56 : Int), (57 : Int), (97 : Int), (98 : Int), (99 : Int), (100 : Int), (101 : Int), (102 : Int)] : List Int).drop (Int.fdiv z13 16).toNat).take (u28.toNat - (Int.fdiv z13 16).toNat))
  (if 4 + u29.length ≤ 140737488355328 then
  (let u30 : List Int := (([(92 : Int), (117 : Int), (48 : Int), (48 : Int)] : List Int) ++ u29)
  (let u31 : Int := (IntKind.wrap .u8 ((bits .and .u8 z13 (15 : Int)) + (1 : Int)))
  (if 0 ≤ (bits .and .u8 z13 (15 : Int)) ∧ (bits .and .u8 z13 (15 : Int)) ≤ u31 ∧ u31 ≤ (16 : Int) then
  (let u32 : List Int := ((([(48 : Int), (49 : Int), (50 : Int), (51 : Int), (52 : Int), (53 : Int), (54 : Int), (55 : Int), (56 : Int), (57 : Int), (97 : Int), (98 : Int), (99 : Int), (100 : Int), (101 : Int), (102 : Int)] : List Int).drop (bits .and .u8 z13 (15 : Int)).toNat).take (u31.toNat - (bits .and .u8 z13 (15 : Int)).toNat))
  (if u30.length + u32.length ≤ 140737488355328 then
  (Option.bind (bldStr n ((u30 ++ u32), z18)) fun r33 =>
  (let u34 : Int := (IntKind.wrap .i64 (z15 + (1 : Int)))
  rec4 (z12, (z14, (u34, r33.2)))))
  else none))
  else none)))
  else none))
  else none))
  else
  (Option.bind (bldByte n (z13, z18)) fun r35 =>
  (let u36 : Int := (IntKind.wrap .i64 (z15 + (1 : Int)))
  rec4 (z12, (z14, (u36, r35))))))))))
  | .ret r37 => some r37))
  else
  (Option.bind (bldByte n ((34 : Int), a9)) fun r38 =>
  (Option.bind (bldString n r38) fun r39 =>
  some (r39, (0 : Int)))))) n (x, ((x.length : Int), ((0 : Int), r3)))))))
def sp_jQuote (n : Nat) : Spec := ⟨pre_jQuote, post_jQuote, jQuote n⟩
def env_jQuote (n : Nat) : List (FuncId × Spec) := [(35, sp_strValid n), (26, sp_bldByte n), (25, sp_bldStr n), (14, sp_bldString n)]
theorem run_jQuote (n : Nat) (x : pre_jQuote.T) : fnRun Tryd.prog 46 (envG (env_jQuote n) [] (fun _ => none)) n Tryd.f24 ann_jQuote pre_jQuote post_jQuote x = jQuote n x := by kernel_rfl
theorem ok_jQuote (n : Nat) : FnOK Tryd.prog 46 LS 24 (sp_jQuote n) :=
  fn_run mixed Tryd.func24 (sp_jQuote n) n ann_jQuote (env_jQuote n) (envOf_cons (ok_strValid n) (envOf_cons (ok_bldByte n) (envOf_cons (ok_bldStr n) (envOf_cons (ok_bldString n) envOf_nil)))) [] (fun _ => none) gl_none (run_jQuote n) (by kernel_rfl)
def pre_slContainsFunc : Shape := ⟨[.c (.dat (.list .js)), .c (.fnc 22)], []⟩
def post_slContainsFunc : List Shape := [⟨[.c (.dat .bool)], []⟩]
def ann_slContainsFunc : Ann := .no
/-- what slices.ContainsFunc[[]turnstile/api.Value,turnstile/api.Value] comes to. -/
def slContainsFunc (n : Nat) (s_twice : (Int × Bool × (List Int) × Int × Bool × (List JV) × List (List Int)) → Option (Bool)) (x : List JV) : Option (Bool) :=
  (Option.bind (slIndexFunc n s_twice x) fun r2 =>
  some (decide (r2 ≥ (0 : Int))))
def sp_slContainsFunc (n : Nat) (s_twice : (Int × Bool × (List Int) × Int × Bool × (List JV) × List (List Int)) → Option (Bool)) : Spec := ⟨pre_slContainsFunc, post_slContainsFunc, slContainsFunc n s_twice⟩
def env_slContainsFunc (n : Nat) (s_twice : (Int × Bool × (List Int) × Int × Bool × (List JV) × List (List Int)) → Option (Bool)) : List (FuncId × Spec) := [(47, sp_slIndexFunc n s_twice), (22, ⟨pre_twice, post_twice, s_twice⟩)]
theorem run_slContainsFunc (n : Nat) (s_twice : (Int × Bool × (List Int) × Int × Bool × (List JV) × List (List Int)) → Option (Bool)) (x : pre_slContainsFunc.T) : fnRun Tryd.prog 46 (envG (env_slContainsFunc n s_twice) [] (fun _ => none)) n Tryd.f37 ann_slContainsFunc pre_slContainsFunc post_slContainsFunc x = slContainsFunc n s_twice x := by kernel_rfl
theorem ok_slContainsFunc (n : Nat) (s_twice : (Int × Bool × (List Int) × Int × Bool × (List JV) × List (List Int)) → Option (Bool)) (h_twice : FnOK Tryd.prog 46 LS 22 ⟨pre_twice, post_twice, s_twice⟩) : FnOK Tryd.prog 46 LS 37 (sp_slContainsFunc n s_twice) :=
  fn_run mixed Tryd.func37 (sp_slContainsFunc n s_twice) n ann_slContainsFunc (env_slContainsFunc n s_twice) (envOf_cons (ok_slIndexFunc n s_twice h_twice) (envOf_cons (h_twice) envOf_nil)) [] (fun _ => none) gl_none (run_slContainsFunc n s_twice) (by kernel_rfl)
def pre_jRune : Shape := ⟨[.c (.ptr 0 0)], [(0, .cells 51 [.dat .str, .dat (.int .i64), .dat (.nd 200)]), (200, .pool 55 (.pair (.int .i64) (.pair (.int .i64) .unit)))]⟩
def post_jRune : List Shape := [⟨[.c (.dat .str)], [(0, .cells 51 [.dat .str, .dat (.int .i64), .dat (.nd 200)]), (200, .pool 55 (.pair (.int .i64) (.pair (.int .i64) .unit)))]⟩]
def ann_jRune : Ann := (.two .no (.two .no (.two .no (.two .no (.two .no (.two (.two .no (.one (.loop ⟨[0, 3, 5, 6, 41, 42], ⟨[.c (.ptr 0 0), .c (.dat (.int .i64)), .c (.dat (.int .u8)), .c (.dat (.int .u8)), .c (.dat (.int .i64)), .c (.dat (.int .i64))], [(0, .cells 51 [.dat .str, .dat (.int .i64), .dat (.nd 200)]), (200, .pool 55 (.pair (.int .i64) (.pair (.int .i64) .unit)))]⟩⟩ .no))) .no))))))
/-- what (turnstile/json.reader).rune comes to. -/
def jRune (n : Nat) (x : (List Int) × Int × Int × List (Int × (Int × Unit))) : Option ((List Int) × (List Int) × Int × Int × List (Int × (Int × Unit))) :=
  match x with
  | (x1, (x2, (x3, x4))) =>
  (Option.bind (idx x1 x2) fun v5 =>
  (Option.bind (bound n v5) fun r6 =>
  (if (r6.1 == (0 : Int)) = true then
  (Option.bind (jFails n (x2, ((3 : Int), (x1, (x2, (x3, x4)))))) fun r7 =>
  some (([] : List Int), (r7.1, (r7.2.1, (r7.2.2.1, r7.2.2.2)))))
  else
  (loopF (X := Int × Int × Int × Int × Int × (List Int) × Int × Int × List (Int × (Int × Unit))) (A := (List Int) × (List Int) × Int × Int × List (Int × (Int × Unit))) (fun rec8 y9 => match y9 with
  | (a10, (a11, (a12, (a13, (a14, (a15, (a16, (a17, a18)))))))) =>
  (if (decide (a14 < a13)) = true then
  (Option.bind (jPeek n (a15, (a16, (a17, a18)))) fun r19 =>
  (if (decide (r19.1 < (IntKind.wrap .i64 a11))) = true then
  (Option.bind (jFails n (r19.2.2.1, ((3 : Int), (r19.2.1, (r19.2.2.1, (r19.2.2.2.1, r19.2.2.2.2)))))) fun r20 =>
  some (([] : List Int), (r20.1, (r20.2.1, (r20.2.2.1, r20.2.2.2)))))
  else
  (if (decide (r19.1 > (IntKind.wrap .i64 a12))) = true then
  (Option.bind (jFails n (r19.2.2.1, ((3 : Int), (r19.2.1, (r19.2.2.1, (r19.2.2.2.1, r19.2.2.2.2)))))) fun r21 =>
  some (([] : List Int), (r21.1, (r21.2.1, (r21.2.2.1, r21.2.2.2)))))
  else
  (let u22 : Int := (IntKind.wrap .i64 (r19.2.2.1 + (1 : Int)))
  (let u23 : Int := (IntKind.wrap .i64 (a14 + (1 : Int)))
  rec8 (a10, ((128 : Int), ((191 : Int), (a13, (u23, (r19.2.1, (u22, (r19.2.2.2.1, r19.2.2.2.2)))))))))))))
  else
  (if 0 ≤ a10 ∧ a10 ≤ a16 ∧ a16 ≤ (a15.length : Int) then
  (let u24 : List Int := ((a15.drop a10.toNat).take (a16.toNat - a10.toNat))
  some (u24, (a15, (a16, (a17, a18)))))
  else none))) n (x2, (r6.2.1, (r6.2.2, (r6.1, ((0 : Int), (x1, ((IntKind.wrap .i64 (x2 + (1 : Int))), (x3, x4))))))))))))
def sp_jRune (n : Nat) : Spec := ⟨pre_jRune, post_jRune, jRune n⟩
def env_jRune (n : Nat) : List (FuncId × Spec) := [(50, sp_bound n), (17, sp_jFails n), (27, sp_jPeek n)]
theorem run_jRune (n : Nat) (x : pre_jRune.T) : fnRun Tryd.prog 46 (envG (env_jRune n) [] (fun _ => none)) n Tryd.f40 ann_jRune pre_jRune post_jRune x = jRune n x := by kernel_rfl
theorem ok_jRune (n : Nat) : FnOK Tryd.prog 46 LS 40 (sp_jRune n) :=
  fn_run mixed Tryd.func40 (sp_jRune n) n ann_jRune (env_jRune n) (envOf_cons (ok_bound n) (envOf_cons (ok_jFails n) (envOf_cons (ok_jPeek n) envOf_nil))) [] (fun _ => none) gl_none (run_jRune n) (by kernel_rfl)
def pre_jEmpty : Shape := ⟨[.c (.ptr 0 0), .c (.dat (.int .i64))], [(0, .cells 51 [.dat .str, .dat (.int .i64), .dat (.nd 200)]), (200, .pool 55 (.pair (.int .i64) (.pair (.int .i64) .unit)))]⟩
def post_jEmpty : List Shape := [⟨[.c (.dat .bool)], [(0, .cells 51 [.dat .str, .dat (.int .i64), .dat (.nd 200)]), (200, .pool 55 (.pair (.int .i64) (.pair (.int .i64) .unit)))]⟩]
def ann_jEmpty : Ann := .no
/-- what (turnstile/json.reader).empty comes to. -/
def jEmpty (n : Nat) (x : Int × (List Int) × Int × Int × List (Int × (Int × Unit))) : Option (Bool × (List Int) × Int × Int × List (Int × (Int × Unit))) :=
  match x with
  | (x1, (x2, (x3, (x4, x5)))) =>
  (Option.bind (jBlanks n (x2, ((IntKind.wrap .i64 (x3 + (1 : Int))), (x4, x5)))) fun r6 =>
  (Option.bind (jPeek n (r6.1, (r6.2.1, (r6.2.2.1, r6.2.2.2)))) fun r7 =>
  (if (r7.1 == x1) = true then
  (let u8 : Int := (IntKind.wrap .i64 (r7.2.2.1 + (1 : Int)))
  some (true, (r7.2.1, (u8, (r7.2.2.2.1, r7.2.2.2.2)))))
  else
  some (false, (r7.2.1, (r7.2.2.1, (r7.2.2.2.1, r7.2.2.2.2)))))))
def sp_jEmpty (n : Nat) : Spec := ⟨pre_jEmpty, post_jEmpty, jEmpty n⟩
def env_jEmpty (n : Nat) : List (FuncId × Spec) := [(16, sp_jBlanks n), (27, sp_jPeek n)]
theorem run_jEmpty (n : Nat) (x : pre_jEmpty.T) : fnRun Tryd.prog 46 (envG (env_jEmpty n) [] (fun _ => none)) n Tryd.f41 ann_jEmpty pre_jEmpty post_jEmpty x = jEmpty n x := by kernel_rfl
theorem ok_jEmpty (n : Nat) : FnOK Tryd.prog 46 LS 41 (sp_jEmpty n) :=
  fn_run mixed Tryd.func41 (sp_jEmpty n) n ann_jEmpty (env_jEmpty n) (envOf_cons (ok_jBlanks n) (envOf_cons (ok_jPeek n) envOf_nil)) [] (fun _ => none) gl_none (run_jEmpty n) (by kernel_rfl)
def pre_jNext : Shape := ⟨[.c (.ptr 0 0), .c (.dat (.int .i64))], [(0, .cells 51 [.dat .str, .dat (.int .i64), .dat (.nd 200)]), (200, .pool 55 (.pair (.int .i64) (.pair (.int .i64) .unit)))]⟩
def post_jNext : List Shape := [⟨[.c (.dat .bool)], [(0, .cells 51 [.dat .str, .dat (.int .i64), .dat (.nd 200)]), (200, .pool 55 (.pair (.int .i64) (.pair (.int .i64) .unit)))]⟩]
def ann_jNext : Ann := .no
/-- what (turnstile/json.reader).next comes to. -/
def jNext (n : Nat) (x : Int × (List Int) × Int × Int × List (Int × (Int × Unit))) : Option (Bool × (List Int) × Int × Int × List (Int × (Int × Unit))) :=
  match x with
  | (x1, (x2, (x3, (x4, x5)))) =>
  (Option.bind (jBlanks n (x2, (x3, (x4, x5)))) fun r6 =>
  (Option.bind (jPeek n (r6.1, (r6.2.1, (r6.2.2.1, r6.2.2.2)))) fun r7 =>
  (if (r7.1 == (44 : Int)) = true then
  (let u8 : Int := (IntKind.wrap .i64 (r7.2.2.1 + (1 : Int)))
  some (true, (r7.2.1, (u8, (r7.2.2.2.1, r7.2.2.2.2)))))
  else
  (if (r7.1 == x1) = true then
  (let u9 : Int := (IntKind.wrap .i64 (r7.2.2.1 + (1 : Int)))
  some (false, (r7.2.1, (u9, (r7.2.2.2.1, r7.2.2.2.2)))))
  else
  (Option.bind (jFails n (r7.2.2.1, ((3 : Int), (r7.2.1, (r7.2.2.1, (r7.2.2.2.1, r7.2.2.2.2)))))) fun r10 =>
  some (false, (r10.1, (r10.2.1, (r10.2.2.1, r10.2.2.2)))))))))
def sp_jNext (n : Nat) : Spec := ⟨pre_jNext, post_jNext, jNext n⟩
def env_jNext (n : Nat) : List (FuncId × Spec) := [(16, sp_jBlanks n), (27, sp_jPeek n), (17, sp_jFails n)]
theorem run_jNext (n : Nat) (x : pre_jNext.T) : fnRun Tryd.prog 46 (envG (env_jNext n) [] (fun _ => none)) n Tryd.f42 ann_jNext pre_jNext post_jNext x = jNext n x := by kernel_rfl
theorem ok_jNext (n : Nat) : FnOK Tryd.prog 46 LS 42 (sp_jNext n) :=
  fn_run mixed Tryd.func42 (sp_jNext n) n ann_jNext (env_jNext n) (envOf_cons (ok_jBlanks n) (envOf_cons (ok_jPeek n) (envOf_cons (ok_jFails n) envOf_nil))) [] (fun _ => none) gl_none (run_jNext n) (by kernel_rfl)
def pre_jUnicode : Shape := ⟨[.c (.ptr 0 0)], [(0, .cells 51 [.dat .str, .dat (.int .i64), .dat (.nd 200)]), (200, .pool 55 (.pair (.int .i64) (.pair (.int .i64) .unit)))]⟩
def post_jUnicode : List Shape := [⟨[.c (.dat .str)], [(0, .cells 51 [.dat .str, .dat (.int .i64), .dat (.nd 200)]), (200, .pool 55 (.pair (.int .i64) (.pair (.int .i64) .unit)))]⟩]
def ann_jUnicode : Ann := (.two (.join ⟨[0], ⟨[.c (.ptr 0 0)], [(0, .cells 51 [.dat .str, .dat (.int .i64), .dat (.nd 200)]), (200, .pool 55 (.pair (.int .i64) (.pair (.int .i64) .unit)))]⟩⟩ .no) (.two (.join ⟨[0, 3], ⟨[.c (.ptr 0 0), .c (.dat (.int .i32))], [(0, .cells 51 [.dat .str, .dat (.int .i64), .dat (.nd 200)]), (200, .pool 55 (.pair (.int .i64) (.pair (.int .i64) .unit)))]⟩⟩ .no) (.two (.join ⟨[0, 3, 4], ⟨[.c (.ptr 0 0), .c (.dat (.int .i32)), .c (.dat (.int .i64))], [(0, .cells 51 [.dat .str, .dat (.int .i64), .dat (.nd 200)]), (200, .pool 55 (.pair (.int .i64) (.pair (.int .i64) .unit)))]⟩⟩ .no) (.two (.join ⟨[0, 3, 4], ⟨[.c (.ptr 0 0), .c (.dat (.int .i32)), .c (.dat (.int .i64))], [(0, .cells 51 [.dat .str, .dat (.int .i64), .dat (.nd 200)]), (200, .pool 55 (.pair (.int .i64) (.pair (.int .i64) .unit)))]⟩⟩ .no) (.two (.join ⟨[3], ⟨[.c (.dat (.int .i32))], [(0, .cells 51 [.dat .str, .dat (.int .i64), .dat (.nd 200)]), (200, .pool 55 (.pair (.int .i64) (.pair (.int .i64) .unit)))]⟩⟩ (.one (.two (.join ⟨[0, 3, 4, 24], ⟨[.c (.ptr 0 0), .c (.dat (.int .i32)), .c (.dat (.int .i64)), .c (.dat .bool)], [(0, .cells 51 [.dat .str, .dat (.int .i64), .dat (.nd 200)]), (200, .pool 55 (.pair (.int .i64) (.pair (.int .i64) .unit)))]⟩⟩ .no) (.two (.two (.join ⟨[2], ⟨[.c (.dat .str)], [(0, .cells 51 [.dat .str, .dat (.int .i64), .dat (.nd 200)]), (200, .pool 55 (.pair (.int .i64) (.pair (.int .i64) .unit)))]⟩⟩ .no) .no) (.two (.join ⟨[0, 3, 4, 30], ⟨[.c (.ptr 0 0), .c (.dat (.int .i32)), .c (.dat (.int .i64)), .c (.dat .bool)], [(0, .cells 51 [.dat .str, .dat (.int .i64), .dat (.nd 200)]), (200, .pool 55 (.pair (.int .i64) (.pair (.int .i64) .unit)))]⟩⟩ .no) (.two (.two (.join ⟨[], ⟨[], [(0, .cells 51 [.dat .str, .dat (.int .i64), .dat (.nd 200)]), (200, .pool 55 (.pair (.int .i64) (.pair (.int .i64) .unit)))]⟩⟩ .no) (.two (.join ⟨[2], ⟨[.c (.dat .str)], [(0, .cells 51 [.dat .str, .dat (.int .i64), .dat (.nd 200)]), (200, .pool 55 (.pair (.int .i64) (.pair (.int .i64) .unit)))]⟩⟩ .no) .no)) (.two (.join ⟨[0, 3, 40], ⟨[.c (.ptr 0 0), .c (.dat (.int .i32)), .c (.dat .bool)], [(0, .cells 51 [.dat .str, .dat (.int .i64), .dat (.nd 200)]), (200, .pool 55 (.pair (.int .i64) (.pair (.int .i64) .unit)))]⟩⟩ .no) (.two (.two (.join ⟨[2], ⟨[.c (.dat .str)], [(0, .cells 51 [.dat .str, .dat (.int .i64), .dat (.nd 200)]), (200, .pool 55 (.pair (.int .i64) (.pair (.int .i64) .unit)))]⟩⟩ .no) .no) .no)))))))) (.two (.join ⟨[2], ⟨[.c (.dat .str)], [(0, .cells 51 [.dat .str, .dat (.int .i64), .dat (.nd 200)]), (200, .pool 55 (.pair (.int .i64) (.pair (.int .i64) .unit)))]⟩⟩ .no) .no))))))
/-- what (turnstile/json.reader).unicode comes to. -/
def jUnicode (n : Nat) (x : (List Int) × Int × Int × List (Int × (Int × Unit))) : Option ((List Int) × (List Int) × Int × Int × List (Int × (Int × Unit))) :=
  match x with
  | (x1, (x2, (x3, x4))) =>
  (Option.bind (α := Out ((List Int) × Int × Int × List (Int × (Int × Unit))) ((List Int) × (List Int) × Int × Int × List (Int × (Int × Unit)))) ((some (Out.go (x1, (x2, (x3, x4)))))) fun o => match o with
  | .go (z6, (z7, (z8, z9))) =>
  (Option.bind (α := Out (Int × (List Int) × Int × Int × List (Int × (Int × Unit))) ((List Int) × (List Int) × Int × Int × List (Int × (Int × Unit)))) ((Option.bind (jHex n (z6, (z7, (z8, z9)))) fun r10 =>
  (Option.bind (jHex n (r10.2.1, (r10.2.2.1, (r10.2.2.2.1, r10.2.2.2.2)))) fun r11 =>
  (let u12 : Int := (bits .or .i32 (IntKind.wrap .i32 (r10.1 * 4096)) (IntKind.wrap .i32 (r11.1 * 256)))
  (Option.bind (jHex n (r11.2.1, (r11.2.2.1, (r11.2.2.2.1, r11.2.2.2.2)))) fun r13 =>
  (let u14 : Int := (bits .or .i32 u12 (IntKind.wrap .i32 (r13.1 * 16)))
  (some (Out.go (u14, (r13.2.1, (r13.2.2.1, (r13.2.2.2.1, r13.2.2.2.2)))))))))))) fun o => match o with
  | .go (z16, (z17, (z18, (z19, z20)))) =>
  (Option.bind (α := Out (Int × Int × (List Int) × Int × Int × List (Int × (Int × Unit))) ((List Int) × (List Int) × Int × Int × List (Int × (Int × Unit)))) ((some (Out.go (z16, (z18, (z17, (z18, (z19, z20)))))))) fun o => match o with
  | .go (z22, (z23, (z24, (z25, (z26, z27))))) =>
  (Option.bind (α := Out (Int × Int × (List Int) × Int × Int × List (Int × (Int × Unit))) ((List Int) × (List Int) × Int × Int × List (Int × (Int × Unit)))) ((Option.bind (jHex n (z24, (z25, (z26, z27)))) fun r28 =>
  (some (Out.go ((bits .or .i32 z22 r28.1), (z23, (r28.2.1, (r28.2.2.1, (r28.2.2.2.1, r28.2.2.2.2))))))))) fun o => match o with
  | .go (z30, (z31, (z32, (z33, (z34, z35))))) =>
  (Option.bind (α := Out (Int × (List Int) × Int × Int × List (Int × (Int × Unit))) ((List Int) × (List Int) × Int × Int × List (Int × (Int × Unit)))) ((Option.bind (α := Out (Int × Int × Bool × (List Int) × Int × Int × List (Int × (Int × Unit))) (Out (Int × (List Int) × Int × Int × List (Int × (Int × Unit))) ((List Int) × (List Int) × Int × Int × List (Int × (Int × Unit))))) ((some (Out.go (z30, (z31, ((!(decide (z34 < 0))), (z32, (z33, (z34, z35))))))))) fun o => match o with
  | .go (z37, (z38, (z39, (z40, (z41, (z42, z43)))))) =>
  (if z39 = true then
  (Option.bind (α := Out ((List Int) × (List Int) × Int × Int × List (Int × (Int × Unit))) (Out (Int × (List Int) × Int × Int × List (Int × (Int × Unit))) ((List Int) × (List Int) × Int × Int × List (Int × (Int × Unit))))) ((some (Out.go (([] : List Int), (z40, (z41, (z42, z43))))))) fun o => match o with
  | .go (z45, (z46, (z47, (z48, z49)))) =>
  (Option.map Out.ret (some (z45, (z46, (z47, (z48, z49))))))
  | .ret r50 => some r50)
  else
  (Option.bind (α := Out (Int × Int × Bool × (List Int) × Int × Int × List (Int × (Int × Unit))) (Out (Int × (List Int) × Int × Int × List (Int × (Int × Unit))) ((List Int) × (List Int) × Int × Int × List (Int × (Int × Unit))))) ((if (decide (z37 ≥ (56320 : Int))) = true then
  (some (Out.go (z37, (z38, ((decide (z37 ≤ (57343 : Int))), (z40, (z41, (z42, z43))))))))
  else
  (some (Out.go (z37, (z38, (false, (z40, (z41, (z42, z43)))))))))) fun o => match o with
  | .go (z52, (z53, (z54, (z55, (z56, (z57, z58)))))) =>
  (if z54 = true then
  (Option.bind (α := Out ((List Int) × Int × Int × List (Int × (Int × Unit))) (Out (Int × (List Int) × Int × Int × List (Int × (Int × Unit))) ((List Int) × (List Int) × Int × Int × List (Int × (Int × Unit))))) ((Option.bind (jFails n (z53, ((3 : Int), (z55, (z56, (z57, z58)))))) fun r59 =>
  (some (Out.go (r59.1, (r59.2.1, (r59.2.2.1, r59.2.2.2))))))) fun o => match o with
  | .go (z61, (z62, (z63, z64))) =>
  (Option.bind (α := Out ((List Int) × (List Int) × Int × Int × List (Int × (Int × Unit))) (Out (Int × (List Int) × Int × Int × List (Int × (Int × Unit))) ((List Int) × (List Int) × Int × Int × List (Int × (Int × Unit))))) ((some (Out.go (([] : List Int), (z61, (z62, (z63, z64))))))) fun o => match o with
  | .go (z66, (z67, (z68, (z69, z70)))) =>
  (Option.map Out.ret (some (z66, (z67, (z68, (z69, z70))))))
  | .ret r71 => some r71)
  | .ret r72 => some r72)
  else
  (Option.bind (α := Out (Int × Bool × (List Int) × Int × Int × List (Int × (Int × Unit))) (Out (Int × (List Int) × Int × Int × List (Int × (Int × Unit))) ((List Int) × (List Int) × Int × Int × List (Int × (Int × Unit))))) ((if (decide (z52 ≥ (55296 : Int))) = true then
  (some (Out.go (z52, ((decide (z52 ≤ (56319 : Int))), (z55, (z56, (z57, z58)))))))
  else
  (some (Out.go (z52, (false, (z55, (z56, (z57, z58))))))))) fun o => match o with
  | .go (z74, (z75, (z76, (z77, (z78, z79))))) =>
  (if z75 = true then
  (Option.bind (α := Out ((List Int) × (List Int) × Int × Int × List (Int × (Int × Unit))) (Out (Int × (List Int) × Int × Int × List (Int × (Int × Unit))) ((List Int) × (List Int) × Int × Int × List (Int × (Int × Unit))))) ((Option.bind (jPair n (z74, (z76, (z77, (z78, z79))))) fun r80 =>
  (some (Out.go (r80.1, (r80.2.1, (r80.2.2.1, (r80.2.2.2.1, r80.2.2.2.2)))))))) fun o => match o with
  | .go (z82, (z83, (z84, (z85, z86)))) =>
  (Option.map Out.ret (some (z82, (z83, (z84, (z85, z86))))))
  | .ret r87 => some r87)
  else
  (some (Out.go (z74, (z76, (z77, (z78, z79)))))))
  | .ret r88 => some r88))
  | .ret r89 => some r89))
  | .ret r90 => some r90)) fun o => match o with
  | .go (z92, (z93, (z94, (z95, z96)))) =>
  (Option.bind (α := Out ((List Int) × (List Int) × Int × Int × List (Int × (Int × Unit))) ((List Int) × (List Int) × Int × Int × List (Int × (Int × Unit)))) ((some (Out.go ((bytesL (Utf8.encode z92)), (z93, (z94, (z95, z96))))))) fun o => match o with
  | .go (z98, (z99, (z100, (z101, z102)))) =>
  some (z98, (z99, (z100, (z101, z102))))
  | .ret r103 => some r103)
  | .ret r104 => some r104)
  | .ret r105 => some r105)
  | .ret r106 => some r106)
  | .ret r107 => some r107)
  | .ret r108 => some r108)
def sp_jUnicode (n : Nat) : Spec := ⟨pre_jUnicode, post_jUnicode, jUnicode n⟩
def env_jUnicode (n : Nat) : List (FuncId × Spec) := [(52, sp_jHex n), (17, sp_jFails n), (53, sp_jPair n)]
theorem run_jUnicode (n : Nat) (x : pre_jUnicode.T) : fnRun Tryd.prog 46 (envG (env_jUnicode n) [] (fun _ => none)) n Tryd.f49 ann_jUnicode pre_jUnicode post_jUnicode x = jUnicode n x := by kernel_rfl
theorem ok_jUnicode (n : Nat) : FnOK Tryd.prog 46 LS 49 (sp_jUnicode n) :=
  fn_run mixed Tryd.func49 (sp_jUnicode n) n ann_jUnicode (env_jUnicode n) (envOf_cons (ok_jHex n) (envOf_cons (ok_jFails n) (envOf_cons (ok_jPair n) envOf_nil))) [] (fun _ => none) gl_none (run_jUnicode n) (by kernel_rfl)
def pre_hasPrefix : Shape := ⟨[.c (.dat .str), .c (.dat .str)], []⟩
def post_hasPrefix : List Shape := [⟨[.c (.dat .bool)], []⟩]
def ann_hasPrefix : Ann := .no
/-- what strings.HasPrefix comes to. -/
def hasPrefix (n : Nat) (x : (List Int) × List Int) : Option (Bool) :=
  match x with
  | (x1, x2) =>
  (Option.bind (stringsliteHasPrefix n (x1, x2)) fun r3 =>
  some r3)
def sp_hasPrefix (n : Nat) : Spec := ⟨pre_hasPrefix, post_hasPrefix, hasPrefix n⟩
def env_hasPrefix (n : Nat) : List (FuncId × Spec) := [(57, sp_stringsliteHasPrefix n)]
theorem run_hasPrefix (n : Nat) (x : pre_hasPrefix.T) : fnRun Tryd.prog 46 (envG (env_hasPrefix n) [] (fun _ => none)) n Tryd.f54 ann_hasPrefix pre_hasPrefix post_hasPrefix x = hasPrefix n x := by kernel_rfl
theorem ok_hasPrefix (n : Nat) : FnOK Tryd.prog 46 LS 54 (sp_hasPrefix n) :=
  fn_run mixed Tryd.func54 (sp_hasPrefix n) n ann_hasPrefix (env_hasPrefix n) (envOf_cons (ok_stringsliteHasPrefix n) envOf_nil) [] (fun _ => none) gl_none (run_hasPrefix n) (by kernel_rfl)
def pre_trimPrefix : Shape := ⟨[.c (.dat .str), .c (.dat .str)], []⟩
def post_trimPrefix : List Shape := [⟨[.c (.dat .str)], []⟩]
def ann_trimPrefix : Ann := .no
/-- what strings.TrimPrefix comes to. -/
def trimPrefix (n : Nat) (x : (List Int) × List Int) : Option (List Int) :=
  match x with
  | (x1, x2) =>
  (Option.bind (stringsliteTrimPrefix n (x1, x2)) fun r3 =>
  some r3)
def sp_trimPrefix (n : Nat) : Spec := ⟨pre_trimPrefix, post_trimPrefix, trimPrefix n⟩
def env_trimPrefix (n : Nat) : List (FuncId × Spec) := [(58, sp_stringsliteTrimPrefix n)]
theorem run_trimPrefix (n : Nat) (x : pre_trimPrefix.T) : fnRun Tryd.prog 46 (envG (env_trimPrefix n) [] (fun _ => none)) n Tryd.f55 ann_trimPrefix pre_trimPrefix post_trimPrefix x = trimPrefix n x := by kernel_rfl
theorem ok_trimPrefix (n : Nat) : FnOK Tryd.prog 46 LS 55 (sp_trimPrefix n) :=
  fn_run mixed Tryd.func55 (sp_trimPrefix n) n ann_trimPrefix (env_trimPrefix n) (envOf_cons (ok_stringsliteTrimPrefix n) envOf_nil) [] (fun _ => none) gl_none (run_trimPrefix n) (by kernel_rfl)
def ann_twice : Ann := (.two .no (.two .no (.two (.two .no (.one (.loop ⟨[1, 3, 8, 9, 10], ⟨[.c (.ptr 500 0), .c (.own 501), .c (.dat (.list .str)), .c (.dat (.int .i64)), .c (.dat (.int .i64))], [(500, .cells 25 [.dat (.int .i64), .dat .bool, .dat .str, .dat (.int .i64), .dat .bool, .dat (.list .js), .dat (.list .str)]), (501, .mp .str .bool)]⟩⟩ .no))) .no)))
/-- what turnstile/json.twice comes to. -/
def twiceStep (n : Nat) (s_twice : (Int × Bool × (List Int) × Int × Bool × (List JV) × List (List Int)) → Option (Bool)) (x : Int × Bool × (List Int) × Int × Bool × (List JV) × List (List Int)) : Option (Bool) :=
  match x with
  | (x1, (x2, (x3, (x4, (x5, (x6, x7)))))) =>
  (loopF (X := (List (List Int)) × Int × Int × Int × Bool × (List Int) × Int × Bool × (List JV) × (List (List Int)) × List (List Int × Bool)) (A := Bool) (fun rec8 y9 => match y9 with
  | (a10, (a11, (a12, (a13, (a14, (a15, (a16, (a17, (a18, (a19, a20)))))))))) =>
  (if (decide (a12 < a11)) = true then
  (Option.bind (idx a10 a12) fun v21 =>
  (if (Option.getD (mget (K.eqb .str) v21 a20) false) = true then
  some true
  else
  (let u22 : Int := (IntKind.wrap .i64 (a12 + (1 : Int)))
  rec8 (a10, (a11, (u22, (a13, (a14, (a15, (a16, (a17, (a18, (a19, (mput (K.eqb .str) v21 true a20))))))))))))))
  else
  (Option.bind (slContainsFunc n s_twice a18) fun r23 =>
  some r23))) n (x7, ((x7.length : Int), ((0 : Int), (x1, (x2, (x3, (x4, (x5, (x6, (x7, ([] : List (List Int × Bool)))))))))))))
def sp_twiceStep (n : Nat) (s_twice : (Int × Bool × (List Int) × Int × Bool × (List JV) × List (List Int)) → Option (Bool)) : Spec := ⟨pre_twice, post_twice, twiceStep n s_twice⟩
def env_twiceStep (n : Nat) (s_twice : (Int × Bool × (List Int) × Int × Bool × (List JV) × List (List Int)) → Option (Bool)) : List (FuncId × Spec) := [(37, sp_slContainsFunc n s_twice)]
theorem run_twiceStep (n : Nat) (s_twice : (Int × Bool × (List Int) × Int × Bool × (List JV) × List (List Int)) → Option (Bool)) (x : pre_twice.T) : fnRun Tryd.prog 46 (envG (env_twiceStep n s_twice) [] (fun _ => none)) n Tryd.f22 ann_twice pre_twice post_twice x = twiceStep n s_twice x := by kernel_rfl
theorem ok_twiceStep (n : Nat) (s_twice : (Int × Bool × (List Int) × Int × Bool × (List JV) × List (List Int)) → Option (Bool)) (h_twice : FnOK Tryd.prog 46 LS 22 ⟨pre_twice, post_twice, s_twice⟩) : FnOK Tryd.prog 46 LS 22 (sp_twiceStep n s_twice) :=
  fn_run mixed Tryd.func22 (sp_twiceStep n s_twice) n ann_twice (env_twiceStep n s_twice) (envOf_cons (ok_slContainsFunc n s_twice h_twice) envOf_nil) [] (fun _ => none) gl_none (run_twiceStep n s_twice) (by kernel_rfl)
def twice (n : Nat) (x : Int × Bool × (List Int) × Int × Bool × (List JV) × List (List Int)) : Option (Bool) := loopF (X := Int × Bool × (List Int) × Int × Bool × (List JV) × List (List Int)) (A := Bool) (twiceStep n) n x
def sp_twice (n : Nat) : Spec := ⟨pre_twice, post_twice, twice n⟩
theorem ok_twice (n : Nat) : FnOK Tryd.prog 46 LS 22 (sp_twice n) := rec_ok (pre := pre_twice) (post := post_twice) ⟨_, Tryd.func22, by kernel_rfl, by kernel_rfl⟩ (twiceStep n) (fun s h => ok_twiceStep n s h) n
def pre_jQuoteTo : Shape := ⟨[.c (.dat .str), .c (.ptr 2 0)], [(2, .cells 41 [.ptr 0 0]), (0, .cells 43 [.slf 0, .own 1]), (1, .row 5 (.int .u8))]⟩
def post_jQuoteTo : List Shape := [⟨[], [(2, .cells 41 [.ptr 0 0]), (0, .cells 43 [.slf 0, .own 1]), (1, .row 5 (.int .u8))]⟩]
def ann_jQuoteTo : Ann := .no
/-- what turnstile/json.written$1 comes to. -/
def jQuoteTo (n : Nat) (x : (List Int) × List Int) : Option (List Int) :=
  match x with
  | (x1, x2) =>
  (Option.bind (jQuote n x1) fun r3 =>
  (Option.bind (bldStr n (r3.1, x2)) fun r4 =>
  some r4.2))
def sp_jQuoteTo (n : Nat) : Spec := ⟨pre_jQuoteTo, post_jQuoteTo, jQuoteTo n⟩
def env_jQuoteTo (n : Nat) : List (FuncId × Spec) := [(24, sp_jQuote n), (25, sp_bldStr n)]
theorem run_jQuoteTo (n : Nat) (x : pre_jQuoteTo.T) : fnRun Tryd.prog 46 (envG (env_jQuoteTo n) [] (fun _ => none)) n Tryd.f23 ann_jQuoteTo pre_jQuoteTo post_jQuoteTo x = jQuoteTo n x := by kernel_rfl
theorem ok_jQuoteTo (n : Nat) : FnOK Tryd.prog 46 LS 23 (sp_jQuoteTo n) :=
  fn_run mixed Tryd.func23 (sp_jQuoteTo n) n ann_jQuoteTo (env_jQuoteTo n) (envOf_cons (ok_jQuote n) (envOf_cons (ok_bldStr n) envOf_nil)) [] (fun _ => none) gl_none (run_jQuoteTo n) (by kernel_rfl)
def pre_jList : Shape := ⟨[.c (.ptr 0 0), .c (.dat (.int .i64))], [(0, .cells 51 [.dat .str, .dat (.int .i64), .dat (.nd 200)]), (200, .pool 55 (.pair (.int .i64) (.pair (.int .i64) .unit)))]⟩
def post_jList : List Shape := [⟨[.a [.dat (.int .i64), .dat .bool, .dat .str, .dat (.int .i64), .dat .bool, .dat (.list .js), .dat (.list .str)]], [(0, .cells 51 [.dat .str, .dat (.int .i64), .dat (.nd 200)]), (200, .pool 55 (.pair (.int .i64) (.pair (.int .i64) .unit)))]⟩]
def ann_jList : Ann := (.two .no (.two .no (.two .no (.one (.loop ⟨[0, 1, 4, 5], ⟨[.c (.ptr 0 0), .c (.dat (.int .i64)), .c (.ptr 500 0), .c (.ptr 501 0)], [(0, .cells 51 [.dat .str, .dat (.int .i64), .dat (.nd 200)]), (500, .cells 25 [.dat (.int .i64), .dat .bool, .dat .str, .dat (.int .i64), .dat .bool, .own 502, .own 503]), (501, .cells 25 [.dat (.int .i64), .dat .bool, .dat .str, .dat (.int .i64), .dat .bool, .own 504, .own 505]), (200, .pool 55 (.pair (.int .i64) (.pair (.int .i64) .unit))), (502, .row 25 .js), (503, .row 9 .str), (504, .row 25 .js), (505, .row 9 .str)]⟩⟩ .no)))))
/-- what (turnstile/json.reader).list comes to. -/
def jList (n : Nat) (s_jValue : (Int × (List Int) × Int × Int × List (Int × (Int × Unit))) → Option (Int × Bool × (List Int) × Int × Bool × (List JV) × (List (List Int)) × (List Int) × Int × Int × List (Int × (Int × Unit)))) (x : Int × (List Int) × Int × Int × List (Int × (Int × Unit))) : Option (Int × Bool × (List Int) × Int × Bool × (List JV) × (List (List Int)) × (List Int) × Int × Int × List (Int × (Int × Unit))) :=
  match x with
  | (x1, (x2, (x3, (x4, x5)))) =>
  (Option.bind (jEmpty n ((93 : Int), (x2, (x3, (x4, x5))))) fun r6 =>
  (if r6.1 = true then
  some ((5 : Int), (false, (([] : List Int), ((0 : Int), (false, (([] : List JV), (([] : List (List Int)), (r6.2.1, (r6.2.2.1, (r6.2.2.2.1, r6.2.2.2.2))))))))))
  else
  (loopF (X := Int × (List Int) × Int × Int × Int × Bool × (List Int) × Int × Bool × Int × Bool × (List Int) × Int × Bool × (List (Int × (Int × Unit))) × (List JV) × (List (List Int)) × (List JV) × List (List Int)) (A := Int × Bool × (List Int) × Int × Bool × (List JV) × (List (List Int)) × (List Int) × Int × Int × List (Int × (Int × Unit))) (fun rec7 y8 => match y8 with
  | (a9, (a10, (a11, (a12, (a13, (a14, (a15, (a16, (a17, (a18, (a19, (a20, (a21, (a22, (a23, (a24, (a25, (a26, a27)))))))))))))))))) =>
  (Option.bind (s_jValue ((IntKind.wrap .i64 (a9 + (1 : Int))), (a10, (a11, (a12, a23))))) fun r28 =>
  (if (a26.length + 1) * 96 ≤ 140737488355328 then
  (let u29 : List JV := (a26 ++ ([(JV.mk r28.1 r28.2.1 r28.2.2.1 r28.2.2.2.1 r28.2.2.2.2.1 r28.2.2.2.2.2.1 r28.2.2.2.2.2.2.1)] : List JV))
  (if (!(decide (r28.2.2.2.2.2.2.2.2.2.1 < 0))) = true then
  some (a18, (a19, (a20, (a21, (a22, (u29, (a27, (r28.2.2.2.2.2.2.2.1, (r28.2.2.2.2.2.2.2.2.1, (r28.2.2.2.2.2.2.2.2.2.1, r28.2.2.2.2.2.2.2.2.2.2))))))))))
  else
  (Option.bind (jNext n ((93 : Int), (r28.2.2.2.2.2.2.2.1, (r28.2.2.2.2.2.2.2.2.1, (r28.2.2.2.2.2.2.2.2.2.1, r28.2.2.2.2.2.2.2.2.2.2))))) fun r30 =>
  (if (!r30.1) = true then
  some (a18, (a19, (a20, (a21, (a22, (u29, (a27, (r30.2.1, (r30.2.2.1, (r30.2.2.2.1, r30.2.2.2.2))))))))))
  else
  rec7 (a9, (r30.2.1, (r30.2.2.1, (r30.2.2.2.1, (a13, (a14, (a15, (a16, (a17, (a18, (a19, (a20, (a21, (a22, (r30.2.2.2.2, (a24, (a25, (u29, a27))))))))))))))))))))))
  else none))) n (x1, (r6.2.1, (r6.2.2.1, (r6.2.2.2.1, ((0 : Int), (false, (([] : List Int), ((0 : Int), (false, ((5 : Int), (false, (([] : List Int), ((0 : Int), (false, (r6.2.2.2.2, (([] : List JV), (([] : List (List Int)), (([] : List JV), ([] : List (List Int)))))))))))))))))))))))
def sp_jList (n : Nat) (s_jValue : (Int × (List Int) × Int × Int × List (Int × (Int × Unit))) → Option (Int × Bool × (List Int) × Int × Bool × (List JV) × (List (List Int)) × (List Int) × Int × Int × List (Int × (Int × Unit)))) : Spec := ⟨pre_jList, post_jList, jList n s_jValue⟩
def env_jList (n : Nat) (s_jValue : (Int × (List Int) × Int × Int × List (Int × (Int × Unit))) → Option (Int × Bool × (List Int) × Int × Bool × (List JV) × (List (List Int)) × (List Int) × Int × Int × List (Int × (Int × Unit)))) : List (FuncId × Spec) := [(41, sp_jEmpty n), (15, ⟨pre_jValue, post_jValue, s_jValue⟩), (42, sp_jNext n)]
theorem run_jList (n : Nat) (s_jValue : (Int × (List Int) × Int × Int × List (Int × (Int × Unit))) → Option (Int × Bool × (List Int) × Int × Bool × (List JV) × (List (List Int)) × (List Int) × Int × Int × List (Int × (Int × Unit)))) (x : pre_jList.T) : fnRun Tryd.prog 46 (envG (env_jList n s_jValue) [] (fun _ => none)) n Tryd.f30 ann_jList pre_jList post_jList x = jList n s_jValue x := by kernel_rfl
theorem ok_jList (n : Nat) (s_jValue : (Int × (List Int) × Int × Int × List (Int × (Int × Unit))) → Option (Int × Bool × (List Int) × Int × Bool × (List JV) × (List (List Int)) × (List Int) × Int × Int × List (Int × (Int × Unit)))) (h_jValue : FnOK Tryd.prog 46 LS 15 ⟨pre_jValue, post_jValue, s_jValue⟩) : FnOK Tryd.prog 46 LS 30 (sp_jList n s_jValue) :=
  fn_run mixed Tryd.func30 (sp_jList n s_jValue) n ann_jList (env_jList n s_jValue) (envOf_cons (ok_jEmpty n) (envOf_cons (h_jValue) (envOf_cons (ok_jNext n) envOf_nil))) [] (fun _ => none) gl_none (run_jList n s_jValue) (by kernel_rfl)
def pre_jEscape : Shape := ⟨[.c (.ptr 0 0)], [(0, .cells 51 [.dat .str, .dat (.int .i64), .dat (.nd 200)]), (200, .pool 55 (.pair (.int .i64) (.pair (.int .i64) .unit)))]⟩
def post_jEscape : List Shape := [⟨[.c (.dat .str)], [(0, .cells 51 [.dat .str, .dat (.int .i64), .dat (.nd 200)]), (200, .pool 55 (.pair (.int .i64) (.pair (.int .i64) .unit)))]⟩]
def ann_jEscape : Ann := (.two .no (.two .no (.two .no (.two (.two .no (.one (.loop ⟨[0, 3, 4], ⟨[.c (.ptr 0 0), .c (.dat (.int .i64)), .c (.dat (.int .i64))], [(0, .cells 51 [.dat .str, .dat (.int .i64), .dat (.nd 200)]), (200, .pool 55 (.pair (.int .i64) (.pair (.int .i64) .unit)))]⟩⟩ .no))) .no))))
/-- what (turnstile/json.reader).escape comes to. -/
def jEscape (n : Nat) (x : (List Int) × Int × Int × List (Int × (Int × Unit))) : Option ((List Int) × (List Int) × Int × Int × List (Int × (Int × Unit))) :=
  match x with
  | (x1, (x2, (x3, x4))) =>
  (Option.bind (jPeek n (x1, (x2, (x3, x4)))) fun r5 =>
  (if (r5.1 == (117 : Int)) = true then
  (let u6 : Int := (IntKind.wrap .i64 (r5.2.2.1 + (1 : Int)))
  (Option.bind (jUnicode n (r5.2.1, (u6, (r5.2.2.2.1, r5.2.2.2.2)))) fun r7 =>
  some (r7.1, (r7.2.1, (r7.2.2.1, (r7.2.2.2.1, r7.2.2.2.2))))))
  else
  (loopF (X := Int × Int × (List Int) × Int × Int × List (Int × (Int × Unit))) (A := (List Int) × (List Int) × Int × Int × List (Int × (Int × Unit))) (fun rec8 y9 => match y9 with
  | (a10, (a11, (a12, (a13, (a14, a15))))) =>
  (if (decide (a11 < (16 : Int))) = true then
  (Option.bind (idx ([(34 : Int), (34 : Int), (92 : Int), (92 : Int), (47 : Int), (47 : Int), (98 : Int), (8 : Int), (102 : Int), (12 : Int), (110 : Int), (10 : Int), (114 : Int), (13 : Int), (116 : Int), (9 : Int)] : List Int) a11) fun v16 =>
  (if ((IntKind.wrap .i64 v16) == a10) = true then
  (let u17 : Int := (IntKind.wrap .i64 (a13 + (1 : Int)))
  (let u18 : Int := (IntKind.wrap .i64 (a11 + (1 : Int)))
  (let u19 : Int := (IntKind.wrap .i64 (a11 + (2 : Int)))
  (if 0 ≤ u18 ∧ u18 ≤ u19 ∧ u19 ≤ (16 : Int) then
  (let u20 : List Int := ((([(34 : Int), (34 : Int), (92 : Int), (92 : Int), (47 : Int), (47 : Int), (98 : Int), (8 : Int), (102 : Int), (12 : Int), (110 : Int), (10 : Int), (114 : Int), (13 : Int), (116 : Int), (9 : Int)] : List Int).drop u18.toNat).take (u19.toNat - u18.toNat))
  some (u20, (a12, (u17, (a14, a15)))))
  else none))))
  else
  (let u21 : Int := (IntKind.wrap .i64 (a11 + (2 : Int)))
  rec8 (a10, (u21, (a12, (a13, (a14, a15))))))))
  else
  (Option.bind (jFails n (a13, ((3 : Int), (a12, (a13, (a14, a15)))))) fun r22 =>
  some (([] : List Int), (r22.1, (r22.2.1, (r22.2.2.1, r22.2.2.2))))))) n (r5.1, ((0 : Int), (r5.2.1, (r5.2.2.1, (r5.2.2.2.1, r5.2.2.2.2))))))))
def sp_jEscape (n : Nat) : Spec := ⟨pre_jEscape, post_jEscape, jEscape n⟩
def env_jEscape (n : Nat) : List (FuncId × Spec) := [(27, sp_jPeek n), (49, sp_jUnicode n), (17, sp_jFails n)]
theorem run_jEscape (n : Nat) (x : pre_jEscape.T) : fnRun Tryd.prog 46 (envG (env_jEscape n) [] (fun _ => none)) n Tryd.f39 ann_jEscape pre_jEscape post_jEscape x = jEscape n x := by kernel_rfl
theorem ok_jEscape (n : Nat) : FnOK Tryd.prog 46 LS 39 (sp_jEscape n) :=
  fn_run mixed Tryd.func39 (sp_jEscape n) n ann_jEscape (env_jEscape n) (envOf_cons (ok_jPeek n) (envOf_cons (ok_jUnicode n) (envOf_cons (ok_jFails n) envOf_nil))) [] (fun _ => none) gl_none (run_jEscape n) (by kernel_rfl)
def pre_integer : Shape := ⟨[.c (.dat .str)], []⟩
def post_integer : List Shape := [⟨[.c (.dat (.int .i64)), .c (.dat .bool)], []⟩]
def ann_integer : Ann := (.two .no (.two .no (.two .no (.two (.two .no (.one (.loop ⟨[4, 5, 13, 14, 15], ⟨[.c (.dat .bool), .c (.dat (.int .i64)), .c (.own 500), .c (.dat (.int .i64)), .c (.dat (.int .i64))], [(500, .row 5 (.int .u8))]⟩⟩ .no))) .no))))
/-- what turnstile/json.integer comes to. -/
def integer (n : Nat) (x : List Int) : Option (Int × Bool) :=
  (Option.bind (hasPrefix n (x, ([(45 : Int)] : List Int))) fun r2 =>
  (Option.bind (trimPrefix n (x, ([(45 : Int)] : List Int))) fun r3 =>
  (loopF (X := Bool × Int × Int × Int × List Int) (A := Int × Bool) (fun rec4 y5 => match y5 with
  | (a6, (a7, (a8, (a9, a10)))) =>
  (if (decide (a9 < a8)) = true then
  (if 0 ≤ a9 ∧ a9 < (a10.length : Int) then
  (let u11 : Int := (IntKind.wrap .u8 ((a10.getD a9.toNat (0 : Int)) - (48 : Int)))
  (let u12 : Int := (IntKind.wrap .i64 ((-9223372036854775808 : Int) + (IntKind.wrap .i64 u11)))
  (let u13 : Int := (IntKind.wrap .i64 (Int.tdiv u12 (10 : Int)))
  (if (decide (a7 < u13)) = true then
  some ((0 : Int), false)
  else
  (let u14 : Int := (IntKind.wrap .i64 ((10 : Int) * a7))
  (let u15 : Int := (IntKind.wrap .i64 (u14 - (IntKind.wrap .i64 u11)))
  rec4 (a6, (u15, (a8, ((IntKind.wrap .i64 (a9 + (1 : Int))), a10))))))))))
  else none)
  else
  (if a6 = true then
  some (a7, true)
  else
  (if (a7 == (-9223372036854775808 : Int)) = true then
  some ((0 : Int), false)
  else
  some ((IntKind.wrap .i64 (0 - a7)), true))))) n (r2, ((0 : Int), ((r3.length : Int), ((0 : Int), r3)))))))
def sp_integer (n : Nat) : Spec := ⟨pre_integer, post_integer, integer n⟩
def env_integer (n : Nat) : List (FuncId × Spec) := [(54, sp_hasPrefix n), (55, sp_trimPrefix n)]
theorem run_integer (n : Nat) (x : pre_integer.T) : fnRun Tryd.prog 46 (envG (env_integer n) [] (fun _ => none)) n Tryd.f51 ann_integer pre_integer post_integer x = integer n x := by kernel_rfl
theorem ok_integer (n : Nat) : FnOK Tryd.prog 46 LS 51 (sp_integer n) :=
  fn_run mixed Tryd.func51 (sp_integer n) n ann_integer (env_integer n) (envOf_cons (ok_hasPrefix n) (envOf_cons (ok_trimPrefix n) envOf_nil)) [] (fun _ => none) gl_none (run_integer n) (by kernel_rfl)
def ann_jWritten : Ann := (.two .no (.two .no (.two .no (.two .no (.one (.two .no (.two .no (.two .no (.two .no (.two .no (.two .no (.two .no (.two .no (.two .no (.two (.join ⟨[2, 3, 4, 5], ⟨[.c (.ptr 500 0), .c (.ptr 502 0), .c (.clo 23 [some 500]), .c (.dat .str)], [(500, .cells 41 [.ptr 0 0]), (0, .cells 43 [.slf 0, .own 501]), (501, .row 5 (.int .u8)), (502, .cells 25 [.dat (.int .i64), .dat .bool, .dat .str, .dat (.int .i64), .dat .bool, .dat (.list .js), .dat (.list .str)])]⟩⟩ .no) (.two .no (.two (.two .no (.one (.loop ⟨[2, 3, 4, 5, 22, 23, 24], ⟨[.c (.ptr 500 0), .c (.ptr 502 0), .c (.clo 23 [some 500]), .c (.dat .str), .c (.dat (.list .js)), .c (.dat (.int .i64)), .c (.dat (.int .i64))], [(500, .cells 41 [.ptr 0 0]), (0, .cells 43 [.slf 0, .own 501]), (501, .row 5 (.int .u8)), (502, .cells 25 [.dat (.int .i64), .dat .bool, .dat .str, .dat (.int .i64), .dat .bool, .dat (.list .js), .dat (.list .str)])]⟩⟩ (.two .no (.two .no (.two (.one (.two .no (.two (.join ⟨[2, 3, 4, 5, 6, 7, 22, 23, 24], ⟨[.c (.ptr 500 0), .c (.ptr 502 0), .c (.clo 23 [some 500]), .c (.dat .str), .c (.dat (.int .i64)), .c (.ptr 503 0), .c (.dat (.list .js)), .c (.dat (.int .i64)), .c (.dat (.int .i64))], [(500, .cells 41 [.ptr 0 0]), (0, .cells 43 [.slf 0, .own 501]), (501, .row 5 (.int .u8)), (502, .cells 25 [.dat (.int .i64), .dat .bool, .dat .str, .dat (.int .i64), .dat .bool, .dat (.list .js), .dat (.list .str)]), (503, .cells 25 [.dat (.int .i64), .dat .bool, .dat .str, .dat (.int .i64), .dat .bool, .dat (.list .js), .dat (.list .str)])]⟩⟩ .no) .no))) .no)))))) .no)))))))))))))))))
/-- what turnstile/json.written comes to. -/
def jWrittenStep (n : Nat) (s_jWritten : (Int × Bool × (List Int) × Int × Bool × (List JV) × (List (List Int)) × List Int) → Option (List Int)) (x : Int × Bool × (List Int) × Int × Bool × (List JV) × (List (List Int)) × List Int) : Option (List Int) :=
  match x with
  | (x1, (x2, (x3, (x4, (x5, (x6, (x7, x8))))))) =>
  (Option.bind (bldLen n x8) fun r9 =>
  (if (decide (r9.1 > (1048576 : Int))) = true then
  some r9.2
  else
  (if (x1 == (1 : Int)) = true then
  (Option.bind (bldStr n (([(110 : Int), (117 : Int), (108 : Int), (108 : Int)] : List Int), r9.2)) fun r10 =>
  some r10.2)
  else
  (if (x1 == (2 : Int)) = true then
  (if x2 = true then
  (Option.bind (bldStr n (([(116 : Int), (114 : Int), (117 : Int), (101 : Int)] : List Int), r9.2)) fun r11 =>
  some r11.2)
  else
  (Option.bind (bldStr n (([(102 : Int), (97 : Int), (108 : Int), (115 : Int), (101 : Int)] : List Int), r9.2)) fun r12 =>
  some r12.2))
  else
  (if (x1 == (3 : Int)) = true then
  (Option.bind (bldStr n (x3, r9.2)) fun r13 =>
  some r13.2)
  else
  (if (x1 == (4 : Int)) = true then
  (Option.bind (jQuoteTo n (x3, r9.2)) fun r14 =>
  some r14)
  else
  (Option.bind (α := Out ((List Int) × (List Int) × Int × Bool × (List Int) × Int × Bool × (List JV) × List (List Int)) (List Int)) ((if (x1 == (6 : Int)) = true then
  (some (Out.go (([(123 : Int), (125 : Int)] : List Int), (r9.2, (x1, (x2, (x3, (x4, (x5, (x6, x7))))))))))
  else
  (some (Out.go (([(91 : Int), (93 : Int)] : List Int), (r9.2, (x1, (x2, (x3, (x4, (x5, (x6, x7)))))))))))) fun o => match o with
  | .go (z16, (z17, (z18, (z19, (z20, (z21, (z22, (z23, z24)))))))) =>
  (Option.bind (idx z16 (0 : Int)) fun v25 =>
  (Option.bind (bldByte n (v25, z17)) fun r26 =>
  (loopF (X := (List Int) × (List JV) × Int × Int × (List Int) × Int × Bool × (List Int) × Int × Bool × (List JV) × List (List Int)) (A := List Int) (fun rec27 y28 => match y28 with
  | (a29, (a30, (a31, (a32, (a33, (a34, (a35, (a36, (a37, (a38, (a39, a40))))))))))) =>
  (if (decide (a32 < a31)) = true then
  (Option.bind (idx a30 a32) fun v41 =>
  (Option.bind (α := Out ((List Int) × Int × (List JV) × Int × Int × (List Int) × Int × Bool × (List Int) × Int × Bool × (List JV) × (List (List Int)) × Int × Bool × (List Int) × Int × Bool × (List JV) × List (List Int)) (List Int)) ((if (decide (a32 > (0 : Int))) = true then
  (Option.bind (bldByte n ((44 : Int), a33)) fun r42 =>
  (some (Out.go (a29, (a32, (a30, (a31, (a32, (r42, (a34, (a35, (a36, (a37, (a38, (a39, (a40, (v41.kind, (v41.b, (v41.text, (v41.n, (v41.whole, (v41.list, v41.names))))))))))))))))))))))
  else
  (some (Out.go (a29, (a32, (a30, (a31, (a32, (a33, (a34, (a35, (a36, (a37, (a38, (a39, (a40, (v41.kind, (v41.b, (v41.text, (v41.n, (v41.whole, (v41.list, v41.names))))))))))))))))))))))) fun o => match o with
  | .go (z44, (z45, (z46, (z47, (z48, (z49, (z50, (z51, (z52, (z53, (z54, (z55, (z56, (z57, (z58, (z59, (z60, (z61, (z62, z63))))))))))))))))))) =>
  (if (z50 == (6 : Int)) = true then
  (Option.bind (idx z56 z45) fun v64 =>
  (Option.bind (jQuoteTo n (v64, z49)) fun r65 =>
  (Option.bind (bldByte n ((58 : Int), r65)) fun r66 =>
  (Option.bind (s_jWritten (z57, (z58, (z59, (z60, (z61, (z62, (z63, r66)))))))) fun r67 =>
  (let u68 : Int := (IntKind.wrap .i64 (z48 + (1 : Int)))
  rec27 (z44, (z46, (z47, (u68, (r67, (z50, (z51, (z52, (z53, (z54, (z55, z56))))))))))))))))
  else
  (Option.bind (s_jWritten (z57, (z58, (z59, (z60, (z61, (z62, (z63, z49)))))))) fun r69 =>
  (let u70 : Int := (IntKind.wrap .i64 (z48 + (1 : Int)))
  rec27 (z44, (z46, (z47, (u70, (r69, (z50, (z51, (z52, (z53, (z54, (z55, z56))))))))))))))
  | .ret r71 => some r71))
  else
  (Option.bind (idx a29 (1 : Int)) fun v72 =>
  (Option.bind (bldByte n (v72, a33)) fun r73 =>
  some r73)))) n (z16, (z23, ((z23.length : Int), ((0 : Int), (r26, (z18, (z19, (z20, (z21, (z22, (z23, z24))))))))))))))
  | .ret r74 => some r74)))))))
def sp_jWrittenStep (n : Nat) (s_jWritten : (Int × Bool × (List Int) × Int × Bool × (List JV) × (List (List Int)) × List Int) → Option (List Int)) : Spec := ⟨pre_jWritten, post_jWritten, jWrittenStep n s_jWritten⟩
def env_jWrittenStep (n : Nat) (s_jWritten : (Int × Bool × (List Int) × Int × Bool × (List JV) × (List (List Int)) × List Int) → Option (List Int)) : List (FuncId × Spec) := [(13, sp_bldLen n), (25, sp_bldStr n), (26, sp_bldByte n), (12, ⟨pre_jWritten, post_jWritten, s_jWritten⟩), (23, sp_jQuoteTo n)]
theorem run_jWrittenStep (n : Nat) (s_jWritten : (Int × Bool × (List Int) × Int × Bool × (List JV) × (List (List Int)) × List Int) → Option (List Int)) (x : pre_jWritten.T) : fnRun Tryd.prog 46 (envG (env_jWrittenStep n s_jWritten) [] (fun _ => none)) n Tryd.f12 ann_jWritten pre_jWritten post_jWritten x = jWrittenStep n s_jWritten x := by kernel_rfl
theorem ok_jWrittenStep (n : Nat) (s_jWritten : (Int × Bool × (List Int) × Int × Bool × (List JV) × (List (List Int)) × List Int) → Option (List Int)) (h_jWritten : FnOK Tryd.prog 46 LS 12 ⟨pre_jWritten, post_jWritten, s_jWritten⟩) : FnOK Tryd.prog 46 LS 12 (sp_jWrittenStep n s_jWritten) :=
  fn_run mixed Tryd.func12 (sp_jWrittenStep n s_jWritten) n ann_jWritten (env_jWrittenStep n s_jWritten) (envOf_cons (ok_bldLen n) (envOf_cons (ok_bldStr n) (envOf_cons (ok_bldByte n) (envOf_cons (h_jWritten) (envOf_cons (ok_jQuoteTo n) envOf_nil))))) [] (fun _ => none) gl_none (run_jWrittenStep n s_jWritten) (by kernel_rfl)
def jWritten (n : Nat) (x : Int × Bool × (List Int) × Int × Bool × (List JV) × (List (List Int)) × List Int) : Option (List Int) := loopF (X := Int × Bool × (List Int) × Int × Bool × (List JV) × (List (List Int)) × List Int) (A := List Int) (jWrittenStep n) n x
def sp_jWritten (n : Nat) : Spec := ⟨pre_jWritten, post_jWritten, jWritten n⟩
theorem ok_jWritten (n : Nat) : FnOK Tryd.prog 46 LS 12 (sp_jWritten n) := rec_ok (pre := pre_jWritten) (post := post_jWritten) ⟨_, Tryd.func12, by kernel_rfl, by kernel_rfl⟩ (jWrittenStep n) (fun s h => ok_jWrittenStep n s h) n
def pre_jText : Shape := ⟨[.c (.ptr 0 0)], [(0, .cells 51 [.dat .str, .dat (.int .i64), .dat (.nd 200)]), (200, .pool 55 (.pair (.int .i64) (.pair (.int .i64) .unit)))]⟩
def post_jText : List Shape := [⟨[.c (.dat .str)], [(0, .cells 51 [.dat .str, .dat (.int .i64), .dat (.nd 200)]), (200, .pool 55 (.pair (.int .i64) (.pair (.int .i64) .unit)))]⟩]
def ann_jText : Ann := (.two .no (.two .no (.two .no (.two (.one (.loop ⟨[0, 3], ⟨[.c (.ptr 0 0), .c (.own 500)], [(0, .cells 51 [.dat .str, .dat (.int .i64), .dat (.nd 200)]), (200, .pool 55 (.pair (.int .i64) (.pair (.int .i64) .unit))), (500, .row 5 (.int .u8))]⟩⟩ .no)) .no))))
/-- what (turnstile/json.reader).text comes to. -/
def jText (n : Nat) (x : (List Int) × Int × Int × List (Int × (Int × Unit))) : Option ((List Int) × (List Int) × Int × Int × List (Int × (Int × Unit))) :=
  match x with
  | (x1, (x2, (x3, x4))) =>
  (loopF (X := (List Int) × Int × Int × (List (Int × (Int × Unit))) × List Int) (A := (List Int) × (List Int) × Int × Int × List (Int × (Int × Unit))) (fun rec5 y6 => match y6 with
  | (a7, (a8, (a9, (a10, a11)))) =>
  (if (decide (a9 < 0)) = true then
  (Option.bind (jPeek n (a7, (a8, (a9, a10)))) fun r12 =>
  (if (decide (r12.1 < (0 : Int))) = true then
  (Option.bind (jFails n (r12.2.2.1, ((3 : Int), (r12.2.1, (r12.2.2.1, (r12.2.2.2.1, r12.2.2.2.2)))))) fun r13 =>
  rec5 (r13.1, (r13.2.1, (r13.2.2.1, (r13.2.2.2, a11)))))
  else
  (if (r12.1 == (34 : Int)) = true then
  (let u14 : Int := (IntKind.wrap .i64 (r12.2.2.1 + (1 : Int)))
  some (a11, (r12.2.1, (u14, (r12.2.2.2.1, r12.2.2.2.2)))))
  else
  (if (r12.1 == (92 : Int)) = true then
  (let u15 : Int := (IntKind.wrap .i64 (r12.2.2.1 + (1 : Int)))
  (Option.bind (jEscape n (r12.2.1, (u15, (r12.2.2.2.1, r12.2.2.2.2)))) fun r16 =>
  (if (a11.length + r16.1.length) * 1 ≤ 140737488355328 then
  rec5 (r16.2.1, (r16.2.2.1, (r16.2.2.2.1, (r16.2.2.2.2, (a11 ++ r16.1)))))
  else none)))
  else
  (if (decide (r12.1 < (32 : Int))) = true then
  (Option.bind (jFails n (r12.2.2.1, ((3 : Int), (r12.2.1, (r12.2.2.1, (r12.2.2.2.1, r12.2.2.2.2)))))) fun r17 =>
  rec5 (r17.1, (r17.2.1, (r17.2.2.1, (r17.2.2.2, a11)))))
  else
  (if (decide (r12.1 < (128 : Int))) = true then
  (if (a11.length + 1) * 1 ≤ 140737488355328 then
  (let u18 : List Int := (a11 ++ ([(IntKind.wrap .u8 r12.1)] : List Int))
  (let u19 : Int := (IntKind.wrap .i64 (r12.2.2.1 + (1 : Int)))
  rec5 (r12.2.1, (u19, (r12.2.2.2.1, (r12.2.2.2.2, u18))))))
  else none)
  else
  (Option.bind (jRune n (r12.2.1, (r12.2.2.1, (r12.2.2.2.1, r12.2.2.2.2)))) fun r20 =>
  (if (a11.length + r20.1.length) * 1 ≤ 140737488355328 then
  rec5 (r20.2.1, (r20.2.2.1, (r20.2.2.2.1, (r20.2.2.2.2, (a11 ++ r20.1)))))
  else none))))))))
  else
  some (([] : List Int), (a7, (a8, (a9, a10)))))) n (x1, ((IntKind.wrap .i64 (x2 + (1 : Int))), (x3, (x4, ([] : List Int))))))
def sp_jText (n : Nat) : Spec := ⟨pre_jText, post_jText, jText n⟩
def env_jText (n : Nat) : List (FuncId × Spec) := [(27, sp_jPeek n), (17, sp_jFails n), (39, sp_jEscape n), (40, sp_jRune n)]
theorem run_jText (n : Nat) (x : pre_jText.T) : fnRun Tryd.prog 46 (envG (env_jText n) [] (fun _ => none)) n Tryd.f29 ann_jText pre_jText post_jText x = jText n x := by kernel_rfl
theorem ok_jText (n : Nat) : FnOK Tryd.prog 46 LS 29 (sp_jText n) :=
  fn_run mixed Tryd.func29 (sp_jText n) n ann_jText (env_jText n) (envOf_cons (ok_jPeek n) (envOf_cons (ok_jFails n) (envOf_cons (ok_jEscape n) (envOf_cons (ok_jRune n) envOf_nil)))) [] (fun _ => none) gl_none (run_jText n) (by kernel_rfl)
def pre_jObject : Shape := ⟨[.c (.ptr 0 0), .c (.dat (.int .i64))], [(0, .cells 51 [.dat .str, .dat (.int .i64), .dat (.nd 200)]), (200, .pool 55 (.pair (.int .i64) (.pair (.int .i64) .unit)))]⟩
def post_jObject : List Shape := [⟨[.a [.dat (.int .i64), .dat .bool, .dat .str, .dat (.int .i64), .dat .bool, .dat (.list .js), .dat (.list .str)]], [(0, .cells 51 [.dat .str, .dat (.int .i64), .dat (.nd 200)]), (200, .pool 55 (.pair (.int .i64) (.pair (.int .i64) .unit)))]⟩]
def ann_jObject : Ann := (.two .no (.two .no (.two .no (.two .no (.one (.loop ⟨[0, 1, 4, 5, 6], ⟨[.c (.ptr 0 0), .c (.dat (.int .i64)), .c (.ptr 500 0), .c (.ptr 501 0), .c (.own 502)], [(0, .cells 51 [.dat .str, .dat (.int .i64), .dat (.nd 200)]), (500, .cells 25 [.dat (.int .i64), .dat .bool, .dat .str, .dat (.int .i64), .dat .bool, .own 503, .own 504]), (501, .cells 25 [.dat (.int .i64), .dat .bool, .dat .str, .dat (.int .i64), .dat .bool, .own 505, .own 506]), (502, .mp .str .bool), (200, .pool 55 (.pair (.int .i64) (.pair (.int .i64) .unit))), (503, .row 25 .js), (504, .row 9 .str), (505, .row 25 .js), (506, .row 9 .str)]⟩⟩ (.one (.two .no (.two .no (.two .no (.two .no (.two (.join ⟨[0, 1, 4, 5, 6, 8], ⟨[.c (.ptr 0 0), .c (.dat (.int .i64)), .c (.ptr 500 0), .c (.ptr 503 0), .c (.own 506), .c (.dat .str)], [(0, .cells 51 [.dat .str, .dat (.int .i64), .dat (.nd 200)]), (500, .cells 25 [.dat (.int .i64), .dat .bool, .dat .str, .dat (.int .i64), .dat .bool, .own 501, .own 502]), (501, .row 25 .js), (502, .row 9 .str), (503, .cells 25 [.dat (.int .i64), .dat .bool, .dat .str, .dat (.int .i64), .dat .bool, .own 504, .own 505]), (504, .row 25 .js), (505, .row 9 .str), (506, .mp .str .bool), (200, .pool 55 (.pair (.int .i64) (.pair (.int .i64) .unit)))]⟩⟩ (.two (.join ⟨[0, 1, 4, 5, 6, 7, 8, 41], ⟨[.c (.ptr 0 0), .c (.dat (.int .i64)), .c (.ptr 500 0), .c (.ptr 503 0), .c (.own 506), .c (.dat (.int .i64)), .c (.dat .str), .c (.dat .bool)], [(0, .cells 51 [.dat .str, .dat (.int .i64), .dat (.nd 200)]), (500, .cells 25 [.dat (.int .i64), .dat .bool, .dat .str, .dat (.int .i64), .dat .bool, .own 501, .own 502]), (501, .row 25 .js), (502, .row 9 .str), (503, .cells 25 [.dat (.int .i64), .dat .bool, .dat .str, .dat (.int .i64), .dat .bool, .own 504, .own 505]), (504, .row 25 .js), (505, .row 9 .str), (506, .mp .str .bool), (200, .pool 55 (.pair (.int .i64) (.pair (.int .i64) .unit)))]⟩⟩ .no) .no)) .no))))))))))))
/-- what (turnstile/json.reader).object comes to. -/
def jObject (n : Nat) (s_jValue : (Int × (List Int) × Int × Int × List (Int × (Int × Unit))) → Option (Int × Bool × (List Int) × Int × Bool × (List JV) × (List (List Int)) × (List Int) × Int × Int × List (Int × (Int × Unit)))) (x : Int × (List Int) × Int × Int × List (Int × (Int × Unit))) : Option (Int × Bool × (List Int) × Int × Bool × (List JV) × (List (List Int)) × (List Int) × Int × Int × List (Int × (Int × Unit))) :=
  match x with
  | (x1, (x2, (x3, (x4, x5)))) =>
  (Option.bind (jEmpty n ((125 : Int), (x2, (x3, (x4, x5))))) fun r6 =>
  (if r6.1 = true then
  some ((6 : Int), (false, (([] : List Int), ((0 : Int), (false, (([] : List JV), (([] : List (List Int)), (r6.2.1, (r6.2.2.1, (r6.2.2.2.1, r6.2.2.2.2))))))))))
  else
  (loopF (X := Int × (List Int) × Int × Int × Int × Bool × (List Int) × Int × Bool × Int × Bool × (List Int) × Int × Bool × (List (List Int × Bool)) × (List (Int × (Int × Unit))) × (List JV) × (List (List Int)) × (List JV) × List (List Int)) (A := Int × Bool × (List Int) × Int × Bool × (List JV) × (List (List Int)) × (List Int) × Int × Int × List (Int × (Int × Unit))) (fun rec7 y8 => match y8 with
  | (a9, (a10, (a11, (a12, (a13, (a14, (a15, (a16, (a17, (a18, (a19, (a20, (a21, (a22, (a23, (a24, (a25, (a26, (a27, a28))))))))))))))))))) =>
  (Option.bind (jBlanks n (a10, (a11, (a12, a24)))) fun r29 =>
  (Option.bind (jPeek n (r29.1, (r29.2.1, (r29.2.2.1, r29.2.2.2)))) fun r30 =>
  (if (r30.1 != (34 : Int)) = true then
  (Option.bind (jFails n (r30.2.2.1, ((3 : Int), (r30.2.1, (r30.2.2.1, (r30.2.2.2.1, r30.2.2.2.2)))))) fun r31 =>
  some (a18, (a19, (a20, (a21, (a22, (a27, (a28, (r31.1, (r31.2.1, (r31.2.2.1, r31.2.2.2)))))))))))
  else
  (Option.bind (jText n (r30.2.1, (r30.2.2.1, (r30.2.2.2.1, r30.2.2.2.2)))) fun r32 =>
  (Option.bind (α := Out (Int × (List Int) × (List Int) × Int × Int × Int × Bool × (List Int) × Int × Bool × (List JV) × (List (List Int)) × Int × Bool × (List Int) × Int × Bool × (List JV) × (List (List Int)) × (List (List Int × Bool)) × List (Int × (Int × Unit))) (Int × Bool × (List Int) × Int × Bool × (List JV) × (List (List Int)) × (List Int) × Int × Int × List (Int × (Int × Unit)))) ((Option.bind (α := Out (Int × Int × (List Int) × Bool × (List Int) × Int × Int × Int × Bool × (List Int) × Int × Bool × (List JV) × (List (List Int)) × Int × Bool × (List Int) × Int × Bool × (List JV) × (List (List Int)) × (List (List Int × Bool)) × List (Int × (Int × Unit))) (Out (Int × (List Int) × (List Int) × Int × Int × Int × Bool × (List Int) × Int × Bool × (List JV) × (List (List Int)) × Int × Bool × (List Int) × Int × Bool × (List JV) × (List (List Int)) × (List (List Int × Bool)) × List (Int × (Int × Unit))) (Int × Bool × (List Int) × Int × Bool × (List JV) × (List (List Int)) × (List Int) × Int × Int × List (Int × (Int × Unit))))) ((if (decide (r32.2.2.2.1 < 0)) = true then
  (some (Out.go (a9, (r29.2.1, (r32.1, ((Option.getD (mget (K.eqb .str) r32.1 a23) false), (r32.2.1, (r32.2.2.1, (r32.2.2.2.1, (a13, (a14, (a15, (a16, (a17, (a25, (a26, (a18, (a19, (a20, (a21, (a22, (a27, (a28, (a23, r32.2.2.2.2))))))))))))))))))))))))
  else
  (some (Out.go (a9, (r29.2.1, (r32.1, (false, (r32.2.1, (r32.2.2.1, (r32.2.2.2.1, (a13, (a14, (a15, (a16, (a17, (a25, (a26, (a18, (a19, (a20, (a21, (a22, (a27, (a28, (a23, r32.2.2.2.2)))))))))))))))))))))))))) fun o => match o with
  | .go (z34, (z35, (z36, (z37, (z38, (z39, (z40, (z41, (z42, (z43, (z44, (z45, (z46, (z47, (z48, (z49, (z50, (z51, (z52, (z53, (z54, (z55, z56)))))))))))))))))))))) =>
  (if z37 = true then
  (Option.bind (jFails n (z35, ((6 : Int), (z38, (z39, (z40, z56)))))) fun r57 =>
  (some (Out.go (z34, (z36, (r57.1, (r57.2.1, (r57.2.2.1, (z41, (z42, (z43, (z44, (z45, (z46, (z47, (z48, (z49, (z50, (z51, (z52, (z53, (z54, (z55, r57.2.2.2)))))))))))))))))))))))
  else
  (some (Out.go (z34, (z36, (z38, (z39, (z40, (z41, (z42, (z43, (z44, (z45, (z46, (z47, (z48, (z49, (z50, (z51, (z52, (z53, (z54, (z55, z56)))))))))))))))))))))))
  | .ret r58 => some r58)) fun o => match o with
  | .go (z60, (z61, (z62, (z63, (z64, (z65, (z66, (z67, (z68, (z69, (z70, (z71, (z72, (z73, (z74, (z75, (z76, (z77, (z78, (z79, z80)))))))))))))))))))) =>
  (Option.bind (jBlanks n (z62, (z63, (z64, z80)))) fun r81 =>
  (Option.bind (jWord n (([(58 : Int)] : List Int), (r81.1, (r81.2.1, (r81.2.2.1, r81.2.2.2))))) fun r82 =>
  (if (z78.length + 1) * 16 ≤ 140737488355328 then
  (let u83 : Int := (IntKind.wrap .i64 (z60 + (1 : Int)))
  (Option.bind (s_jValue (u83, (r82.1, (r82.2.1, (r82.2.2.1, r82.2.2.2))))) fun r84 =>
  (if (z77.length + 1) * 96 ≤ 140737488355328 then
  (let u85 : List JV := (z77 ++ ([(JV.mk r84.1 r84.2.1 r84.2.2.1 r84.2.2.2.1 r84.2.2.2.2.1 r84.2.2.2.2.2.1 r84.2.2.2.2.2.2.1)] : List JV))
  (if (!(decide (r84.2.2.2.2.2.2.2.2.2.1 < 0))) = true then
  some (z72, (z73, (z74, (z75, (z76, (u85, ((z78 ++ ([z61] : List (List Int))), (r84.2.2.2.2.2.2.2.1, (r84.2.2.2.2.2.2.2.2.1, (r84.2.2.2.2.2.2.2.2.2.1, r84.2.2.2.2.2.2.2.2.2.2))))))))))
  else
  (Option.bind (jNext n ((125 : Int), (r84.2.2.2.2.2.2.2.1, (r84.2.2.2.2.2.2.2.2.1, (r84.2.2.2.2.2.2.2.2.2.1, r84.2.2.2.2.2.2.2.2.2.2))))) fun r86 =>
  (if (!r86.1) = true then
  some (z72, (z73, (z74, (z75, (z76, (u85, ((z78 ++ ([z61] : List (List Int))), (r86.2.1, (r86.2.2.1, (r86.2.2.2.1, r86.2.2.2.2))))))))))
  else
  rec7 (z60, (r86.2.1, (r86.2.2.1, (r86.2.2.2.1, (z65, (z66, (z67, (z68, (z69, (z72, (z73, (z74, (z75, (z76, ((mput (K.eqb .str) z61 true z79), (r86.2.2.2.2, (z70, (z71, (u85, (z78 ++ ([z61] : List (List Int))))))))))))))))))))))))))
  else none)))
  else none)))
  | .ret r87 => some r87)))))) n (x1, (r6.2.1, (r6.2.2.1, (r6.2.2.2.1, ((0 : Int), (false, (([] : List Int), ((0 : Int), (false, ((6 : Int), (false, (([] : List Int), ((0 : Int), (false, (([] : List (List Int × Bool)), (r6.2.2.2.2, (([] : List JV), (([] : List (List Int)), (([] : List JV), ([] : List (List Int))))))))))))))))))))))))
def sp_jObject (n : Nat) (s_jValue : (Int × (List Int) × Int × Int × List (Int × (Int × Unit))) → Option (Int × Bool × (List Int) × Int × Bool × (List JV) × (List (List Int)) × (List Int) × Int × Int × List (Int × (Int × Unit)))) : Spec := ⟨pre_jObject, post_jObject, jObject n s_jValue⟩
def env_jObject (n : Nat) (s_jValue : (Int × (List Int) × Int × Int × List (Int × (Int × Unit))) → Option (Int × Bool × (List Int) × Int × Bool × (List JV) × (List (List Int)) × (List Int) × Int × Int × List (Int × (Int × Unit)))) : List (FuncId × Spec) := [(41, sp_jEmpty n), (16, sp_jBlanks n), (27, sp_jPeek n), (17, sp_jFails n), (29, sp_jText n), (28, sp_jWord n), (15, ⟨pre_jValue, post_jValue, s_jValue⟩), (42, sp_jNext n)]
theorem run_jObject (n : Nat) (s_jValue : (Int × (List Int) × Int × Int × List (Int × (Int × Unit))) → Option (Int × Bool × (List Int) × Int × Bool × (List JV) × (List (List Int)) × (List Int) × Int × Int × List (Int × (Int × Unit)))) (x : pre_jObject.T) : fnRun Tryd.prog 46 (envG (env_jObject n s_jValue) [] (fun _ => none)) n Tryd.f31 ann_jObject pre_jObject post_jObject x = jObject n s_jValue x := by kernel_rfl
theorem ok_jObject (n : Nat) (s_jValue : (Int × (List Int) × Int × Int × List (Int × (Int × Unit))) → Option (Int × Bool × (List Int) × Int × Bool × (List JV) × (List (List Int)) × (List Int) × Int × Int × List (Int × (Int × Unit)))) (h_jValue : FnOK Tryd.prog 46 LS 15 ⟨pre_jValue, post_jValue, s_jValue⟩) : FnOK Tryd.prog 46 LS 31 (sp_jObject n s_jValue) :=
  fn_run mixed Tryd.func31 (sp_jObject n s_jValue) n ann_jObject (env_jObject n s_jValue) (envOf_cons (ok_jEmpty n) (envOf_cons (ok_jBlanks n) (envOf_cons (ok_jPeek n) (envOf_cons (ok_jFails n) (envOf_cons (ok_jText n) (envOf_cons (ok_jWord n) (envOf_cons (h_jValue) (envOf_cons (ok_jNext n) envOf_nil)))))))) [] (fun _ => none) gl_none (run_jObject n s_jValue) (by kernel_rfl)
def pre_numbered : Shape := ⟨[.c (.dat .str), .c (.dat .bool)], []⟩
def post_numbered : List Shape := [⟨[.a [.dat (.int .i64), .dat .bool, .dat .str, .dat (.int .i64), .dat .bool, .dat (.list .js), .dat (.list .str)]], []⟩]
def ann_numbered : Ann := .no
/-- what turnstile/json.numbered comes to. -/
def numbered (n : Nat) (x : (List Int) × Bool) : Option (Int × Bool × (List Int) × Int × Bool × (List JV) × List (List Int)) :=
  match x with
  | (x1, x2) =>
  (if x2 = true then
  (Option.bind (integer n x1) fun r3 =>
  some ((3 : Int), (false, (x1, (r3.1, (r3.2, (([] : List JV), ([] : List (List Int)))))))))
  else
  some ((3 : Int), (false, (x1, ((0 : Int), (false, (([] : List JV), ([] : List (List Int)))))))))
def sp_numbered (n : Nat) : Spec := ⟨pre_numbered, post_numbered, numbered n⟩
def env_numbered (n : Nat) : List (FuncId × Spec) := [(51, sp_integer n)]
theorem run_numbered (n : Nat) (x : pre_numbered.T) : fnRun Tryd.prog 46 (envG (env_numbered n) [] (fun _ => none)) n Tryd.f45 ann_numbered pre_numbered post_numbered x = numbered n x := by kernel_rfl
theorem ok_numbered (n : Nat) : FnOK Tryd.prog 46 LS 45 (sp_numbered n) :=
  fn_run mixed Tryd.func45 (sp_numbered n) n ann_numbered (env_numbered n) (envOf_cons (ok_integer n) envOf_nil) [] (fun _ => none) gl_none (run_numbered n) (by kernel_rfl)
def pre_jNumber : Shape := ⟨[.c (.ptr 0 0)], [(0, .cells 51 [.dat .str, .dat (.int .i64), .dat (.nd 200)]), (200, .pool 55 (.pair (.int .i64) (.pair (.int .i64) .unit)))]⟩
def post_jNumber : List Shape := [⟨[.a [.dat (.int .i64), .dat .bool, .dat .str, .dat (.int .i64), .dat .bool, .dat (.list .js), .dat (.list .str)]], [(0, .cells 51 [.dat .str, .dat (.int .i64), .dat (.nd 200)]), (200, .pool 55 (.pair (.int .i64) (.pair (.int .i64) .unit)))]⟩]
def ann_jNumber : Ann := (.two .no (.two .no (.two (.join ⟨[0, 2, 3], ⟨[.c (.ptr 0 0), .c (.ptr 500 0), .c (.dat (.int .i64))], [(0, .cells 51 [.dat .str, .dat (.int .i64), .dat (.nd 200)]), (500, .cells 25 [.dat (.int .i64), .dat .bool, .dat .str, .dat (.int .i64), .dat .bool, .own 501, .own 502]), (200, .pool 55 (.pair (.int .i64) (.pair (.int .i64) .unit))), (501, .row 25 .js), (502, .row 9 .str)]⟩⟩ .no) (.two (.join ⟨[0, 2, 3], ⟨[.c (.ptr 0 0), .c (.ptr 500 0), .c (.dat (.int .i64))], [(0, .cells 51 [.dat .str, .dat (.int .i64), .dat (.nd 200)]), (500, .cells 25 [.dat (.int .i64), .dat .bool, .dat .str, .dat (.int .i64), .dat .bool, .own 501, .own 502]), (200, .pool 55 (.pair (.int .i64) (.pair (.int .i64) .unit))), (501, .row 25 .js), (502, .row 9 .str)]⟩⟩ .no) (.two .no (.two (.join ⟨[0, 2, 3, 4], ⟨[.c (.ptr 0 0), .c (.ptr 500 0), .c (.dat (.int .i64)), .c (.dat .bool)], [(0, .cells 51 [.dat .str, .dat (.int .i64), .dat (.nd 200)]), (500, .cells 25 [.dat (.int .i64), .dat .bool, .dat .str, .dat (.int .i64), .dat .bool, .own 501, .own 502]), (200, .pool 55 (.pair (.int .i64) (.pair (.int .i64) .unit))), (501, .row 25 .js), (502, .row 9 .str)]⟩⟩ .no) (.two (.two .no (.two (.join ⟨[0, 2, 3, 4, 42], ⟨[.c (.ptr 0 0), .c (.ptr 500 0), .c (.dat (.int .i64)), .c (.dat .bool), .c (.dat .bool)], [(0, .cells 51 [.dat .str, .dat (.int .i64), .dat (.nd 200)]), (500, .cells 25 [.dat (.int .i64), .dat .bool, .dat .str, .dat (.int .i64), .dat .bool, .own 501, .own 502]), (200, .pool 55 (.pair (.int .i64) (.pair (.int .i64) .unit))), (501, .row 25 .js), (502, .row 9 .str)]⟩⟩ .no) (.two (.two .no (.two .no (.two (.join ⟨[0, 2, 3, 4], ⟨[.c (.ptr 0 0), .c (.ptr 500 0), .c (.dat (.int .i64)), .c (.dat .bool)], [(0, .cells 51 [.dat .str, .dat (.int .i64), .dat (.nd 200)]), (500, .cells 25 [.dat (.int .i64), .dat .bool, .dat .str, .dat (.int .i64), .dat .bool, .own 501, .own 502]), (501, .row 25 .js), (502, .row 9 .str), (200, .pool 55 (.pair (.int .i64) (.pair (.int .i64) .unit)))]⟩⟩ (.two .no (.two (.join ⟨[0, 2, 3, 4, 53], ⟨[.c (.ptr 0 0), .c (.ptr 500 0), .c (.dat (.int .i64)), .c (.dat .bool), .c (.dat .bool)], [(0, .cells 51 [.dat .str, .dat (.int .i64), .dat (.nd 200)]), (500, .cells 25 [.dat (.int .i64), .dat .bool, .dat .str, .dat (.int .i64), .dat .bool, .own 501, .own 502]), (200, .pool 55 (.pair (.int .i64) (.pair (.int .i64) .unit))), (501, .row 25 .js), (502, .row 9 .str)]⟩⟩ .no) .no))) .no))) .no))) .no)))))))
/-- what (turnstile/json.reader).number comes to. -/
def jNumber (n : Nat) (x : (List Int) × Int × Int × List (Int × (Int × Unit))) : Option (Int × Bool × (List Int) × Int × Bool × (List JV) × (List (List Int)) × (List Int) × Int × Int × List (Int × (Int × Unit))) :=
  match x with
  | (x1, (x2, (x3, x4))) =>
  (Option.bind (α := Out (Int × (List Int) × Int × Int × Int × Bool × (List Int) × Int × Bool × (List (Int × (Int × Unit))) × (List JV) × List (List Int)) (Int × Bool × (List Int) × Int × Bool × (List JV) × (List (List Int)) × (List Int) × Int × Int × List (Int × (Int × Unit)))) ((Option.bind (jPeek n (x1, (x2, (x3, x4)))) fun r5 =>
  (if (r5.1 == (45 : Int)) = true then
  (Option.bind (jStep n (x2, (r5.2.1, (r5.2.2.1, (r5.2.2.2.1, r5.2.2.2.2))))) fun r6 =>
  (some (Out.go (x2, (r6.1, (r6.2.1, (r6.2.2.1, ((0 : Int), (false, (([] : List Int), ((0 : Int), (false, (r6.2.2.2, (([] : List JV), ([] : List (List Int))))))))))))))))
  else
  (some (Out.go (x2, (r5.2.1, (r5.2.2.1, (r5.2.2.2.1, ((0 : Int), (false, (([] : List Int), ((0 : Int), (false, (r5.2.2.2.2, (([] : List JV), ([] : List (List Int)))))))))))))))))) fun o => match o with
  | .go (z8, (z9, (z10, (z11, (z12, (z13, (z14, (z15, (z16, (z17, (z18, z19))))))))))) =>
  (Option.bind (α := Out (Int × (List Int) × Int × Int × Int × Bool × (List Int) × Int × Bool × (List (Int × (Int × Unit))) × (List JV) × List (List Int)) (Int × Bool × (List Int) × Int × Bool × (List JV) × (List (List Int)) × (List Int) × Int × Int × List (Int × (Int × Unit)))) ((Option.bind (jPeek n (z9, (z10, (z11, z17)))) fun r20 =>
  (if (r20.1 == (48 : Int)) = true then
  (Option.bind (jStep n (z8, (r20.2.1, (r20.2.2.1, (r20.2.2.2.1, r20.2.2.2.2))))) fun r21 =>
  (some (Out.go (z8, (r21.1, (r21.2.1, (r21.2.2.1, (z12, (z13, (z14, (z15, (z16, (r21.2.2.2, (z18, z19))))))))))))))
  else
  (Option.bind (jDigits n (z8, (r20.2.1, (r20.2.2.1, (r20.2.2.2.1, r20.2.2.2.2))))) fun r22 =>
  (some (Out.go (z8, (r22.1, (r22.2.1, (r22.2.2.1, (z12, (z13, (z14, (z15, (z16, (r22.2.2.2, (z18, z19))))))))))))))))) fun o => match o with
  | .go (z24, (z25, (z26, (z27, (z28, (z29, (z30, (z31, (z32, (z33, (z34, z35))))))))))) =>
  (Option.bind (α := Out (Int × Bool × (List Int) × Int × Int × Int × Bool × (List Int) × Int × Bool × (List (Int × (Int × Unit))) × (List JV) × List (List Int)) (Int × Bool × (List Int) × Int × Bool × (List JV) × (List (List Int)) × (List Int) × Int × Int × List (Int × (Int × Unit)))) ((Option.bind (jPeek n (z25, (z26, (z27, z33)))) fun r36 =>
  (if (r36.1 == (46 : Int)) = true then
  (Option.bind (jStep n (z24, (r36.2.1, (r36.2.2.1, (r36.2.2.2.1, r36.2.2.2.2))))) fun r37 =>
  (Option.bind (jDigits n (z24, (r37.1, (r37.2.1, (r37.2.2.1, r37.2.2.2))))) fun r38 =>
  (some (Out.go (z24, (false, (r38.1, (r38.2.1, (r38.2.2.1, (z28, (z29, (z30, (z31, (z32, (r38.2.2.2, (z34, z35))))))))))))))))
  else
  (some (Out.go (z24, (true, (r36.2.1, (r36.2.2.1, (r36.2.2.2.1, (z28, (z29, (z30, (z31, (z32, (r36.2.2.2.2, (z34, z35))))))))))))))))) fun o => match o with
  | .go (z40, (z41, (z42, (z43, (z44, (z45, (z46, (z47, (z48, (z49, (z50, (z51, z52)))))))))))) =>
  (Option.bind (jPeek n (z42, (z43, (z44, z50)))) fun r53 =>
  (Option.bind (α := Out (Int × Bool × Bool × (List Int) × Int × Int × Int × Bool × (List Int) × Int × Bool × (List (Int × (Int × Unit))) × (List JV) × List (List Int)) (Int × Bool × (List Int) × Int × Bool × (List JV) × (List (List Int)) × (List Int) × Int × Int × List (Int × (Int × Unit)))) ((if (r53.1 == (101 : Int)) = true then
  (some (Out.go (z40, (z41, (true, (r53.2.1, (r53.2.2.1, (r53.2.2.2.1, (z45, (z46, (z47, (z48, (z49, (r53.2.2.2.2, (z51, z52)))))))))))))))
  else
  (some (Out.go (z40, (z41, ((r53.1 == (69 : Int)), (r53.2.1, (r53.2.2.1, (r53.2.2.2.1, (z45, (z46, (z47, (z48, (z49, (r53.2.2.2.2, (z51, z52))))))))))))))))) fun o => match o with
  | .go (z55, (z56, (z57, (z58, (z59, (z60, (z61, (z62, (z63, (z64, (z65, (z66, (z67, z68))))))))))))) =>
  (if z57 = true then
  (Option.bind (jStep n (z55, (z58, (z59, (z60, z66))))) fun r69 =>
  (Option.bind (α := Out (Int × Bool × (List Int) × Int × Int × Int × Bool × (List Int) × Int × Bool × (List JV) × (List (List Int)) × List (Int × (Int × Unit))) (Int × Bool × (List Int) × Int × Bool × (List JV) × (List (List Int)) × (List Int) × Int × Int × List (Int × (Int × Unit)))) ((Option.bind (jPeek n (r69.1, (r69.2.1, (r69.2.2.1, r69.2.2.2)))) fun r70 =>
  (Option.bind (α := Out (Int × Bool × Bool × (List Int) × Int × Int × Int × Bool × (List Int) × Int × Bool × (List (Int × (Int × Unit))) × (List JV) × List (List Int)) (Out (Int × Bool × (List Int) × Int × Int × Int × Bool × (List Int) × Int × Bool × (List JV) × (List (List Int)) × List (Int × (Int × Unit))) (Int × Bool × (List Int) × Int × Bool × (List JV) × (List (List Int)) × (List Int) × Int × Int × List (Int × (Int × Unit))))) ((if (r70.1 == (43 : Int)) = true then
  (some (Out.go (z55, (false, (true, (r70.2.1, (r70.2.2.1, (r70.2.2.2.1, (z61, (z62, (z63, (z64, (z65, (r70.2.2.2.2, (z67, z68)))))))))))))))
  else
  (some (Out.go (z55, (false, ((r70.1 == (45 : Int)), (r70.2.1, (r70.2.2.1, (r70.2.2.2.1, (z61, (z62, (z63, (z64, (z65, (r70.2.2.2.2, (z67, z68))))))))))))))))) fun o => match o with
  | .go (z72, (z73, (z74, (z75, (z76, (z77, (z78, (z79, (z80, (z81, (z82, (z83, (z84, z85))))))))))))) =>
  (if z74 = true then
  (Option.bind (jStep n (z72, (z75, (z76, (z77, z83))))) fun r86 =>
  (some (Out.go (z72, (z73, (r86.1, (r86.2.1, (r86.2.2.1, (z78, (z79, (z80, (z81, (z82, (z84, (z85, r86.2.2.2)))))))))))))))
  else
  (some (Out.go (z72, (z73, (z75, (z76, (z77, (z78, (z79, (z80, (z81, (z82, (z84, (z85, z83)))))))))))))))
  | .ret r87 => some r87))) fun o => match o with
  | .go (z89, (z90, (z91, (z92, (z93, (z94, (z95, (z96, (z97, (z98, (z99, (z100, z101)))))))))))) =>
  (Option.bind (jDigits n (z89, (z91, (z92, (z93, z101))))) fun r102 =>
  (if (!(decide (r102.2.2.1 < 0))) = true then
  some ((0 : Int), (false, (([] : List Int), ((0 : Int), (false, (([] : List JV), (([] : List (List Int)), (r102.1, (r102.2.1, (r102.2.2.1, r102.2.2.2))))))))))
  else
  (if 0 ≤ z89 ∧ z89 ≤ r102.2.1 ∧ r102.2.1 ≤ (r102.1.length : Int) then
  (let u103 : List Int := ((r102.1.drop z89.toNat).take (r102.2.1.toNat - z89.toNat))
  (Option.bind (numbered n (u103, z90)) fun r104 =>
  some (r104.1, (r104.2.1, (r104.2.2.1, (r104.2.2.2.1, (r104.2.2.2.2.1, (r104.2.2.2.2.2.1, (r104.2.2.2.2.2.2, (r102.1, (r102.2.1, (r102.2.2.1, r102.2.2.2))))))))))))
  else none)))
  | .ret r105 => some r105))
  else
  (if (!(decide (z60 < 0))) = true then
  some ((0 : Int), (false, (([] : List Int), ((0 : Int), (false, (([] : List JV), (([] : List (List Int)), (z58, (z59, (z60, z66))))))))))
  else
  (if 0 ≤ z55 ∧ z55 ≤ z59 ∧ z59 ≤ (z58.length : Int) then
  (let u106 : List Int := ((z58.drop z55.toNat).take (z59.toNat - z55.toNat))
  (Option.bind (numbered n (u106, z56)) fun r107 =>
  some (r107.1, (r107.2.1, (r107.2.2.1, (r107.2.2.2.1, (r107.2.2.2.2.1, (r107.2.2.2.2.2.1, (r107.2.2.2.2.2.2, (z58, (z59, (z60, z66))))))))))))
  else none)))
  | .ret r108 => some r108))
  | .ret r109 => some r109)
  | .ret r110 => some r110)
  | .ret r111 => some r111)
def sp_jNumber (n : Nat) : Spec := ⟨pre_jNumber, post_jNumber, jNumber n⟩
def env_jNumber (n : Nat) : List (FuncId × Spec) := [(27, sp_jPeek n), (43, sp_jStep n), (44, sp_jDigits n), (45, sp_numbered n)]
theorem run_jNumber (n : Nat) (x : pre_jNumber.T) : fnRun Tryd.prog 46 (envG (env_jNumber n) [] (fun _ => none)) n Tryd.f32 ann_jNumber pre_jNumber post_jNumber x = jNumber n x := by kernel_rfl
theorem ok_jNumber (n : Nat) : FnOK Tryd.prog 46 LS 32 (sp_jNumber n) :=
  fn_run mixed Tryd.func32 (sp_jNumber n) n ann_jNumber (env_jNumber n) (envOf_cons (ok_jPeek n) (envOf_cons (ok_jStep n) (envOf_cons (ok_jDigits n) (envOf_cons (ok_numbered n) envOf_nil)))) [] (fun _ => none) gl_none (run_jNumber n) (by kernel_rfl)
def ann_jValue : Ann := (.two .no (.two .no (.two .no (.two .no (.one (.two .no (.two .no (.two .no (.two .no (.two .no (.two .no (.two .no (.two .no (.two (.join ⟨[0, 1, 4, 5, 33], ⟨[.c (.ptr 0 0), .c (.dat (.int .i64)), .c (.ptr 500 0), .c (.dat (.int .i64)), .c (.dat .bool)], [(0, .cells 51 [.dat .str, .dat (.int .i64), .dat (.nd 200)]), (500, .cells 25 [.dat (.int .i64), .dat .bool, .dat .str, .dat (.int .i64), .dat .bool, .own 501, .own 502]), (200, .pool 55 (.pair (.int .i64) (.pair (.int .i64) .unit))), (501, .row 25 .js), (502, .row 9 .str)]⟩⟩ .no) .no))))))))))))))
/-- what (turnstile/json.reader).value comes to. -/
def jValueStep (n : Nat) (s_jValue : (Int × (List Int) × Int × Int × List (Int × (Int × Unit))) → Option (Int × Bool × (List Int) × Int × Bool × (List JV) × (List (List Int)) × (List Int) × Int × Int × List (Int × (Int × Unit)))) (x : Int × (List Int) × Int × Int × List (Int × (Int × Unit))) : Option (Int × Bool × (List Int) × Int × Bool × (List JV) × (List (List Int)) × (List Int) × Int × Int × List (Int × (Int × Unit))) :=
  match x with
  | (x1, (x2, (x3, (x4, x5)))) =>
  (Option.bind (jBlanks n (x2, (x3, (x4, x5)))) fun r6 =>
  (Option.bind (jPeek n (r6.1, (r6.2.1, (r6.2.2.1, r6.2.2.2)))) fun r7 =>
  (if (r7.1 == (110 : Int)) = true then
  (Option.bind (jWord n (([(110 : Int), (117 : Int), (108 : Int), (108 : Int)] : List Int), (r7.2.1, (r7.2.2.1, (r7.2.2.2.1, r7.2.2.2.2))))) fun r8 =>
  some ((1 : Int), (false, (([] : List Int), ((0 : Int), (false, (([] : List JV), (([] : List (List Int)), (r8.1, (r8.2.1, (r8.2.2.1, r8.2.2.2)))))))))))
  else
  (if (r7.1 == (116 : Int)) = true then
  (Option.bind (jWord n (([(116 : Int), (114 : Int), (117 : Int), (101 : Int)] : List Int), (r7.2.1, (r7.2.2.1, (r7.2.2.2.1, r7.2.2.2.2))))) fun r9 =>
  some ((2 : Int), (true, (([] : List Int), ((0 : Int), (false, (([] : List JV), (([] : List (List Int)), (r9.1, (r9.2.1, (r9.2.2.1, r9.2.2.2)))))))))))
  else
  (if (r7.1 == (102 : Int)) = true then
  (Option.bind (jWord n (([(102 : Int), (97 : Int), (108 : Int), (115 : Int), (101 : Int)] : List Int), (r7.2.1, (r7.2.2.1, (r7.2.2.2.1, r7.2.2.2.2))))) fun r10 =>
  some ((2 : Int), (false, (([] : List Int), ((0 : Int), (false, (([] : List JV), (([] : List (List Int)), (r10.1, (r10.2.1, (r10.2.2.1, r10.2.2.2)))))))))))
  else
  (if (r7.1 == (34 : Int)) = true then
  (Option.bind (jText n (r7.2.1, (r7.2.2.1, (r7.2.2.2.1, r7.2.2.2.2)))) fun r11 =>
  some ((4 : Int), (false, (r11.1, ((0 : Int), (false, (([] : List JV), (([] : List (List Int)), (r11.2.1, (r11.2.2.1, (r11.2.2.2.1, r11.2.2.2.2)))))))))))
  else
  (Option.bind (α := Out (Int × Int × Bool × (List Int) × Int × Int × Int × Bool × (List Int) × Int × Bool × (List (Int × (Int × Unit))) × (List JV) × List (List Int)) (Int × Bool × (List Int) × Int × Bool × (List JV) × (List (List Int)) × (List Int) × Int × Int × List (Int × (Int × Unit)))) ((if (r7.1 == (91 : Int)) = true then
  (some (Out.go (x1, (r7.1, ((r7.1 == (91 : Int)), (r7.2.1, (r7.2.2.1, (r7.2.2.2.1, ((0 : Int), (false, (([] : List Int), ((0 : Int), (false, (r7.2.2.2.2, (([] : List JV), ([] : List (List Int)))))))))))))))))
  else
  (some (Out.go (x1, (r7.1, ((r7.1 == (123 : Int)), (r7.2.1, (r7.2.2.1, (r7.2.2.2.1, ((0 : Int), (false, (([] : List Int), ((0 : Int), (false, (r7.2.2.2.2, (([] : List JV), ([] : List (List Int))))))))))))))))))) fun o => match o with
  | .go (z13, (z14, (z15, (z16, (z17, (z18, (z19, (z20, (z21, (z22, (z23, (z24, (z25, z26))))))))))))) =>
  (if z15 = true then
  (if (decide (z13 > (32 : Int))) = true then
  (Option.bind (jFails n (z17, ((5 : Int), (z16, (z17, (z18, z24)))))) fun r27 =>
  some ((0 : Int), (false, (([] : List Int), ((0 : Int), (false, (([] : List JV), (([] : List (List Int)), (r27.1, (r27.2.1, (r27.2.2.1, r27.2.2.2)))))))))))
  else
  (if (z14 == (91 : Int)) = true then
  (Option.bind (jList n s_jValue (z13, (z16, (z17, (z18, z24))))) fun r28 =>
  some (r28.1, (r28.2.1, (r28.2.2.1, (r28.2.2.2.1, (r28.2.2.2.2.1, (r28.2.2.2.2.2.1, (r28.2.2.2.2.2.2.1, (r28.2.2.2.2.2.2.2.1, (r28.2.2.2.2.2.2.2.2.1, (r28.2.2.2.2.2.2.2.2.2.1, r28.2.2.2.2.2.2.2.2.2.2)))))))))))
  else
  (Option.bind (jObject n s_jValue (z13, (z16, (z17, (z18, z24))))) fun r29 =>
  some (r29.1, (r29.2.1, (r29.2.2.1, (r29.2.2.2.1, (r29.2.2.2.2.1, (r29.2.2.2.2.2.1, (r29.2.2.2.2.2.2.1, (r29.2.2.2.2.2.2.2.1, (r29.2.2.2.2.2.2.2.2.1, (r29.2.2.2.2.2.2.2.2.2.1, r29.2.2.2.2.2.2.2.2.2.2)))))))))))))
  else
  (Option.bind (jNumber n (z16, (z17, (z18, z24)))) fun r30 =>
  some (r30.1, (r30.2.1, (r30.2.2.1, (r30.2.2.2.1, (r30.2.2.2.2.1, (r30.2.2.2.2.2.1, (r30.2.2.2.2.2.2.1, (r30.2.2.2.2.2.2.2.1, (r30.2.2.2.2.2.2.2.2.1, (r30.2.2.2.2.2.2.2.2.2.1, r30.2.2.2.2.2.2.2.2.2.2))))))))))))
  | .ret r31 => some r31)))))))
def sp_jValueStep (n : Nat) (s_jValue : (Int × (List Int) × Int × Int × List (Int × (Int × Unit))) → Option (Int × Bool × (List Int) × Int × Bool × (List JV) × (List (List Int)) × (List Int) × Int × Int × List (Int × (Int × Unit)))) : Spec := ⟨pre_jValue, post_jValue, jValueStep n s_jValue⟩
def env_jValueStep (n : Nat) (s_jValue : (Int × (List Int) × Int × Int × List (Int × (Int × Unit))) → Option (Int × Bool × (List Int) × Int × Bool × (List JV) × (List (List Int)) × (List Int) × Int × Int × List (Int × (Int × Unit)))) : List (FuncId × Spec) := [(16, sp_jBlanks n), (27, sp_jPeek n), (28, sp_jWord n), (29, sp_jText n), (17, sp_jFails n), (30, sp_jList n s_jValue), (31, sp_jObject n s_jValue), (32, sp_jNumber n)]
theorem run_jValueStep (n : Nat) (s_jValue : (Int × (List Int) × Int × Int × List (Int × (Int × Unit))) → Option (Int × Bool × (List Int) × Int × Bool × (List JV) × (List (List Int)) × (List Int) × Int × Int × List (Int × (Int × Unit)))) (x : pre_jValue.T) : fnRun Tryd.prog 46 (envG (env_jValueStep n s_jValue) [] (fun _ => none)) n Tryd.f15 ann_jValue pre_jValue post_jValue x = jValueStep n s_jValue x := by kernel_rfl
theorem ok_jValueStep (n : Nat) (s_jValue : (Int × (List Int) × Int × Int × List (Int × (Int × Unit))) → Option (Int × Bool × (List Int) × Int × Bool × (List JV) × (List (List Int)) × (List Int) × Int × Int × List (Int × (Int × Unit)))) (h_jValue : FnOK Tryd.prog 46 LS 15 ⟨pre_jValue, post_jValue, s_jValue⟩) : FnOK Tryd.prog 46 LS 15 (sp_jValueStep n s_jValue) :=
  fn_run mixed Tryd.func15 (sp_jValueStep n s_jValue) n ann_jValue (env_jValueStep n s_jValue) (envOf_cons (ok_jBlanks n) (envOf_cons (ok_jPeek n) (envOf_cons (ok_jWord n) (envOf_cons (ok_jText n) (envOf_cons (ok_jFails n) (envOf_cons (ok_jList n s_jValue h_jValue) (envOf_cons (ok_jObject n s_jValue h_jValue) (envOf_cons (ok_jNumber n) envOf_nil)))))))) [] (fun _ => none) gl_none (run_jValueStep n s_jValue) (by kernel_rfl)
def jValue (n : Nat) (x : Int × (List Int) × Int × Int × List (Int × (Int × Unit))) : Option (Int × Bool × (List Int) × Int × Bool × (List JV) × (List (List Int)) × (List Int) × Int × Int × List (Int × (Int × Unit))) := loopF (X := Int × (List Int) × Int × Int × List (Int × (Int × Unit))) (A := Int × Bool × (List Int) × Int × Bool × (List JV) × (List (List Int)) × (List Int) × Int × Int × List (Int × (Int × Unit))) (jValueStep n) n x
def sp_jValue (n : Nat) : Spec := ⟨pre_jValue, post_jValue, jValue n⟩
theorem ok_jValue (n : Nat) : FnOK Tryd.prog 46 LS 15 (sp_jValue n) := rec_ok (pre := pre_jValue) (post := post_jValue) ⟨_, Tryd.func15, by kernel_rfl, by kernel_rfl⟩ (jValueStep n) (fun s h => ok_jValueStep n s h) n
def ann_jWell : Ann := (.two .no (.two .no (.two .no (.two (.join ⟨[3, 4], ⟨[.c (.clo 34 [some 500]), .c (.ptr 501 0)], [(500, .cells 25 [.dat (.int .i64), .dat .bool, .dat .str, .dat (.int .i64), .dat .bool, .dat (.list .js), .dat (.list .str)]), (501, .cells 25 [.dat (.int .i64), .dat .bool, .dat .str, .dat (.int .i64), .dat .bool, .dat (.list .js), .dat (.list .str)]), (200, .pool 55 (.pair (.int .i64) (.pair (.int .i64) .unit)))]⟩⟩ (.two .no (.one (.two (.one (.two (.join ⟨[1, 3, 4], ⟨[.c (.ptr 500 0), .c (.clo 34 [some 500]), .c (.ptr 501 0)], [(500, .cells 25 [.dat (.int .i64), .dat .bool, .dat .str, .dat (.int .i64), .dat .bool, .dat (.list .js), .dat (.list .str)]), (501, .cells 25 [.dat (.int .i64), .dat .bool, .dat .str, .dat (.int .i64), .dat .bool, .dat (.list .js), .dat (.list .str)]), (200, .pool 55 (.pair (.int .i64) (.pair (.int .i64) .unit)))]⟩⟩ .no) (.two (.two (.two .no (.one (.loop ⟨[3, 4, 84, 85, 86], ⟨[.c (.clo 34 [some 500]), .c (.ptr 501 0), .c (.dat (.list .js)), .c (.dat (.int .i64)), .c (.dat (.int .i64))], [(500, .cells 25 [.dat (.int .i64), .dat .bool, .dat .str, .dat (.int .i64), .dat .bool, .dat (.list .js), .dat (.list .str)]), (501, .cells 25 [.dat (.int .i64), .dat .bool, .dat .str, .dat (.int .i64), .dat .bool, .dat (.list .js), .dat (.list .str)]), (200, .pool 55 (.pair (.int .i64) (.pair (.int .i64) .unit)))]⟩⟩ .no))) .no) .no))) .no)))) .no))))
/-- what turnstile/json.well comes to. -/
def jWellStep (n : Nat) (s_jWell : (Int × Bool × (List Int) × Int × Bool × (List JV) × (List (List Int)) × List (Int × (Int × Unit))) → Option (Bool × List (Int × (Int × Unit)))) (x : Int × Bool × (List Int) × Int × Bool × (List JV) × (List (List Int)) × List (Int × (Int × Unit))) : Option (Bool × List (Int × (Int × Unit))) :=
  match x with
  | (x1, (x2, (x3, (x4, (x5, (x6, (x7, x8))))))) =>
  (Option.bind (α := Out (Int × Bool × (List Int) × Int × Bool × (List JV) × (List (List Int)) × Int × Bool × (List Int) × Int × Bool × (List JV) × (List (List Int)) × List (Int × (Int × Unit))) (Bool × List (Int × (Int × Unit)))) ((Option.bind (α := Out (Int × Bool × (List Int) × Int × Bool × (List JV) × (List (List Int)) × Int × Bool × (List Int) × Int × Bool × (List JV) × (List (List Int)) × List (Int × (Int × Unit))) (Out (Int × Bool × (List Int) × Int × Bool × (List JV) × (List (List Int)) × Int × Bool × (List Int) × Int × Bool × (List JV) × (List (List Int)) × List (Int × (Int × Unit))) (Bool × List (Int × (Int × Unit))))) ((if (x1 == (1 : Int)) = true then
  (Option.map Out.ret ((some (Out.go (x1, (x2, (x3, (x4, (x5, (x6, (x7, (x1, (x2, (x3, (x4, (x5, (x6, (x7, x8))))))))))))))))))
  else
  (if (x1 == (2 : Int)) = true then
  (Option.map Out.ret ((some (Out.go (x1, (x2, (x3, (x4, (x5, (x6, (x7, (x1, (false, (x3, (x4, (x5, (x6, (x7, x8))))))))))))))))))
  else
  (if (x1 == (4 : Int)) = true then
  (Option.bind (strValid n x3) fun r9 =>
  (if (!r9) = true then
  (Option.map Out.ret ((Option.map Out.ret (some (false, x8)))))
  else
  (Option.map Out.ret ((some (Out.go (x1, (x2, (x3, (x4, (x5, (x6, (x7, (x1, (x2, (([] : List Int), (x4, (x5, (x6, (x7, x8))))))))))))))))))))
  else
  (if (x1 == (3 : Int)) = true then
  (Option.bind (jNumber n (x3, ((0 : Int), ((-1 : Int), x8)))) fun r10 =>
  (if (!(decide (r10.2.2.2.2.2.2.2.2.2.1 < 0))) = true then
  (Option.map Out.ret ((Option.map Out.ret (some (false, r10.2.2.2.2.2.2.2.2.2.2)))))
  else
  (if (decide (r10.2.2.2.2.2.2.2.2.1 < (x3.length : Int))) = true then
  (Option.map Out.ret ((Option.map Out.ret (some (false, r10.2.2.2.2.2.2.2.2.2.2)))))
  else
  (if (r10.2.2.2.1 != x4) = true then
  (Option.map Out.ret ((Option.map Out.ret (some (false, r10.2.2.2.2.2.2.2.2.2.2)))))
  else
  (if (!(r10.2.2.2.2.1 == x5)) = true then
  (Option.map Out.ret ((Option.map Out.ret (some (false, r10.2.2.2.2.2.2.2.2.2.2)))))
  else
  (Option.map Out.ret ((some (Out.go (x1, (x2, (x3, (x4, (x5, (x6, (x7, (x1, (x2, (([] : List Int), ((0 : Int), (false, (x6, (x7, r10.2.2.2.2.2.2.2.2.2.2)))))))))))))))))))))))
  else
  (if (x1 == (6 : Int)) = true then
  (if ((x7.length : Int) != (x6.length : Int)) = true then
  (Option.map Out.ret ((Option.map Out.ret (some (false, x8)))))
  else
  (Option.bind (all n x7) fun r11 =>
  (if (!r11) = true then
  (Option.map Out.ret ((Option.map Out.ret (some (false, x8)))))
  else
  (some (Out.go (x1, (x2, (x3, (x4, (x5, (x6, (x7, (x1, (x2, (x3, (x4, (x5, (x6, (([] : List (List Int)), x8)))))))))))))))))))
  else
  (if (x1 == (5 : Int)) = true then
  (some (Out.go (x1, (x2, (x3, (x4, (x5, (x6, (x7, (x1, (x2, (x3, (x4, (x5, (x6, (x7, x8))))))))))))))))
  else
  (Option.map Out.ret ((Option.map Out.ret (some (false, x8)))))))))))) fun o => match o with
  | .go (z13, (z14, (z15, (z16, (z17, (z18, (z19, (z20, (z21, (z22, (z23, (z24, (z25, (z26, z27)))))))))))))) =>
  (loopF (X := (List JV) × Int × Int × Int × Bool × (List Int) × Int × Bool × (List JV) × (List (List Int)) × Int × Bool × (List Int) × Int × Bool × (List JV) × (List (List Int)) × List (Int × (Int × Unit))) (A := Out (Int × Bool × (List Int) × Int × Bool × (List JV) × (List (List Int)) × Int × Bool × (List Int) × Int × Bool × (List JV) × (List (List Int)) × List (Int × (Int × Unit))) (Bool × List (Int × (Int × Unit)))) (fun rec28 y29 => match y29 with
  | (a30, (a31, (a32, (a33, (a34, (a35, (a36, (a37, (a38, (a39, (a40, (a41, (a42, (a43, (a44, (a45, (a46, a47))))))))))))))))) =>
  (if (decide (a32 < a31)) = true then
  (Option.bind (idx a30 a32) fun v48 =>
  (Option.bind (s_jWell (v48.kind, (v48.b, (v48.text, (v48.n, (v48.whole, (v48.list, (v48.names, a47)))))))) fun r49 =>
  (if (!r49.1) = true then
  (Option.map Out.ret (some (false, r49.2)))
  else
  (let u50 : Int := (IntKind.wrap .i64 (a32 + (1 : Int)))
  rec28 (a30, (a31, (u50, (a33, (a34, (a35, (a36, (a37, (a38, (a39, (a40, (a41, (a42, (a43, (a44, (a45, (a46, r49.2)))))))))))))))))))))
  else
  (some (Out.go (a33, (a34, (a35, (a36, (a37, (a38, (a39, (a40, (a41, (a42, (a43, (a44, (([] : List JV), (a46, a47)))))))))))))))))) n (z18, ((z18.length : Int), ((0 : Int), (z13, (z14, (z15, (z16, (z17, (z18, (z19, (z20, (z21, (z22, (z23, (z24, (z25, (z26, z27))))))))))))))))))
  | .ret r51 => some r51)) fun o => match o with
  | .go (z53, (z54, (z55, (z56, (z57, (z58, (z59, (z60, (z61, (z62, (z63, (z64, (z65, (z66, z67)))))))))))))) =>
  (Option.bind (jBare n (z60, (z61, (z62, (z63, (z64, (z65, (z66, (JV.mk z53 z54 z55 z56 z57 z58 z59))))))))) fun r68 =>
  some (r68, z67))
  | .ret r69 => some r69)
def sp_jWellStep (n : Nat) (s_jWell : (Int × Bool × (List Int) × Int × Bool × (List JV) × (List (List Int)) × List (Int × (Int × Unit))) → Option (Bool × List (Int × (Int × Unit)))) : Spec := ⟨pre_jWell, post_jWell, jWellStep n s_jWell⟩
def env_jWellStep (n : Nat) (s_jWell : (Int × Bool × (List Int) × Int × Bool × (List JV) × (List (List Int)) × List (Int × (Int × Unit))) → Option (Bool × List (Int × (Int × Unit)))) : List (FuncId × Spec) := [(35, sp_strValid n), (32, sp_jNumber n), (36, sp_all n), (21, ⟨pre_jWell, post_jWell, s_jWell⟩), (34, sp_jBare n)]
theorem run_jWellStep (n : Nat) (s_jWell : (Int × Bool × (List Int) × Int × Bool × (List JV) × (List (List Int)) × List (Int × (Int × Unit))) → Option (Bool × List (Int × (Int × Unit)))) (x : pre_jWell.T) : fnRun Tryd.prog 46 (envG (env_jWellStep n s_jWell) [] (fun _ => none)) n Tryd.f21 ann_jWell pre_jWell post_jWell x = jWellStep n s_jWell x := by kernel_rfl
theorem ok_jWellStep (n : Nat) (s_jWell : (Int × Bool × (List Int) × Int × Bool × (List JV) × (List (List Int)) × List (Int × (Int × Unit))) → Option (Bool × List (Int × (Int × Unit)))) (h_jWell : FnOK Tryd.prog 46 LS 21 ⟨pre_jWell, post_jWell, s_jWell⟩) : FnOK Tryd.prog 46 LS 21 (sp_jWellStep n s_jWell) :=
  fn_run mixed Tryd.func21 (sp_jWellStep n s_jWell) n ann_jWell (env_jWellStep n s_jWell) (envOf_cons (ok_strValid n) (envOf_cons (ok_jNumber n) (envOf_cons (ok_all n) (envOf_cons (h_jWell) (envOf_cons (ok_jBare n) envOf_nil))))) [] (fun _ => none) gl_none (run_jWellStep n s_jWell) (by kernel_rfl)
def jWell (n : Nat) (x : Int × Bool × (List Int) × Int × Bool × (List JV) × (List (List Int)) × List (Int × (Int × Unit))) : Option (Bool × List (Int × (Int × Unit))) := loopF (X := Int × Bool × (List Int) × Int × Bool × (List JV) × (List (List Int)) × List (Int × (Int × Unit))) (A := Bool × List (Int × (Int × Unit))) (jWellStep n) n x
def sp_jWell (n : Nat) : Spec := ⟨pre_jWell, post_jWell, jWell n⟩
theorem ok_jWell (n : Nat) : FnOK Tryd.prog 46 LS 21 (sp_jWell n) := rec_ok (pre := pre_jWell) (post := post_jWell) ⟨_, Tryd.func21, by kernel_rfl, by kernel_rfl⟩ (jWellStep n) (fun s h => ok_jWellStep n s h) n
def pre_jParseP : Shape := ⟨[.c (.dat .str)], [(200, .pool 55 (.pair (.int .i64) (.pair (.int .i64) .unit)))]⟩
def post_jParseP : List Shape := [⟨[.a [.dat (.int .i64), .dat .bool, .dat .str, .dat (.int .i64), .dat .bool, .dat (.list .js), .dat (.list .str)], .c (.dat (.int .i64)), .c (.dat .err)], []⟩]
def ann_jParseP : Ann := .no
/-- what turnstile/json.Parse comes to. -/
def jParseP (n : Nat) (x : (List Int) × List (Int × (Int × Unit))) : Option (Int × Bool × (List Int) × Int × Bool × (List JV) × (List (List Int)) × Int × Int) :=
  match x with
  | (x1, x2) =>
  (if (decide ((x1.length : Int) > (1048576 : Int))) = true then
  some ((0 : Int), (false, (([] : List Int), ((0 : Int), (false, (([] : List JV), (([] : List (List Int)), ((0 : Int), (2 : Int)))))))))
  else
  (Option.bind (jValue n ((1 : Int), (x1, ((0 : Int), ((-1 : Int), x2))))) fun r3 =>
  (Option.bind (jBlanks n (r3.2.2.2.2.2.2.2.1, (r3.2.2.2.2.2.2.2.2.1, (r3.2.2.2.2.2.2.2.2.2.1, r3.2.2.2.2.2.2.2.2.2.2)))) fun r4 =>
  (if (decide (r4.2.1 < (x1.length : Int))) = true then
  (Option.bind (jFails n (r4.2.1, ((3 : Int), (r4.1, (r4.2.1, (r4.2.2.1, r4.2.2.2)))))) fun r5 =>
  (if (!(decide (r5.2.2.1 < 0))) = true then
  (if r5.2.2.1 < 0 then none else
  (Option.bind (r5.2.2.2[r5.2.2.1.toNat]?) fun d6 =>
  (if r5.2.2.1 < 0 then none else
  (Option.bind (r5.2.2.2[r5.2.2.1.toNat]?) fun d7 =>
  (if d7.2.1 = 0 then none else some ((0 : Int), (false, (([] : List Int), ((0 : Int), (false, (([] : List JV), (([] : List (List Int)), (d6.1, d7.2.1)))))))))))))
  else
  some (r3.1, (r3.2.1, (r3.2.2.1, (r3.2.2.2.1, (r3.2.2.2.2.1, (r3.2.2.2.2.2.1, (r3.2.2.2.2.2.2.1, ((x1.length : Int), (0 : Int)))))))))))
  else
  (if (!(decide (r4.2.2.1 < 0))) = true then
  (if r4.2.2.1 < 0 then none else
  (Option.bind (r4.2.2.2[r4.2.2.1.toNat]?) fun d8 =>
  (if r4.2.2.1 < 0 then none else
  (Option.bind (r4.2.2.2[r4.2.2.1.toNat]?) fun d9 =>
  (if d9.2.1 = 0 then none else some ((0 : Int), (false, (([] : List Int), ((0 : Int), (false, (([] : List JV), (([] : List (List Int)), (d8.1, d9.2.1)))))))))))))
  else
  some (r3.1, (r3.2.1, (r3.2.2.1, (r3.2.2.2.1, (r3.2.2.2.2.1, (r3.2.2.2.2.2.1, (r3.2.2.2.2.2.2.1, ((x1.length : Int), (0 : Int))))))))))))))
def sp_jParseP (n : Nat) : Spec := ⟨pre_jParseP, post_jParseP, jParseP n⟩
def env_jParseP (n : Nat) : List (FuncId × Spec) := [(15, sp_jValue n), (16, sp_jBlanks n), (17, sp_jFails n)]
theorem run_jParseP (n : Nat) (x : pre_jParseP.T) : fnRun Tryd.prog 46 (envG (env_jParseP n) [] (fun _ => none)) n Tryd.f7 ann_jParseP pre_jParseP post_jParseP x = jParseP n x := by kernel_rfl
theorem ok_jParseP (n : Nat) : FnOK Tryd.prog 46 LS 7 (sp_jParseP n) :=
  fn_run mixed Tryd.func7 (sp_jParseP n) n ann_jParseP (env_jParseP n) (envOf_cons (ok_jValue n) (envOf_cons (ok_jBlanks n) (envOf_cons (ok_jFails n) envOf_nil))) [] (fun _ => none) gl_none (run_jParseP n) (by kernel_rfl)
def z_jParse (x : List Int) : (List Int) × List (Int × (Int × Unit)) := (x, [])
def pre_jParse : Shape := ⟨(pre_jParseP).vals, []⟩
def jParse (n : Nat) (x : List Int) : Option (Int × Bool × (List Int) × Int × Bool × (List JV) × (List (List Int)) × Int × Int) := jParseP n (z_jParse x)
def sp_jParse (n : Nat) : Spec := ⟨pre_jParse, post_jParseP, jParse n⟩
theorem zv_jParse (x : (⟨(pre_jParseP).vals, []⟩ : Shape).T) : (⟨(pre_jParseP).vals, (pre_jParseP).ents⟩ : Shape).vs (z_jParse x) = (⟨(pre_jParseP).vals, []⟩ : Shape).vs x := by kernel_rfl
theorem ze_jParse (x : (⟨(pre_jParseP).vals, []⟩ : Shape).T) : allEmpty ((⟨(pre_jParseP).vals, (pre_jParseP).ents⟩ : Shape).es (z_jParse x)) = true := by kernel_rfl
theorem ok_jParse (n : Nat) : FnOK Tryd.prog 46 LS 7 (sp_jParse n) := Eq.mp (show FnOK Tryd.prog 46 LS 7 ⟨⟨(pre_jParseP).vals, []⟩, post_jParseP, fun x => jParseP n (z_jParse x)⟩ = FnOK Tryd.prog 46 LS 7 (sp_jParse n) by kernel_rfl)
  (FnOK.poolsA (P := Tryd.prog) (E := 46) (L := LS) (f := 7) (vals := (pre_jParseP).vals) (es := (pre_jParseP).ents) (post := post_jParseP) (run := jParseP n) LS_ob z_jParse zv_jParse (fun x q hq => pools_empty (ze_jParse x) q hq) (by kernel_rfl) (ok_jParseP n))
def pre_jValidP : Shape := ⟨[.a [.dat (.int .i64), .dat .bool, .dat .str, .dat (.int .i64), .dat .bool, .dat (.list .js), .dat (.list .str)]], [(200, .pool 55 (.pair (.int .i64) (.pair (.int .i64) .unit)))]⟩
def post_jValidP : List Shape := [⟨[.c (.dat .err)], []⟩]
def ann_jValidP : Ann := .no
/-- what turnstile/json.Valid comes to. -/
def jValidP (n : Nat) (x : Int × Bool × (List Int) × Int × Bool × (List JV) × (List (List Int)) × List (Int × (Int × Unit))) : Option (Int) :=
  match x with
  | (x1, (x2, (x3, (x4, (x5, (x6, (x7, x8))))))) =>
  (Option.bind (jDepth n (x1, (x2, (x3, (x4, (x5, (x6, x7))))))) fun r9 =>
  (if (decide (r9 > (32 : Int))) = true then
  some (5 : Int)
  else
  (Option.bind (jWell n (x1, (x2, (x3, (x4, (x5, (x6, (x7, x8)))))))) fun r10 =>
  (if (!r10.1) = true then
  some (3 : Int)
  else
  (Option.bind (twice n (x1, (x2, (x3, (x4, (x5, (x6, x7))))))) fun r11 =>
  (if r11 = true then
  some (6 : Int)
  else
  some (0 : Int)))))))
def sp_jValidP (n : Nat) : Spec := ⟨pre_jValidP, post_jValidP, jValidP n⟩
def env_jValidP (n : Nat) : List (FuncId × Spec) := [(20, sp_jDepth n), (21, sp_jWell n), (22, sp_twice n)]
theorem run_jValidP (n : Nat) (x : pre_jValidP.T) : fnRun Tryd.prog 46 (envG (env_jValidP n) [] (fun _ => none)) n Tryd.f11 ann_jValidP pre_jValidP post_jValidP x = jValidP n x := by kernel_rfl
theorem ok_jValidP (n : Nat) : FnOK Tryd.prog 46 LS 11 (sp_jValidP n) :=
  fn_run mixed Tryd.func11 (sp_jValidP n) n ann_jValidP (env_jValidP n) (envOf_cons (ok_jDepth n) (envOf_cons (ok_jWell n) (envOf_cons (ok_twice n) envOf_nil))) [] (fun _ => none) gl_none (run_jValidP n) (by kernel_rfl)
def z_jValid (x : Int × Bool × (List Int) × Int × Bool × (List JV) × List (List Int)) : Int × Bool × (List Int) × Int × Bool × (List JV) × (List (List Int)) × List (Int × (Int × Unit)) := (x.1, (x.2.1, (x.2.2.1, (x.2.2.2.1, (x.2.2.2.2.1, (x.2.2.2.2.2.1, (x.2.2.2.2.2.2, [])))))))
def pre_jValid : Shape := ⟨(pre_jValidP).vals, []⟩
def jValid (n : Nat) (x : Int × Bool × (List Int) × Int × Bool × (List JV) × List (List Int)) : Option (Int) := jValidP n (z_jValid x)
def sp_jValid (n : Nat) : Spec := ⟨pre_jValid, post_jValidP, jValid n⟩
theorem zv_jValid (x : (⟨(pre_jValidP).vals, []⟩ : Shape).T) : (⟨(pre_jValidP).vals, (pre_jValidP).ents⟩ : Shape).vs (z_jValid x) = (⟨(pre_jValidP).vals, []⟩ : Shape).vs x := by kernel_rfl
theorem ze_jValid (x : (⟨(pre_jValidP).vals, []⟩ : Shape).T) : allEmpty ((⟨(pre_jValidP).vals, (pre_jValidP).ents⟩ : Shape).es (z_jValid x)) = true := by kernel_rfl
theorem ok_jValid (n : Nat) : FnOK Tryd.prog 46 LS 11 (sp_jValid n) := Eq.mp (show FnOK Tryd.prog 46 LS 11 ⟨⟨(pre_jValidP).vals, []⟩, post_jValidP, fun x => jValidP n (z_jValid x)⟩ = FnOK Tryd.prog 46 LS 11 (sp_jValid n) by kernel_rfl)
  (FnOK.poolsA (P := Tryd.prog) (E := 46) (L := LS) (f := 11) (vals := (pre_jValidP).vals) (es := (pre_jValidP).ents) (post := post_jValidP) (run := jValidP n) LS_ob z_jValid zv_jValid (fun x q hq => pools_empty (ze_jValid x) q hq) (by kernel_rfl) (ok_jValidP n))
def pre_jPrint : Shape := ⟨[.a [.dat (.int .i64), .dat .bool, .dat .str, .dat (.int .i64), .dat .bool, .dat (.list .js), .dat (.list .str)]], []⟩
def post_jPrint : List Shape := [⟨[.c (.dat .str), .c (.dat .err)], []⟩]
def ann_jPrint : Ann := .no
/-- what turnstile/json.Print comes to. -/
def jPrint (n : Nat) (x : Int × Bool × (List Int) × Int × Bool × (List JV) × List (List Int)) : Option ((List Int) × Int) :=
  match x with
  | (x1, (x2, (x3, (x4, (x5, (x6, x7)))))) =>
  (Option.bind (jValid n (x1, (x2, (x3, (x4, (x5, (x6, x7))))))) fun r8 =>
  (if (!(r8 == (0 : Int))) = true then
  some (([] : List Int), r8)
  else
  (Option.bind (jWritten n (x1, (x2, (x3, (x4, (x5, (x6, (x7, ([] : List Int))))))))) fun r9 =>
  (Option.bind (bldLen n r9) fun r10 =>
  (if (decide (r10.1 > (1048576 : Int))) = true then
  some (([] : List Int), (2 : Int))
  else
  (Option.bind (bldString n r10.2) fun r11 =>
  some (r11, (0 : Int))))))))
def sp_jPrint (n : Nat) : Spec := ⟨pre_jPrint, post_jPrint, jPrint n⟩
def env_jPrint (n : Nat) : List (FuncId × Spec) := [(11, sp_jValid n), (12, sp_jWritten n), (13, sp_bldLen n), (14, sp_bldString n)]
theorem run_jPrint (n : Nat) (x : pre_jPrint.T) : fnRun Tryd.prog 46 (envG (env_jPrint n) [] (fun _ => none)) n Tryd.f6 ann_jPrint pre_jPrint post_jPrint x = jPrint n x := by kernel_rfl
theorem ok_jPrint (n : Nat) : FnOK Tryd.prog 46 LS 6 (sp_jPrint n) :=
  fn_run mixed Tryd.func6 (sp_jPrint n) n ann_jPrint (env_jPrint n) (envOf_cons (ok_jValid n) (envOf_cons (ok_jWritten n) (envOf_cons (ok_bldLen n) (envOf_cons (ok_bldString n) envOf_nil)))) [] (fun _ => none) gl_none (run_jPrint n) (by kernel_rfl)
def pre_works : Shape := ⟨[], []⟩
def post_works : List Shape := [⟨[.c (.dat .bool)], []⟩]
def ann_works : Ann := .no
/-- what turnstile/turnstilelaw06.works comes to. -/
def works (n : Nat) (x : Unit) : Option (Bool) :=
  (Option.bind (jParse n ([(32 : Int), (123 : Int), (34 : Int), (97 : Int), (34 : Int), (58 : Int), (91 : Int), (49 : Int), (44 : Int), (45 : Int), (48 : Int), (46 : Int), (53 : Int), (101 : Int), (51 : Int), (93 : Int), (125 : Int), (32 : Int)] : List Int)) fun r1 =>
  (Option.bind (jParse n ([(123 : Int), (34 : Int), (97 : Int), (34 : Int), (58 : Int), (49 : Int), (44 : Int), (34 : Int), (92 : Int), (117 : Int), (48 : Int), (48 : Int), (54 : Int), (49 : Int), (34 : Int), (58 : Int), (50 : Int), (125 : Int)] : List Int)) fun r2 =>
  (Option.bind (jPrint n (r1.1, (r1.2.1, (r1.2.2.1, (r1.2.2.2.1, (r1.2.2.2.2.1, (r1.2.2.2.2.2.1, r1.2.2.2.2.2.2.1))))))) fun r3 =>
  (if (r1.2.2.2.2.2.2.2.1 == (18 : Int)) = true then
  (if (r1.2.2.2.2.2.2.2.2 == (0 : Int)) = true then
  (if (r2.2.2.2.2.2.2.2.1 == (7 : Int)) = true then
  (Option.bind (turnstilelaw06Num n r2.2.2.2.2.2.2.2.2) fun r4 =>
  (if (r4 == (6 : Int)) = true then
  (if (r3.1 == ([(123 : Int), (34 : Int), (97 : Int), (34 : Int), (58 : Int), (91 : Int), (49 : Int), (44 : Int), (45 : Int), (48 : Int), (46 : Int), (53 : Int), (101 : Int), (51 : Int), (93 : Int), (125 : Int)] : List Int)) = true then
  some (r3.2 == (0 : Int))
  else
  some false)
  else
  some false))
  else
  some false)
  else
  some false)
  else
  some false))))
def sp_works (n : Nat) : Spec := ⟨pre_works, post_works, works n⟩
def env_works (n : Nat) : List (FuncId × Spec) := [(7, sp_jParse n), (6, sp_jPrint n), (10, sp_turnstilelaw06Num n)]
theorem run_works (n : Nat) (x : pre_works.T) : fnRun Tryd.prog 46 (envG (env_works n) [] (fun _ => none)) n Tryd.f5 ann_works pre_works post_works x = works n x := by kernel_rfl
theorem ok_works (n : Nat) : FnOK Tryd.prog 46 LS 5 (sp_works n) :=
  fn_run mixed Tryd.func5 (sp_works n) n ann_works (env_works n) (envOf_cons (ok_jParse n) (envOf_cons (ok_jPrint n) (envOf_cons (ok_turnstilelaw06Num n) envOf_nil))) [] (fun _ => none) gl_none (run_works n) (by kernel_rfl)
def pre_jsonBlanks : Shape := ⟨[.a [.dat (.int .i64), .dat .bool, .dat .str, .dat (.int .i64), .dat .bool, .dat (.list .js), .dat (.list .str)], .c (.dat (.list (.int .i64)))], []⟩
def post_jsonBlanks : List Shape := [⟨[.c (.dat .bool)], []⟩]
def ann_jsonBlanks : Ann := (.two .no (.two .no (.two .no (.two .no (.two .no (.two .no (.two .no (.two (.two .no (.one (.loop ⟨[1, 2, 5, 7, 8, 9, 10, 11], ⟨[.c (.dat (.list (.int .i64))), .c (.ptr 500 0), .c (.dat .str), .c (.own 501), .c (.dat .bool), .c (.dat .bool), .c (.dat (.int .i64)), .c (.dat (.int .i64))], [(500, .cells 25 [.dat (.int .i64), .dat .bool, .dat .str, .dat (.int .i64), .dat .bool, .dat (.list .js), .dat (.list .str)]), (501, .row 5 (.int .u8))]⟩⟩ (.two .no (.two (.join ⟨[1, 2, 5, 7, 8, 9, 10, 11], ⟨[.c (.dat (.list (.int .i64))), .c (.ptr 500 0), .c (.dat .str), .c (.own 501), .c (.dat .bool), .c (.dat .bool), .c (.dat (.int .i64)), .c (.dat (.int .i64))], [(500, .cells 25 [.dat (.int .i64), .dat .bool, .dat .str, .dat (.int .i64), .dat .bool, .dat (.list .js), .dat (.list .str)]), (501, .row 5 (.int .u8))]⟩⟩ (.one (.two .no (.two (.join ⟨[1, 2, 5, 7, 8, 9, 10, 11, 12, 13], ⟨[.c (.dat (.list (.int .i64))), .c (.ptr 500 0), .c (.dat .str), .c (.own 501), .c (.dat .bool), .c (.dat .bool), .c (.dat (.int .i64)), .c (.dat (.int .i64)), .c (.dat (.int .u8)), .c (.dat .bool)], [(500, .cells 25 [.dat (.int .i64), .dat .bool, .dat .str, .dat (.int .i64), .dat .bool, .dat (.list .js), .dat (.list .str)]), (501, .row 5 (.int .u8))]⟩⟩ .no) (.two (.join ⟨[1, 2, 5, 7, 8, 9, 10, 11, 12, 13], ⟨[.c (.dat (.list (.int .i64))), .c (.ptr 500 0), .c (.dat .str), .c (.own 501), .c (.dat .bool), .c (.dat .bool), .c (.dat (.int .i64)), .c (.dat (.int .i64)), .c (.dat (.int .u8)), .c (.dat .bool)], [(500, .cells 25 [.dat (.int .i64), .dat .bool, .dat .str, .dat (.int .i64), .dat .bool, .dat (.list .js), .dat (.list .str)]), (501, .row 5 (.int .u8))]⟩⟩ .no) (.two .no (.two (.join ⟨[1, 2, 5, 7, 8, 9, 10, 11, 12], ⟨[.c (.dat (.list (.int .i64))), .c (.ptr 500 0), .c (.dat .str), .c (.own 501), .c (.dat .bool), .c (.dat .bool), .c (.dat (.int .i64)), .c (.dat (.int .i64)), .c (.dat (.int .u8))], [(500, .cells 25 [.dat (.int .i64), .dat .bool, .dat .str, .dat (.int .i64), .dat .bool, .dat (.list .js), .dat (.list .str)]), (501, .row 5 (.int .u8))]⟩⟩ .no) .no))))))) .no))))) .no))))))))
/-- what turnstile/turnstilelaw06.JsonBlanks comes to. -/
def jsonBlanks (n : Nat) (x : Int × Bool × (List Int) × Int × Bool × (List JV) × (List (List Int)) × List Int) : Option (Bool) :=
  match x with
  | (x1, (x2, (x3, (x4, (x5, (x6, (x7, x8))))))) =>
  (Option.bind (small n (x1, (x2, (x3, (x4, (x5, (x6, x7))))))) fun r9 =>
  (if (!r9) = true then
  (Option.bind (works n ()) fun r10 =>
  some r10)
  else
  (Option.bind (jPrint n (x1, (x2, (x3, (x4, (x5, (x6, x7))))))) fun r11 =>
  (if (!(r11.2 == (0 : Int))) = true then
  (Option.bind (works n ()) fun r12 =>
  some r12)
  else
  (if (decide ((r11.1.length : Int) > (100000 : Int))) = true then
  (Option.bind (works n ()) fun r13 =>
  some r13)
  else
  (if ((x8.length : Int) == (0 : Int)) = true then
  (Option.bind (works n ()) fun r14 =>
  some r14)
  else
  (loopF (X := (List Int) × (List Int) × Bool × Bool × Int × Int × Int × Bool × (List Int) × Int × Bool × (List JV) × (List (List Int)) × List Int) (A := Bool) (fun rec15 y16 => match y16 with
  | (a17, (a18, (a19, (a20, (a21, (a22, (a23, (a24, (a25, (a26, (a27, (a28, (a29, a30))))))))))))) =>
  (if (decide (a22 < (a18.length : Int))) = true then
  (Option.bind (α := Out ((List Int) × (List Int) × Bool × Bool × Int × Int × Int × Bool × (List Int) × Int × Bool × (List JV) × (List (List Int)) × List Int) (Bool)) ((Option.bind (idx a18 a22) fun v31 =>
  (Option.bind (α := Out ((List Int) × (List Int) × Bool × Bool × Int × Int × Int × Bool × Int × Bool × (List Int) × Int × Bool × (List JV) × (List (List Int)) × List Int) (Out ((List Int) × (List Int) × Bool × Bool × Int × Int × Int × Bool × (List Int) × Int × Bool × (List JV) × (List (List Int)) × List Int) (Bool))) ((if (!a19) = true then
  (if (v31 == (91 : Int)) = true then
  (some (Out.go (a17, (a18, (a19, (a20, (a21, (a22, (v31, (true, (a23, (a24, (a25, (a26, (a27, (a28, (a29, a30)))))))))))))))))
  else
  (if (v31 == (93 : Int)) = true then
  (some (Out.go (a17, (a18, (a19, (a20, (a21, (a22, (v31, (true, (a23, (a24, (a25, (a26, (a27, (a28, (a29, a30)))))))))))))))))
  else
  (if (v31 == (123 : Int)) = true then
  (some (Out.go (a17, (a18, (a19, (a20, (a21, (a22, (v31, (true, (a23, (a24, (a25, (a26, (a27, (a28, (a29, a30)))))))))))))))))
  else
  (if (v31 == (125 : Int)) = true then
  (some (Out.go (a17, (a18, (a19, (a20, (a21, (a22, (v31, (true, (a23, (a24, (a25, (a26, (a27, (a28, (a29, a30)))))))))))))))))
  else
  (if (v31 == (44 : Int)) = true then
  (some (Out.go (a17, (a18, (a19, (a20, (a21, (a22, (v31, (true, (a23, (a24, (a25, (a26, (a27, (a28, (a29, a30)))))))))))))))))
  else
  (some (Out.go (a17, (a18, (a19, (a20, (a21, (a22, (v31, ((v31 == (58 : Int)), (a23, (a24, (a25, (a26, (a27, (a28, (a29, a30))))))))))))))))))))))
  else
  (some (Out.go (a17, (a18, (a19, (a20, (a21, (a22, (v31, (false, (a23, (a24, (a25, (a26, (a27, (a28, (a29, a30))))))))))))))))))) fun o => match o with
  | .go (z33, (z34, (z35, (z36, (z37, (z38, (z39, (z40, (z41, (z42, (z43, (z44, (z45, (z46, (z47, z48))))))))))))))) =>
  (Option.bind (α := Out ((List Int) × (List Int) × Bool × Bool × Int × Int × Int × Bool × Int × Bool × (List Int) × Int × Bool × (List JV) × (List (List Int)) × List Int) (Out ((List Int) × (List Int) × Bool × Bool × Int × Int × Int × Bool × (List Int) × Int × Bool × (List JV) × (List (List Int)) × List Int) (Bool))) ((if z40 = true then
  (if (z33.length : Int) = 0 then none else
  (Option.bind (idx z33 (Int.tmod z37 (z33.length : Int))) fun v49 =>
  (let u50 : Int := (IntKind.wrap .i64 ((Int.tmod v49 (4 : Int)) + (4 : Int)))
  (Option.bind (idx ([(32 : Int), (9 : Int), (10 : Int), (13 : Int)] : List Int) (Int.tmod u50 (4 : Int))) fun v51 =>
  (if (z48.length + 1) * 1 ≤ 140737488355328 then
  (let u52 : Int := (IntKind.wrap .i64 (z37 + (1 : Int)))
  (some (Out.go (z33, (z34, (z35, (z36, (u52, (z38, (z39, (z40, (z41, (z42, (z43, (z44, (z45, (z46, (z47, (z48 ++ ([v51] : List Int))))))))))))))))))))
  else none)))))
  else
  (some (Out.go (z33, (z34, (z35, (z36, (z37, (z38, (z39, (z40, (z41, (z42, (z43, (z44, (z45, (z46, (z47, z48))))))))))))))))))) fun o => match o with
  | .go (z54, (z55, (z56, (z57, (z58, (z59, (z60, (z61, (z62, (z63, (z64, (z65, (z66, (z67, (z68, z69))))))))))))))) =>
  (if (z69.length + 1) * 1 ≤ 140737488355328 then
  (Option.bind (α := Out ((List Int) × (List Int) × Bool × Bool × Int × Int × Int × Int × Bool × (List Int) × Int × Bool × (List JV) × (List (List Int)) × List Int) (Out ((List Int) × (List Int) × Bool × Bool × Int × Int × Int × Bool × (List Int) × Int × Bool × (List JV) × (List (List Int)) × List Int) (Bool))) ((if z61 = true then
  (if ((z69 ++ ([z60] : List Int)).length + 1) * 1 ≤ 140737488355328 then
  (let u70 : List Int := ((z69 ++ ([z60] : List Int)) ++ ([(32 : Int)] : List Int))
  (some (Out.go (z54, (z55, (z56, (z57, (z58, (z59, (z60, (z62, (z63, (z64, (z65, (z66, (z67, (z68, u70)))))))))))))))))
  else none)
  else
  (some (Out.go (z54, (z55, (z56, (z57, (z58, (z59, (z60, (z62, (z63, (z64, (z65, (z66, (z67, (z68, (z69 ++ ([z60] : List Int)))))))))))))))))))) fun o => match o with
  | .go (z72, (z73, (z74, (z75, (z76, (z77, (z78, (z79, (z80, (z81, (z82, (z83, (z84, (z85, z86)))))))))))))) =>
  (if z75 = true then
  (some (Out.go (z72, (z73, (z74, (false, (z76, (z77, (z79, (z80, (z81, (z82, (z83, (z84, (z85, z86)))))))))))))))
  else
  (if z74 = true then
  (if (z78 == (92 : Int)) = true then
  (some (Out.go (z72, (z73, (z74, (true, (z76, (z77, (z79, (z80, (z81, (z82, (z83, (z84, (z85, z86)))))))))))))))
  else
  (if (z78 == (34 : Int)) = true then
  (some (Out.go (z72, (z73, ((!z74), (z75, (z76, (z77, (z79, (z80, (z81, (z82, (z83, (z84, (z85, z86)))))))))))))))
  else
  (some (Out.go (z72, (z73, (z74, (z75, (z76, (z77, (z79, (z80, (z81, (z82, (z83, (z84, (z85, z86)))))))))))))))))
  else
  (if (z78 == (34 : Int)) = true then
  (some (Out.go (z72, (z73, ((!z74), (z75, (z76, (z77, (z79, (z80, (z81, (z82, (z83, (z84, (z85, z86)))))))))))))))
  else
  (some (Out.go (z72, (z73, (z74, (z75, (z76, (z77, (z79, (z80, (z81, (z82, (z83, (z84, (z85, z86))))))))))))))))))
  | .ret r87 => some r87)
  else none)
  | .ret r88 => some r88)
  | .ret r89 => some r89))) fun o => match o with
  | .go (z91, (z92, (z93, (z94, (z95, (z96, (z97, (z98, (z99, (z100, (z101, (z102, (z103, z104))))))))))))) =>
  (let u105 : Int := (IntKind.wrap .i64 (z96 + (1 : Int)))
  rec15 (z91, (z92, (z93, (z94, (z95, (u105, (z97, (z98, (z99, (z100, (z101, (z102, (z103, z104))))))))))))))
  | .ret r106 => some r106)
  else
  (Option.bind (jParse n a30) fun r107 =>
  (if (r107.2.2.2.2.2.2.2.2 == (0 : Int)) = true then
  (Option.bind (jSame n (a23, (a24, (a25, (a26, (a27, (a28, (a29, (r107.1, (r107.2.1, (r107.2.2.1, (r107.2.2.2.1, (r107.2.2.2.2.1, (r107.2.2.2.2.2.1, r107.2.2.2.2.2.2.1)))))))))))))) fun r108 =>
  (if r108 = true then
  (Option.bind (works n ()) fun r109 =>
  some r109)
  else
  some false))
  else
  some false)))) n (x8, (r11.1, (false, (false, ((0 : Int), ((0 : Int), (x1, (x2, (x3, (x4, (x5, (x6, (x7, ([] : List Int)))))))))))))))))))))
def sp_jsonBlanks (n : Nat) : Spec := ⟨pre_jsonBlanks, post_jsonBlanks, jsonBlanks n⟩
def env_jsonBlanks (n : Nat) : List (FuncId × Spec) := [(4, sp_small n), (5, sp_works n), (6, sp_jPrint n), (7, sp_jParse n), (8, sp_jSame n)]
theorem run_jsonBlanks (n : Nat) (x : pre_jsonBlanks.T) : fnRun Tryd.prog 46 (envG (env_jsonBlanks n) [] (fun _ => none)) n Tryd.f3 ann_jsonBlanks pre_jsonBlanks post_jsonBlanks x = jsonBlanks n x := by kernel_rfl
theorem ok_jsonBlanks (n : Nat) : FnOK Tryd.prog 46 LS 3 (sp_jsonBlanks n) :=
  fn_run mixed Tryd.func3 (sp_jsonBlanks n) n ann_jsonBlanks (env_jsonBlanks n) (envOf_cons (ok_small n) (envOf_cons (ok_works n) (envOf_cons (ok_jPrint n) (envOf_cons (ok_jParse n) (envOf_cons (ok_jSame n) envOf_nil))))) [] (fun _ => none) gl_none (run_jsonBlanks n) (by kernel_rfl)
end Go.Sx.YtmbakmdgmccgiabDoor
