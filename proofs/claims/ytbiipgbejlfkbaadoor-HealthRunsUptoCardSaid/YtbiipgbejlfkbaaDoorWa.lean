/- Part of a proof by a small interpreter on plain values; no condition. -/
import Derived.Test.YtbiipgbejlfkbaaDoorCa
import Derived.Test.YtbiipgbejlfkbaaDoorProg
/-! written by program: the functions as plain ones, and their contracts. -/
namespace Go.Sx.YtbiipgbejlfkbaaDoor
open Go Go.Sx Go.Proofs
set_option autoImplicit false
set_option maxRecDepth 100000
set_option linter.unusedVariables false
theorem mixed : Tryd.prog.follows .mixedOrders = true := by kernel_rfl
def pre_turnstilelaw24Num : Shape := ⟨[.c (.dat .err)], []⟩
def post_turnstilelaw24Num : List Shape := [⟨[.c (.dat (.int .i64))], []⟩]
def ann_turnstilelaw24Num : Ann := .no
/-- what turnstile/turnstilelaw24.num comes to. -/
def turnstilelaw24Num (n : Nat) (x : Int) : Option (Int) :=
  (if (x == (0 : Int)) = true then
  some (0 : Int)
  else
  (if (!(x != 0)) = true then
  some (-1 : Int)
  else
  some x))
def sp_turnstilelaw24Num (n : Nat) : Spec := ⟨pre_turnstilelaw24Num, post_turnstilelaw24Num, turnstilelaw24Num n⟩
def env_turnstilelaw24Num (n : Nat) : List (FuncId × Spec) := []
theorem run_turnstilelaw24Num (n : Nat) (x : pre_turnstilelaw24Num.T) : fnRun Tryd.prog 42 (envG (env_turnstilelaw24Num n) [] (fun _ => none)) n Tryd.f9 ann_turnstilelaw24Num pre_turnstilelaw24Num post_turnstilelaw24Num x = turnstilelaw24Num n x := by kernel_rfl
theorem ok_turnstilelaw24Num (n : Nat) : FnOK Tryd.prog 42 LS 9 (sp_turnstilelaw24Num n) :=
  fn_run mixed Tryd.func9 (sp_turnstilelaw24Num n) n ann_turnstilelaw24Num (env_turnstilelaw24Num n) envOf_nil [] (fun _ => none) gl_none (run_turnstilelaw24Num n) (by kernel_rfl)
def pre_text : Shape := ⟨[.a [.dat .bool, .dat (.int .i64), .dat (.int .i64), .dat (.int .i64)]], []⟩
def post_text : List Shape := [⟨[.c (.dat .str)], []⟩]
def ann_text : Ann := (.two .no (.two .no (.two (.join ⟨[1, 3], ⟨[.c (.ptr 500 0), .c (.dat .str)], [(500, .cells 27 [.dat .bool, .dat (.int .i64), .dat (.int .i64), .dat (.int .i64)])]⟩⟩ .no) .no)))
/-- what turnstile/health.Text comes to. -/
def text (n : Nat) (x : Bool × Int × Int × Int) : Option (List Int) :=
  match x with
  | (x1, (x2, (x3, x4))) =>
  (Option.bind (α := Out ((List Int) × Bool × Int × Int × Int) (List Int)) ((if x1 = true then
  (some (Out.go (([(117 : Int), (112 : Int)] : List Int), (x1, (x2, (x3, x4))))))
  else
  (some (Out.go (([(100 : Int), (111 : Int), (119 : Int), (110 : Int)] : List Int), (x1, (x2, (x3, x4)))))))) fun o => match o with
  | .go (z6, (z7, (z8, (z9, z10)))) =>
  (if z6.length + 1 ≤ 140737488355328 then
  (Option.bind (strItoa n z8) fun r11 =>
  (if (z6 ++ ([(32 : Int)] : List Int)).length + r11.length ≤ 140737488355328 then
  (let u12 : List Int := ((z6 ++ ([(32 : Int)] : List Int)) ++ r11)
  (if u12.length + 1 ≤ 140737488355328 then
  (Option.bind (strItoa n z9) fun r13 =>
  (if (u12 ++ ([(32 : Int)] : List Int)).length + r13.length ≤ 140737488355328 then
  (let u14 : List Int := ((u12 ++ ([(32 : Int)] : List Int)) ++ r13)
  (if u14.length + 1 ≤ 140737488355328 then
  (Option.bind (strItoa n z10) fun r15 =>
  (if (u14 ++ ([(32 : Int)] : List Int)).length + r15.length ≤ 140737488355328 then
  (let u16 : List Int := ((u14 ++ ([(32 : Int)] : List Int)) ++ r15)
  some u16)
  else none))
  else none))
  else none))
  else none))
  else none))
  else none)
  | .ret r17 => some r17)
def sp_text (n : Nat) : Spec := ⟨pre_text, post_text, text n⟩
def env_text (n : Nat) : List (FuncId × Spec) := [(17, sp_strItoa n)]
theorem run_text (n : Nat) (x : pre_text.T) : fnRun Tryd.prog 42 (envG (env_text n) [] (fun _ => none)) n Tryd.f13 ann_text pre_text post_text x = text n x := by kernel_rfl
theorem ok_text (n : Nat) : FnOK Tryd.prog 42 LS 13 (sp_text n) :=
  fn_run mixed Tryd.func13 (sp_text n) n ann_text (env_text n) (envOf_cons (ok_strItoa n) envOf_nil) [] (fun _ => none) gl_none (run_text n) (by kernel_rfl)
def pre_healthIn : Shape := ⟨[.c (.dat (.int .i64)), .c (.dat (.int .i64)), .c (.dat (.int .i64))], []⟩
def post_healthIn : List Shape := [⟨[.c (.dat .bool)], []⟩]
def ann_healthIn : Ann := .no
/-- what turnstile/health.in comes to. -/
def healthIn (n : Nat) (x : Int × Int × Int) : Option (Bool) :=
  match x with
  | (x1, (x2, x3)) =>
  (if (decide (x1 ≥ x2)) = true then
  some (decide (x1 ≤ x3))
  else
  some false)
def sp_healthIn (n : Nat) : Spec := ⟨pre_healthIn, post_healthIn, healthIn n⟩
def env_healthIn (n : Nat) : List (FuncId × Spec) := []
theorem run_healthIn (n : Nat) (x : pre_healthIn.T) : fnRun Tryd.prog 42 (envG (env_healthIn n) [] (fun _ => none)) n Tryd.f15 ann_healthIn pre_healthIn post_healthIn x = healthIn n x := by kernel_rfl
theorem ok_healthIn (n : Nat) : FnOK Tryd.prog 42 LS 15 (sp_healthIn n) :=
  fn_run mixed Tryd.func15 (sp_healthIn n) n ann_healthIn (env_healthIn n) envOf_nil [] (fun _ => none) gl_none (run_healthIn n) (by kernel_rfl)
def pre_statecan : Shape := ⟨[.a [.dat .bool, .dat (.int .i64), .dat (.int .i64), .dat (.int .i64)], .a [.dat .str, .dat (.int .i64), .dat (.int .i64), .dat (.int .i64), .dat (.int .i64)]], []⟩
def post_statecan : List Shape := [⟨[.c (.dat .bool)], []⟩]
def ann_statecan : Ann := .no
/-- what (turnstile/health.State).can comes to. -/
def statecan (n : Nat) (x : Bool × Int × Int × Int × (List Int) × Int × Int × Int × Int) : Option (Bool) :=
  match x with
  | (x1, (x2, (x3, (x4, (x5, (x6, (x7, (x8, x9)))))))) =>
  (if (x6 == (0 : Int)) = true then
  some ((x1 == true) && ((x2 == (0 : Int)) && ((x3 == (0 : Int)) && ((x4 == (-1 : Int)) && true))))
  else
  (if x1 = true then
  (Option.bind (healthIn n (x2, ((0 : Int), (IntKind.wrap .i64 (x9 - (1 : Int)))))) fun r10 =>
  (if r10 = true then
  (Option.bind (healthIn n (x3, ((0 : Int), (2199023255552 : Int)))) fun r11 =>
  (if r11 = true then
  (Option.bind (healthIn n (x4, ((-1 : Int), (1099511627776 : Int)))) fun r12 =>
  some r12)
  else
  some false))
  else
  some false))
  else
  (Option.bind (healthIn n (x2, ((0 : Int), (IntKind.wrap .i64 (x8 - (1 : Int)))))) fun r13 =>
  (if r13 = true then
  (Option.bind (healthIn n (x3, ((0 : Int), (2199023255552 : Int)))) fun r14 =>
  (if r14 = true then
  (Option.bind (healthIn n (x4, ((-1 : Int), (1099511627776 : Int)))) fun r15 =>
  some r15)
  else
  some false))
  else
  some false))))
def sp_statecan (n : Nat) : Spec := ⟨pre_statecan, post_statecan, statecan n⟩
def env_statecan (n : Nat) : List (FuncId × Spec) := [(15, sp_healthIn n)]
theorem run_statecan (n : Nat) (x : pre_statecan.T) : fnRun Tryd.prog 42 (envG (env_statecan n) [] (fun _ => none)) n Tryd.f16 ann_statecan pre_statecan post_statecan x = statecan n x := by kernel_rfl
theorem ok_statecan (n : Nat) : FnOK Tryd.prog 42 LS 16 (sp_statecan n) :=
  fn_run mixed Tryd.func16 (sp_statecan n) n ann_statecan (env_statecan n) (envOf_cons (ok_healthIn n) envOf_nil) [] (fun _ => none) gl_none (run_statecan n) (by kernel_rfl)
def pre_bldByte : Shape := ⟨[.c (.ptr 0 0), .c (.dat (.int .u8))], [(0, .cells 55 [.slf 0, .own 1]), (1, .row 5 (.int .u8))]⟩
def post_bldByte : List Shape := [⟨[.c (.errc (0))], [(0, .cells 55 [.slf 0, .own 1]), (1, .row 5 (.int .u8))]⟩]
def ann_bldByte : Ann := .no
/-- what (strings.Builder).WriteByte comes to. -/
def bldByte (n : Nat) (x : Int × List Int) : Option (List Int) :=
  match x with
  | (x1, x2) =>
  (Option.bind (bldCheck n x2) fun r3 =>
  (if (r3.length + 1) * 1 ≤ 140737488355328 then
  some (r3 ++ ([x1] : List Int))
  else none))
def sp_bldByte (n : Nat) : Spec := ⟨pre_bldByte, post_bldByte, bldByte n⟩
def env_bldByte (n : Nat) : List (FuncId × Spec) := [(35, sp_bldCheck n)]
theorem run_bldByte (n : Nat) (x : pre_bldByte.T) : fnRun Tryd.prog 42 (envG (env_bldByte n) [] (fun _ => none)) n Tryd.f23 ann_bldByte pre_bldByte post_bldByte x = bldByte n x := by kernel_rfl
theorem ok_bldByte (n : Nat) : FnOK Tryd.prog 42 LS 23 (sp_bldByte n) :=
  fn_run mixed Tryd.func23 (sp_bldByte n) n ann_bldByte (env_bldByte n) (envOf_cons (ok_bldCheck n) envOf_nil) [] (fun _ => none) gl_none (run_bldByte n) (by kernel_rfl)
def pre_bldStr : Shape := ⟨[.c (.ptr 0 0), .c (.dat .str)], [(0, .cells 55 [.slf 0, .own 1]), (1, .row 5 (.int .u8))]⟩
def post_bldStr : List Shape := [⟨[.c (.dat (.int .i64)), .c (.errc (0))], [(0, .cells 55 [.slf 0, .own 1]), (1, .row 5 (.int .u8))]⟩]
def ann_bldStr : Ann := .no
/-- what (strings.Builder).WriteString comes to. -/
def bldStr (n : Nat) (x : (List Int) × List Int) : Option (Int × List Int) :=
  match x with
  | (x1, x2) =>
  (Option.bind (bldCheck n x2) fun r3 =>
  (if (r3.length + x1.length) * 1 ≤ 140737488355328 then
  some ((x1.length : Int), (r3 ++ x1))
  else none))
def sp_bldStr (n : Nat) : Spec := ⟨pre_bldStr, post_bldStr, bldStr n⟩
def env_bldStr (n : Nat) : List (FuncId × Spec) := [(35, sp_bldCheck n)]
theorem run_bldStr (n : Nat) (x : pre_bldStr.T) : fnRun Tryd.prog 42 (envG (env_bldStr n) [] (fun _ => none)) n Tryd.f25 ann_bldStr pre_bldStr post_bldStr x = bldStr n x := by kernel_rfl
theorem ok_bldStr (n : Nat) : FnOK Tryd.prog 42 LS 25 (sp_bldStr n) :=
  fn_run mixed Tryd.func25 (sp_bldStr n) n ann_bldStr (env_bldStr n) (envOf_cons (ok_bldCheck n) envOf_nil) [] (fun _ => none) gl_none (run_bldStr n) (by kernel_rfl)
def pre_coded : Shape := ⟨[.c (.dat (.int .u8))], []⟩
def post_coded : List Shape := [⟨[.c (.dat .str)], []⟩]
def ann_coded : Ann := .no
/-- what turnstile/target.coded comes to. -/
def coded (n : Nat) (x : Int) : Option (List Int) :=
  (let u2 : Int := (IntKind.wrap .u8 ((Int.fdiv x 16) + (1 : Int)))
  (if 0 ≤ (Int.fdiv x 16) ∧ (Int.fdiv x 16) ≤ u2 ∧ u2 ≤ (16 : Int) then
  (let u3 : List Int := ((([(48 : Int), (49 : Int), (50 : Int), (51 : Int), (52 : Int), (53 : Int), (54 : Int), (55 : Int), (56 : Int), (57 : Int), (65 : Int), (66 : Int), (67 : Int), (68 : Int), (69 : Int), (70 : Int)] : List Int).drop (Int.fdiv x 16).toNat).take (u2.toNat - (Int.fdiv x 16).toNat))
  (if 1 + u3.length ≤ 140737488355328 then
  (let u4 : Int := (IntKind.wrap .u8 ((bits .and .u8 x (15 : Int)) + (1 : Int)))
  (if 0 ≤ (bits .and .u8 x (15 : Int)) ∧ (bits .and .u8 x (15 : Int)) ≤ u4 ∧ u4 ≤ (16 : Int) then
  (let u5 : List Int := ((([(48 : Int), (49 : Int), (50 : Int), (51 : Int), (52 : Int), (53 : Int), (54 : Int), (55 : Int), (56 : Int), (57 : Int), (65 : Int), (66 : Int), (67 : Int), (68 : Int), (69 : Int), (70 : Int)] : List Int).drop (bits .and .u8 x (15 : Int)).toNat).take (u4.toNat - (bits .and .u8 x (15 : Int)).toNat))
  (if (([(37 : Int)] : List Int) ++ u3).length + u5.length ≤ 140737488355328 then
  (let u6 : List Int := ((([(37 : Int)] : List Int) ++ u3) ++ u5)
  some u6)
  else none))
  else none))
  else none))
  else none))
def sp_coded (n : Nat) : Spec := ⟨pre_coded, post_coded, coded n⟩
def env_coded (n : Nat) : List (FuncId × Spec) := []
theorem run_coded (n : Nat) (x : pre_coded.T) : fnRun Tryd.prog 42 (envG (env_coded n) [] (fun _ => none)) n Tryd.f26 ann_coded pre_coded post_coded x = coded n x := by kernel_rfl
theorem ok_coded (n : Nat) : FnOK Tryd.prog 42 LS 26 (sp_coded n) :=
  fn_run mixed Tryd.func26 (sp_coded n) n ann_coded (env_coded n) envOf_nil [] (fun _ => none) gl_none (run_coded n) (by kernel_rfl)
def pre_join : Shape := ⟨[.c (.dat (.list .str)), .c (.dat .str)], []⟩
def post_join : List Shape := [⟨[.c (.dat .str)], []⟩]
def ann_join : Ann := (.two .no (.two .no (.two .no (.two (.join ⟨[0, 1, 5], ⟨[.c (.dat (.list .str)), .c (.dat .str), .c (.dat (.int .i64))], []⟩⟩ .no) (.two (.two .no (.one (.loop ⟨[0, 1, 5, 39, 40, 41], ⟨[.c (.dat (.list .str)), .c (.dat .str), .c (.dat (.int .i64)), .c (.dat (.list .str)), .c (.dat (.int .i64)), .c (.dat (.int .i64))], []⟩⟩ .no))) (.two .no (.two .no (.two .no (.two (.two .no (.one (.loop ⟨[1, 8, 63, 64, 65], ⟨[.c (.dat .str), .c (.ptr 500 0), .c (.dat (.list .str)), .c (.dat (.int .i64)), .c (.dat (.int .i64))], [(500, .cells 55 [.slf 500, .own 501]), (501, .row 5 (.int .u8))]⟩⟩ .no))) .no)))))))))
/-- what strings.Join comes to. -/
def join (n : Nat) (x : (List (List Int)) × List Int) : Option (List Int) :=
  match x with
  | (x1, x2) =>
  (if ((x1.length : Int) == (0 : Int)) = true then
  some ([] : List Int)
  else
  (if ((x1.length : Int) == (1 : Int)) = true then
  (Option.bind (idx x1 (0 : Int)) fun v3 =>
  some v3)
  else
  (Option.bind (α := Out ((List (List Int)) × (List Int) × Int) (List Int)) ((if (decide ((x2.length : Int) > (0 : Int))) = true then
  (let u4 : Int := (IntKind.wrap .i64 ((x1.length : Int) - (1 : Int)))
  (if u4 = 0 then none else
  (let u5 : Int := (IntKind.wrap .i64 (Int.tdiv (9223372036854775807 : Int) u4))
  (if (decide ((x2.length : Int) ≥ u5)) = true then
  none
  else
  (let u6 : Int := (IntKind.wrap .i64 ((x1.length : Int) - (1 : Int)))
  (let u7 : Int := (IntKind.wrap .i64 ((x2.length : Int) * u6))
  (some (Out.go (x1, (x2, (IntKind.wrap .i64 ((0 : Int) + u7))))))))))))
  else
  (some (Out.go (x1, (x2, (0 : Int))))))) fun o => match o with
  | .go (z9, (z10, z11)) =>
  (loopF (X := (List (List Int)) × (List Int) × Int × (List (List Int)) × Int × Int) (A := List Int) (fun rec12 y13 => match y13 with
  | (a14, (a15, (a16, (a17, (a18, a19))))) =>
  (if (decide (a19 < a18)) = true then
  (Option.bind (idx a17 a19) fun v20 =>
  (let u21 : Int := (IntKind.wrap .i64 ((9223372036854775807 : Int) - a16))
  (if (decide ((v20.length : Int) > u21)) = true then
  none
  else
  (let u22 : Int := (IntKind.wrap .i64 (a16 + (v20.length : Int)))
  (let u23 : Int := (IntKind.wrap .i64 (a19 + (1 : Int)))
  rec12 (a14, (a15, (u22, (a17, (a18, u23))))))))))
  else
  (Option.bind (bldGrow n a16) fun r24 =>
  (Option.bind (idx a14 (0 : Int)) fun v25 =>
  (Option.bind (bldStr n (v25, r24)) fun r26 =>
  (if 0 ≤ (1 : Int) ∧ (1 : Int) ≤ (a14.length : Int) ∧ (a14.length : Int) ≤ (a14.length : Int) then
  (let u27 : List (List Int) := ((a14.drop 1).take (((a14.length : Int)).toNat - 1))
  (loopF (X := (List Int) × (List (List Int)) × Int × Int × List Int) (A := List Int) (fun rec28 y29 => match y29 with
  | (a30, (a31, (a32, (a33, a34)))) =>
  (if (decide (a33 < a32)) = true then
  (Option.bind (idx a31 a33) fun v35 =>
  (Option.bind (bldStr n (a30, a34)) fun r36 =>
  (Option.bind (bldStr n (v35, r36.2)) fun r37 =>
  (let u38 : Int := (IntKind.wrap .i64 (a33 + (1 : Int)))
  rec28 (a30, (a31, (a32, (u38, r37.2))))))))
  else
  (Option.bind (bldString n a34) fun r39 =>
  some r39))) n (a15, (u27, ((u27.length : Int), ((0 : Int), r26.2))))))
  else none)))))) n (z9, (z10, (z11, (z9, ((z9.length : Int), (0 : Int)))))))
  | .ret r40 => some r40)))
def sp_join (n : Nat) : Spec := ⟨pre_join, post_join, join n⟩
def env_join (n : Nat) : List (FuncId × Spec) := [(40, sp_bldGrow n), (25, sp_bldStr n), (28, sp_bldString n)]
theorem run_join (n : Nat) (x : pre_join.T) : fnRun Tryd.prog 42 (envG (env_join n) [] (fun _ => none)) n Tryd.f29 ann_join pre_join post_join x = join n x := by kernel_rfl
theorem ok_join (n : Nat) : FnOK Tryd.prog 42 LS 29 (sp_join n) :=
  fn_run mixed Tryd.func29 (sp_join n) n ann_join (env_join n) (envOf_cons (ok_bldGrow n) (envOf_cons (ok_bldStr n) (envOf_cons (ok_bldString n) envOf_nil))) [] (fun _ => none) gl_none (run_join n) (by kernel_rfl)
def pre_letter : Shape := ⟨[.c (.dat (.int .u8))], []⟩
def post_letter : List Shape := [⟨[.c (.dat .bool)], []⟩]
def ann_letter : Ann := .no
/-- what turnstile/target.letter comes to. -/
def letter (n : Nat) (x : Int) : Option (Bool) :=
  (if (decide ((bits .or .u8 x (32 : Int)) ≥ (97 : Int))) = true then
  some (decide ((bits .or .u8 x (32 : Int)) ≤ (122 : Int)))
  else
  some false)
def sp_letter (n : Nat) : Spec := ⟨pre_letter, post_letter, letter n⟩
def env_letter (n : Nat) : List (FuncId × Spec) := []
theorem run_letter (n : Nat) (x : pre_letter.T) : fnRun Tryd.prog 42 (envG (env_letter n) [] (fun _ => none)) n Tryd.f36 ann_letter pre_letter post_letter x = letter n x := by kernel_rfl
theorem ok_letter (n : Nat) : FnOK Tryd.prog 42 LS 36 (sp_letter n) :=
  fn_run mixed Tryd.func36 (sp_letter n) n ann_letter (env_letter n) envOf_nil [] (fun _ => none) gl_none (run_letter n) (by kernel_rfl)
def pre_digit : Shape := ⟨[.c (.dat (.int .u8))], []⟩
def post_digit : List Shape := [⟨[.c (.dat .bool)], []⟩]
def ann_digit : Ann := .no
/-- what turnstile/target.digit comes to. -/
def digit (n : Nat) (x : Int) : Option (Bool) :=
  (if (decide (x ≥ (48 : Int))) = true then
  some (decide (x ≤ (57 : Int)))
  else
  some false)
def sp_digit (n : Nat) : Spec := ⟨pre_digit, post_digit, digit n⟩
def env_digit (n : Nat) : List (FuncId × Spec) := []
theorem run_digit (n : Nat) (x : pre_digit.T) : fnRun Tryd.prog 42 (envG (env_digit n) [] (fun _ => none)) n Tryd.f37 ann_digit pre_digit post_digit x = digit n x := by kernel_rfl
theorem ok_digit (n : Nat) : FnOK Tryd.prog 42 LS 37 (sp_digit n) :=
  fn_run mixed Tryd.func37 (sp_digit n) n ann_digit (env_digit n) envOf_nil [] (fun _ => none) gl_none (run_digit n) (by kernel_rfl)
def pre_isHost : Shape := ⟨[.c (.dat .str)], []⟩
def post_isHost : List Shape := [⟨[.c (.dat .bool)], []⟩]
def ann_isHost : Ann := (.two .no (.two (.two .no (.one (.loop ⟨[0, 5, 6], ⟨[.c (.dat .str), .c (.dat (.int .i64)), .c (.dat (.int .i64))], []⟩⟩ .no))) .no))
/-- what turnstile/target.isHost comes to. -/
def isHost (n : Nat) (x : List Int) : Option (Bool) :=
  (loopF (X := (List Int) × Int × Int) (A := Bool) (fun rec2 y3 => match y3 with
  | (a4, (a5, a6)) =>
  (if (decide (a6 < a5)) = true then
  (Option.bind (idx a4 a6) fun v7 =>
  (Option.bind (letter n v7) fun r8 =>
  (if (!r8) = true then
  (Option.bind (idx a4 a6) fun v9 =>
  (Option.bind (digit n v9) fun r10 =>
  (if (!r10) = true then
  (Option.bind (idx a4 a6) fun v11 =>
  (Option.bind (stringsIndexByte n (([(45 : Int), (46 : Int), (95 : Int), (58 : Int)] : List Int), v11)) fun r12 =>
  (if (decide (r12 < (0 : Int))) = true then
  some false
  else
  rec2 (a4, (a5, (IntKind.wrap .i64 (a6 + (1 : Int))))))))
  else
  rec2 (a4, (a5, (IntKind.wrap .i64 (a6 + (1 : Int))))))))
  else
  rec2 (a4, (a5, (IntKind.wrap .i64 (a6 + (1 : Int))))))))
  else
  (if (decide ((a4.length : Int) ≥ (1 : Int))) = true then
  some (decide ((a4.length : Int) ≤ (255 : Int)))
  else
  some false))) n (x, ((x.length : Int), (0 : Int))))
def sp_isHost (n : Nat) : Spec := ⟨pre_isHost, post_isHost, isHost n⟩
def env_isHost (n : Nat) : List (FuncId × Spec) := [(36, sp_letter n), (37, sp_digit n), (38, sp_stringsIndexByte n)]
theorem run_isHost (n : Nat) (x : pre_isHost.T) : fnRun Tryd.prog 42 (envG (env_isHost n) [] (fun _ => none)) n Tryd.f43 ann_isHost pre_isHost post_isHost x = isHost n x := by kernel_rfl
theorem ok_isHost (n : Nat) : FnOK Tryd.prog 42 LS 43 (sp_isHost n) :=
  fn_run mixed Tryd.func43 (sp_isHost n) n ann_isHost (env_isHost n) (envOf_cons (ok_letter n) (envOf_cons (ok_digit n) (envOf_cons (ok_stringsIndexByte n) envOf_nil))) [] (fun _ => none) gl_none (run_isHost n) (by kernel_rfl)
def pre_stringsliteHasPrefix : Shape := ⟨[.c (.dat .str), .c (.dat .str)], []⟩
def post_stringsliteHasPrefix : List Shape := [⟨[.c (.dat .bool)], []⟩]
def ann_stringsliteHasPrefix : Ann := .no
/-- what internal/stringslite.HasPrefix comes to. -/
def stringsliteHasPrefix (n : Nat) (x : (List Int) × List Int) : Option (Bool) :=
  match x with
  | (x1, x2) =>
  (if (decide ((x1.length : Int) ≥ (x2.length : Int))) = true then
  (if 0 ≤ (0 : Int) ∧ (0 : Int) ≤ (x2.length : Int) ∧ (x2.length : Int) ≤ (x1.length : Int) then
  (let u3 : List Int := ((x1.drop 0).take ((x2.length : Int).toNat - 0))
  some (u3 == x2))
  else none)
  else
  some false)
def sp_stringsliteHasPrefix (n : Nat) : Spec := ⟨pre_stringsliteHasPrefix, post_stringsliteHasPrefix, stringsliteHasPrefix n⟩
def env_stringsliteHasPrefix (n : Nat) : List (FuncId × Spec) := []
theorem run_stringsliteHasPrefix (n : Nat) (x : pre_stringsliteHasPrefix.T) : fnRun Tryd.prog 42 (envG (env_stringsliteHasPrefix n) [] (fun _ => none)) n Tryd.f50 ann_stringsliteHasPrefix pre_stringsliteHasPrefix post_stringsliteHasPrefix x = stringsliteHasPrefix n x := by kernel_rfl
theorem ok_stringsliteHasPrefix (n : Nat) : FnOK Tryd.prog 42 LS 50 (sp_stringsliteHasPrefix n) :=
  fn_run mixed Tryd.func50 (sp_stringsliteHasPrefix n) n ann_stringsliteHasPrefix (env_stringsliteHasPrefix n) envOf_nil [] (fun _ => none) gl_none (run_stringsliteHasPrefix n) (by kernel_rfl)
def pre_shouldUseASCIISet : Shape := ⟨[.c (.dat (.int .i64))], []⟩
def post_shouldUseASCIISet : List Shape := [⟨[.c (.dat .bool)], []⟩]
def ann_shouldUseASCIISet : Ann := .no
/-- what strings.shouldUseASCIISet comes to. -/
def shouldUseASCIISet (n : Nat) (x : Int) : Option (Bool) :=
  some (decide (x > (8 : Int)))
def sp_shouldUseASCIISet (n : Nat) : Spec := ⟨pre_shouldUseASCIISet, post_shouldUseASCIISet, shouldUseASCIISet n⟩
def env_shouldUseASCIISet (n : Nat) : List (FuncId × Spec) := []
theorem run_shouldUseASCIISet (n : Nat) (x : pre_shouldUseASCIISet.T) : fnRun Tryd.prog 42 (envG (env_shouldUseASCIISet n) [] (fun _ => none)) n Tryd.f61 ann_shouldUseASCIISet pre_shouldUseASCIISet post_shouldUseASCIISet x = shouldUseASCIISet n x := by kernel_rfl
theorem ok_shouldUseASCIISet (n : Nat) : FnOK Tryd.prog 42 LS 61 (sp_shouldUseASCIISet n) :=
  fn_run mixed Tryd.func61 (sp_shouldUseASCIISet n) n ann_shouldUseASCIISet (env_shouldUseASCIISet n) envOf_nil [] (fun _ => none) gl_none (run_shouldUseASCIISet n) (by kernel_rfl)
def pre_makeASCIISet : Shape := ⟨[.c (.dat .str)], []⟩
def post_makeASCIISet : List Shape := [⟨[.sg [.blk (.arr 256 .bool)], .c (.dat .bool)], []⟩]
def ann_makeASCIISet : Ann := (.two .no (.two (.two .no (.one (.loop ⟨[0, 2, 4], ⟨[.c (.dat .str), .c (.arr 500 1), .c (.dat (.int .i64))], [(500, .row 98 .bool)]⟩⟩ .no))) .no))
/-- what strings.makeASCIISet comes to. -/
def makeASCIISet (n : Nat) (x : List Int) : Option ((List Bool) × Bool) :=
  (loopF (X := (List Int) × Int × List Bool) (A := (List Bool) × Bool) (fun rec2 y3 => match y3 with
  | (a4, (a5, a6)) =>
  (if (decide (a5 < (a4.length : Int))) = true then
  (Option.bind (idx a4 a5) fun v7 =>
  (if (decide (v7 ≥ (128 : Int))) = true then
  (if 256 = a6.length then
  (if 256 = a6.length ∧ 256 = a6.length then
  (if 256 = a6.length then
  some (a6, false)
  else none)
  else none)
  else none)
  else
  (if 256 = a6.length then
  (if 0 ≤ v7 ∧ v7 < (a6.length : Int) then
  rec2 (a4, ((IntKind.wrap .i64 (a5 + (1 : Int))), (a6.set v7.toNat true)))
  else none)
  else none)))
  else
  (if 256 = a6.length then
  (if 256 = a6.length ∧ 256 = a6.length then
  (if 256 = a6.length then
  some (a6, true)
  else none)
  else none)
  else none))) n (x, ((0 : Int), ([false, false, false, false, false, false, false, false, false, false, false, false, false, false, false, false, false, false, false, false, false, false, false, false, false, false, false, false, false, false, false, false, false, false, false, false, false, false, false, false, false, false, false, false, false, false, false, false, false, false, false, false, false, false, false, false, false, false, false, false, false, false, false, false, false, false, false, false, false, false, false, false, false, false, false, false, false, false, false, false, false, false, false, false, false, false, false, false, false, false, false, false, false, false, false, false, false, false, false, false, false, false, false, false, false, false, false, false, false, false, false, false, false, false, false, false, false, false, false, false, false, false, false, false, false, false, false, false, false, false, false, false, false, false, false, false, false, false, false, false, false, false, false, false, false, false, false, false, false, false, false, false, false, false, false, false, false, false, false, false, false, false, false, false, false, false, false, false, false, false, false, false, false, false, false, false, false, false, false, false, false, false, false, false, false, false, false, false, false, false, false, false, false, false, false, false, false, false, false, false, false, false, false, false, false, false, false, false, false, false, false, false, false, false, false, false, false, false, false, false, false, false, false, false, false, false, false, false, false, false, false, false, false, false, false, false, false, false, false, false, false, false, false, false, false, false, false, false, false, false, false, false, false, false, false, false] : List Bool))))
def sp_makeASCIISet (n : Nat) : Spec := ⟨pre_makeASCIISet, post_makeASCIISet, makeASCIISet n⟩
def env_makeASCIISet (n : Nat) : List (FuncId × Spec) := []
theorem run_makeASCIISet (n : Nat) (x : pre_makeASCIISet.T) : fnRun Tryd.prog 42 (envG (env_makeASCIISet n) [] (fun _ => none)) n Tryd.f62 ann_makeASCIISet pre_makeASCIISet post_makeASCIISet x = makeASCIISet n x := by kernel_rfl
theorem ok_makeASCIISet (n : Nat) : FnOK Tryd.prog 42 LS 62 (sp_makeASCIISet n) :=
  fn_run mixed Tryd.func62 (sp_makeASCIISet n) n ann_makeASCIISet (env_makeASCIISet n) envOf_nil [] (fun _ => none) gl_none (run_makeASCIISet n) (by kernel_rfl)
def pre_setHas : Shape := ⟨[.c (.arr 250 1), .c (.dat (.int .u8))], [(250, .row 98 .bool)]⟩
def post_setHas : List Shape := [⟨[.c (.dat .bool)], [(250, .row 98 .bool)]⟩]
def ann_setHas : Ann := .no
/-- what (strings.asciiSet).contains comes to. -/
def setHas (n : Nat) (x : Int × List Bool) : Option (Bool × List Bool) :=
  match x with
  | (x1, x2) =>
  (if 256 = x2.length then
  (if 0 ≤ x1 ∧ x1 < (x2.length : Int) then
  some ((x2.getD x1.toNat false), x2)
  else none)
  else none)
def sp_setHas (n : Nat) : Spec := ⟨pre_setHas, post_setHas, setHas n⟩
def env_setHas (n : Nat) : List (FuncId × Spec) := []
theorem run_setHas (n : Nat) (x : pre_setHas.T) : fnRun Tryd.prog 42 (envG (env_setHas n) [] (fun _ => none)) n Tryd.f63 ann_setHas pre_setHas post_setHas x = setHas n x := by kernel_rfl
theorem ok_setHas (n : Nat) : FnOK Tryd.prog 42 LS 63 (sp_setHas n) :=
  fn_run mixed Tryd.func63 (sp_setHas n) n ann_setHas (env_setHas n) envOf_nil [] (fun _ => none) gl_none (run_setHas n) (by kernel_rfl)
def pre_stringsliteIndex : Shape := ⟨[.c (.dat .str), .c (.dat .str)], []⟩
def post_stringsliteIndex : List Shape := [⟨[.c (.dat (.int .i64))], []⟩]
def ann_stringsliteIndex : Ann := .no
/-- what internal/stringslite.Index comes to. -/
def stringsliteIndex (n : Nat) (x : (List Int) × List Int) : Option (Int) :=
  match x with
  | (x1, x2) =>
  (if ((x2.length : Int) == (0 : Int)) = true then
  some (0 : Int)
  else
  (if (x2 == x1) = true then
  some (0 : Int)
  else
  (if ((x2.length : Int) == (1 : Int)) = true then
  (Option.bind (idx x2 (0 : Int)) fun v3 =>
  (Option.bind (liteIndexByte n (x1, v3)) fun r4 =>
  some r4))
  else
  (if (decide ((x2.length : Int) ≥ (x1.length : Int))) = true then
  some (-1 : Int)
  else
  none))))
def sp_stringsliteIndex (n : Nat) : Spec := ⟨pre_stringsliteIndex, post_stringsliteIndex, stringsliteIndex n⟩
def env_stringsliteIndex (n : Nat) : List (FuncId × Spec) := [(53, sp_liteIndexByte n)]
theorem run_stringsliteIndex (n : Nat) (x : pre_stringsliteIndex.T) : fnRun Tryd.prog 42 (envG (env_stringsliteIndex n) [] (fun _ => none)) n Tryd.f74 ann_stringsliteIndex pre_stringsliteIndex post_stringsliteIndex x = stringsliteIndex n x := by kernel_rfl
theorem ok_stringsliteIndex (n : Nat) : FnOK Tryd.prog 42 LS 74 (sp_stringsliteIndex n) :=
  fn_run mixed Tryd.func74 (sp_stringsliteIndex n) n ann_stringsliteIndex (env_stringsliteIndex n) (envOf_cons (ok_liteIndexByte n) envOf_nil) [] (fun _ => none) gl_none (run_stringsliteIndex n) (by kernel_rfl)
def pre_validRune : Shape := ⟨[.c (.dat (.int .i32))], []⟩
def post_validRune : List Shape := [⟨[.c (.dat .bool)], []⟩]
def ann_validRune : Ann := .no
/-- what unicode/utf8.ValidRune comes to. -/
def validRune (n : Nat) (x : Int) : Option (Bool) :=
  (if (decide ((0 : Int) ≤ x)) = true then
  (if (decide (x < (55296 : Int))) = true then
  some true
  else
  (if (decide ((57343 : Int) < x)) = true then
  (if (decide (x ≤ (1114111 : Int))) = true then
  some true
  else
  some false)
  else
  some false))
  else
  (if (decide ((57343 : Int) < x)) = true then
  (if (decide (x ≤ (1114111 : Int))) = true then
  some true
  else
  some false)
  else
  some false))
def sp_validRune (n : Nat) : Spec := ⟨pre_validRune, post_validRune, validRune n⟩
def env_validRune (n : Nat) : List (FuncId × Spec) := []
theorem run_validRune (n : Nat) (x : pre_validRune.T) : fnRun Tryd.prog 42 (envG (env_validRune n) [] (fun _ => none)) n Tryd.f80 ann_validRune pre_validRune post_validRune x = validRune n x := by kernel_rfl
theorem ok_validRune (n : Nat) : FnOK Tryd.prog 42 LS 80 (sp_validRune n) :=
  fn_run mixed Tryd.func80 (sp_validRune n) n ann_validRune (env_validRune n) envOf_nil [] (fun _ => none) gl_none (run_validRune n) (by kernel_rfl)
def pre_cutover : Shape := ⟨[.c (.dat (.int .i64))], []⟩
def post_cutover : List Shape := [⟨[.c (.dat (.int .i64))], []⟩]
def ann_cutover : Ann := .no
/-- what internal/bytealg.Cutover comes to. -/
def cutover (n : Nat) (x : Int) : Option (Int) :=
  (let u2 : Int := (IntKind.wrap .i64 (Int.tdiv (IntKind.wrap .i64 (x + (16 : Int))) (8 : Int)))
  some u2)
def sp_cutover (n : Nat) : Spec := ⟨pre_cutover, post_cutover, cutover n⟩
def env_cutover (n : Nat) : List (FuncId × Spec) := []
theorem run_cutover (n : Nat) (x : pre_cutover.T) : fnRun Tryd.prog 42 (envG (env_cutover n) [] (fun _ => none)) n Tryd.f81 ann_cutover pre_cutover post_cutover x = cutover n x := by kernel_rfl
theorem ok_cutover (n : Nat) : FnOK Tryd.prog 42 LS 81 (sp_cutover n) :=
  fn_run mixed Tryd.func81 (sp_cutover n) n ann_cutover (env_cutover n) envOf_nil [] (fun _ => none) gl_none (run_cutover n) (by kernel_rfl)
def pre_hashStrstring : Shape := ⟨[.c (.dat .str)], []⟩
def post_hashStrstring : List Shape := [⟨[.c (.dat (.int .u32)), .c (.dat (.int .u32))], []⟩]
def ann_hashStrstring : Ann := (.two .no (.two .no (.two (.two .no (.one (.loop ⟨[0, 4, 5], ⟨[.c (.dat .str), .c (.dat (.int .u32)), .c (.dat (.int .i64))], []⟩⟩ .no))) (.two .no (.two (.two .no (.one (.loop ⟨[4, 6, 7, 8], ⟨[.c (.dat (.int .u32)), .c (.dat (.int .u32)), .c (.dat (.int .u32)), .c (.dat (.int .i64))], []⟩⟩ .no))) .no)))))
/-- what internal/bytealg.hashStr[string] comes to. -/
def hashStrstring (n : Nat) (x : List Int) : Option (Int × Int) :=
  (loopF (X := (List Int) × Int × Int) (A := Int × Int) (fun rec2 y3 => match y3 with
  | (a4, (a5, a6)) =>
  (if (decide (a6 < (a4.length : Int))) = true then
  (let u7 : Int := (IntKind.wrap .u32 (a5 * (16777619 : Int)))
  (Option.bind (idx a4 a6) fun v8 =>
  (let u9 : Int := (IntKind.wrap .u32 (u7 + (IntKind.wrap .u32 v8)))
  rec2 (a4, (u9, (IntKind.wrap .i64 (a6 + (1 : Int))))))))
  else
  (loopF (X := Int × Int × Int × Int) (A := Int × Int) (fun rec10 y11 => match y11 with
  | (a12, (a13, (a14, a15))) =>
  (if (decide (a15 > (0 : Int))) = true then
  (if ((bits .and .i64 a15 (1 : Int)) != (0 : Int)) = true then
  rec10 (a12, ((IntKind.wrap .u32 (a13 * a14)), ((IntKind.wrap .u32 (a14 * a14)), (Int.fdiv a15 2))))
  else
  rec10 (a12, (a13, ((IntKind.wrap .u32 (a14 * a14)), (Int.fdiv a15 2)))))
  else
  some (a12, a13))) n (a5, ((1 : Int), ((16777619 : Int), (a4.length : Int))))))) n (x, ((0 : Int), (0 : Int))))
def sp_hashStrstring (n : Nat) : Spec := ⟨pre_hashStrstring, post_hashStrstring, hashStrstring n⟩
def env_hashStrstring (n : Nat) : List (FuncId × Spec) := []
theorem run_hashStrstring (n : Nat) (x : pre_hashStrstring.T) : fnRun Tryd.prog 42 (envG (env_hashStrstring n) [] (fun _ => none)) n Tryd.f89 ann_hashStrstring pre_hashStrstring post_hashStrstring x = hashStrstring n x := by kernel_rfl
theorem ok_hashStrstring (n : Nat) : FnOK Tryd.prog 42 LS 89 (sp_hashStrstring n) :=
  fn_run mixed Tryd.func89 (sp_hashStrstring n) n ann_hashStrstring (env_hashStrstring n) envOf_nil [] (fun _ => none) gl_none (run_hashStrstring n) (by kernel_rfl)
def pre_unreserved : Shape := ⟨[.c (.dat (.int .u8))], []⟩
def post_unreserved : List Shape := [⟨[.c (.dat .bool)], []⟩]
def ann_unreserved : Ann := .no
/-- what turnstile/target.unreserved comes to. -/
def unreserved (n : Nat) (x : Int) : Option (Bool) :=
  (Option.bind (letter n x) fun r2 =>
  (if r2 = true then
  some true
  else
  (Option.bind (digit n x) fun r3 =>
  (if r3 = true then
  some true
  else
  (Option.bind (stringsIndexByte n (([(45 : Int), (46 : Int), (95 : Int), (126 : Int)] : List Int), x)) fun r4 =>
  some (decide (r4 ≥ (0 : Int))))))))
def sp_unreserved (n : Nat) : Spec := ⟨pre_unreserved, post_unreserved, unreserved n⟩
def env_unreserved (n : Nat) : List (FuncId × Spec) := [(36, sp_letter n), (37, sp_digit n), (38, sp_stringsIndexByte n)]
theorem run_unreserved (n : Nat) (x : pre_unreserved.T) : fnRun Tryd.prog 42 (envG (env_unreserved n) [] (fun _ => none)) n Tryd.f24 ann_unreserved pre_unreserved post_unreserved x = unreserved n x := by kernel_rfl
theorem ok_unreserved (n : Nat) : FnOK Tryd.prog 42 LS 24 (sp_unreserved n) :=
  fn_run mixed Tryd.func24 (sp_unreserved n) n ann_unreserved (env_unreserved n) (envOf_cons (ok_letter n) (envOf_cons (ok_digit n) (envOf_cons (ok_stringsIndexByte n) envOf_nil))) [] (fun _ => none) gl_none (run_unreserved n) (by kernel_rfl)
def pre_hasPrefix : Shape := ⟨[.c (.dat .str), .c (.dat .str)], []⟩
def post_hasPrefix : List Shape := [⟨[.c (.dat .bool)], []⟩]
def ann_hasPrefix : Ann := .no
/-- what strings.HasPrefix comes to. -/
def hasPrefix (n : Nat) (x : (List Int) × List Int) : Option (Bool) :=
  match x with
  | (x1, x2) =>
  (Option.bind (stringsliteHasPrefix n (x1, x2)) fun r3 =>
  some r3)
def sp_hasPrefix (n : Nat) : Spec := ⟨pre_hasPrefix, post_hasPrefix, hasPrefix n⟩
def env_hasPrefix (n : Nat) : List (FuncId × Spec) := [(50, sp_stringsliteHasPrefix n)]
theorem run_hasPrefix (n : Nat) (x : pre_hasPrefix.T) : fnRun Tryd.prog 42 (envG (env_hasPrefix n) [] (fun _ => none)) n Tryd.f32 ann_hasPrefix pre_hasPrefix post_hasPrefix x = hasPrefix n x := by kernel_rfl
theorem ok_hasPrefix (n : Nat) : FnOK Tryd.prog 42 LS 32 (sp_hasPrefix n) :=
  fn_run mixed Tryd.func32 (sp_hasPrefix n) n ann_hasPrefix (env_hasPrefix n) (envOf_cons (ok_stringsliteHasPrefix n) envOf_nil) [] (fun _ => none) gl_none (run_hasPrefix n) (by kernel_rfl)
def pre_hex : Shape := ⟨[.c (.dat (.int .u8))], []⟩
def post_hex : List Shape := [⟨[.c (.dat (.int .u8)), .c (.dat .bool)], []⟩]
def ann_hex : Ann := .no
/-- what turnstile/target.hex comes to. -/
def hex (n : Nat) (x : Int) : Option (Int × Bool) :=
  (if (decide (x ≥ (65 : Int))) = true then
  (if (decide (x ≤ (70 : Int))) = true then
  (let u2 : Int := (IntKind.wrap .u8 ((IntKind.wrap .u8 (x + (32 : Int))) - (97 : Int)))
  some ((IntKind.wrap .u8 (u2 + (10 : Int))), true))
  else
  (if (decide (x ≥ (97 : Int))) = true then
  (if (decide (x ≤ (102 : Int))) = true then
  (let u3 : Int := (IntKind.wrap .u8 ((IntKind.wrap .u8 (x - (97 : Int))) + (10 : Int)))
  some (u3, true))
  else
  (Option.bind (digit n x) fun r4 =>
  (if r4 = true then
  some ((IntKind.wrap .u8 (x - (48 : Int))), true)
  else
  some ((0 : Int), false))))
  else
  (Option.bind (digit n x) fun r5 =>
  (if r5 = true then
  some ((IntKind.wrap .u8 (x - (48 : Int))), true)
  else
  some ((0 : Int), false)))))
  else
  (if (decide (x ≥ (97 : Int))) = true then
  (if (decide (x ≤ (102 : Int))) = true then
  (let u6 : Int := (IntKind.wrap .u8 ((IntKind.wrap .u8 (x - (97 : Int))) + (10 : Int)))
  some (u6, true))
  else
  (Option.bind (digit n x) fun r7 =>
  (if r7 = true then
  some ((IntKind.wrap .u8 (x - (48 : Int))), true)
  else
  some ((0 : Int), false))))
  else
  (Option.bind (digit n x) fun r8 =>
  (if r8 = true then
  some ((IntKind.wrap .u8 (x - (48 : Int))), true)
  else
  some ((0 : Int), false)))))
def sp_hex (n : Nat) : Spec := ⟨pre_hex, post_hex, hex n⟩
def env_hex (n : Nat) : List (FuncId × Spec) := [(37, sp_digit n)]
theorem run_hex (n : Nat) (x : pre_hex.T) : fnRun Tryd.prog 42 (envG (env_hex n) [] (fun _ => none)) n Tryd.f34 ann_hex pre_hex post_hex x = hex n x := by kernel_rfl
theorem ok_hex (n : Nat) : FnOK Tryd.prog 42 LS 34 (sp_hex n) :=
  fn_run mixed Tryd.func34 (sp_hex n) n ann_hex (env_hex n) (envOf_cons (ok_digit n) envOf_nil) [] (fun _ => none) gl_none (run_hex n) (by kernel_rfl)
def pre_pathByte : Shape := ⟨[.c (.dat (.int .u8))], []⟩
def post_pathByte : List Shape := [⟨[.c (.dat .bool)], []⟩]
def ann_pathByte : Ann := .no
/-- what turnstile/target.pathByte comes to. -/
def pathByte (n : Nat) (x : Int) : Option (Bool) :=
  (Option.bind (unreserved n x) fun r2 =>
  (if r2 = true then
  some true
  else
  (Option.bind (stringsIndexByte n (([(33 : Int), (36 : Int), (38 : Int), (39 : Int), (40 : Int), (41 : Int), (42 : Int), (43 : Int), (44 : Int), (59 : Int), (61 : Int), (58 : Int), (64 : Int)] : List Int), x)) fun r3 =>
  some (decide (r3 ≥ (0 : Int))))))
def sp_pathByte (n : Nat) : Spec := ⟨pre_pathByte, post_pathByte, pathByte n⟩
def env_pathByte (n : Nat) : List (FuncId × Spec) := [(24, sp_unreserved n), (38, sp_stringsIndexByte n)]
theorem run_pathByte (n : Nat) (x : pre_pathByte.T) : fnRun Tryd.prog 42 (envG (env_pathByte n) [] (fun _ => none)) n Tryd.f51 ann_pathByte pre_pathByte post_pathByte x = pathByte n x := by kernel_rfl
theorem ok_pathByte (n : Nat) : FnOK Tryd.prog 42 LS 51 (sp_pathByte n) :=
  fn_run mixed Tryd.func51 (sp_pathByte n) n ann_pathByte (env_pathByte n) (envOf_cons (ok_unreserved n) (envOf_cons (ok_stringsIndexByte n) envOf_nil)) [] (fun _ => none) gl_none (run_pathByte n) (by kernel_rfl)
def pre_index : Shape := ⟨[.c (.dat .str), .c (.dat .str)], []⟩
def post_index : List Shape := [⟨[.c (.dat (.int .i64))], []⟩]
def ann_index : Ann := .no
/-- what strings.Index comes to. -/
def index (n : Nat) (x : (List Int) × List Int) : Option (Int) :=
  match x with
  | (x1, x2) =>
  (Option.bind (stringsliteIndex n (x1, x2)) fun r3 =>
  some r3)
def sp_index (n : Nat) : Spec := ⟨pre_index, post_index, index n⟩
def env_index (n : Nat) : List (FuncId × Spec) := [(74, sp_stringsliteIndex n)]
theorem run_index (n : Nat) (x : pre_index.T) : fnRun Tryd.prog 42 (envG (env_index n) [] (fun _ => none)) n Tryd.f56 ann_index pre_index post_index x = index n x := by kernel_rfl
theorem ok_index (n : Nat) : FnOK Tryd.prog 42 LS 56 (sp_index n) :=
  fn_run mixed Tryd.func56 (sp_index n) n ann_index (env_index n) (envOf_cons (ok_stringsliteIndex n) envOf_nil) [] (fun _ => none) gl_none (run_index n) (by kernel_rfl)
def pre_indexRune : Shape := ⟨[.c (.dat .str), .c (.dat (.int .i32))], []⟩
def post_indexRune : List Shape := [⟨[.c (.dat (.int .i64))], []⟩]
def ann_indexRune : Ann := (.two .no (.one (.two (.join ⟨[0, 1, 160], ⟨[.c (.dat .str), .c (.dat (.int .i32)), .c (.dat .bool)], []⟩⟩ .no) (.two .no (.two .no (.two (.two (.two .no (.one (.loop ⟨[175], ⟨[.c (.ptr 500 0)], [(500, .it)]⟩⟩ .no))) .no) (.two .no (.two .no (.one (.two .no (.two .no (.two .no (.two .no (.two (.one (.loop ⟨[0, 7, 8, 9], ⟨[.c (.dat .str), .c (.dat .str), .c (.dat (.int .i64)), .c (.dat (.int .i64))], []⟩⟩ (.two .no (.one (.one (.two .no (.two (.two .no (.one (.loop ⟨[0, 7, 8, 9, 12], ⟨[.c (.dat .str), .c (.dat .str), .c (.dat (.int .i64)), .c (.dat (.int .i64)), .c (.dat (.int .i64))], []⟩⟩ .no))) .no))))))) .no))))))))))))))
/-- what strings.IndexRune comes to. -/
def indexRune (n : Nat) (x : (List Int) × Int) : Option (Int) :=
  match x with
  | (x1, x2) =>
  (Option.bind (α := Out ((List Int) × Int × Bool) (Int)) ((if (decide ((0 : Int) ≤ x2)) = true then
  (some (Out.go (x1, (x2, (decide (x2 < (128 : Int)))))))
  else
  (some (Out.go (x1, (x2, false)))))) fun o => match o with
  | .go (z4, (z5, z6)) =>
  (if z6 = true then
  (Option.bind (stringsIndexByte n (z4, (IntKind.wrap .u8 z5))) fun r7 =>
  some r7)
  else
  (if (z5 == (65533 : Int)) = true then
  (loopF (X := (List Int) × Int) (A := Int) (fun rec8 y9 => match y9 with
  | (a10, a11) =>
  (if a11.toNat < List.length a10 then
  (let u12 : Int := (((u8d a10 a11.toNat).1 : Nat) : Int)
  (if (u12 == (65533 : Int)) = true then
  some ((a11.toNat : Nat) : Int)
  else
  rec8 (a10, (((a11.toNat + (u8d a10 a11.toNat).2) : Nat) : Int))))
  else
  some (-1 : Int))) n (z4, (0 : Int)))
  else
  (Option.bind (validRune n z5) fun r13 =>
  (if (!r13) = true then
  some (-1 : Int)
  else
  (let u14 : Int := ((bytesL (Utf8.encode z5)).length : Int)
  (let u15 : Int := (IntKind.wrap .i64 (u14 - (1 : Int)))
  (loopF (X := (List Int) × (List Int) × Int × Int) (A := Int) (fun rec16 y17 => match y17 with
  | (a18, (a19, (a20, a21))) =>
  (if (decide (a21 < (a18.length : Int))) = true then
  (Option.bind (idx a18 a21) fun v22 =>
  (Option.bind (idx a19 a20) fun v23 =>
  (if (v22 != v23) = true then
  (let u24 : Int := (IntKind.wrap .i64 (a21 + (1 : Int)))
  (if 0 ≤ u24 ∧ u24 ≤ (a18.length : Int) ∧ (a18.length : Int) ≤ (a18.length : Int) then
  (let u25 : List Int := ((a18.drop u24.toNat).take (((a18.length : Int)).toNat - u24.toNat))
  (Option.bind (idx a19 a20) fun v26 =>
  (Option.bind (stringsIndexByte n (u25, v26)) fun r27 =>
  (if (decide (r27 < (0 : Int))) = true then
  some (-1 : Int)
  else
  (let u28 : Int := (IntKind.wrap .i64 (r27 + (1 : Int)))
  (loopF (X := (List Int) × (List Int) × Int × Int × Int) (A := Int) (fun rec29 y30 => match y30 with
  | (a31, (a32, (a33, (a34, a35)))) =>
  (if (decide (a35 < (a32.length : Int))) = true then
  (Option.bind (idx a31 (IntKind.wrap .i64 (a34 - a35))) fun v36 =>
  (Option.bind (idx a32 (IntKind.wrap .i64 (a33 - a35))) fun v37 =>
  (if (v36 != v37) = true then
  none
  else
  (let u38 : Int := (IntKind.wrap .i64 (a35 + (1 : Int)))
  rec29 (a31, (a32, (a33, (a34, u38))))))))
  else
  some (IntKind.wrap .i64 (a34 - a33)))) n (a18, (a19, (a20, ((IntKind.wrap .i64 (a21 + u28)), (1 : Int)))))))))))
  else none))
  else
  (loopF (X := (List Int) × (List Int) × Int × Int × Int) (A := Int) (fun rec39 y40 => match y40 with
  | (a41, (a42, (a43, (a44, a45)))) =>
  (if (decide (a45 < (a42.length : Int))) = true then
  (Option.bind (idx a41 (IntKind.wrap .i64 (a44 - a45))) fun v46 =>
  (Option.bind (idx a42 (IntKind.wrap .i64 (a43 - a45))) fun v47 =>
  (if (v46 != v47) = true then
  none
  else
  (let u48 : Int := (IntKind.wrap .i64 (a45 + (1 : Int)))
  rec39 (a41, (a42, (a43, (a44, u48))))))))
  else
  some (IntKind.wrap .i64 (a44 - a43)))) n (a18, (a19, (a20, (a21, (1 : Int)))))))))
  else
  some (-1 : Int))) n (z4, ((bytesL (Utf8.encode z5)), (u15, u15))))))))))
  | .ret r49 => some r49)
def sp_indexRune (n : Nat) : Spec := ⟨pre_indexRune, post_indexRune, indexRune n⟩
def env_indexRune (n : Nat) : List (FuncId × Spec) := [(38, sp_stringsIndexByte n), (80, sp_validRune n), (81, sp_cutover n)]
theorem run_indexRune (n : Nat) (x : pre_indexRune.T) : fnRun Tryd.prog 42 (envG (env_indexRune n) [] (fun _ => none)) n Tryd.f60 ann_indexRune pre_indexRune post_indexRune x = indexRune n x := by kernel_rfl
theorem ok_indexRune (n : Nat) : FnOK Tryd.prog 42 LS 60 (sp_indexRune n) :=
  fn_run mixed Tryd.func60 (sp_indexRune n) n ann_indexRune (env_indexRune n) (envOf_cons (ok_stringsIndexByte n) (envOf_cons (ok_validRune n) (envOf_cons (ok_cutover n) envOf_nil))) [] (fun _ => none) gl_none (run_indexRune n) (by kernel_rfl)
def pre_stringsliteCut : Shape := ⟨[.c (.dat .str), .c (.dat .str)], []⟩
def post_stringsliteCut : List Shape := [⟨[.c (.dat .str), .c (.dat .str), .c (.dat .bool)], []⟩]
def ann_stringsliteCut : Ann := .no
/-- what internal/stringslite.Cut comes to. -/
def stringsliteCut (n : Nat) (x : (List Int) × List Int) : Option ((List Int) × (List Int) × Bool) :=
  match x with
  | (x1, x2) =>
  (Option.bind (stringsliteIndex n (x1, x2)) fun r3 =>
  (if (decide (r3 ≥ (0 : Int))) = true then
  (if 0 ≤ (0 : Int) ∧ (0 : Int) ≤ r3 ∧ r3 ≤ (x1.length : Int) then
  (let u4 : Int := (IntKind.wrap .i64 (r3 + (x2.length : Int)))
  (if 0 ≤ u4 ∧ u4 ≤ (x1.length : Int) ∧ (x1.length : Int) ≤ (x1.length : Int) then
  (let u5 : List Int := ((x1.drop u4.toNat).take (((x1.length : Int)).toNat - u4.toNat))
  some (((x1.drop 0).take (r3.toNat - 0)), (u5, true)))
  else none))
  else none)
  else
  some (x1, (([] : List Int), false))))
def sp_stringsliteCut (n : Nat) : Spec := ⟨pre_stringsliteCut, post_stringsliteCut, stringsliteCut n⟩
def env_stringsliteCut (n : Nat) : List (FuncId × Spec) := [(74, sp_stringsliteIndex n)]
theorem run_stringsliteCut (n : Nat) (x : pre_stringsliteCut.T) : fnRun Tryd.prog 42 (envG (env_stringsliteCut n) [] (fun _ => none)) n Tryd.f64 ann_stringsliteCut pre_stringsliteCut post_stringsliteCut x = stringsliteCut n x := by kernel_rfl
theorem ok_stringsliteCut (n : Nat) : FnOK Tryd.prog 42 LS 64 (sp_stringsliteCut n) :=
  fn_run mixed Tryd.func64 (sp_stringsliteCut n) n ann_stringsliteCut (env_stringsliteCut n) (envOf_cons (ok_stringsliteIndex n) envOf_nil) [] (fun _ => none) gl_none (run_stringsliteCut n) (by kernel_rfl)
def pre_indexRabinKarpstring : Shape := ⟨[.c (.dat .str), .c (.dat .str)], []⟩
def post_indexRabinKarpstring : List Shape := [⟨[.c (.dat (.int .i64))], []⟩]
def ann_indexRabinKarpstring : Ann := (.two .no (.two .no (.two .no (.two .no (.two (.two .no (.one (.loop ⟨[0, 1, 5, 6, 7, 8, 9], ⟨[.c (.dat .str), .c (.dat .str), .c (.dat (.int .u32)), .c (.dat (.int .u32)), .c (.dat (.int .i64)), .c (.dat (.int .u32)), .c (.dat (.int .i64))], []⟩⟩ .no))) (.two (.two (.join ⟨[0, 1, 5, 6, 7, 8, 39], ⟨[.c (.dat .str), .c (.dat .str), .c (.dat (.int .u32)), .c (.dat (.int .u32)), .c (.dat (.int .i64)), .c (.dat (.int .u32)), .c (.dat .bool)], []⟩⟩ .no) .no) (.two (.two .no (.one (.loop ⟨[0, 1, 5, 6, 7, 8, 10], ⟨[.c (.dat .str), .c (.dat .str), .c (.dat (.int .u32)), .c (.dat (.int .u32)), .c (.dat (.int .i64)), .c (.dat (.int .u32)), .c (.dat (.int .i64))], []⟩⟩ .no))) .no)))))))
/-- what internal/bytealg.IndexRabinKarp[string] comes to. -/
def indexRabinKarpstring (n : Nat) (x : (List Int) × List Int) : Option (Int) :=
  match x with
  | (x1, x2) =>
  (Option.bind (hashStrstring n x2) fun r3 =>
  (loopF (X := (List Int) × (List Int) × Int × Int × Int × Int × Int) (A := Int) (fun rec4 y5 => match y5 with
  | (a6, (a7, (a8, (a9, (a10, (a11, a12)))))) =>
  (if (decide (a12 < a10)) = true then
  (let u13 : Int := (IntKind.wrap .u32 (a11 * (16777619 : Int)))
  (Option.bind (idx a6 a12) fun v14 =>
  (let u15 : Int := (IntKind.wrap .u32 (u13 + (IntKind.wrap .u32 v14)))
  (let u16 : Int := (IntKind.wrap .i64 (a12 + (1 : Int)))
  rec4 (a6, (a7, (a8, (a9, (a10, (u15, u16))))))))))
  else
  (Option.bind (α := Out ((List Int) × (List Int) × Int × Int × Int × Int × Bool) (Int)) ((if (a11 == a8) = true then
  (if 0 ≤ (0 : Int) ∧ (0 : Int) ≤ a10 ∧ a10 ≤ (a6.length : Int) then
  (some (Out.go (a6, (a7, (a8, (a9, (a10, (a11, (((a6.drop 0).take (a10.toNat - 0)) == a7)))))))))
  else none)
  else
  (some (Out.go (a6, (a7, (a8, (a9, (a10, (a11, false)))))))))) fun o => match o with
  | .go (z18, (z19, (z20, (z21, (z22, (z23, z24)))))) =>
  (if z24 = true then
  some (0 : Int)
  else
  (loopF (X := (List Int) × (List Int) × Int × Int × Int × Int × Int) (A := Int) (fun rec25 y26 => match y26 with
  | (a27, (a28, (a29, (a30, (a31, (a32, a33)))))) =>
  (if (decide (a33 < (a27.length : Int))) = true then
  (let u34 : Int := (IntKind.wrap .u32 (a32 * (16777619 : Int)))
  (Option.bind (idx a27 a33) fun v35 =>
  (let u36 : Int := (IntKind.wrap .u32 (u34 + (IntKind.wrap .u32 v35)))
  (Option.bind (idx a27 (IntKind.wrap .i64 (a33 - a31))) fun v37 =>
  (let u38 : Int := (IntKind.wrap .u32 (a30 * (IntKind.wrap .u32 v37)))
  (let u39 : Int := (IntKind.wrap .i64 (a33 + (1 : Int)))
  (if ((IntKind.wrap .u32 (u36 - u38)) == a29) = true then
  (if 0 ≤ (IntKind.wrap .i64 (u39 - a31)) ∧ (IntKind.wrap .i64 (u39 - a31)) ≤ u39 ∧ u39 ≤ (a27.length : Int) then
  (let u40 : List Int := ((a27.drop (IntKind.wrap .i64 (u39 - a31)).toNat).take (u39.toNat - (IntKind.wrap .i64 (u39 - a31)).toNat))
  (if (u40 == a28) = true then
  some (IntKind.wrap .i64 (u39 - a31))
  else
  rec25 (a27, (a28, (a29, (a30, (a31, ((IntKind.wrap .u32 (u36 - u38)), u39))))))))
  else none)
  else
  rec25 (a27, (a28, (a29, (a30, (a31, ((IntKind.wrap .u32 (u36 - u38)), u39)))))))))))))
  else
  some (-1 : Int))) n (z18, (z19, (z20, (z21, (z22, (z23, z22))))))))
  | .ret r41 => some r41))) n (x1, (x2, (r3.1, (r3.2, ((x2.length : Int), ((0 : Int), (0 : Int)))))))))
def sp_indexRabinKarpstring (n : Nat) : Spec := ⟨pre_indexRabinKarpstring, post_indexRabinKarpstring, indexRabinKarpstring n⟩
def env_indexRabinKarpstring (n : Nat) : List (FuncId × Spec) := [(89, sp_hashStrstring n)]
theorem run_indexRabinKarpstring (n : Nat) (x : pre_indexRabinKarpstring.T) : fnRun Tryd.prog 42 (envG (env_indexRabinKarpstring n) [] (fun _ => none)) n Tryd.f86 ann_indexRabinKarpstring pre_indexRabinKarpstring post_indexRabinKarpstring x = indexRabinKarpstring n x := by kernel_rfl
theorem ok_indexRabinKarpstring (n : Nat) : FnOK Tryd.prog 42 LS 86 (sp_indexRabinKarpstring n) :=
  fn_run mixed Tryd.func86 (sp_indexRabinKarpstring n) n ann_indexRabinKarpstring (env_indexRabinKarpstring n) (envOf_cons (ok_hashStrstring n) envOf_nil) [] (fun _ => none) gl_none (run_indexRabinKarpstring n) (by kernel_rfl)
def pre_code : Shape := ⟨[.c (.dat .str), .c (.dat (.int .i64))], []⟩
def post_code : List Shape := [⟨[.c (.dat (.int .u8)), .c (.dat .bool)], []⟩]
def ann_code : Ann := .no
/-- what turnstile/target.code comes to. -/
def code (n : Nat) (x : (List Int) × Int) : Option (Int × Bool) :=
  match x with
  | (x1, x2) =>
  (if (decide ((IntKind.wrap .i64 (x2 + (2 : Int))) ≥ (x1.length : Int))) = true then
  some ((0 : Int), false)
  else
  (Option.bind (idx x1 x2) fun v3 =>
  (if (v3 != (37 : Int)) = true then
  some ((0 : Int), false)
  else
  (Option.bind (idx x1 (IntKind.wrap .i64 (x2 + (1 : Int)))) fun v4 =>
  (Option.bind (hex n v4) fun r5 =>
  (Option.bind (idx x1 (IntKind.wrap .i64 (x2 + (2 : Int)))) fun v6 =>
  (Option.bind (hex n v6) fun r7 =>
  (let u8 : Int := (bits .or .u8 (IntKind.wrap .u8 (r5.1 * 16)) r7.1)
  (if r5.2 = true then
  some (u8, r7.2)
  else
  some (u8, false))))))))))
def sp_code (n : Nat) : Spec := ⟨pre_code, post_code, code n⟩
def env_code (n : Nat) : List (FuncId × Spec) := [(34, sp_hex n)]
theorem run_code (n : Nat) (x : pre_code.T) : fnRun Tryd.prog 42 (envG (env_code n) [] (fun _ => none)) n Tryd.f22 ann_code pre_code post_code x = code n x := by kernel_rfl
theorem ok_code (n : Nat) : FnOK Tryd.prog 42 LS 22 (sp_code n) :=
  fn_run mixed Tryd.func22 (sp_code n) n ann_code (env_code n) (envOf_cons (ok_hex n) envOf_nil) [] (fun _ => none) gl_none (run_code n) (by kernel_rfl)
def pre_made : Shape := ⟨[.c (.dat .str), .c (.dat .str), .c (.dat .bool)], []⟩
def post_made : List Shape := [⟨[.c (.dat .bool)], []⟩]
def ann_made : Ann := (.two .no (.two (.two .no (.one (.loop ⟨[0, 1, 2, 7], ⟨[.c (.dat .str), .c (.dat .str), .c (.dat .bool), .c (.dat (.int .i64))], []⟩⟩ .no))) .no))
/-- what turnstile/target.made comes to. -/
def made (n : Nat) (x : (List Int) × (List Int) × Bool) : Option (Bool) :=
  match x with
  | (x1, (x2, x3)) =>
  (loopF (X := (List Int) × (List Int) × Bool × Int) (A := Bool) (fun rec4 y5 => match y5 with
  | (a6, (a7, (a8, a9))) =>
  (if (decide (a9 < (a6.length : Int))) = true then
  (Option.bind (idx a6 a9) fun v10 =>
  (if (v10 == (37 : Int)) = true then
  (Option.bind (code n (a6, a9)) fun r11 =>
  (if (!r11.2) = true then
  some false
  else
  (if a8 = true then
  (if (decide (r11.1 < (32 : Int))) = true then
  some false
  else
  (if (r11.1 == (127 : Int)) = true then
  some false
  else
  (let u12 : Int := (IntKind.wrap .i64 ((IntKind.wrap .i64 (a9 + (2 : Int))) + (1 : Int)))
  rec4 (a6, (a7, (a8, u12))))))
  else
  (let u13 : Int := (IntKind.wrap .i64 ((IntKind.wrap .i64 (a9 + (2 : Int))) + (1 : Int)))
  rec4 (a6, (a7, (a8, u13)))))))
  else
  (Option.bind (idx a6 a9) fun v14 =>
  (Option.bind (pathByte n v14) fun r15 =>
  (if (!r15) = true then
  (Option.bind (idx a6 a9) fun v16 =>
  (Option.bind (stringsIndexByte n (a7, v16)) fun r17 =>
  (if (decide (r17 < (0 : Int))) = true then
  some false
  else
  rec4 (a6, (a7, (a8, (IntKind.wrap .i64 (a9 + (1 : Int)))))))))
  else
  rec4 (a6, (a7, (a8, (IntKind.wrap .i64 (a9 + (1 : Int)))))))))))
  else
  some true)) n (x1, (x2, (x3, (0 : Int)))))
def sp_made (n : Nat) : Spec := ⟨pre_made, post_made, made n⟩
def env_made (n : Nat) : List (FuncId × Spec) := [(22, sp_code n), (51, sp_pathByte n), (38, sp_stringsIndexByte n)]
theorem run_made (n : Nat) (x : pre_made.T) : fnRun Tryd.prog 42 (envG (env_made n) [] (fun _ => none)) n Tryd.f33 ann_made pre_made post_made x = made n x := by kernel_rfl
theorem ok_made (n : Nat) : FnOK Tryd.prog 42 LS 33 (sp_made n) :=
  fn_run mixed Tryd.func33 (sp_made n) n ann_made (env_made n) (envOf_cons (ok_code n) (envOf_cons (ok_pathByte n) (envOf_cons (ok_stringsIndexByte n) envOf_nil))) [] (fun _ => none) gl_none (run_made n) (by kernel_rfl)
def pre_genSplit : Shape := ⟨[.c (.dat .str), .c (.dat .str), .c (.dat (.int .i64)), .c (.dat (.int .i64))], []⟩
def post_genSplit : List Shape := [⟨[.c (.dat (.list .str))], []⟩]
def ann_genSplit : Ann := (.two .no (.two .no (.two .no (.two (.join ⟨[0, 1, 2, 3], ⟨[.c (.dat .str), .c (.dat .str), .c (.dat (.int .i64)), .c (.dat (.int .i64))], []⟩⟩ .no) (.two .no (.two .no (.two .no (.two .no (.two (.one (.loop ⟨[0, 1, 2, 3, 9, 10], ⟨[.c (.dat .str), .c (.dat .str), .c (.dat (.int .i64)), .c (.dat (.int .i64)), .c (.own 500), .c (.dat (.int .i64))], [(500, .row 9 .str)]⟩⟩ .no)) .no)))))))))
/-- what strings.genSplit comes to. -/
def genSplit (n : Nat) (x : (List Int) × (List Int) × Int × Int) : Option (List (List Int)) :=
  match x with
  | (x1, (x2, (x3, x4))) =>
  (if (x4 == (0 : Int)) = true then
  some ([] : List (List Int))
  else
  (if (x2 == ([] : List Int)) = true then
  none
  else
  (Option.bind (α := Out ((List Int) × (List Int) × Int × Int) (List (List Int))) ((if (decide (x4 < (0 : Int))) = true then
  (Option.bind (stringsCount n (x1, x2)) fun r5 =>
  (some (Out.go (x1, (x2, (x3, (IntKind.wrap .i64 (r5 + (1 : Int)))))))))
  else
  (some (Out.go (x1, (x2, (x3, x4))))))) fun o => match o with
  | .go (z7, (z8, (z9, z10))) =>
  (let u11 : Int := (IntKind.wrap .i64 ((z7.length : Int) + (1 : Int)))
  (if 0 ≤ (if u11 < z10 then u11 else z10) ∧ (if u11 < z10 then u11 else z10) ≤ (if u11 < z10 then u11 else z10) ∧ (16 : Int) * (if u11 < z10 then u11 else z10) ≤ 140737488355328 then
  (let u12 : List (List Int) := (List.replicate (if u11 < z10 then u11 else z10).toNat ([] : List Int))
  (let u13 : Int := (IntKind.wrap .i64 ((if u11 < z10 then u11 else z10) - (1 : Int)))
  (loopF (X := (List Int) × (List Int) × Int × Int × Int × List (List Int)) (A := List (List Int)) (fun rec14 y15 => match y15 with
  | (a16, (a17, (a18, (a19, (a20, a21))))) =>
  (if (decide (a20 < a19)) = true then
  (Option.bind (index n (a16, a17)) fun r22 =>
  (if (decide (r22 < (0 : Int))) = true then
  (if 0 ≤ a20 ∧ a20 < (a21.length : Int) then
  (let u23 : Int := (IntKind.wrap .i64 (a20 + (1 : Int)))
  (if 0 ≤ (0 : Int) ∧ (0 : Int) ≤ u23 ∧ u23 ≤ ((a21.set a20.toNat a16).length : Int) then
  (let u24 : List (List Int) := ((a21.set a20.toNat a16).take u23.toNat)
  some u24)
  else none))
  else none)
  else
  (if 0 ≤ (0 : Int) ∧ (0 : Int) ≤ (IntKind.wrap .i64 (r22 + a18)) ∧ (IntKind.wrap .i64 (r22 + a18)) ≤ (a16.length : Int) then
  (let u25 : List Int := ((a16.drop 0).take ((IntKind.wrap .i64 (r22 + a18)).toNat - 0))
  (if 0 ≤ a20 ∧ a20 < (a21.length : Int) then
  (let u26 : Int := (IntKind.wrap .i64 (r22 + (a17.length : Int)))
  (if 0 ≤ u26 ∧ u26 ≤ (a16.length : Int) ∧ (a16.length : Int) ≤ (a16.length : Int) then
  (let u27 : List Int := ((a16.drop u26.toNat).take (((a16.length : Int)).toNat - u26.toNat))
  (let u28 : Int := (IntKind.wrap .i64 (a20 + (1 : Int)))
  rec14 (u27, (a17, (a18, (a19, (u28, (a21.set a20.toNat u25))))))))
  else none))
  else none))
  else none)))
  else
  (if 0 ≤ a20 ∧ a20 < (a21.length : Int) then
  (let u29 : Int := (IntKind.wrap .i64 (a20 + (1 : Int)))
  (if 0 ≤ (0 : Int) ∧ (0 : Int) ≤ u29 ∧ u29 ≤ ((a21.set a20.toNat a16).length : Int) then
  (let u30 : List (List Int) := ((a21.set a20.toNat a16).take u29.toNat)
  some u30)
  else none))
  else none))) n (z7, (z8, (z9, (u13, ((0 : Int), u12))))))))
  else none))
  | .ret r31 => some r31)))
def sp_genSplit (n : Nat) : Spec := ⟨pre_genSplit, post_genSplit, genSplit n⟩
def env_genSplit (n : Nat) : List (FuncId × Spec) := [(55, sp_stringsCount n), (56, sp_index n)]
theorem run_genSplit (n : Nat) (x : pre_genSplit.T) : fnRun Tryd.prog 42 (envG (env_genSplit n) [296104] (fun _ => none)) n Tryd.f39 ann_genSplit pre_genSplit post_genSplit x = genSplit n x := by kernel_rfl
theorem ok_genSplit (n : Nat) : FnOK Tryd.prog 42 LS 39 (sp_genSplit n) :=
  fn_run mixed Tryd.func39 (sp_genSplit n) n ann_genSplit (env_genSplit n) (envOf_cons (ok_stringsCount n) (envOf_cons (ok_index n) envOf_nil)) [296104] (fun _ => none) gl_none (run_genSplit n) (by kernel_rfl)
def pre_indexAny : Shape := ⟨[.c (.dat .str), .c (.dat .str)], []⟩
def post_indexAny : List Shape := [⟨[.c (.dat (.int .i64))], []⟩]
def ann_indexAny : Ann := (.two .no (.two .no (.two .no (.two (.two .no (.two (.two .no (.two .no (.two (.two (.two .no (.one (.loop ⟨[0, 6, 8], ⟨[.c (.dat .str), .c (.arr 500 1), .c (.dat (.int .i64))], [(500, .row 98 .bool)]⟩⟩ .no))) .no) .no))) .no)) (.two (.two .no (.one (.loop ⟨[1, 45], ⟨[.c (.dat .str), .c (.ptr 500 0)], [(500, .it)]⟩⟩ .no))) .no)))))
/-- what strings.IndexAny comes to. -/
def indexAny (n : Nat) (x : (List Int) × List Int) : Option (Int) :=
  match x with
  | (x1, x2) =>
  (if (x2 == ([] : List Int)) = true then
  some (-1 : Int)
  else
  (if ((x2.length : Int) == (1 : Int)) = true then
  (Option.bind (idx x2 (0 : Int)) fun v3 =>
  (if (decide ((IntKind.wrap .i32 v3) ≥ (128 : Int))) = true then
  (Option.bind (indexRune n (x1, (65533 : Int))) fun r4 =>
  some r4)
  else
  (Option.bind (indexRune n (x1, (IntKind.wrap .i32 v3))) fun r5 =>
  some r5)))
  else
  (Option.bind (shouldUseASCIISet n (x1.length : Int)) fun r6 =>
  (if r6 = true then
  (Option.bind (makeASCIISet n x2) fun r7 =>
  (if 256 = 256 ∧ 256 = r7.1.length then
  (if r7.2 = true then
  (loopF (X := (List Int) × Int × List Bool) (A := Int) (fun rec8 y9 => match y9 with
  | (a10, (a11, a12)) =>
  (if (decide (a11 < (a10.length : Int))) = true then
  (Option.bind (idx a10 a11) fun v13 =>
  (Option.bind (setHas n (v13, a12)) fun r14 =>
  (if r14.1 = true then
  some a11
  else
  (let u15 : Int := (IntKind.wrap .i64 (a11 + (1 : Int)))
  rec8 (a10, (u15, r14.2))))))
  else
  some (-1 : Int))) n (x1, ((0 : Int), r7.1)))
  else
  (loopF (X := (List Int) × (List Int) × Int) (A := Int) (fun rec16 y17 => match y17 with
  | (a18, (a19, a20)) =>
  (if a20.toNat < List.length a19 then
  (let u21 : Int := (((u8d a19 a20.toNat).1 : Nat) : Int)
  (Option.bind (indexRune n (a18, u21)) fun r22 =>
  (if (decide (r22 ≥ (0 : Int))) = true then
  some ((a20.toNat : Nat) : Int)
  else
  rec16 (a18, (a19, (((a20.toNat + (u8d a19 a20.toNat).2) : Nat) : Int))))))
  else
  some (-1 : Int))) n (x2, (x1, (0 : Int)))))
  else none))
  else
  (loopF (X := (List Int) × (List Int) × Int) (A := Int) (fun rec23 y24 => match y24 with
  | (a25, (a26, a27)) =>
  (if a27.toNat < List.length a26 then
  (let u28 : Int := (((u8d a26 a27.toNat).1 : Nat) : Int)
  (Option.bind (indexRune n (a25, u28)) fun r29 =>
  (if (decide (r29 ≥ (0 : Int))) = true then
  some ((a27.toNat : Nat) : Int)
  else
  rec23 (a25, (a26, (((a27.toNat + (u8d a26 a27.toNat).2) : Nat) : Int))))))
  else
  some (-1 : Int))) n (x2, (x1, (0 : Int))))))))
def sp_indexAny (n : Nat) : Spec := ⟨pre_indexAny, post_indexAny, indexAny n⟩
def env_indexAny (n : Nat) : List (FuncId × Spec) := [(60, sp_indexRune n), (61, sp_shouldUseASCIISet n), (62, sp_makeASCIISet n), (63, sp_setHas n)]
theorem run_indexAny (n : Nat) (x : pre_indexAny.T) : fnRun Tryd.prog 42 (envG (env_indexAny n) [] (fun _ => none)) n Tryd.f42 ann_indexAny pre_indexAny post_indexAny x = indexAny n x := by kernel_rfl
theorem ok_indexAny (n : Nat) : FnOK Tryd.prog 42 LS 42 (sp_indexAny n) :=
  fn_run mixed Tryd.func42 (sp_indexAny n) n ann_indexAny (env_indexAny n) (envOf_cons (ok_indexRune n) (envOf_cons (ok_shouldUseASCIISet n) (envOf_cons (ok_makeASCIISet n) (envOf_cons (ok_setHas n) envOf_nil)))) [] (fun _ => none) gl_none (run_indexAny n) (by kernel_rfl)
def pre_cut : Shape := ⟨[.c (.dat .str), .c (.dat .str)], []⟩
def post_cut : List Shape := [⟨[.c (.dat .str), .c (.dat .str), .c (.dat .bool)], []⟩]
def ann_cut : Ann := .no
/-- what strings.Cut comes to. -/
def cut (n : Nat) (x : (List Int) × List Int) : Option ((List Int) × (List Int) × Bool) :=
  match x with
  | (x1, x2) =>
  (Option.bind (stringsliteCut n (x1, x2)) fun r3 =>
  some (r3.1, (r3.2.1, r3.2.2)))
def sp_cut (n : Nat) : Spec := ⟨pre_cut, post_cut, cut n⟩
def env_cut (n : Nat) : List (FuncId × Spec) := [(64, sp_stringsliteCut n)]
theorem run_cut (n : Nat) (x : pre_cut.T) : fnRun Tryd.prog 42 (envG (env_cut n) [] (fun _ => none)) n Tryd.f44 ann_cut pre_cut post_cut x = cut n x := by kernel_rfl
theorem ok_cut (n : Nat) : FnOK Tryd.prog 42 LS 44 (sp_cut n) :=
  fn_run mixed Tryd.func44 (sp_cut n) n ann_cut (env_cut n) (envOf_cons (ok_stringsliteCut n) envOf_nil) [] (fun _ => none) gl_none (run_cut n) (by kernel_rfl)
def pre_isQuery : Shape := ⟨[.c (.dat .str)], []⟩
def post_isQuery : List Shape := [⟨[.c (.dat .bool)], []⟩]
def ann_isQuery : Ann := .no
/-- what turnstile/target.isQuery comes to. -/
def isQuery (n : Nat) (x : List Int) : Option (Bool) :=
  (Option.bind (made n (x, (([(47 : Int), (63 : Int)] : List Int), false))) fun r2 =>
  some r2)
def sp_isQuery (n : Nat) : Spec := ⟨pre_isQuery, post_isQuery, isQuery n⟩
def env_isQuery (n : Nat) : List (FuncId × Spec) := [(33, sp_made n)]
theorem run_isQuery (n : Nat) (x : pre_isQuery.T) : fnRun Tryd.prog 42 (envG (env_isQuery n) [] (fun _ => none)) n Tryd.f45 ann_isQuery pre_isQuery post_isQuery x = isQuery n x := by kernel_rfl
theorem ok_isQuery (n : Nat) : FnOK Tryd.prog 42 LS 45 (sp_isQuery n) :=
  fn_run mixed Tryd.func45 (sp_isQuery n) n ann_isQuery (env_isQuery n) (envOf_cons (ok_made n) envOf_nil) [] (fun _ => none) gl_none (run_isQuery n) (by kernel_rfl)
def pre_targetIsPath : Shape := ⟨[.c (.dat .str)], []⟩
def post_targetIsPath : List Shape := [⟨[.c (.dat .bool)], []⟩]
def ann_targetIsPath : Ann := .no
/-- what turnstile/target.isPath comes to. -/
def targetIsPath (n : Nat) (x : List Int) : Option (Bool) :=
  (Option.bind (hasPrefix n (x, ([(47 : Int)] : List Int))) fun r2 =>
  (if r2 = true then
  (Option.bind (made n (x, (([(47 : Int)] : List Int), true))) fun r3 =>
  some r3)
  else
  some false))
def sp_targetIsPath (n : Nat) : Spec := ⟨pre_targetIsPath, post_targetIsPath, targetIsPath n⟩
def env_targetIsPath (n : Nat) : List (FuncId × Spec) := [(32, sp_hasPrefix n), (33, sp_made n)]
theorem run_targetIsPath (n : Nat) (x : pre_targetIsPath.T) : fnRun Tryd.prog 42 (envG (env_targetIsPath n) [] (fun _ => none)) n Tryd.f21 ann_targetIsPath pre_targetIsPath post_targetIsPath x = targetIsPath n x := by kernel_rfl
theorem ok_targetIsPath (n : Nat) : FnOK Tryd.prog 42 LS 21 (sp_targetIsPath n) :=
  fn_run mixed Tryd.func21 (sp_targetIsPath n) n ann_targetIsPath (env_targetIsPath n) (envOf_cons (ok_hasPrefix n) (envOf_cons (ok_made n) envOf_nil)) [] (fun _ => none) gl_none (run_targetIsPath n) (by kernel_rfl)
def pre_split : Shape := ⟨[.c (.dat .str), .c (.dat .str)], []⟩
def post_split : List Shape := [⟨[.c (.dat (.list .str))], []⟩]
def ann_split : Ann := .no
/-- what strings.Split comes to. -/
def split (n : Nat) (x : (List Int) × List Int) : Option (List (List Int)) :=
  match x with
  | (x1, x2) =>
  (Option.bind (genSplit n (x1, (x2, ((0 : Int), (-1 : Int))))) fun r3 =>
  some r3)
def sp_split (n : Nat) : Spec := ⟨pre_split, post_split, split n⟩
def env_split (n : Nat) : List (FuncId × Spec) := [(39, sp_genSplit n)]
theorem run_split (n : Nat) (x : pre_split.T) : fnRun Tryd.prog 42 (envG (env_split n) [] (fun _ => none)) n Tryd.f27 ann_split pre_split post_split x = split n x := by kernel_rfl
theorem ok_split (n : Nat) : FnOK Tryd.prog 42 LS 27 (sp_split n) :=
  fn_run mixed Tryd.func27 (sp_split n) n ann_split (env_split n) (envOf_cons (ok_genSplit n) envOf_nil) [] (fun _ => none) gl_none (run_split n) (by kernel_rfl)
def pre_parse : Shape := ⟨[.c (.dat .str)], []⟩
def post_parse : List Shape := [⟨[.a [.dat (.int .i64), .dat .str, .dat .str, .dat .str, .dat .bool], .c (.dat .err)], []⟩]
def ann_parse : Ann := (.two .no (.two .no (.two .no (.two .no (.two (.join ⟨[2, 4, 5], ⟨[.c (.ptr 500 0), .c (.ptr 501 0), .c (.dat .str)], [(500, .cells 68 [.dat (.int .i64), .dat .str, .dat .str, .dat .str, .dat .bool]), (501, .cells 68 [.dat (.int .i64), .dat .str, .dat .str, .dat .str, .dat .bool])]⟩⟩ (.one (.two .no (.two .no (.two (.join ⟨[0, 2, 4, 5, 18], ⟨[.c (.dat .str), .c (.ptr 500 0), .c (.ptr 501 0), .c (.dat .str), .c (.dat .bool)], [(500, .cells 68 [.dat (.int .i64), .dat .str, .dat .str, .dat .str, .dat .bool]), (501, .cells 68 [.dat (.int .i64), .dat .str, .dat .str, .dat .str, .dat .bool])]⟩⟩ .no) (.two (.two .no (.two .no (.two .no (.two (.join ⟨[2, 4, 5, 6], ⟨[.c (.ptr 500 0), .c (.ptr 501 0), .c (.dat .str), .c (.dat (.int .i64))], [(500, .cells 68 [.dat (.int .i64), .dat .str, .dat .str, .dat .str, .dat .bool]), (501, .cells 68 [.dat (.int .i64), .dat .str, .dat .str, .dat .str, .dat .bool])]⟩⟩ .no) .no)))) .no)))))) (.two .no (.two (.join ⟨[2, 4], ⟨[.c (.ptr 500 0), .c (.ptr 501 0)], [(500, .cells 68 [.dat (.int .i64), .dat .str, .dat .str, .dat .str, .dat .bool]), (501, .cells 68 [.dat (.int .i64), .dat .str, .dat .str, .dat .str, .dat .bool])]⟩⟩ .no) .no)))))))
/-- what turnstile/target.Parse comes to. -/
def parse (n : Nat) (x : List Int) : Option (Int × (List Int) × (List Int) × (List Int) × Bool × Int) :=
  (if (decide ((x.length : Int) > (65536 : Int))) = true then
  some ((0 : Int), (([] : List Int), (([] : List Int), (([] : List Int), (false, (2 : Int))))))
  else
  (Option.bind (α := Out ((List Int) × Int × (List Int) × (List Int) × (List Int) × Bool × Int × (List Int) × (List Int) × (List Int) × Bool) (Int × (List Int) × (List Int) × (List Int) × Bool × Int)) ((if (x == ([(42 : Int)] : List Int)) = true then
  (Option.map Out.ret (some ((3 : Int), (([] : List Int), (([] : List Int), (([] : List Int), (false, (0 : Int))))))))
  else
  (Option.bind (α := Out ((List Int) × (List Int) × Bool × Int × (List Int) × (List Int) × (List Int) × Bool × Int × (List Int) × (List Int) × (List Int) × Bool) (Out ((List Int) × Int × (List Int) × (List Int) × (List Int) × Bool × Int × (List Int) × (List Int) × (List Int) × Bool) (Int × (List Int) × (List Int) × (List Int) × Bool × Int))) ((if (decide ((x.length : Int) ≥ (7 : Int))) = true then
  (if 0 ≤ (0 : Int) ∧ (0 : Int) ≤ (7 : Int) ∧ (7 : Int) ≤ (x.length : Int) then
  (Option.bind (strToLower n ((x.drop 0).take (7 - 0))) fun r2 =>
  (some (Out.go (x, (x, ((r2 == ([(104 : Int), (116 : Int), (116 : Int), (112 : Int), (58 : Int), (47 : Int), (47 : Int)] : List Int)), ((0 : Int), (([] : List Int), (([] : List Int), (([] : List Int), (false, ((1 : Int), (([] : List Int), (([] : List Int), (([] : List Int), false)))))))))))))))
  else none)
  else
  (some (Out.go (x, (x, (false, ((0 : Int), (([] : List Int), (([] : List Int), (([] : List Int), (false, ((1 : Int), (([] : List Int), (([] : List Int), (([] : List Int), false)))))))))))))))) fun o => match o with
  | .go (z4, (z5, (z6, (z7, (z8, (z9, (z10, (z11, (z12, (z13, (z14, (z15, z16)))))))))))) =>
  (if z6 = true then
  (if 0 ≤ (7 : Int) ∧ (7 : Int) ≤ (z4.length : Int) ∧ (z4.length : Int) ≤ (z4.length : Int) then
  (let u17 : List Int := ((z4.drop 7).take (((z4.length : Int)).toNat - 7))
  (Option.bind (indexAny n (u17, ([(47 : Int), (63 : Int)] : List Int))) fun r18 =>
  (Option.bind (α := Out ((List Int) × Int × Int × (List Int) × (List Int) × (List Int) × Bool × Int × (List Int) × (List Int) × (List Int) × Bool) (Out ((List Int) × Int × (List Int) × (List Int) × (List Int) × Bool × Int × (List Int) × (List Int) × (List Int) × Bool) (Int × (List Int) × (List Int) × (List Int) × Bool × Int))) ((if (decide (r18 < (0 : Int))) = true then
  (some (Out.go (u17, ((u17.length : Int), (z7, (z8, (z9, (z10, (z11, ((2 : Int), (z13, (z14, (z15, z16)))))))))))))
  else
  (some (Out.go (u17, (r18, (z7, (z8, (z9, (z10, (z11, ((2 : Int), (z13, (z14, (z15, z16))))))))))))))) fun o => match o with
  | .go (z20, (z21, (z22, (z23, (z24, (z25, (z26, (z27, (z28, (z29, (z30, z31))))))))))) =>
  (if 0 ≤ (0 : Int) ∧ (0 : Int) ≤ z21 ∧ z21 ≤ (z20.length : Int) then
  (if 0 ≤ z21 ∧ z21 ≤ (z20.length : Int) ∧ (z20.length : Int) ≤ (z20.length : Int) then
  (let u32 : List Int := ((z20.drop z21.toNat).take (((z20.length : Int)).toNat - z21.toNat))
  (Option.bind (isHost n ((z20.drop 0).take (z21.toNat - 0))) fun r33 =>
  (if (!r33) = true then
  (Option.map Out.ret (some ((0 : Int), (([] : List Int), (([] : List Int), (([] : List Int), (false, (23 : Int))))))))
  else
  (Option.bind (strToLower n ((z20.drop 0).take (z21.toNat - 0))) fun r34 =>
  (some (Out.go (u32, (z22, (z23, (z24, (z25, (z26, (z27, (r34, (z29, (z30, z31))))))))))))))))
  else none)
  else none)
  | .ret r35 => some r35)))
  else none)
  else
  (some (Out.go (z5, (z7, (z8, (z9, (z10, (z11, (z12, (z13, (z14, (z15, z16)))))))))))))
  | .ret r36 => some r36))) fun o => match o with
  | .go (z38, (z39, (z40, (z41, (z42, (z43, (z44, (z45, (z46, (z47, z48)))))))))) =>
  (Option.bind (cut n (z38, ([(63 : Int)] : List Int))) fun r49 =>
  (Option.bind (α := Out (Int × (List Int) × (List Int) × (List Int) × Bool × Int × (List Int) × (List Int) × (List Int) × Bool) (Int × (List Int) × (List Int) × (List Int) × Bool × Int)) ((if (r49.1 == ([] : List Int)) = true then
  (if (z44 == (2 : Int)) = true then
  (some (Out.go (z39, (z40, (z41, (z42, (z43, (z44, (z45, (([(47 : Int)] : List Int), (r49.2.1, r49.2.2)))))))))))
  else
  (some (Out.go (z39, (z40, (z41, (z42, (z43, (z44, (z45, (r49.1, (r49.2.1, r49.2.2))))))))))))
  else
  (some (Out.go (z39, (z40, (z41, (z42, (z43, (z44, (z45, (r49.1, (r49.2.1, r49.2.2))))))))))))) fun o => match o with
  | .go (z51, (z52, (z53, (z54, (z55, (z56, (z57, (z58, (z59, z60))))))))) =>
  (Option.bind (targetIsPath n z58) fun r61 =>
  (if (!r61) = true then
  some ((0 : Int), (([] : List Int), (([] : List Int), (([] : List Int), (false, (23 : Int))))))
  else
  (Option.bind (isQuery n z59) fun r62 =>
  (if (!r62) = true then
  some ((0 : Int), (([] : List Int), (([] : List Int), (([] : List Int), (false, (23 : Int))))))
  else
  some (z56, (z57, (z58, (z59, (z60, (0 : Int))))))))))
  | .ret r63 => some r63))
  | .ret r64 => some r64))
def sp_parse (n : Nat) : Spec := ⟨pre_parse, post_parse, parse n⟩
def env_parse (n : Nat) : List (FuncId × Spec) := [(41, sp_strToLower n), (42, sp_indexAny n), (43, sp_isHost n), (44, sp_cut n), (21, sp_targetIsPath n), (45, sp_isQuery n)]
theorem run_parse (n : Nat) (x : pre_parse.T) : fnRun Tryd.prog 42 (envG (env_parse n) [] (fun _ => none)) n Tryd.f30 ann_parse pre_parse post_parse x = parse n x := by kernel_rfl
theorem ok_parse (n : Nat) : FnOK Tryd.prog 42 LS 30 (sp_parse n) :=
  fn_run mixed Tryd.func30 (sp_parse n) n ann_parse (env_parse n) (envOf_cons (ok_strToLower n) (envOf_cons (ok_indexAny n) (envOf_cons (ok_isHost n) (envOf_cons (ok_cut n) (envOf_cons (ok_targetIsPath n) (envOf_cons (ok_isQuery n) envOf_nil)))))) [] (fun _ => none) gl_none (run_parse n) (by kernel_rfl)
def pre_normal : Shape := ⟨[.c (.dat .str)], []⟩
def post_normal : List Shape := [⟨[.c (.dat .str), .c (.dat .err)], []⟩]
def ann_normal : Ann := (.two .no (.two .no (.two .no (.two (.two .no (.one (.loop ⟨[0, 4, 5], ⟨[.c (.dat .str), .c (.ptr 500 0), .c (.dat (.int .i64))], [(500, .cells 55 [.slf 500, .own 501]), (501, .row 5 (.int .u8))]⟩⟩ .no))) (.two .no (.two .no (.two (.two .no (.one (.loop ⟨[8, 9, 49, 50, 51], ⟨[.c (.dat (.list .str)), .c (.own 500), .c (.dat (.list .str)), .c (.dat (.int .i64)), .c (.dat (.int .i64))], [(500, .row 9 .str)]⟩⟩ .no))) .no)))))))
/-- what turnstile/target.Normal comes to. -/
def normal (n : Nat) (x : List Int) : Option ((List Int) × Int) :=
  (Option.bind (targetIsPath n x) fun r2 =>
  (if (!r2) = true then
  some (([] : List Int), (23 : Int))
  else
  (loopF (X := (List Int) × Int × List Int) (A := (List Int) × Int) (fun rec3 y4 => match y4 with
  | (a5, (a6, a7)) =>
  (if (decide (a6 < (a5.length : Int))) = true then
  (Option.bind (code n (a5, a6)) fun r8 =>
  (if (!r8.2) = true then
  (Option.bind (idx a5 a6) fun v9 =>
  (Option.bind (bldByte n (v9, a7)) fun r10 =>
  rec3 (a5, ((IntKind.wrap .i64 (a6 + (1 : Int))), r10))))
  else
  (Option.bind (unreserved n r8.1) fun r11 =>
  (if r11 = true then
  (Option.bind (bldByte n (r8.1, a7)) fun r12 =>
  (let u13 : Int := (IntKind.wrap .i64 ((IntKind.wrap .i64 (a6 + (2 : Int))) + (1 : Int)))
  rec3 (a5, (u13, r12))))
  else
  (Option.bind (coded n r8.1) fun r14 =>
  (Option.bind (bldStr n (r14, a7)) fun r15 =>
  (let u16 : Int := (IntKind.wrap .i64 ((IntKind.wrap .i64 (a6 + (2 : Int))) + (1 : Int)))
  rec3 (a5, (u16, r15.2)))))))))
  else
  (Option.bind (bldString n a7) fun r17 =>
  (if 0 ≤ (1 : Int) ∧ (1 : Int) ≤ (r17.length : Int) ∧ (r17.length : Int) ≤ (r17.length : Int) then
  (let u18 : List Int := ((r17.drop 1).take (((r17.length : Int)).toNat - 1))
  (Option.bind (split n (u18, ([(47 : Int)] : List Int))) fun r19 =>
  (loopF (X := (List (List Int)) × (List (List Int)) × Int × Int × List (List Int)) (A := (List Int) × Int) (fun rec20 y21 => match y21 with
  | (a22, (a23, (a24, (a25, a26)))) =>
  (if (decide (a25 < a24)) = true then
  (Option.bind (idx a23 a25) fun v27 =>
  (let u28 : Int := (IntKind.wrap .i64 ((a22.length : Int) - (1 : Int)))
  (if (v27 == ([(46 : Int), (46 : Int)] : List Int)) = true then
  (if ((a26.length : Int) == (0 : Int)) = true then
  some (([] : List Int), (23 : Int))
  else
  (let u29 : Int := (IntKind.wrap .i64 ((a26.length : Int) - (1 : Int)))
  (if 0 ≤ (0 : Int) ∧ (0 : Int) ≤ u29 ∧ u29 ≤ (a26.length : Int) then
  (if (a25 == u28) = true then
  (if ((a26.take u29.toNat).length + 1) * 16 ≤ 140737488355328 then
  (let u30 : List (List Int) := ((a26.take u29.toNat) ++ ([([] : List Int)] : List (List Int)))
  (let u31 : Int := (IntKind.wrap .i64 (a25 + (1 : Int)))
  rec20 (a22, (a23, (a24, (u31, u30))))))
  else none)
  else
  (let u32 : Int := (IntKind.wrap .i64 (a25 + (1 : Int)))
  rec20 (a22, (a23, (a24, (u32, (a26.take u29.toNat)))))))
  else none)))
  else
  (if (v27 == ([(46 : Int)] : List Int)) = true then
  (if (a25 == u28) = true then
  (if (a26.length + 1) * 16 ≤ 140737488355328 then
  (let u33 : List (List Int) := (a26 ++ ([([] : List Int)] : List (List Int)))
  (let u34 : Int := (IntKind.wrap .i64 (a25 + (1 : Int)))
  rec20 (a22, (a23, (a24, (u34, u33))))))
  else none)
  else
  (let u35 : Int := (IntKind.wrap .i64 (a25 + (1 : Int)))
  rec20 (a22, (a23, (a24, (u35, a26))))))
  else
  (if (a26.length + 1) * 16 ≤ 140737488355328 then
  (let u36 : Int := (IntKind.wrap .i64 (a25 + (1 : Int)))
  rec20 (a22, (a23, (a24, (u36, (a26 ++ ([v27] : List (List Int))))))))
  else none)))))
  else
  (Option.bind (join n (a26, ([(47 : Int)] : List Int))) fun r37 =>
  (if 1 + r37.length ≤ 140737488355328 then
  some ((([(47 : Int)] : List Int) ++ r37), (0 : Int))
  else none)))) n (r19, (r19, ((r19.length : Int), ((0 : Int), ([] : List (List Int)))))))))
  else none)))) n (x, ((0 : Int), ([] : List Int))))))
def sp_normal (n : Nat) : Spec := ⟨pre_normal, post_normal, normal n⟩
def env_normal (n : Nat) : List (FuncId × Spec) := [(21, sp_targetIsPath n), (22, sp_code n), (23, sp_bldByte n), (24, sp_unreserved n), (26, sp_coded n), (25, sp_bldStr n), (28, sp_bldString n), (27, sp_split n), (29, sp_join n)]
theorem run_normal (n : Nat) (x : pre_normal.T) : fnRun Tryd.prog 42 (envG (env_normal n) [410856] (fun _ => none)) n Tryd.f18 ann_normal pre_normal post_normal x = normal n x := by kernel_rfl
theorem ok_normal (n : Nat) : FnOK Tryd.prog 42 LS 18 (sp_normal n) :=
  fn_run mixed Tryd.func18 (sp_normal n) n ann_normal (env_normal n) (envOf_cons (ok_targetIsPath n) (envOf_cons (ok_code n) (envOf_cons (ok_bldByte n) (envOf_cons (ok_unreserved n) (envOf_cons (ok_coded n) (envOf_cons (ok_bldStr n) (envOf_cons (ok_bldString n) (envOf_cons (ok_split n) (envOf_cons (ok_join n) envOf_nil))))))))) [410856] (fun _ => none) gl_none (run_normal n) (by kernel_rfl)
def pre_isPath : Shape := ⟨[.c (.dat .str), .c (.dat .err)], []⟩
def post_isPath : List Shape := [⟨[.c (.dat .bool)], []⟩]
def ann_isPath : Ann := .no
/-- what turnstile/health.isPath comes to. -/
def isPath (n : Nat) (x : (List Int) × Int) : Option (Bool) :=
  match x with
  | (x1, x2) =>
  (if (x2 == (0 : Int)) = true then
  some true
  else
  (Option.bind (parse n x1) fun r3 =>
  (if (r3.2.2.2.2.2 == (0 : Int)) = true then
  (if (r3.1 == (1 : Int)) = true then
  some (!r3.2.2.2.2.1)
  else
  some false)
  else
  some false)))
def sp_isPath (n : Nat) : Spec := ⟨pre_isPath, post_isPath, isPath n⟩
def env_isPath (n : Nat) : List (FuncId × Spec) := [(30, sp_parse n)]
theorem run_isPath (n : Nat) (x : pre_isPath.T) : fnRun Tryd.prog 42 (envG (env_isPath n) [] (fun _ => none)) n Tryd.f19 ann_isPath pre_isPath post_isPath x = isPath n x := by kernel_rfl
theorem ok_isPath (n : Nat) : FnOK Tryd.prog 42 LS 19 (sp_isPath n) :=
  fn_run mixed Tryd.func19 (sp_isPath n) n ann_isPath (env_isPath n) (envOf_cons (ok_parse n) envOf_nil) [] (fun _ => none) gl_none (run_isPath n) (by kernel_rfl)
def pre_valid : Shape := ⟨[.a [.dat .str, .dat (.int .i64), .dat (.int .i64), .dat (.int .i64), .dat (.int .i64)]], []⟩
def post_valid : List Shape := [⟨[.c (.dat .err)], []⟩]
def ann_valid : Ann := .no
/-- what turnstile/health.Valid comes to. -/
def valid (n : Nat) (x : (List Int) × Int × Int × Int × Int) : Option (Int) :=
  match x with
  | (x1, (x2, (x3, (x4, x5)))) =>
  (if (x2 == (0 : Int)) = true then
  some (0 : Int)
  else
  (Option.bind (healthIn n (x2, ((1 : Int), (1099511627776 : Int)))) fun r6 =>
  (if r6 = true then
  (Option.bind (healthIn n (x3, ((1 : Int), x2))) fun r7 =>
  (if r7 = true then
  (Option.bind (healthIn n (x4, ((1 : Int), (1024 : Int)))) fun r8 =>
  (if r8 = true then
  (Option.bind (healthIn n (x5, ((1 : Int), (1024 : Int)))) fun r9 =>
  (if r9 = true then
  (Option.bind (normal n x1) fun r10 =>
  (if (!(decide ((x1.length : Int) ≤ (1024 : Int)))) = true then
  some (4 : Int)
  else
  (Option.bind (isPath n (x1, r10.2)) fun r11 =>
  (if (!r11) = true then
  some (4 : Int)
  else
  some (0 : Int)))))
  else
  (Option.bind (normal n x1) fun r12 =>
  some (4 : Int))))
  else
  (Option.bind (normal n x1) fun r13 =>
  some (4 : Int))))
  else
  (Option.bind (normal n x1) fun r14 =>
  some (4 : Int))))
  else
  (Option.bind (normal n x1) fun r15 =>
  some (4 : Int)))))
def sp_valid (n : Nat) : Spec := ⟨pre_valid, post_valid, valid n⟩
def env_valid (n : Nat) : List (FuncId × Spec) := [(15, sp_healthIn n), (18, sp_normal n), (19, sp_isPath n)]
theorem run_valid (n : Nat) (x : pre_valid.T) : fnRun Tryd.prog 42 (envG (env_valid n) [] (fun _ => none)) n Tryd.f14 ann_valid pre_valid post_valid x = valid n x := by kernel_rfl
theorem ok_valid (n : Nat) : FnOK Tryd.prog 42 LS 14 (sp_valid n) :=
  fn_run mixed Tryd.func14 (sp_valid n) n ann_valid (env_valid n) (envOf_cons (ok_healthIn n) (envOf_cons (ok_normal n) (envOf_cons (ok_isPath n) envOf_nil))) [] (fun _ => none) gl_none (run_valid n) (by kernel_rfl)
def pre_check : Shape := ⟨[.a [.dat .bool, .dat (.int .i64), .dat (.int .i64), .dat (.int .i64)], .a [.dat .str, .dat (.int .i64), .dat (.int .i64), .dat (.int .i64), .dat (.int .i64)], .c (.dat (.int .i64))], []⟩
def post_check : List Shape := [⟨[.c (.dat .err)], []⟩]
def ann_check : Ann := .no
/-- what turnstile/health.check comes to. -/
def check (n : Nat) (x : Bool × Int × Int × Int × (List Int) × Int × Int × Int × Int × Int) : Option (Int) :=
  match x with
  | (x1, (x2, (x3, (x4, (x5, (x6, (x7, (x8, (x9, x10))))))))) =>
  (Option.bind (valid n (x5, (x6, (x7, (x8, x9))))) fun r11 =>
  (if (!(r11 == (0 : Int))) = true then
  some r11
  else
  (Option.bind (healthIn n (x10, ((0 : Int), (1099511627776 : Int)))) fun r12 =>
  (if (!r12) = true then
  some (1 : Int)
  else
  (Option.bind (statecan n (x1, (x2, (x3, (x4, (x5, (x6, (x7, (x8, x9))))))))) fun r13 =>
  (if (!r13) = true then
  some (1 : Int)
  else
  some (0 : Int)))))))
def sp_check (n : Nat) : Spec := ⟨pre_check, post_check, check n⟩
def env_check (n : Nat) : List (FuncId × Spec) := [(14, sp_valid n), (15, sp_healthIn n), (16, sp_statecan n)]
theorem run_check (n : Nat) (x : pre_check.T) : fnRun Tryd.prog 42 (envG (env_check n) [] (fun _ => none)) n Tryd.f12 ann_check pre_check post_check x = check n x := by kernel_rfl
theorem ok_check (n : Nat) : FnOK Tryd.prog 42 LS 12 (sp_check n) :=
  fn_run mixed Tryd.func12 (sp_check n) n ann_check (env_check n) (envOf_cons (ok_valid n) (envOf_cons (ok_healthIn n) (envOf_cons (ok_statecan n) envOf_nil))) [] (fun _ => none) gl_none (run_check n) (by kernel_rfl)
def pre_new : Shape := ⟨[.a [.dat .str, .dat (.int .i64), .dat (.int .i64), .dat (.int .i64), .dat (.int .i64)], .c (.dat (.int .i64))], []⟩
def post_new : List Shape := [⟨[.a [.dat .bool, .dat (.int .i64), .dat (.int .i64), .dat (.int .i64)], .c (.dat .err)], []⟩]
def ann_new : Ann := .no
/-- what turnstile/health.New comes to. -/
def new (n : Nat) (x : (List Int) × Int × Int × Int × Int × Int) : Option (Bool × Int × Int × Int × Int) :=
  match x with
  | (x1, (x2, (x3, (x4, (x5, x6))))) =>
  (Option.bind (check n (true, ((0 : Int), ((0 : Int), ((-1 : Int), (x1, (x2, (x3, (x4, (x5, x6)))))))))) fun r7 =>
  (if (!(r7 == (0 : Int))) = true then
  some (false, ((0 : Int), ((0 : Int), ((0 : Int), r7))))
  else
  (if (decide (x2 > (0 : Int))) = true then
  some (true, ((0 : Int), (x6, ((-1 : Int), (0 : Int)))))
  else
  some (true, ((0 : Int), ((0 : Int), ((-1 : Int), (0 : Int))))))))
def sp_new (n : Nat) : Spec := ⟨pre_new, post_new, new n⟩
def env_new (n : Nat) : List (FuncId × Spec) := [(12, sp_check n)]
theorem run_new (n : Nat) (x : pre_new.T) : fnRun Tryd.prog 42 (envG (env_new n) [] (fun _ => none)) n Tryd.f5 ann_new pre_new post_new x = new n x := by kernel_rfl
theorem ok_new (n : Nat) : FnOK Tryd.prog 42 LS 5 (sp_new n) :=
  fn_run mixed Tryd.func5 (sp_new n) n ann_new (env_new n) (envOf_cons (ok_check n) envOf_nil) [] (fun _ => none) gl_none (run_new n) (by kernel_rfl)
def pre_due : Shape := ⟨[.a [.dat .bool, .dat (.int .i64), .dat (.int .i64), .dat (.int .i64)], .a [.dat .str, .dat (.int .i64), .dat (.int .i64), .dat (.int .i64), .dat (.int .i64)], .c (.dat (.int .i64))], []⟩
def post_due : List Shape := [⟨[.c (.dat .bool), .c (.dat .err)], []⟩]
def ann_due : Ann := .no
/-- what turnstile/health.Due comes to. -/
def due (n : Nat) (x : Bool × Int × Int × Int × (List Int) × Int × Int × Int × Int × Int) : Option (Bool × Int) :=
  match x with
  | (x1, (x2, (x3, (x4, (x5, (x6, (x7, (x8, (x9, x10))))))))) =>
  (Option.bind (check n (x1, (x2, (x3, (x4, (x5, (x6, (x7, (x8, (x9, x10)))))))))) fun r11 =>
  (if (r11 == (0 : Int)) = true then
  (if (decide (x6 > (0 : Int))) = true then
  (if (decide (x4 < (0 : Int))) = true then
  some ((decide (x10 ≥ x3)), r11)
  else
  some (false, r11))
  else
  some (false, r11))
  else
  some (false, r11)))
def sp_due (n : Nat) : Spec := ⟨pre_due, post_due, due n⟩
def env_due (n : Nat) : List (FuncId × Spec) := [(12, sp_check n)]
theorem run_due (n : Nat) (x : pre_due.T) : fnRun Tryd.prog 42 (envG (env_due n) [] (fun _ => none)) n Tryd.f7 ann_due pre_due post_due x = due n x := by kernel_rfl
theorem ok_due (n : Nat) : FnOK Tryd.prog 42 LS 7 (sp_due n) :=
  fn_run mixed Tryd.func7 (sp_due n) n ann_due (env_due n) (envOf_cons (ok_check n) envOf_nil) [] (fun _ => none) gl_none (run_due n) (by kernel_rfl)
def pre_send : Shape := ⟨[.a [.dat .bool, .dat (.int .i64), .dat (.int .i64), .dat (.int .i64)], .a [.dat .str, .dat (.int .i64), .dat (.int .i64), .dat (.int .i64), .dat (.int .i64)], .c (.dat (.int .i64))], []⟩
def post_send : List Shape := [⟨[.a [.dat .bool, .dat (.int .i64), .dat (.int .i64), .dat (.int .i64)], .c (.dat .err)], []⟩]
def ann_send : Ann := .no
/-- what turnstile/health.Send comes to. -/
def send (n : Nat) (x : Bool × Int × Int × Int × (List Int) × Int × Int × Int × Int × Int) : Option (Bool × Int × Int × Int × Int) :=
  match x with
  | (x1, (x2, (x3, (x4, (x5, (x6, (x7, (x8, (x9, x10))))))))) =>
  (Option.bind (due n (x1, (x2, (x3, (x4, (x5, (x6, (x7, (x8, (x9, x10)))))))))) fun r11 =>
  (if (!(r11.2 == (0 : Int))) = true then
  some (false, ((0 : Int), ((0 : Int), ((0 : Int), r11.2))))
  else
  (if (!r11.1) = true then
  some (false, ((0 : Int), ((0 : Int), ((0 : Int), (1 : Int)))))
  else
  some (x1, (x2, ((IntKind.wrap .i64 (x10 + x6)), (x10, (0 : Int))))))))
def sp_send (n : Nat) : Spec := ⟨pre_send, post_send, send n⟩
def env_send (n : Nat) : List (FuncId × Spec) := [(7, sp_due n)]
theorem run_send (n : Nat) (x : pre_send.T) : fnRun Tryd.prog 42 (envG (env_send n) [] (fun _ => none)) n Tryd.f8 ann_send pre_send post_send x = send n x := by kernel_rfl
theorem ok_send (n : Nat) : FnOK Tryd.prog 42 LS 8 (sp_send n) :=
  fn_run mixed Tryd.func8 (sp_send n) n ann_send (env_send n) (envOf_cons (ok_due n) envOf_nil) [] (fun _ => none) gl_none (run_send n) (by kernel_rfl)
def pre_said : Shape := ⟨[.a [.dat .bool, .dat (.int .i64), .dat (.int .i64), .dat (.int .i64)], .a [.dat .str, .dat (.int .i64), .dat (.int .i64), .dat (.int .i64), .dat (.int .i64)], .c (.dat .bool), .c (.dat (.int .i64))], []⟩
def post_said : List Shape := [⟨[.a [.dat .bool, .dat (.int .i64), .dat (.int .i64), .dat (.int .i64)], .c (.dat .err)], []⟩]
def ann_said : Ann := .no
/-- what turnstile/health.Said comes to. -/
def said (n : Nat) (x : Bool × Int × Int × Int × (List Int) × Int × Int × Int × Int × Bool × Int) : Option (Bool × Int × Int × Int × Int) :=
  match x with
  | (x1, (x2, (x3, (x4, (x5, (x6, (x7, (x8, (x9, (x10, x11)))))))))) =>
  (Option.bind (check n (x1, (x2, (x3, (x4, (x5, (x6, (x7, (x8, (x9, x11)))))))))) fun r12 =>
  (if (!(r12 == (0 : Int))) = true then
  some (false, ((0 : Int), ((0 : Int), ((0 : Int), r12))))
  else
  (if (decide (x4 < (0 : Int))) = true then
  some (false, ((0 : Int), ((0 : Int), ((0 : Int), (1 : Int)))))
  else
  (if (x10 == x1) = true then
  some (x1, ((0 : Int), (x3, ((-1 : Int), (0 : Int)))))
  else
  (if x1 = true then
  (if ((IntKind.wrap .i64 (x2 + (1 : Int))) == x9) = true then
  some ((!x1), ((0 : Int), (x3, ((-1 : Int), (0 : Int)))))
  else
  some (x1, ((IntKind.wrap .i64 (x2 + (1 : Int))), (x3, ((-1 : Int), (0 : Int))))))
  else
  (if ((IntKind.wrap .i64 (x2 + (1 : Int))) == x8) = true then
  some ((!x1), ((0 : Int), (x3, ((-1 : Int), (0 : Int)))))
  else
  some (x1, ((IntKind.wrap .i64 (x2 + (1 : Int))), (x3, ((-1 : Int), (0 : Int)))))))))))
def sp_said (n : Nat) : Spec := ⟨pre_said, post_said, said n⟩
def env_said (n : Nat) : List (FuncId × Spec) := [(12, sp_check n)]
theorem run_said (n : Nat) (x : pre_said.T) : fnRun Tryd.prog 42 (envG (env_said n) [] (fun _ => none)) n Tryd.f10 ann_said pre_said post_said x = said n x := by kernel_rfl
theorem ok_said (n : Nat) : FnOK Tryd.prog 42 LS 10 (sp_said n) :=
  fn_run mixed Tryd.func10 (sp_said n) n ann_said (env_said n) (envOf_cons (ok_check n) envOf_nil) [] (fun _ => none) gl_none (run_said n) (by kernel_rfl)
def pre_late : Shape := ⟨[.a [.dat .bool, .dat (.int .i64), .dat (.int .i64), .dat (.int .i64)], .a [.dat .str, .dat (.int .i64), .dat (.int .i64), .dat (.int .i64), .dat (.int .i64)], .c (.dat (.int .i64))], []⟩
def post_late : List Shape := [⟨[.c (.dat .bool), .c (.dat .err)], []⟩]
def ann_late : Ann := .no
/-- what turnstile/health.Late comes to. -/
def late (n : Nat) (x : Bool × Int × Int × Int × (List Int) × Int × Int × Int × Int × Int) : Option (Bool × Int) :=
  match x with
  | (x1, (x2, (x3, (x4, (x5, (x6, (x7, (x8, (x9, x10))))))))) =>
  (Option.bind (check n (x1, (x2, (x3, (x4, (x5, (x6, (x7, (x8, (x9, x10)))))))))) fun r11 =>
  (if (r11 == (0 : Int)) = true then
  (if (decide (x4 ≥ (0 : Int))) = true then
  some ((decide (x10 ≥ (IntKind.wrap .i64 (x4 + x7)))), r11)
  else
  some (false, r11))
  else
  some (false, r11)))
def sp_late (n : Nat) : Spec := ⟨pre_late, post_late, late n⟩
def env_late (n : Nat) : List (FuncId × Spec) := [(12, sp_check n)]
theorem run_late (n : Nat) (x : pre_late.T) : fnRun Tryd.prog 42 (envG (env_late n) [] (fun _ => none)) n Tryd.f11 ann_late pre_late post_late x = late n x := by kernel_rfl
theorem ok_late (n : Nat) : FnOK Tryd.prog 42 LS 11 (sp_late n) :=
  fn_run mixed Tryd.func11 (sp_late n) n ann_late (env_late n) (envOf_cons (ok_check n) envOf_nil) [] (fun _ => none) gl_none (run_late n) (by kernel_rfl)
def pre_works : Shape := ⟨[], []⟩
def post_works : List Shape := [⟨[.c (.dat .bool)], []⟩]
def ann_works : Ann := (.two .no (.two .no (.two .no (.two .no (.two (.two .no (.one (.loop ⟨[1, 2, 4], ⟨[.c (.ptr 500 0), .c (.ptr 501 0), .c (.dat (.int .i64))], [(500, .cells 23 [.dat .str, .dat (.int .i64), .dat (.int .i64), .dat (.int .i64), .dat (.int .i64)]), (501, .cells 27 [.dat .bool, .dat (.int .i64), .dat (.int .i64), .dat (.int .i64)])]⟩⟩ .no))) .no)))))
/-- what turnstile/turnstilelaw24.works comes to. -/
def works (n : Nat) (x : Unit) : Option (Bool) :=
  (Option.bind (new n (([(47 : Int)] : List Int), ((10 : Int), ((3 : Int), ((2 : Int), ((2 : Int), (5 : Int))))))) fun r1 =>
  (if (!(r1.2.2.2.2 == (0 : Int))) = true then
  some false
  else
  (loopF (X := Int × (List Int) × Int × Int × Int × Int × Bool × Int × Int × Int) (A := Bool) (fun rec2 y3 => match y3 with
  | (a4, (a5, (a6, (a7, (a8, (a9, (a10, (a11, (a12, a13))))))))) =>
  (if (decide (a4 < (2 : Int))) = true then
  (Option.bind (due n (a10, (a11, (a12, (a13, (a5, (a6, (a7, (a8, (a9, a12)))))))))) fun r14 =>
  (Option.bind (send n (a10, (a11, (a12, (a13, (a5, (a6, (a7, (a8, (a9, a12)))))))))) fun r15 =>
  (let u16 : Int := (IntKind.wrap .i64 (r15.2.2.2.1 + (1 : Int)))
  (Option.bind (said n (r15.1, (r15.2.1, (r15.2.2.1, (r15.2.2.2.1, (a5, (a6, (a7, (a8, (a9, (false, u16))))))))))) fun r17 =>
  (if (!r14.1) = true then
  some false
  else
  (if (!(r15.2.2.2.2 == (0 : Int))) = true then
  some false
  else
  (if (!(r17.2.2.2.2 == (0 : Int))) = true then
  some false
  else
  rec2 ((IntKind.wrap .i64 (a4 + (1 : Int))), (a5, (a6, (a7, (a8, (a9, (r17.1, (r17.2.1, (r17.2.2.1, r17.2.2.2.1))))))))))))))))
  else
  (Option.bind (send n (a10, (a11, (a12, (a13, (a5, (a6, (a7, (a8, (a9, (0 : Int))))))))))) fun r18 =>
  (if (!a10) = true then
  (if (a11 == (0 : Int)) = true then
  (if (a12 == (25 : Int)) = true then
  (Option.bind (turnstilelaw24Num n r18.2.2.2.2) fun r19 =>
  (if (r19 == (1 : Int)) = true then
  (Option.bind (text n (a10, (a11, (a12, a13)))) fun r20 =>
  some (r20 == ([(100 : Int), (111 : Int), (119 : Int), (110 : Int), (32 : Int), (48 : Int), (32 : Int), (50 : Int), (53 : Int), (32 : Int), (45 : Int), (49 : Int)] : List Int)))
  else
  some false))
  else
  some false)
  else
  some false)
  else
  some false)))) n ((0 : Int), (([(47 : Int)] : List Int), ((10 : Int), ((3 : Int), ((2 : Int), ((2 : Int), (r1.1, (r1.2.1, (r1.2.2.1, r1.2.2.2.1))))))))))))
def sp_works (n : Nat) : Spec := ⟨pre_works, post_works, works n⟩
def env_works (n : Nat) : List (FuncId × Spec) := [(5, sp_new n), (7, sp_due n), (8, sp_send n), (10, sp_said n), (9, sp_turnstilelaw24Num n), (13, sp_text n)]
theorem run_works (n : Nat) (x : pre_works.T) : fnRun Tryd.prog 42 (envG (env_works n) [] (fun _ => none)) n Tryd.f6 ann_works pre_works post_works x = works n x := by kernel_rfl
theorem ok_works (n : Nat) : FnOK Tryd.prog 42 LS 6 (sp_works n) :=
  fn_run mixed Tryd.func6 (sp_works n) n ann_works (env_works n) (envOf_cons (ok_new n) (envOf_cons (ok_due n) (envOf_cons (ok_send n) (envOf_cons (ok_said n) (envOf_cons (ok_turnstilelaw24Num n) (envOf_cons (ok_text n) envOf_nil)))))) [] (fun _ => none) gl_none (run_works n) (by kernel_rfl)
def pre_healthRuns : Shape := ⟨[.a [.dat .str, .dat (.int .i64), .dat (.int .i64), .dat (.int .i64), .dat (.int .i64)], .c (.dat (.list .bool)), .c (.dat (.list (.int .i64)))], []⟩
def post_healthRuns : List Shape := [⟨[.c (.dat .bool)], []⟩]
def ann_healthRuns : Ann := (.two .no (.two .no (.two .no (.two .no (.two (.two .no (.one (.loop ⟨[1, 2, 3, 7, 9, 10, 11, 12, 13], ⟨[.c (.dat (.list .bool)), .c (.dat (.list (.int .i64))), .c (.ptr 500 0), .c (.ptr 501 0), .c (.dat .bool), .c (.dat (.int .i64)), .c (.dat (.int .i64)), .c (.dat (.int .i64)), .c (.dat (.int .i64))], [(500, .cells 23 [.dat .str, .dat (.int .i64), .dat (.int .i64), .dat (.int .i64), .dat (.int .i64)]), (501, .cells 27 [.dat .bool, .dat (.int .i64), .dat (.int .i64), .dat (.int .i64)])]⟩⟩ (.two .no (.two (.one (.two .no (.two (.join ⟨[1, 2, 3, 7, 9, 10, 11, 12, 13, 14], ⟨[.c (.dat (.list .bool)), .c (.dat (.list (.int .i64))), .c (.ptr 500 0), .c (.ptr 501 0), .c (.dat .bool), .c (.dat (.int .i64)), .c (.dat (.int .i64)), .c (.dat (.int .i64)), .c (.dat (.int .i64)), .c (.dat (.int .i64))], [(500, .cells 23 [.dat .str, .dat (.int .i64), .dat (.int .i64), .dat (.int .i64), .dat (.int .i64)]), (501, .cells 27 [.dat .bool, .dat (.int .i64), .dat (.int .i64), .dat (.int .i64)])]⟩⟩ .no) (.two .no (.two .no (.two .no (.two .no (.two .no (.two (.two (.join ⟨[1, 2, 3, 7, 9, 10, 12, 13, 17, 146], ⟨[.c (.dat (.list .bool)), .c (.dat (.list (.int .i64))), .c (.ptr 500 0), .c (.ptr 501 0), .c (.dat .bool), .c (.dat (.int .i64)), .c (.dat (.int .i64)), .c (.dat (.int .i64)), .c (.ptr 502 0), .c (.dat .bool)], [(500, .cells 23 [.dat .str, .dat (.int .i64), .dat (.int .i64), .dat (.int .i64), .dat (.int .i64)]), (501, .cells 27 [.dat .bool, .dat (.int .i64), .dat (.int .i64), .dat (.int .i64)]), (502, .cells 27 [.dat .bool, .dat (.int .i64), .dat (.int .i64), .dat (.int .i64)])]⟩⟩ .no) .no) (.two .no (.two .no (.two .no (.two (.join ⟨[1, 2, 3, 7, 9, 10, 11, 12, 13, 23], ⟨[.c (.dat (.list .bool)), .c (.dat (.list (.int .i64))), .c (.ptr 500 0), .c (.ptr 501 0), .c (.dat .bool), .c (.dat (.int .i64)), .c (.dat (.int .i64)), .c (.dat (.int .i64)), .c (.dat (.int .i64)), .c (.ptr 502 0)], [(500, .cells 23 [.dat .str, .dat (.int .i64), .dat (.int .i64), .dat (.int .i64), .dat (.int .i64)]), (501, .cells 27 [.dat .bool, .dat (.int .i64), .dat (.int .i64), .dat (.int .i64)]), (502, .cells 27 [.dat .bool, .dat (.int .i64), .dat (.int .i64), .dat (.int .i64)])]⟩⟩ .no) (.two (.two (.join ⟨[1, 2, 3, 7, 9, 10, 11, 12, 13, 23, 185], ⟨[.c (.dat (.list .bool)), .c (.dat (.list (.int .i64))), .c (.ptr 500 0), .c (.ptr 501 0), .c (.dat .bool), .c (.dat (.int .i64)), .c (.dat (.int .i64)), .c (.dat (.int .i64)), .c (.dat (.int .i64)), .c (.ptr 502 0), .c (.dat .bool)], [(500, .cells 23 [.dat .str, .dat (.int .i64), .dat (.int .i64), .dat (.int .i64), .dat (.int .i64)]), (501, .cells 27 [.dat .bool, .dat (.int .i64), .dat (.int .i64), .dat (.int .i64)]), (502, .cells 27 [.dat .bool, .dat (.int .i64), .dat (.int .i64), .dat (.int .i64)])]⟩⟩ .no) .no) .no)))))))))))))) .no))))) .no)))))
/-- what turnstile/turnstilelaw24.HealthRuns comes to. -/
def healthRuns (n : Nat) (x : (List Int) × Int × Int × Int × Int × (List Bool) × List Int) : Option (Bool) :=
  match x with
  | (x1, (x2, (x3, (x4, (x5, (x6, x7)))))) =>
  (Option.bind (new n (x1, (x2, (x3, (x4, (x5, (0 : Int))))))) fun r8 =>
  (if (!(r8.2.2.2.2 == (0 : Int))) = true then
  (if (r8.2.2.2.2 == (0 : Int)) = true then
  (Option.bind (works n ()) fun r9 =>
  some r9)
  else
  (if ((r8.1 == false) && ((r8.2.1 == (0 : Int)) && ((r8.2.2.1 == (0 : Int)) && ((r8.2.2.2.1 == (0 : Int)) && true)))) = true then
  (Option.bind (works n ()) fun r10 =>
  some r10)
  else
  some false))
  else
  (if (x2 == (0 : Int)) = true then
  (if (r8.2.2.2.2 == (0 : Int)) = true then
  (Option.bind (works n ()) fun r11 =>
  some r11)
  else
  (if ((r8.1 == false) && ((r8.2.1 == (0 : Int)) && ((r8.2.2.1 == (0 : Int)) && ((r8.2.2.2.1 == (0 : Int)) && true)))) = true then
  (Option.bind (works n ()) fun r12 =>
  some r12)
  else
  some false))
  else
  (if (decide (x2 > (1048576 : Int))) = true then
  (if (r8.2.2.2.2 == (0 : Int)) = true then
  (Option.bind (works n ()) fun r13 =>
  some r13)
  else
  (if ((r8.1 == false) && ((r8.2.1 == (0 : Int)) && ((r8.2.2.1 == (0 : Int)) && ((r8.2.2.2.1 == (0 : Int)) && true)))) = true then
  (Option.bind (works n ()) fun r14 =>
  some r14)
  else
  some false))
  else
  (loopF (X := (List Bool) × (List Int) × Bool × Int × Int × Int × Int × (List Int) × Int × Int × Int × Int × Bool × Int × Int × Int) (A := Bool) (fun rec15 y16 => match y16 with
  | (a17, (a18, (a19, (a20, (a21, (a22, (a23, (a24, (a25, (a26, (a27, (a28, (a29, (a30, (a31, a32))))))))))))))) =>
  (if (decide (a23 < (a17.length : Int))) = true then
  (if (decide (a23 < (200 : Int))) = true then
  (Option.bind (α := Out ((List Bool) × (List Int) × Bool × Int × Int × Int × Int × Int × (List Int) × Int × Int × Int × Int × Bool × Int × Int × Int) (Bool)) ((if (decide (a23 < (a18.length : Int))) = true then
  (Option.bind (idx a18 a23) fun v33 =>
  (let u34 : Int := (IntKind.wrap .i64 ((Int.tmod v33 (9 : Int)) + (9 : Int)))
  (some (Out.go (a17, (a18, (a19, (a20, (a21, (a22, (a23, ((Int.tmod u34 (9 : Int)), (a24, (a25, (a26, (a27, (a28, (a29, (a30, (a31, a32))))))))))))))))))))
  else
  (some (Out.go (a17, (a18, (a19, (a20, (a21, (a22, (a23, ((0 : Int), (a24, (a25, (a26, (a27, (a28, (a29, (a30, (a31, a32)))))))))))))))))))) fun o => match o with
  | .go (z36, (z37, (z38, (z39, (z40, (z41, (z42, (z43, (z44, (z45, (z46, (z47, (z48, (z49, (z50, (z51, z52)))))))))))))))) =>
  (let u53 : Int := (IntKind.wrap .i64 ((if z51 > z41 then z51 else z41) + z43))
  (Option.bind (due n (z49, (z50, (z51, (z52, (z44, (z45, (z46, (z47, (z48, u53)))))))))) fun r54 =>
  (Option.bind (send n (z49, (z50, (z51, (z52, (z44, (z45, (z46, (z47, (z48, u53)))))))))) fun r55 =>
  (Option.bind (due n (r55.1, (r55.2.1, (r55.2.2.1, (r55.2.2.2.1, (z44, (z45, (z46, (z47, (z48, u53)))))))))) fun r56 =>
  (Option.bind (send n (r55.1, (r55.2.1, (r55.2.2.1, (r55.2.2.2.1, (z44, (z45, (z46, (z47, (z48, u53)))))))))) fun r57 =>
  (Option.bind (α := Out ((List Bool) × (List Int) × Bool × Int × Int × Int × Bool × (List Int) × Int × Int × Int × Int × Bool × Int × Int × Int × Bool × Int × Int × Int) (Bool)) ((if (!r54.1) = true then
  (some (Out.go (z36, (z37, (z38, (z39, (u53, (z42, (true, (z44, (z45, (z46, (z47, (z48, (z49, (z50, (z51, (z52, (r55.1, (r55.2.1, (r55.2.2.1, r55.2.2.2.1)))))))))))))))))))))
  else
  (if (!(r54.2 == (0 : Int))) = true then
  (some (Out.go (z36, (z37, (z38, (z39, (u53, (z42, (true, (z44, (z45, (z46, (z47, (z48, (z49, (z50, (z51, (z52, (r55.1, (r55.2.1, (r55.2.2.1, r55.2.2.2.1)))))))))))))))))))))
  else
  (if (!(r55.2.2.2.2 == (0 : Int))) = true then
  (some (Out.go (z36, (z37, (z38, (z39, (u53, (z42, (true, (z44, (z45, (z46, (z47, (z48, (z49, (z50, (z51, (z52, (r55.1, (r55.2.1, (r55.2.2.1, r55.2.2.2.1)))))))))))))))))))))
  else
  (if r56.1 = true then
  (some (Out.go (z36, (z37, (z38, (z39, (u53, (z42, (true, (z44, (z45, (z46, (z47, (z48, (z49, (z50, (z51, (z52, (r55.1, (r55.2.1, (r55.2.2.1, r55.2.2.2.1)))))))))))))))))))))
  else
  (if (!(r56.2 == (0 : Int))) = true then
  (some (Out.go (z36, (z37, (z38, (z39, (u53, (z42, (true, (z44, (z45, (z46, (z47, (z48, (z49, (z50, (z51, (z52, (r55.1, (r55.2.1, (r55.2.2.1, r55.2.2.2.1)))))))))))))))))))))
  else
  (Option.bind (turnstilelaw24Num n r57.2.2.2.2) fun r58 =>
  (if (r58 != (1 : Int)) = true then
  (some (Out.go (z36, (z37, (z38, (z39, (u53, (z42, (true, (z44, (z45, (z46, (z47, (z48, (z49, (z50, (z51, (z52, (r55.1, (r55.2.1, (r55.2.2.1, r55.2.2.2.1)))))))))))))))))))))
  else
  (if (decide (z40 ≥ (0 : Int))) = true then
  (if (decide ((IntKind.wrap .i64 (u53 - z40)) < z45)) = true then
  (some (Out.go (z36, (z37, (z38, (z39, (u53, (z42, (true, (z44, (z45, (z46, (z47, (z48, (z49, (z50, (z51, (z52, (r55.1, (r55.2.1, (r55.2.2.1, r55.2.2.2.1)))))))))))))))))))))
  else
  (some (Out.go (z36, (z37, (z38, (z39, (u53, (z42, ((!(r55.1 == z38)), (z44, (z45, (z46, (z47, (z48, (z49, (z50, (z51, (z52, (r55.1, (r55.2.1, (r55.2.2.1, r55.2.2.2.1))))))))))))))))))))))
  else
  (some (Out.go (z36, (z37, (z38, (z39, (u53, (z42, ((!(r55.1 == z38)), (z44, (z45, (z46, (z47, (z48, (z49, (z50, (z51, (z52, (r55.1, (r55.2.1, (r55.2.2.1, r55.2.2.2.1)))))))))))))))))))))))))))))) fun o => match o with
  | .go (z60, (z61, (z62, (z63, (z64, (z65, (z66, (z67, (z68, (z69, (z70, (z71, (z72, (z73, (z74, (z75, (z76, (z77, (z78, z79))))))))))))))))))) =>
  (if z66 = true then
  some false
  else
  (Option.bind (idx z60 z65) fun v80 =>
  (Option.bind (said n (z76, (z77, (z78, (z79, (z67, (z68, (z69, (z70, (z71, (v80, z64))))))))))) fun r81 =>
  (if (!(r81.2.2.2.2 == (0 : Int))) = true then
  some false
  else
  (Option.bind (α := Out ((List Bool) × (List Int) × Bool × Int × Int × Int × Int × (List Int) × Int × Int × Int × Int × Bool × Int × Int × Int × Bool × Int × Int × Int) (Bool)) ((Option.bind (idx z60 z65) fun v82 =>
  (if (v82 == z62) = true then
  (some (Out.go (z60, (z61, (z62, ((0 : Int), (z64, (z64, (z65, (z67, (z68, (z69, (z70, (z71, (z72, (z73, (z74, (z75, (r81.1, (r81.2.1, (r81.2.2.1, r81.2.2.2.1)))))))))))))))))))))
  else
  (let u83 : Int := (IntKind.wrap .i64 (z63 + (1 : Int)))
  (some (Out.go (z60, (z61, (z62, (u83, (z64, (z64, (z65, (z67, (z68, (z69, (z70, (z71, (z72, (z73, (z74, (z75, (r81.1, (r81.2.1, (r81.2.2.1, r81.2.2.2.1))))))))))))))))))))))))) fun o => match o with
  | .go (z85, (z86, (z87, (z88, (z89, (z90, (z91, (z92, (z93, (z94, (z95, (z96, (z97, (z98, (z99, (z100, (z101, (z102, (z103, z104))))))))))))))))))) =>
  (Option.bind (α := Out ((List Bool) × (List Int) × Bool × Int × Int × Int × Int × Bool × (List Int) × Int × Int × Int × Int × Bool × Int × Int × Int × Bool × Int × Int × Int) (Bool)) ((if z87 = true then
  (if (z88 == z96) = true then
  (some (Out.go (z85, (z86, (z87, (z88, (z89, (z90, (z91, (true, (z92, (z93, (z94, (z95, (z96, (z97, (z98, (z99, (z100, (z101, (z102, (z103, z104))))))))))))))))))))))
  else
  (if (!z87) = true then
  (some (Out.go (z85, (z86, (z87, (z88, (z89, (z90, (z91, ((z88 == z95), (z92, (z93, (z94, (z95, (z96, (z97, (z98, (z99, (z100, (z101, (z102, (z103, z104))))))))))))))))))))))
  else
  (some (Out.go (z85, (z86, (z87, (z88, (z89, (z90, (z91, (false, (z92, (z93, (z94, (z95, (z96, (z97, (z98, (z99, (z100, (z101, (z102, (z103, z104))))))))))))))))))))))))
  else
  (if (!z87) = true then
  (some (Out.go (z85, (z86, (z87, (z88, (z89, (z90, (z91, ((z88 == z95), (z92, (z93, (z94, (z95, (z96, (z97, (z98, (z99, (z100, (z101, (z102, (z103, z104))))))))))))))))))))))
  else
  (some (Out.go (z85, (z86, (z87, (z88, (z89, (z90, (z91, (false, (z92, (z93, (z94, (z95, (z96, (z97, (z98, (z99, (z100, (z101, (z102, (z103, z104))))))))))))))))))))))))) fun o => match o with
  | .go (z106, (z107, (z108, (z109, (z110, (z111, (z112, (z113, (z114, (z115, (z116, (z117, (z118, (z119, (z120, (z121, (z122, (z123, (z124, (z125, z126)))))))))))))))))))) =>
  (if z113 = true then
  (if (!(z123 == (!z108))) = true then
  some false
  else
  (let u127 : Int := (IntKind.wrap .i64 (z112 + (1 : Int)))
  rec15 (z106, (z107, ((!z108), ((0 : Int), (z110, (z111, (u127, (z114, (z115, (z116, (z117, (z118, (z123, (z124, (z125, z126)))))))))))))))))
  else
  (if (!(z123 == z108)) = true then
  some false
  else
  (let u128 : Int := (IntKind.wrap .i64 (z112 + (1 : Int)))
  rec15 (z106, (z107, (z108, (z109, (z110, (z111, (u128, (z114, (z115, (z116, (z117, (z118, (z123, (z124, (z125, z126))))))))))))))))))
  | .ret r129 => some r129)
  | .ret r130 => some r130)))))
  | .ret r131 => some r131))))))
  | .ret r132 => some r132)
  else
  (Option.bind (works n ()) fun r133 =>
  some r133))
  else
  (Option.bind (works n ()) fun r134 =>
  some r134))) n (x6, (x7, (true, ((0 : Int), ((-1 : Int), ((0 : Int), ((0 : Int), (x1, (x2, (x3, (x4, (x5, (r8.1, (r8.2.1, (r8.2.2.1, r8.2.2.2.1))))))))))))))))))))
def sp_healthRuns (n : Nat) : Spec := ⟨pre_healthRuns, post_healthRuns, healthRuns n⟩
def env_healthRuns (n : Nat) : List (FuncId × Spec) := [(5, sp_new n), (6, sp_works n), (7, sp_due n), (8, sp_send n), (9, sp_turnstilelaw24Num n), (10, sp_said n)]
theorem run_healthRuns (n : Nat) (x : pre_healthRuns.T) : fnRun Tryd.prog 42 (envG (env_healthRuns n) [] (fun _ => none)) n Tryd.f3 ann_healthRuns pre_healthRuns post_healthRuns x = healthRuns n x := by kernel_rfl
theorem ok_healthRuns (n : Nat) : FnOK Tryd.prog 42 LS 3 (sp_healthRuns n) :=
  fn_run mixed Tryd.func3 (sp_healthRuns n) n ann_healthRuns (env_healthRuns n) (envOf_cons (ok_new n) (envOf_cons (ok_works n) (envOf_cons (ok_due n) (envOf_cons (ok_send n) (envOf_cons (ok_turnstilelaw24Num n) (envOf_cons (ok_said n) envOf_nil)))))) [] (fun _ => none) gl_none (run_healthRuns n) (by kernel_rfl)
def pre_healthLate : Shape := ⟨[.a [.dat .str, .dat (.int .i64), .dat (.int .i64), .dat (.int .i64), .dat (.int .i64)], .c (.dat (.int .i64)), .c (.dat (.int .i64))], []⟩
def post_healthLate : List Shape := [⟨[.c (.dat .bool)], []⟩]
def ann_healthLate : Ann := .no
/-- what turnstile/turnstilelaw24.HealthLate comes to. -/
def healthLate (n : Nat) (x : (List Int) × Int × Int × Int × Int × Int × Int) : Option (Bool) :=
  match x with
  | (x1, (x2, (x3, (x4, (x5, (x6, x7)))))) =>
  (Option.bind (new n (x1, (x2, (x3, (x4, (x5, x6)))))) fun r8 =>
  (if (!(r8.2.2.2.2 == (0 : Int))) = true then
  (Option.bind (works n ()) fun r9 =>
  some r9)
  else
  (if (x2 == (0 : Int)) = true then
  (Option.bind (works n ()) fun r10 =>
  some r10)
  else
  (if (decide (x6 > (549755813888 : Int))) = true then
  (Option.bind (works n ()) fun r11 =>
  some r11)
  else
  (if (decide (x2 > (1073741824 : Int))) = true then
  (Option.bind (works n ()) fun r12 =>
  some r12)
  else
  (let u13 : Int := (IntKind.wrap .i64 ((Int.tmod x7 (100 : Int)) + (100 : Int)))
  (Option.bind (late n (r8.1, (r8.2.1, (r8.2.2.1, (r8.2.2.2.1, (x1, (x2, (x3, (x4, (x5, x6)))))))))) fun r14 =>
  (Option.bind (send n (r8.1, (r8.2.1, (r8.2.2.1, (r8.2.2.2.1, (x1, (x2, (x3, (x4, (x5, x6)))))))))) fun r15 =>
  (let u16 : Int := (IntKind.wrap .i64 (x6 + (Int.tmod u13 (100 : Int))))
  (Option.bind (late n (r15.1, (r15.2.1, (r15.2.2.1, (r15.2.2.2.1, (x1, (x2, (x3, (x4, (x5, u16)))))))))) fun r17 =>
  (if (!r14.1) = true then
  (if (r14.2 == (0 : Int)) = true then
  (if (r15.2.2.2.2 == (0 : Int)) = true then
  (if (r17.2 == (0 : Int)) = true then
  (if (r17.1 == (decide ((Int.tmod u13 (100 : Int)) ≥ x3))) = true then
  (Option.bind (works n ()) fun r18 =>
  some r18)
  else
  some false)
  else
  some false)
  else
  some false)
  else
  some false)
  else
  some false)))))))))))
def sp_healthLate (n : Nat) : Spec := ⟨pre_healthLate, post_healthLate, healthLate n⟩
def env_healthLate (n : Nat) : List (FuncId × Spec) := [(5, sp_new n), (6, sp_works n), (11, sp_late n), (8, sp_send n)]
theorem run_healthLate (n : Nat) (x : pre_healthLate.T) : fnRun Tryd.prog 42 (envG (env_healthLate n) [] (fun _ => none)) n Tryd.f4 ann_healthLate pre_healthLate post_healthLate x = healthLate n x := by kernel_rfl
theorem ok_healthLate (n : Nat) : FnOK Tryd.prog 42 LS 4 (sp_healthLate n) :=
  fn_run mixed Tryd.func4 (sp_healthLate n) n ann_healthLate (env_healthLate n) (envOf_cons (ok_new n) (envOf_cons (ok_works n) (envOf_cons (ok_late n) (envOf_cons (ok_send n) envOf_nil)))) [] (fun _ => none) gl_none (run_healthLate n) (by kernel_rfl)
end Go.Sx.YtbiipgbejlfkbaaDoor
