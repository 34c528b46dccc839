/- Part of a proof by a small interpreter on plain values; no condition. -/
import Derived.Test.YtbiipgbejlfkbaaGreatDoorCa
import Derived.Test.YtbiipgbejlfkbaaGreatDoorProg
/-! written by program: the functions as plain ones, and their contracts. -/
namespace Go.Sx.YtbiipgbejlfkbaaGreatDoor
open Go Go.Sx Go.Proofs
set_option autoImplicit false
set_option maxRecDepth 100000
set_option linter.unusedVariables false
theorem mixed : Tryz.prog.follows .mixedOrders = true := by kernel_rfl
def pre_turnstilelaw24Num : Shape := ⟨[.c (.dat .err)], []⟩
def post_turnstilelaw24Num : List Shape := [⟨[.c (.dat (.int .i64))], []⟩]
def ann_turnstilelaw24Num : Ann := .no
/-- what turnstile/turnstilelaw24.num comes to. -/
def turnstilelaw24Num (n : Nat) (x : Int) : Option (Int) :=
  (if (x == (0 : Int)) = true then
  some (0 : Int)
  else
  (if (!(x != 0)) = true then
  some (-1 : Int)
  else
  some x))
def sp_turnstilelaw24Num (n : Nat) : Spec := ⟨pre_turnstilelaw24Num, post_turnstilelaw24Num, turnstilelaw24Num n⟩
def env_turnstilelaw24Num (n : Nat) : List (FuncId × Spec) := []
theorem run_turnstilelaw24Num (n : Nat) (x : pre_turnstilelaw24Num.T) : fnRun Tryz.prog 51 (envG (env_turnstilelaw24Num n) [] (fun _ => none)) n Tryz.f12 ann_turnstilelaw24Num pre_turnstilelaw24Num post_turnstilelaw24Num x = turnstilelaw24Num n x := by kernel_rfl
theorem ok_turnstilelaw24Num (n : Nat) : FnOK Tryz.prog 51 LS 12 (sp_turnstilelaw24Num n) :=
  fn_run mixed Tryz.func12 (sp_turnstilelaw24Num n) n ann_turnstilelaw24Num (env_turnstilelaw24Num n) envOf_nil [] (fun _ => none) gl_none (run_turnstilelaw24Num n) (by kernel_rfl)
def pre_rGood : Shape := ⟨[.c (.dat (.int .i64))], []⟩
def post_rGood : List Shape := [⟨[.c (.dat .bool)], []⟩]
def ann_rGood : Ann := .no
/-- what turnstile/turnstileref24.Good comes to. -/
def rGood (n : Nat) (x : Int) : Option (Bool) :=
  (if (decide (x ≥ (200 : Int))) = true then
  some (decide (x ≤ (299 : Int)))
  else
  some false)
def sp_rGood (n : Nat) : Spec := ⟨pre_rGood, post_rGood, rGood n⟩
def env_rGood (n : Nat) : List (FuncId × Spec) := []
theorem run_rGood (n : Nat) (x : pre_rGood.T) : fnRun Tryz.prog 51 (envG (env_rGood n) [] (fun _ => none)) n Tryz.f18 ann_rGood pre_rGood post_rGood x = rGood n x := by kernel_rfl
theorem ok_rGood (n : Nat) : FnOK Tryz.prog 51 LS 18 (sp_rGood n) :=
  fn_run mixed Tryz.func18 (sp_rGood n) n ann_rGood (env_rGood n) envOf_nil [] (fun _ => none) gl_none (run_rGood n) (by kernel_rfl)
def pre_text : Shape := ⟨[.a [.dat .bool, .dat (.int .i64), .dat (.int .i64), .dat (.int .i64)]], []⟩
def post_text : List Shape := [⟨[.c (.dat .str)], []⟩]
def ann_text : Ann := (.two .no (.two .no (.two (.join ⟨[1, 3], ⟨[.c (.ptr 500 0), .c (.dat .str)], [(500, .cells 26 [.dat .bool, .dat (.int .i64), .dat (.int .i64), .dat (.int .i64)])]⟩⟩ .no) .no)))
/-- what turnstile/health.Text comes to. -/
def text (n : Nat) (x : Bool × Int × Int × Int) : Option (List Int) :=
  match x with
  | (x1, (x2, (x3, x4))) =>
  (Option.bind (α := Out ((List Int) × Bool × Int × Int × Int) (List Int)) ((if x1 = true then
  (some (Out.go (([(117 : Int), (112 : Int)] : List Int), (x1, (x2, (x3, x4))))))
  else
  (some (Out.go (([(100 : Int), (111 : Int), (119 : Int), (110 : Int)] : List Int), (x1, (x2, (x3, x4)))))))) fun o => match o with
  | .go (z6, (z7, (z8, (z9, z10)))) =>
  (if z6.length + 1 ≤ 140737488355328 then
  (Option.bind (strItoa n z8) fun r11 =>
  (if (z6 ++ ([(32 : Int)] : List Int)).length + r11.length ≤ 140737488355328 then
  (let u12 : List Int := ((z6 ++ ([(32 : Int)] : List Int)) ++ r11)
  (if u12.length + 1 ≤ 140737488355328 then
  (Option.bind (strItoa n z9) fun r13 =>
  (if (u12 ++ ([(32 : Int)] : List Int)).length + r13.length ≤ 140737488355328 then
  (let u14 : List Int := ((u12 ++ ([(32 : Int)] : List Int)) ++ r13)
  (if u14.length + 1 ≤ 140737488355328 then
  (Option.bind (strItoa n z10) fun r15 =>
  (if (u14 ++ ([(32 : Int)] : List Int)).length + r15.length ≤ 140737488355328 then
  (let u16 : List Int := ((u14 ++ ([(32 : Int)] : List Int)) ++ r15)
  some u16)
  else none))
  else none))
  else none))
  else none))
  else none))
  else none)
  | .ret r17 => some r17)
def sp_text (n : Nat) : Spec := ⟨pre_text, post_text, text n⟩
def env_text (n : Nat) : List (FuncId × Spec) := [(28, sp_strItoa n)]
theorem run_text (n : Nat) (x : pre_text.T) : fnRun Tryz.prog 51 (envG (env_text n) [] (fun _ => none)) n Tryz.f19 ann_text pre_text post_text x = text n x := by kernel_rfl
theorem ok_text (n : Nat) : FnOK Tryz.prog 51 LS 19 (sp_text n) :=
  fn_run mixed Tryz.func19 (sp_text n) n ann_text (env_text n) (envOf_cons (ok_strItoa n) envOf_nil) [] (fun _ => none) gl_none (run_text n) (by kernel_rfl)
def pre_healthIn : Shape := ⟨[.c (.dat (.int .i64)), .c (.dat (.int .i64)), .c (.dat (.int .i64))], []⟩
def post_healthIn : List Shape := [⟨[.c (.dat .bool)], []⟩]
def ann_healthIn : Ann := .no
/-- what turnstile/health.in comes to. -/
def healthIn (n : Nat) (x : Int × Int × Int) : Option (Bool) :=
  match x with
  | (x1, (x2, x3)) =>
  (if (decide (x1 ≥ x2)) = true then
  some (decide (x1 ≤ x3))
  else
  some false)
def sp_healthIn (n : Nat) : Spec := ⟨pre_healthIn, post_healthIn, healthIn n⟩
def env_healthIn (n : Nat) : List (FuncId × Spec) := []
theorem run_healthIn (n : Nat) (x : pre_healthIn.T) : fnRun Tryz.prog 51 (envG (env_healthIn n) [] (fun _ => none)) n Tryz.f24 ann_healthIn pre_healthIn post_healthIn x = healthIn n x := by kernel_rfl
theorem ok_healthIn (n : Nat) : FnOK Tryz.prog 51 LS 24 (sp_healthIn n) :=
  fn_run mixed Tryz.func24 (sp_healthIn n) n ann_healthIn (env_healthIn n) envOf_nil [] (fun _ => none) gl_none (run_healthIn n) (by kernel_rfl)
def pre_statecan : Shape := ⟨[.a [.dat .bool, .dat (.int .i64), .dat (.int .i64), .dat (.int .i64)], .a [.dat .str, .dat (.int .i64), .dat (.int .i64), .dat (.int .i64), .dat (.int .i64)]], []⟩
def post_statecan : List Shape := [⟨[.c (.dat .bool)], []⟩]
def ann_statecan : Ann := .no
/-- what (turnstile/health.State).can comes to. -/
def statecan (n : Nat) (x : Bool × Int × Int × Int × (List Int) × Int × Int × Int × Int) : Option (Bool) :=
  match x with
  | (x1, (x2, (x3, (x4, (x5, (x6, (x7, (x8, x9)))))))) =>
  (if (x6 == (0 : Int)) = true then
  some ((x1 == true) && ((x2 == (0 : Int)) && ((x3 == (0 : Int)) && ((x4 == (-1 : Int)) && true))))
  else
  (if x1 = true then
  (Option.bind (healthIn n (x2, ((0 : Int), (IntKind.wrap .i64 (x9 - (1 : Int)))))) fun r10 =>
  (if r10 = true then
  (Option.bind (healthIn n (x3, ((0 : Int), (2199023255552 : Int)))) fun r11 =>
  (if r11 = true then
  (Option.bind (healthIn n (x4, ((-1 : Int), (1099511627776 : Int)))) fun r12 =>
  some r12)
  else
  some false))
  else
  some false))
  else
  (Option.bind (healthIn n (x2, ((0 : Int), (IntKind.wrap .i64 (x8 - (1 : Int)))))) fun r13 =>
  (if r13 = true then
  (Option.bind (healthIn n (x3, ((0 : Int), (2199023255552 : Int)))) fun r14 =>
  (if r14 = true then
  (Option.bind (healthIn n (x4, ((-1 : Int), (1099511627776 : Int)))) fun r15 =>
  some r15)
  else
  some false))
  else
  some false))))
def sp_statecan (n : Nat) : Spec := ⟨pre_statecan, post_statecan, statecan n⟩
def env_statecan (n : Nat) : List (FuncId × Spec) := [(24, sp_healthIn n)]
theorem run_statecan (n : Nat) (x : pre_statecan.T) : fnRun Tryz.prog 51 (envG (env_statecan n) [] (fun _ => none)) n Tryz.f30 ann_statecan pre_statecan post_statecan x = statecan n x := by kernel_rfl
theorem ok_statecan (n : Nat) : FnOK Tryz.prog 51 LS 30 (sp_statecan n) :=
  fn_run mixed Tryz.func30 (sp_statecan n) n ann_statecan (env_statecan n) (envOf_cons (ok_healthIn n) envOf_nil) [] (fun _ => none) gl_none (run_statecan n) (by kernel_rfl)
def pre_rMay : Shape := ⟨[.a [.dat .bool, .dat (.int .i64), .dat (.int .i64), .dat (.int .i64)], .a [.dat .str, .dat (.int .i64), .dat (.int .i64), .dat (.int .i64), .dat (.int .i64)]], []⟩
def post_rMay : List Shape := [⟨[.c (.dat .bool)], []⟩]
def ann_rMay : Ann := .no
/-- what turnstile/turnstileref24.may comes to. -/
def rMay (n : Nat) (x : Bool × Int × Int × Int × (List Int) × Int × Int × Int × Int) : Option (Bool) :=
  match x with
  | (x1, (x2, (x3, (x4, (x5, (x6, (x7, (x8, x9)))))))) =>
  (if (x6 == (0 : Int)) = true then
  some ((x1 == true) && ((x2 == (0 : Int)) && ((x3 == (0 : Int)) && ((x4 == (-1 : Int)) && true))))
  else
  (if x1 = true then
  (if (decide (x2 ≥ (0 : Int))) = true then
  (if (decide (x2 < x9)) = true then
  (if (decide (x3 ≥ (0 : Int))) = true then
  (if (decide (x3 ≤ (2199023255552 : Int))) = true then
  (if (decide (x4 ≥ (-1 : Int))) = true then
  some (decide (x4 ≤ (1099511627776 : Int)))
  else
  some false)
  else
  some false)
  else
  some false)
  else
  some false)
  else
  some false)
  else
  (if (decide (x2 ≥ (0 : Int))) = true then
  (if (decide (x2 < x8)) = true then
  (if (decide (x3 ≥ (0 : Int))) = true then
  (if (decide (x3 ≤ (2199023255552 : Int))) = true then
  (if (decide (x4 ≥ (-1 : Int))) = true then
  some (decide (x4 ≤ (1099511627776 : Int)))
  else
  some false)
  else
  some false)
  else
  some false)
  else
  some false)
  else
  some false)))
def sp_rMay (n : Nat) : Spec := ⟨pre_rMay, post_rMay, rMay n⟩
def env_rMay (n : Nat) : List (FuncId × Spec) := []
theorem run_rMay (n : Nat) (x : pre_rMay.T) : fnRun Tryz.prog 51 (envG (env_rMay n) [] (fun _ => none)) n Tryz.f31 ann_rMay pre_rMay post_rMay x = rMay n x := by kernel_rfl
theorem ok_rMay (n : Nat) : FnOK Tryz.prog 51 LS 31 (sp_rMay n) :=
  fn_run mixed Tryz.func31 (sp_rMay n) n ann_rMay (env_rMay n) envOf_nil [] (fun _ => none) gl_none (run_rMay n) (by kernel_rfl)
def pre_bldByte : Shape := ⟨[.c (.ptr 0 0), .c (.dat (.int .u8))], [(0, .cells 64 [.slf 0, .own 1]), (1, .row 5 (.int .u8))]⟩
def post_bldByte : List Shape := [⟨[.c (.errc (0))], [(0, .cells 64 [.slf 0, .own 1]), (1, .row 5 (.int .u8))]⟩]
def ann_bldByte : Ann := .no
/-- what (strings.Builder).WriteByte comes to. -/
def bldByte (n : Nat) (x : Int × List Int) : Option (List Int) :=
  match x with
  | (x1, x2) =>
  (Option.bind (bldCheck n x2) fun r3 =>
  (if (r3.length + 1) * 1 ≤ 140737488355328 then
  some (r3 ++ ([x1] : List Int))
  else none))
def sp_bldByte (n : Nat) : Spec := ⟨pre_bldByte, post_bldByte, bldByte n⟩
def env_bldByte (n : Nat) : List (FuncId × Spec) := [(48, sp_bldCheck n)]
theorem run_bldByte (n : Nat) (x : pre_bldByte.T) : fnRun Tryz.prog 51 (envG (env_bldByte n) [] (fun _ => none)) n Tryz.f34 ann_bldByte pre_bldByte post_bldByte x = bldByte n x := by kernel_rfl
theorem ok_bldByte (n : Nat) : FnOK Tryz.prog 51 LS 34 (sp_bldByte n) :=
  fn_run mixed Tryz.func34 (sp_bldByte n) n ann_bldByte (env_bldByte n) (envOf_cons (ok_bldCheck n) envOf_nil) [] (fun _ => none) gl_none (run_bldByte n) (by kernel_rfl)
def pre_bldStr : Shape := ⟨[.c (.ptr 0 0), .c (.dat .str)], [(0, .cells 64 [.slf 0, .own 1]), (1, .row 5 (.int .u8))]⟩
def post_bldStr : List Shape := [⟨[.c (.dat (.int .i64)), .c (.errc (0))], [(0, .cells 64 [.slf 0, .own 1]), (1, .row 5 (.int .u8))]⟩]
def ann_bldStr : Ann := .no
/-- what (strings.Builder).WriteString comes to. -/
def bldStr (n : Nat) (x : (List Int) × List Int) : Option (Int × List Int) :=
  match x with
  | (x1, x2) =>
  (Option.bind (bldCheck n x2) fun r3 =>
  (if (r3.length + x1.length) * 1 ≤ 140737488355328 then
  some ((x1.length : Int), (r3 ++ x1))
  else none))
def sp_bldStr (n : Nat) : Spec := ⟨pre_bldStr, post_bldStr, bldStr n⟩
def env_bldStr (n : Nat) : List (FuncId × Spec) := [(48, sp_bldCheck n)]
theorem run_bldStr (n : Nat) (x : pre_bldStr.T) : fnRun Tryz.prog 51 (envG (env_bldStr n) [] (fun _ => none)) n Tryz.f36 ann_bldStr pre_bldStr post_bldStr x = bldStr n x := by kernel_rfl
theorem ok_bldStr (n : Nat) : FnOK Tryz.prog 51 LS 36 (sp_bldStr n) :=
  fn_run mixed Tryz.func36 (sp_bldStr n) n ann_bldStr (env_bldStr n) (envOf_cons (ok_bldCheck n) envOf_nil) [] (fun _ => none) gl_none (run_bldStr n) (by kernel_rfl)
def pre_coded : Shape := ⟨[.c (.dat (.int .u8))], []⟩
def post_coded : List Shape := [⟨[.c (.dat .str)], []⟩]
def ann_coded : Ann := .no
/-- what turnstile/target.coded comes to. -/
def coded (n : Nat) (x : Int) : Option (List Int) :=
  (let u2 : Int := (IntKind.wrap .u8 ((Int.fdiv x 16) + (1 : Int)))
  (if 0 ≤ (Int.fdiv x 16) ∧ (Int.fdiv x 16) ≤ u2 ∧ u2 ≤ (16 : Int) then
  (let u3 : List Int := ((([(48 : Int), (49 : Int), (50 : Int), (51 : Int), (52 : Int), (53 : Int), (54 : Int), (55 : Int), (56 : Int), (57 : Int), (65 : Int), (66 : Int), (67 : Int), (68 : Int), (69 : Int), (70 : Int)] : List Int).drop (Int.fdiv x 16).toNat).take (u2.toNat - (Int.fdiv x 16).toNat))
  (if 1 + u3.length ≤ 140737488355328 then
  (let u4 : Int := (IntKind.wrap .u8 ((bits .and .u8 x (15 : Int)) + (1 : Int)))
  (if 0 ≤ (bits .and .u8 x (15 : Int)) ∧ (bits .and .u8 x (15 : Int)) ≤ u4 ∧ u4 ≤ (16 : Int) then
  (let u5 : List Int := ((([(48 : Int), (49 : Int), (50 : Int), (51 : Int), (52 : Int), (53 : Int), (54 : Int), (55 : Int), (56 : Int), (57 : Int), (65 : Int), (66 : Int), (67 : Int), (68 : Int), (69 : Int), (70 : Int)] : List Int).drop (bits .and .u8 x (15 : Int)).toNat).take (u4.toNat - (bits .and .u8 x (15 : Int)).toNat))
  (if (([(37 : Int)] : List Int) ++ u3).length + u5.length ≤ 140737488355328 then
  (let u6 : List Int := ((([(37 : Int)] : List Int) ++ u3) ++ u5)
  some u6)
  else none))
  else none))
  else none))
  else none))
def sp_coded (n : Nat) : Spec := ⟨pre_coded, post_coded, coded n⟩
def env_coded (n : Nat) : List (FuncId × Spec) := []
theorem run_coded (n : Nat) (x : pre_coded.T) : fnRun Tryz.prog 51 (envG (env_coded n) [] (fun _ => none)) n Tryz.f37 ann_coded pre_coded post_coded x = coded n x := by kernel_rfl
theorem ok_coded (n : Nat) : FnOK Tryz.prog 51 LS 37 (sp_coded n) :=
  fn_run mixed Tryz.func37 (sp_coded n) n ann_coded (env_coded n) envOf_nil [] (fun _ => none) gl_none (run_coded n) (by kernel_rfl)
def pre_join : Shape := ⟨[.c (.dat (.list .str)), .c (.dat .str)], []⟩
def post_join : List Shape := [⟨[.c (.dat .str)], []⟩]
def ann_join : Ann := (.two .no (.two .no (.two .no (.two (.join ⟨[0, 1, 5], ⟨[.c (.dat (.list .str)), .c (.dat .str), .c (.dat (.int .i64))], []⟩⟩ .no) (.two (.two .no (.one (.loop ⟨[0, 1, 5, 39, 40, 41], ⟨[.c (.dat (.list .str)), .c (.dat .str), .c (.dat (.int .i64)), .c (.dat (.list .str)), .c (.dat (.int .i64)), .c (.dat (.int .i64))], []⟩⟩ .no))) (.two .no (.two .no (.two .no (.two (.two .no (.one (.loop ⟨[1, 8, 63, 64, 65], ⟨[.c (.dat .str), .c (.ptr 500 0), .c (.dat (.list .str)), .c (.dat (.int .i64)), .c (.dat (.int .i64))], [(500, .cells 64 [.slf 500, .own 501]), (501, .row 5 (.int .u8))]⟩⟩ .no))) .no)))))))))
/-- what strings.Join comes to. -/
def join (n : Nat) (x : (List (List Int)) × List Int) : Option (List Int) :=
  match x with
  | (x1, x2) =>
  (if ((x1.length : Int) == (0 : Int)) = true then
  some ([] : List Int)
  else
  (if ((x1.length : Int) == (1 : Int)) = true then
  (Option.bind (idx x1 (0 : Int)) fun v3 =>
  some v3)
  else
  (Option.bind (α := Out ((List (List Int)) × (List Int) × Int) (List Int)) ((if (decide ((x2.length : Int) > (0 : Int))) = true then
  (let u4 : Int := (IntKind.wrap .i64 ((x1.length : Int) - (1 : Int)))
  (if u4 = 0 then none else
  (let u5 : Int := (IntKind.wrap .i64 (Int.tdiv (9223372036854775807 : Int) u4))
  (if (decide ((x2.length : Int) ≥ u5)) = true then
  none
  else
  (let u6 : Int := (IntKind.wrap .i64 ((x1.length : Int) - (1 : Int)))
  (let u7 : Int := (IntKind.wrap .i64 ((x2.length : Int) * u6))
  (some (Out.go (x1, (x2, (IntKind.wrap .i64 ((0 : Int) + u7))))))))))))
  else
  (some (Out.go (x1, (x2, (0 : Int))))))) fun o => match o with
  | .go (z9, (z10, z11)) =>
  (loopF (X := (List (List Int)) × (List Int) × Int × (List (List Int)) × Int × Int) (A := List Int) (fun rec12 y13 => match y13 with
  | (a14, (a15, (a16, (a17, (a18, a19))))) =>
  (if (decide (a19 < a18)) = true then
  (Option.bind (idx a17 a19) fun v20 =>
  (let u21 : Int := (IntKind.wrap .i64 ((9223372036854775807 : Int) - a16))
  (if (decide ((v20.length : Int) > u21)) = true then
  none
  else
  (let u22 : Int := (IntKind.wrap .i64 (a16 + (v20.length : Int)))
  (let u23 : Int := (IntKind.wrap .i64 (a19 + (1 : Int)))
  rec12 (a14, (a15, (u22, (a17, (a18, u23))))))))))
  else
  (Option.bind (bldGrow n a16) fun r24 =>
  (Option.bind (idx a14 (0 : Int)) fun v25 =>
  (Option.bind (bldStr n (v25, r24)) fun r26 =>
  (if 0 ≤ (1 : Int) ∧ (1 : Int) ≤ (a14.length : Int) ∧ (a14.length : Int) ≤ (a14.length : Int) then
  (let u27 : List (List Int) := ((a14.drop 1).take (((a14.length : Int)).toNat - 1))
  (loopF (X := (List Int) × (List (List Int)) × Int × Int × List Int) (A := List Int) (fun rec28 y29 => match y29 with
  | (a30, (a31, (a32, (a33, a34)))) =>
  (if (decide (a33 < a32)) = true then
  (Option.bind (idx a31 a33) fun v35 =>
  (Option.bind (bldStr n (a30, a34)) fun r36 =>
  (Option.bind (bldStr n (v35, r36.2)) fun r37 =>
  (let u38 : Int := (IntKind.wrap .i64 (a33 + (1 : Int)))
  rec28 (a30, (a31, (a32, (u38, r37.2))))))))
  else
  (Option.bind (bldString n a34) fun r39 =>
  some r39))) n (a15, (u27, ((u27.length : Int), ((0 : Int), r26.2))))))
  else none)))))) n (z9, (z10, (z11, (z9, ((z9.length : Int), (0 : Int)))))))
  | .ret r40 => some r40)))
def sp_join (n : Nat) : Spec := ⟨pre_join, post_join, join n⟩
def env_join (n : Nat) : List (FuncId × Spec) := [(53, sp_bldGrow n), (36, sp_bldStr n), (39, sp_bldString n)]
theorem run_join (n : Nat) (x : pre_join.T) : fnRun Tryz.prog 51 (envG (env_join n) [] (fun _ => none)) n Tryz.f40 ann_join pre_join post_join x = join n x := by kernel_rfl
theorem ok_join (n : Nat) : FnOK Tryz.prog 51 LS 40 (sp_join n) :=
  fn_run mixed Tryz.func40 (sp_join n) n ann_join (env_join n) (envOf_cons (ok_bldGrow n) (envOf_cons (ok_bldStr n) (envOf_cons (ok_bldString n) envOf_nil))) [] (fun _ => none) gl_none (run_join n) (by kernel_rfl)
def pre_rTold : Shape := ⟨[.c (.dat (.int .u64)), .c (.dat (.int .u64))], []⟩
def post_rTold : List Shape := [⟨[.c (.dat .str)], []⟩]
def ann_rTold : Ann := (.two .no (.two .no (.one (.loop ⟨[0, 1, 5], ⟨[.c (.dat (.int .u64)), .c (.dat (.int .u64)), .c (.dat .str)], []⟩⟩ .no))))
/-- what turnstile/turnstileref01.told comes to. -/
def rTold (n : Nat) (x : Int × Int) : Option (List Int) :=
  match x with
  | (x1, x2) =>
  (loopF (X := Int × Int × List Int) (A := List Int) (fun rec3 y4 => match y4 with
  | (a5, (a6, a7)) =>
  (if a6 = 0 then none else
  (if a6 = 0 then none else
  (let u8 : Int := (IntKind.wrap .u64 ((Int.tmod a5 a6) + (1 : Int)))
  (if 0 ≤ (Int.tmod a5 a6) ∧ (Int.tmod a5 a6) ≤ u8 ∧ u8 ≤ (16 : Int) then
  (let u9 : List Int := ((([(48 : Int), (49 : Int), (50 : Int), (51 : Int), (52 : Int), (53 : Int), (54 : Int), (55 : Int), (56 : Int), (57 : Int), (97 : Int), (98 : Int), (99 : Int), (100 : Int), (101 : Int), (102 : Int)] : List Int).drop (Int.tmod a5 a6).toNat).take (u8.toNat - (Int.tmod a5 a6).toNat))
  (if u9.length + a7.length ≤ 140737488355328 then
  (if a6 = 0 then none else
  (if ((IntKind.wrap .u64 (Int.tdiv a5 a6)) == (0 : Int)) = true then
  some (u9 ++ a7)
  else
  rec3 ((IntKind.wrap .u64 (Int.tdiv a5 a6)), (a6, (u9 ++ a7)))))
  else none))
  else none))))) n (x1, (x2, ([] : List Int))))
def sp_rTold (n : Nat) : Spec := ⟨pre_rTold, post_rTold, rTold n⟩
def env_rTold (n : Nat) : List (FuncId × Spec) := []
theorem run_rTold (n : Nat) (x : pre_rTold.T) : fnRun Tryz.prog 51 (envG (env_rTold n) [] (fun _ => none)) n Tryz.f44 ann_rTold pre_rTold post_rTold x = rTold n x := by kernel_rfl
theorem ok_rTold (n : Nat) : FnOK Tryz.prog 51 LS 44 (sp_rTold n) :=
  fn_run mixed Tryz.func44 (sp_rTold n) n ann_rTold (env_rTold n) envOf_nil [] (fun _ => none) gl_none (run_rTold n) (by kernel_rfl)
def pre_letter : Shape := ⟨[.c (.dat (.int .u8))], []⟩
def post_letter : List Shape := [⟨[.c (.dat .bool)], []⟩]
def ann_letter : Ann := .no
/-- what turnstile/target.letter comes to. -/
def letter (n : Nat) (x : Int) : Option (Bool) :=
  (if (decide ((bits .or .u8 x (32 : Int)) ≥ (97 : Int))) = true then
  some (decide ((bits .or .u8 x (32 : Int)) ≤ (122 : Int)))
  else
  some false)
def sp_letter (n : Nat) : Spec := ⟨pre_letter, post_letter, letter n⟩
def env_letter (n : Nat) : List (FuncId × Spec) := []
theorem run_letter (n : Nat) (x : pre_letter.T) : fnRun Tryz.prog 51 (envG (env_letter n) [] (fun _ => none)) n Tryz.f49 ann_letter pre_letter post_letter x = letter n x := by kernel_rfl
theorem ok_letter (n : Nat) : FnOK Tryz.prog 51 LS 49 (sp_letter n) :=
  fn_run mixed Tryz.func49 (sp_letter n) n ann_letter (env_letter n) envOf_nil [] (fun _ => none) gl_none (run_letter n) (by kernel_rfl)
def pre_digit : Shape := ⟨[.c (.dat (.int .u8))], []⟩
def post_digit : List Shape := [⟨[.c (.dat .bool)], []⟩]
def ann_digit : Ann := .no
/-- what turnstile/target.digit comes to. -/
def digit (n : Nat) (x : Int) : Option (Bool) :=
  (if (decide (x ≥ (48 : Int))) = true then
  some (decide (x ≤ (57 : Int)))
  else
  some false)
def sp_digit (n : Nat) : Spec := ⟨pre_digit, post_digit, digit n⟩
def env_digit (n : Nat) : List (FuncId × Spec) := []
theorem run_digit (n : Nat) (x : pre_digit.T) : fnRun Tryz.prog 51 (envG (env_digit n) [] (fun _ => none)) n Tryz.f50 ann_digit pre_digit post_digit x = digit n x := by kernel_rfl
theorem ok_digit (n : Nat) : FnOK Tryz.prog 51 LS 50 (sp_digit n) :=
  fn_run mixed Tryz.func50 (sp_digit n) n ann_digit (env_digit n) envOf_nil [] (fun _ => none) gl_none (run_digit n) (by kernel_rfl)
def pre_isHost : Shape := ⟨[.c (.dat .str)], []⟩
def post_isHost : List Shape := [⟨[.c (.dat .bool)], []⟩]
def ann_isHost : Ann := (.two .no (.two (.two .no (.one (.loop ⟨[0, 5, 6], ⟨[.c (.dat .str), .c (.dat (.int .i64)), .c (.dat (.int .i64))], []⟩⟩ .no))) .no))
/-- what turnstile/target.isHost comes to. -/
def isHost (n : Nat) (x : List Int) : Option (Bool) :=
  (loopF (X := (List Int) × Int × Int) (A := Bool) (fun rec2 y3 => match y3 with
  | (a4, (a5, a6)) =>
  (if (decide (a6 < a5)) = true then
  (Option.bind (idx a4 a6) fun v7 =>
  (Option.bind (letter n v7) fun r8 =>
  (if (!r8) = true then
  (Option.bind (idx a4 a6) fun v9 =>
  (Option.bind (digit n v9) fun r10 =>
  (if (!r10) = true then
  (Option.bind (idx a4 a6) fun v11 =>
  (Option.bind (stringsIndexByte n (([(45 : Int), (46 : Int), (95 : Int), (58 : Int)] : List Int), v11)) fun r12 =>
  (if (decide (r12 < (0 : Int))) = true then
  some false
  else
  rec2 (a4, (a5, (IntKind.wrap .i64 (a6 + (1 : Int))))))))
  else
  rec2 (a4, (a5, (IntKind.wrap .i64 (a6 + (1 : Int))))))))
  else
  rec2 (a4, (a5, (IntKind.wrap .i64 (a6 + (1 : Int))))))))
  else
  (if (decide ((a4.length : Int) ≥ (1 : Int))) = true then
  some (decide ((a4.length : Int) ≤ (255 : Int)))
  else
  some false))) n (x, ((x.length : Int), (0 : Int))))
def sp_isHost (n : Nat) : Spec := ⟨pre_isHost, post_isHost, isHost n⟩
def env_isHost (n : Nat) : List (FuncId × Spec) := [(49, sp_letter n), (50, sp_digit n), (51, sp_stringsIndexByte n)]
theorem run_isHost (n : Nat) (x : pre_isHost.T) : fnRun Tryz.prog 51 (envG (env_isHost n) [] (fun _ => none)) n Tryz.f56 ann_isHost pre_isHost post_isHost x = isHost n x := by kernel_rfl
theorem ok_isHost (n : Nat) : FnOK Tryz.prog 51 LS 56 (sp_isHost n) :=
  fn_run mixed Tryz.func56 (sp_isHost n) n ann_isHost (env_isHost n) (envOf_cons (ok_letter n) (envOf_cons (ok_digit n) (envOf_cons (ok_stringsIndexByte n) envOf_nil))) [] (fun _ => none) gl_none (run_isHost n) (by kernel_rfl)
def pre_rAmong : Shape := ⟨[.c (.dat (.int .u8)), .c (.dat .str)], []⟩
def post_rAmong : List Shape := [⟨[.c (.dat .bool)], []⟩]
def ann_rAmong : Ann := (.two .no (.two (.two .no (.one (.loop ⟨[0, 1, 5], ⟨[.c (.dat (.int .u8)), .c (.dat .str), .c (.dat (.int .i64))], []⟩⟩ .no))) .no))
/-- what turnstile/turnstileref08.among comes to. -/
def rAmong (n : Nat) (x : Int × List Int) : Option (Bool) :=
  match x with
  | (x1, x2) =>
  (loopF (X := Int × (List Int) × Int) (A := Bool) (fun rec3 y4 => match y4 with
  | (a5, (a6, a7)) =>
  (if (decide (a7 < (a6.length : Int))) = true then
  (Option.bind (idx a6 a7) fun v8 =>
  (if (v8 == a5) = true then
  some true
  else
  rec3 (a5, (a6, (IntKind.wrap .i64 (a7 + (1 : Int)))))))
  else
  some false)) n (x1, (x2, (0 : Int))))
def sp_rAmong (n : Nat) : Spec := ⟨pre_rAmong, post_rAmong, rAmong n⟩
def env_rAmong (n : Nat) : List (FuncId × Spec) := []
theorem run_rAmong (n : Nat) (x : pre_rAmong.T) : fnRun Tryz.prog 51 (envG (env_rAmong n) [] (fun _ => none)) n Tryz.f60 ann_rAmong pre_rAmong post_rAmong x = rAmong n x := by kernel_rfl
theorem ok_rAmong (n : Nat) : FnOK Tryz.prog 51 LS 60 (sp_rAmong n) :=
  fn_run mixed Tryz.func60 (sp_rAmong n) n ann_rAmong (env_rAmong n) envOf_nil [] (fun _ => none) gl_none (run_rAmong n) (by kernel_rfl)
def pre_stringsliteHasPrefix : Shape := ⟨[.c (.dat .str), .c (.dat .str)], []⟩
def post_stringsliteHasPrefix : List Shape := [⟨[.c (.dat .bool)], []⟩]
def ann_stringsliteHasPrefix : Ann := .no
/-- what internal/stringslite.HasPrefix comes to. -/
def stringsliteHasPrefix (n : Nat) (x : (List Int) × List Int) : Option (Bool) :=
  match x with
  | (x1, x2) =>
  (if (decide ((x1.length : Int) ≥ (x2.length : Int))) = true then
  (if 0 ≤ (0 : Int) ∧ (0 : Int) ≤ (x2.length : Int) ∧ (x2.length : Int) ≤ (x1.length : Int) then
  (let u3 : List Int := ((x1.drop 0).take ((x2.length : Int).toNat - 0))
  some (u3 == x2))
  else none)
  else
  some false)
def sp_stringsliteHasPrefix (n : Nat) : Spec := ⟨pre_stringsliteHasPrefix, post_stringsliteHasPrefix, stringsliteHasPrefix n⟩
def env_stringsliteHasPrefix (n : Nat) : List (FuncId × Spec) := []
theorem run_stringsliteHasPrefix (n : Nat) (x : pre_stringsliteHasPrefix.T) : fnRun Tryz.prog 51 (envG (env_stringsliteHasPrefix n) [] (fun _ => none)) n Tryz.f63 ann_stringsliteHasPrefix pre_stringsliteHasPrefix post_stringsliteHasPrefix x = stringsliteHasPrefix n x := by kernel_rfl
theorem ok_stringsliteHasPrefix (n : Nat) : FnOK Tryz.prog 51 LS 63 (sp_stringsliteHasPrefix n) :=
  fn_run mixed Tryz.func63 (sp_stringsliteHasPrefix n) n ann_stringsliteHasPrefix (env_stringsliteHasPrefix n) envOf_nil [] (fun _ => none) gl_none (run_stringsliteHasPrefix n) (by kernel_rfl)
def pre_shouldUseASCIISet : Shape := ⟨[.c (.dat (.int .i64))], []⟩
def post_shouldUseASCIISet : List Shape := [⟨[.c (.dat .bool)], []⟩]
def ann_shouldUseASCIISet : Ann := .no
/-- what strings.shouldUseASCIISet comes to. -/
def shouldUseASCIISet (n : Nat) (x : Int) : Option (Bool) :=
  some (decide (x > (8 : Int)))
def sp_shouldUseASCIISet (n : Nat) : Spec := ⟨pre_shouldUseASCIISet, post_shouldUseASCIISet, shouldUseASCIISet n⟩
def env_shouldUseASCIISet (n : Nat) : List (FuncId × Spec) := []
theorem run_shouldUseASCIISet (n : Nat) (x : pre_shouldUseASCIISet.T) : fnRun Tryz.prog 51 (envG (env_shouldUseASCIISet n) [] (fun _ => none)) n Tryz.f74 ann_shouldUseASCIISet pre_shouldUseASCIISet post_shouldUseASCIISet x = shouldUseASCIISet n x := by kernel_rfl
theorem ok_shouldUseASCIISet (n : Nat) : FnOK Tryz.prog 51 LS 74 (sp_shouldUseASCIISet n) :=
  fn_run mixed Tryz.func74 (sp_shouldUseASCIISet n) n ann_shouldUseASCIISet (env_shouldUseASCIISet n) envOf_nil [] (fun _ => none) gl_none (run_shouldUseASCIISet n) (by kernel_rfl)
def pre_makeASCIISet : Shape := ⟨[.c (.dat .str)], []⟩
def post_makeASCIISet : List Shape := [⟨[.sg [.blk (.arr 256 .bool)], .c (.dat .bool)], []⟩]
def ann_makeASCIISet : Ann := (.two .no (.two (.two .no (.one (.loop ⟨[0, 2, 4], ⟨[.c (.dat .str), .c (.arr 500 1), .c (.dat (.int .i64))], [(500, .row 104 .bool)]⟩⟩ .no))) .no))
/-- what strings.makeASCIISet comes to. -/
def makeASCIISet (n : Nat) (x : List Int) : Option ((List Bool) × Bool) :=
  (loopF (X := (List Int) × Int × List Bool) (A := (List Bool) × Bool) (fun rec2 y3 => match y3 with
  | (a4, (a5, a6)) =>
  (if (decide (a5 < (a4.length : Int))) = true then
  (Option.bind (idx a4 a5) fun v7 =>
  (if (decide (v7 ≥ (128 : Int))) = true then
  (if 256 = a6.length then
  (if 256 = a6.length ∧ 256 = a6.length then
  (if 256 = a6.length then
  some (a6, false)
  else none)
  else none)
  else none)
  else
  (if 256 = a6.length then
  (if 0 ≤ v7 ∧ v7 < (a6.length : Int) then
  rec2 (a4, ((IntKind.wrap .i64 (a5 + (1 : Int))), (a6.set v7.toNat true)))
  else none)
  else none)))
  else
  (if 256 = a6.length then
  (if 256 = a6.length ∧ 256 = a6.length then
  (if 256 = a6.length then
  some (a6, true)
  else none)
  else none)
  else none))) n (x, ((0 : Int), ([false, false, false, false, false, false, false, false, false, false, false, false, false, false, false, false, false, false, false, false, false, false, false, false, false, false, false, false, false, false, false, false, false, false, false, false, false, false, false, false, false, false, false, false, false, false, false, false, false, false, false, false, false, false, false, false, false, false, false, false, false, false, false, false, false, false, false, false, false, false, false, false, false, false, false, false, false, false, false, false, false, false, false, false, false, false, false, false, false, false, false, false, false, false, false, false, false, false, false, false, false, false, false, false, false, false, false, false, false, false, false, false, false, false, false, false, false, false, false, false, false, false, false, false, false, false, false, false, false, false, false, false, false, false, false, false, false, false, false, false, false, false, false, false, false, false, false, false, false, false, false, false, false, false, false, false, false, false, false, false, false, false, false, false, false, false, false, false, false, false, false, false, false, false, false, false, false, false, false, false, false, false, false, false, false, false, false, false, false, false, false, false, false, false, false, false, false, false, false, false, false, false, false, false, false, false, false, false, false, false, false, false, false, false, false, false, false, false, false, false, false, false, false, false, false, false, false, false, false, false, false, false, false, false, false, false, false, false, false, false, false, false, false, false, false, false, false, false, false, false, false, false, false, false, false, false] : List Bool))))
def sp_makeASCIISet (n : Nat) : Spec := ⟨pre_makeASCIISet, post_makeASCIISet, makeASCIISet n⟩
def env_makeASCIISet (n : Nat) : List (FuncId × Spec) := []
theorem run_makeASCIISet (n : Nat) (x : pre_makeASCIISet.T) : fnRun Tryz.prog 51 (envG (env_makeASCIISet n) [] (fun _ => none)) n Tryz.f75 ann_makeASCIISet pre_makeASCIISet post_makeASCIISet x = makeASCIISet n x := by kernel_rfl
theorem ok_makeASCIISet (n : Nat) : FnOK Tryz.prog 51 LS 75 (sp_makeASCIISet n) :=
  fn_run mixed Tryz.func75 (sp_makeASCIISet n) n ann_makeASCIISet (env_makeASCIISet n) envOf_nil [] (fun _ => none) gl_none (run_makeASCIISet n) (by kernel_rfl)
def pre_setHas : Shape := ⟨[.c (.arr 250 1), .c (.dat (.int .u8))], [(250, .row 104 .bool)]⟩
def post_setHas : List Shape := [⟨[.c (.dat .bool)], [(250, .row 104 .bool)]⟩]
def ann_setHas : Ann := .no
/-- what (strings.asciiSet).contains comes to. -/
def setHas (n : Nat) (x : Int × List Bool) : Option (Bool × List Bool) :=
  match x with
  | (x1, x2) =>
  (if 256 = x2.length then
  (if 0 ≤ x1 ∧ x1 < (x2.length : Int) then
  some ((x2.getD x1.toNat false), x2)
  else none)
  else none)
def sp_setHas (n : Nat) : Spec := ⟨pre_setHas, post_setHas, setHas n⟩
def env_setHas (n : Nat) : List (FuncId × Spec) := []
theorem run_setHas (n : Nat) (x : pre_setHas.T) : fnRun Tryz.prog 51 (envG (env_setHas n) [] (fun _ => none)) n Tryz.f76 ann_setHas pre_setHas post_setHas x = setHas n x := by kernel_rfl
theorem ok_setHas (n : Nat) : FnOK Tryz.prog 51 LS 76 (sp_setHas n) :=
  fn_run mixed Tryz.func76 (sp_setHas n) n ann_setHas (env_setHas n) envOf_nil [] (fun _ => none) gl_none (run_setHas n) (by kernel_rfl)
def pre_rHex : Shape := ⟨[.c (.dat (.int .u8))], []⟩
def post_rHex : List Shape := [⟨[.c (.dat (.int .i64))], []⟩]
def ann_rHex : Ann := (.two .no (.two (.two .no (.one (.loop ⟨[0, 3], ⟨[.c (.dat (.int .u8)), .c (.dat (.int .i64))], []⟩⟩ .no))) .no))
/-- what turnstile/turnstileref08.hex comes to. -/
def rHex (n : Nat) (x : Int) : Option (Int) :=
  (loopF (X := Int × Int) (A := Int) (fun rec2 y3 => match y3 with
  | (a4, a5) =>
  (if (decide (a5 < (16 : Int))) = true then
  (Option.bind (idx ([(48 : Int), (49 : Int), (50 : Int), (51 : Int), (52 : Int), (53 : Int), (54 : Int), (55 : Int), (56 : Int), (57 : Int), (97 : Int), (98 : Int), (99 : Int), (100 : Int), (101 : Int), (102 : Int)] : List Int) a5) fun v6 =>
  (if (v6 == a4) = true then
  some a5
  else
  (if (decide (a4 ≥ (65 : Int))) = true then
  (if (decide (a4 ≤ (70 : Int))) = true then
  (Option.bind (idx ([(48 : Int), (49 : Int), (50 : Int), (51 : Int), (52 : Int), (53 : Int), (54 : Int), (55 : Int), (56 : Int), (57 : Int), (97 : Int), (98 : Int), (99 : Int), (100 : Int), (101 : Int), (102 : Int)] : List Int) a5) fun v7 =>
  (if (v7 == (IntKind.wrap .u8 (a4 + (32 : Int)))) = true then
  some a5
  else
  rec2 (a4, (IntKind.wrap .i64 (a5 + (1 : Int))))))
  else
  rec2 (a4, (IntKind.wrap .i64 (a5 + (1 : Int)))))
  else
  rec2 (a4, (IntKind.wrap .i64 (a5 + (1 : Int)))))))
  else
  some (-1 : Int))) n (x, (0 : Int)))
def sp_rHex (n : Nat) : Spec := ⟨pre_rHex, post_rHex, rHex n⟩
def env_rHex (n : Nat) : List (FuncId × Spec) := []
theorem run_rHex (n : Nat) (x : pre_rHex.T) : fnRun Tryz.prog 51 (envG (env_rHex n) [] (fun _ => none)) n Tryz.f79 ann_rHex pre_rHex post_rHex x = rHex n x := by kernel_rfl
theorem ok_rHex (n : Nat) : FnOK Tryz.prog 51 LS 79 (sp_rHex n) :=
  fn_run mixed Tryz.func79 (sp_rHex n) n ann_rHex (env_rHex n) envOf_nil [] (fun _ => none) gl_none (run_rHex n) (by kernel_rfl)
def pre_stringsliteIndex : Shape := ⟨[.c (.dat .str), .c (.dat .str)], []⟩
def post_stringsliteIndex : List Shape := [⟨[.c (.dat (.int .i64))], []⟩]
def ann_stringsliteIndex : Ann := .no
/-- what internal/stringslite.Index comes to. -/
def stringsliteIndex (n : Nat) (x : (List Int) × List Int) : Option (Int) :=
  match x with
  | (x1, x2) =>
  (if ((x2.length : Int) == (0 : Int)) = true then
  some (0 : Int)
  else
  (if (x2 == x1) = true then
  some (0 : Int)
  else
  (if ((x2.length : Int) == (1 : Int)) = true then
  (Option.bind (idx x2 (0 : Int)) fun v3 =>
  (Option.bind (liteIndexByte n (x1, v3)) fun r4 =>
  some r4))
  else
  (if (decide ((x2.length : Int) ≥ (x1.length : Int))) = true then
  some (-1 : Int)
  else
  none))))
def sp_stringsliteIndex (n : Nat) : Spec := ⟨pre_stringsliteIndex, post_stringsliteIndex, stringsliteIndex n⟩
def env_stringsliteIndex (n : Nat) : List (FuncId × Spec) := [(66, sp_liteIndexByte n)]
theorem run_stringsliteIndex (n : Nat) (x : pre_stringsliteIndex.T) : fnRun Tryz.prog 51 (envG (env_stringsliteIndex n) [] (fun _ => none)) n Tryz.f88 ann_stringsliteIndex pre_stringsliteIndex post_stringsliteIndex x = stringsliteIndex n x := by kernel_rfl
theorem ok_stringsliteIndex (n : Nat) : FnOK Tryz.prog 51 LS 88 (sp_stringsliteIndex n) :=
  fn_run mixed Tryz.func88 (sp_stringsliteIndex n) n ann_stringsliteIndex (env_stringsliteIndex n) (envOf_cons (ok_liteIndexByte n) envOf_nil) [] (fun _ => none) gl_none (run_stringsliteIndex n) (by kernel_rfl)
def pre_validRune : Shape := ⟨[.c (.dat (.int .i32))], []⟩
def post_validRune : List Shape := [⟨[.c (.dat .bool)], []⟩]
def ann_validRune : Ann := .no
/-- what unicode/utf8.ValidRune comes to. -/
def validRune (n : Nat) (x : Int) : Option (Bool) :=
  (if (decide ((0 : Int) ≤ x)) = true then
  (if (decide (x < (55296 : Int))) = true then
  some true
  else
  (if (decide ((57343 : Int) < x)) = true then
  (if (decide (x ≤ (1114111 : Int))) = true then
  some true
  else
  some false)
  else
  some false))
  else
  (if (decide ((57343 : Int) < x)) = true then
  (if (decide (x ≤ (1114111 : Int))) = true then
  some true
  else
  some false)
  else
  some false))
def sp_validRune (n : Nat) : Spec := ⟨pre_validRune, post_validRune, validRune n⟩
def env_validRune (n : Nat) : List (FuncId × Spec) := []
theorem run_validRune (n : Nat) (x : pre_validRune.T) : fnRun Tryz.prog 51 (envG (env_validRune n) [] (fun _ => none)) n Tryz.f94 ann_validRune pre_validRune post_validRune x = validRune n x := by kernel_rfl
theorem ok_validRune (n : Nat) : FnOK Tryz.prog 51 LS 94 (sp_validRune n) :=
  fn_run mixed Tryz.func94 (sp_validRune n) n ann_validRune (env_validRune n) envOf_nil [] (fun _ => none) gl_none (run_validRune n) (by kernel_rfl)
def pre_cutover : Shape := ⟨[.c (.dat (.int .i64))], []⟩
def post_cutover : List Shape := [⟨[.c (.dat (.int .i64))], []⟩]
def ann_cutover : Ann := .no
/-- what internal/bytealg.Cutover comes to. -/
def cutover (n : Nat) (x : Int) : Option (Int) :=
  (let u2 : Int := (IntKind.wrap .i64 (Int.tdiv (IntKind.wrap .i64 (x + (16 : Int))) (8 : Int)))
  some u2)
def sp_cutover (n : Nat) : Spec := ⟨pre_cutover, post_cutover, cutover n⟩
def env_cutover (n : Nat) : List (FuncId × Spec) := []
theorem run_cutover (n : Nat) (x : pre_cutover.T) : fnRun Tryz.prog 51 (envG (env_cutover n) [] (fun _ => none)) n Tryz.f95 ann_cutover pre_cutover post_cutover x = cutover n x := by kernel_rfl
theorem ok_cutover (n : Nat) : FnOK Tryz.prog 51 LS 95 (sp_cutover n) :=
  fn_run mixed Tryz.func95 (sp_cutover n) n ann_cutover (env_cutover n) envOf_nil [] (fun _ => none) gl_none (run_cutover n) (by kernel_rfl)
def pre_rLetter : Shape := ⟨[.c (.dat (.int .u8))], []⟩
def post_rLetter : List Shape := [⟨[.c (.dat .bool)], []⟩]
def ann_rLetter : Ann := .no
/-- what turnstile/turnstileref08.letter comes to. -/
def rLetter (n : Nat) (x : Int) : Option (Bool) :=
  (if (decide (x ≥ (97 : Int))) = true then
  (if (decide (x ≤ (122 : Int))) = true then
  some true
  else
  (if (decide (x ≥ (65 : Int))) = true then
  (if (decide (x ≤ (90 : Int))) = true then
  some true
  else
  (if (decide (x ≥ (48 : Int))) = true then
  some (decide (x ≤ (57 : Int)))
  else
  some false))
  else
  (if (decide (x ≥ (48 : Int))) = true then
  some (decide (x ≤ (57 : Int)))
  else
  some false)))
  else
  (if (decide (x ≥ (65 : Int))) = true then
  (if (decide (x ≤ (90 : Int))) = true then
  some true
  else
  (if (decide (x ≥ (48 : Int))) = true then
  some (decide (x ≤ (57 : Int)))
  else
  some false))
  else
  (if (decide (x ≥ (48 : Int))) = true then
  some (decide (x ≤ (57 : Int)))
  else
  some false)))
def sp_rLetter (n : Nat) : Spec := ⟨pre_rLetter, post_rLetter, rLetter n⟩
def env_rLetter (n : Nat) : List (FuncId × Spec) := []
theorem run_rLetter (n : Nat) (x : pre_rLetter.T) : fnRun Tryz.prog 51 (envG (env_rLetter n) [] (fun _ => none)) n Tryz.f97 ann_rLetter pre_rLetter post_rLetter x = rLetter n x := by kernel_rfl
theorem ok_rLetter (n : Nat) : FnOK Tryz.prog 51 LS 97 (sp_rLetter n) :=
  fn_run mixed Tryz.func97 (sp_rLetter n) n ann_rLetter (env_rLetter n) envOf_nil [] (fun _ => none) gl_none (run_rLetter n) (by kernel_rfl)
def pre_hashStrstring : Shape := ⟨[.c (.dat .str)], []⟩
def post_hashStrstring : List Shape := [⟨[.c (.dat (.int .u32)), .c (.dat (.int .u32))], []⟩]
def ann_hashStrstring : Ann := (.two .no (.two .no (.two (.two .no (.one (.loop ⟨[0, 4, 5], ⟨[.c (.dat .str), .c (.dat (.int .u32)), .c (.dat (.int .i64))], []⟩⟩ .no))) (.two .no (.two (.two .no (.one (.loop ⟨[4, 6, 7, 8], ⟨[.c (.dat (.int .u32)), .c (.dat (.int .u32)), .c (.dat (.int .u32)), .c (.dat (.int .i64))], []⟩⟩ .no))) .no)))))
/-- what internal/bytealg.hashStr[string] comes to. -/
def hashStrstring (n : Nat) (x : List Int) : Option (Int × Int) :=
  (loopF (X := (List Int) × Int × Int) (A := Int × Int) (fun rec2 y3 => match y3 with
  | (a4, (a5, a6)) =>
  (if (decide (a6 < (a4.length : Int))) = true then
  (let u7 : Int := (IntKind.wrap .u32 (a5 * (16777619 : Int)))
  (Option.bind (idx a4 a6) fun v8 =>
  (let u9 : Int := (IntKind.wrap .u32 (u7 + (IntKind.wrap .u32 v8)))
  rec2 (a4, (u9, (IntKind.wrap .i64 (a6 + (1 : Int))))))))
  else
  (loopF (X := Int × Int × Int × Int) (A := Int × Int) (fun rec10 y11 => match y11 with
  | (a12, (a13, (a14, a15))) =>
  (if (decide (a15 > (0 : Int))) = true then
  (if ((bits .and .i64 a15 (1 : Int)) != (0 : Int)) = true then
  rec10 (a12, ((IntKind.wrap .u32 (a13 * a14)), ((IntKind.wrap .u32 (a14 * a14)), (Int.fdiv a15 2))))
  else
  rec10 (a12, (a13, ((IntKind.wrap .u32 (a14 * a14)), (Int.fdiv a15 2)))))
  else
  some (a12, a13))) n (a5, ((1 : Int), ((16777619 : Int), (a4.length : Int))))))) n (x, ((0 : Int), (0 : Int))))
def sp_hashStrstring (n : Nat) : Spec := ⟨pre_hashStrstring, post_hashStrstring, hashStrstring n⟩
def env_hashStrstring (n : Nat) : List (FuncId × Spec) := []
theorem run_hashStrstring (n : Nat) (x : pre_hashStrstring.T) : fnRun Tryz.prog 51 (envG (env_hashStrstring n) [] (fun _ => none)) n Tryz.f109 ann_hashStrstring pre_hashStrstring post_hashStrstring x = hashStrstring n x := by kernel_rfl
theorem ok_hashStrstring (n : Nat) : FnOK Tryz.prog 51 LS 109 (sp_hashStrstring n) :=
  fn_run mixed Tryz.func109 (sp_hashStrstring n) n ann_hashStrstring (env_hashStrstring n) envOf_nil [] (fun _ => none) gl_none (run_hashStrstring n) (by kernel_rfl)
def pre_good : Shape := ⟨[.c (.dat (.int .i64))], []⟩
def post_good : List Shape := [⟨[.c (.dat .bool)], []⟩]
def ann_good : Ann := .no
/-- what turnstile/health.Good comes to. -/
def good (n : Nat) (x : Int) : Option (Bool) :=
  (Option.bind (healthIn n (x, ((200 : Int), (299 : Int)))) fun r2 =>
  some r2)
def sp_good (n : Nat) : Spec := ⟨pre_good, post_good, good n⟩
def env_good (n : Nat) : List (FuncId × Spec) := [(24, sp_healthIn n)]
theorem run_good (n : Nat) (x : pre_good.T) : fnRun Tryz.prog 51 (envG (env_good n) [] (fun _ => none)) n Tryz.f17 ann_good pre_good post_good x = good n x := by kernel_rfl
theorem ok_good (n : Nat) : FnOK Tryz.prog 51 LS 17 (sp_good n) :=
  fn_run mixed Tryz.func17 (sp_good n) n ann_good (env_good n) (envOf_cons (ok_healthIn n) envOf_nil) [] (fun _ => none) gl_none (run_good n) (by kernel_rfl)
def pre_turnstileref01RText : Shape := ⟨[.c (.dat (.int .i64))], []⟩
def post_turnstileref01RText : List Shape := [⟨[.c (.dat .str)], []⟩]
def ann_turnstileref01RText : Ann := .no
/-- what turnstile/turnstileref01.Text comes to. -/
def turnstileref01RText (n : Nat) (x : Int) : Option (List Int) :=
  (if (decide (x < (0 : Int))) = true then
  (let u2 : Int := (IntKind.wrap .u64 (0 - (IntKind.wrap .u64 x)))
  (Option.bind (rTold n (u2, (10 : Int))) fun r3 =>
  (if 1 + r3.length ≤ 140737488355328 then
  some (([(45 : Int)] : List Int) ++ r3)
  else none)))
  else
  (Option.bind (rTold n ((IntKind.wrap .u64 x), (10 : Int))) fun r4 =>
  some r4))
def sp_turnstileref01RText (n : Nat) : Spec := ⟨pre_turnstileref01RText, post_turnstileref01RText, turnstileref01RText n⟩
def env_turnstileref01RText (n : Nat) : List (FuncId × Spec) := [(44, sp_rTold n)]
theorem run_turnstileref01RText (n : Nat) (x : pre_turnstileref01RText.T) : fnRun Tryz.prog 51 (envG (env_turnstileref01RText n) [] (fun _ => none)) n Tryz.f29 ann_turnstileref01RText pre_turnstileref01RText post_turnstileref01RText x = turnstileref01RText n x := by kernel_rfl
theorem ok_turnstileref01RText (n : Nat) : FnOK Tryz.prog 51 LS 29 (sp_turnstileref01RText n) :=
  fn_run mixed Tryz.func29 (sp_turnstileref01RText n) n ann_turnstileref01RText (env_turnstileref01RText n) (envOf_cons (ok_rTold n) envOf_nil) [] (fun _ => none) gl_none (run_turnstileref01RText n) (by kernel_rfl)
def pre_unreserved : Shape := ⟨[.c (.dat (.int .u8))], []⟩
def post_unreserved : List Shape := [⟨[.c (.dat .bool)], []⟩]
def ann_unreserved : Ann := .no
/-- what turnstile/target.unreserved comes to. -/
def unreserved (n : Nat) (x : Int) : Option (Bool) :=
  (Option.bind (letter n x) fun r2 =>
  (if r2 = true then
  some true
  else
  (Option.bind (digit n x) fun r3 =>
  (if r3 = true then
  some true
  else
  (Option.bind (stringsIndexByte n (([(45 : Int), (46 : Int), (95 : Int), (126 : Int)] : List Int), x)) fun r4 =>
  some (decide (r4 ≥ (0 : Int))))))))
def sp_unreserved (n : Nat) : Spec := ⟨pre_unreserved, post_unreserved, unreserved n⟩
def env_unreserved (n : Nat) : List (FuncId × Spec) := [(49, sp_letter n), (50, sp_digit n), (51, sp_stringsIndexByte n)]
theorem run_unreserved (n : Nat) (x : pre_unreserved.T) : fnRun Tryz.prog 51 (envG (env_unreserved n) [] (fun _ => none)) n Tryz.f35 ann_unreserved pre_unreserved post_unreserved x = unreserved n x := by kernel_rfl
theorem ok_unreserved (n : Nat) : FnOK Tryz.prog 51 LS 35 (sp_unreserved n) :=
  fn_run mixed Tryz.func35 (sp_unreserved n) n ann_unreserved (env_unreserved n) (envOf_cons (ok_letter n) (envOf_cons (ok_digit n) (envOf_cons (ok_stringsIndexByte n) envOf_nil))) [] (fun _ => none) gl_none (run_unreserved n) (by kernel_rfl)
def pre_hasPrefix : Shape := ⟨[.c (.dat .str), .c (.dat .str)], []⟩
def post_hasPrefix : List Shape := [⟨[.c (.dat .bool)], []⟩]
def ann_hasPrefix : Ann := .no
/-- what strings.HasPrefix comes to. -/
def hasPrefix (n : Nat) (x : (List Int) × List Int) : Option (Bool) :=
  match x with
  | (x1, x2) =>
  (Option.bind (stringsliteHasPrefix n (x1, x2)) fun r3 =>
  some r3)
def sp_hasPrefix (n : Nat) : Spec := ⟨pre_hasPrefix, post_hasPrefix, hasPrefix n⟩
def env_hasPrefix (n : Nat) : List (FuncId × Spec) := [(63, sp_stringsliteHasPrefix n)]
theorem run_hasPrefix (n : Nat) (x : pre_hasPrefix.T) : fnRun Tryz.prog 51 (envG (env_hasPrefix n) [] (fun _ => none)) n Tryz.f45 ann_hasPrefix pre_hasPrefix post_hasPrefix x = hasPrefix n x := by kernel_rfl
theorem ok_hasPrefix (n : Nat) : FnOK Tryz.prog 51 LS 45 (sp_hasPrefix n) :=
  fn_run mixed Tryz.func45 (sp_hasPrefix n) n ann_hasPrefix (env_hasPrefix n) (envOf_cons (ok_stringsliteHasPrefix n) envOf_nil) [] (fun _ => none) gl_none (run_hasPrefix n) (by kernel_rfl)
def pre_hex : Shape := ⟨[.c (.dat (.int .u8))], []⟩
def post_hex : List Shape := [⟨[.c (.dat (.int .u8)), .c (.dat .bool)], []⟩]
def ann_hex : Ann := .no
/-- what turnstile/target.hex comes to. -/
def hex (n : Nat) (x : Int) : Option (Int × Bool) :=
  (if (decide (x ≥ (65 : Int))) = true then
  (if (decide (x ≤ (70 : Int))) = true then
  (let u2 : Int := (IntKind.wrap .u8 ((IntKind.wrap .u8 (x + (32 : Int))) - (97 : Int)))
  some ((IntKind.wrap .u8 (u2 + (10 : Int))), true))
  else
  (if (decide (x ≥ (97 : Int))) = true then
  (if (decide (x ≤ (102 : Int))) = true then
  (let u3 : Int := (IntKind.wrap .u8 ((IntKind.wrap .u8 (x - (97 : Int))) + (10 : Int)))
  some (u3, true))
  else
  (Option.bind (digit n x) fun r4 =>
  (if r4 = true then
  some ((IntKind.wrap .u8 (x - (48 : Int))), true)
  else
  some ((0 : Int), false))))
  else
  (Option.bind (digit n x) fun r5 =>
  (if r5 = true then
  some ((IntKind.wrap .u8 (x - (48 : Int))), true)
  else
  some ((0 : Int), false)))))
  else
  (if (decide (x ≥ (97 : Int))) = true then
  (if (decide (x ≤ (102 : Int))) = true then
  (let u6 : Int := (IntKind.wrap .u8 ((IntKind.wrap .u8 (x - (97 : Int))) + (10 : Int)))
  some (u6, true))
  else
  (Option.bind (digit n x) fun r7 =>
  (if r7 = true then
  some ((IntKind.wrap .u8 (x - (48 : Int))), true)
  else
  some ((0 : Int), false))))
  else
  (Option.bind (digit n x) fun r8 =>
  (if r8 = true then
  some ((IntKind.wrap .u8 (x - (48 : Int))), true)
  else
  some ((0 : Int), false)))))
def sp_hex (n : Nat) : Spec := ⟨pre_hex, post_hex, hex n⟩
def env_hex (n : Nat) : List (FuncId × Spec) := [(50, sp_digit n)]
theorem run_hex (n : Nat) (x : pre_hex.T) : fnRun Tryz.prog 51 (envG (env_hex n) [] (fun _ => none)) n Tryz.f47 ann_hex pre_hex post_hex x = hex n x := by kernel_rfl
theorem ok_hex (n : Nat) : FnOK Tryz.prog 51 LS 47 (sp_hex n) :=
  fn_run mixed Tryz.func47 (sp_hex n) n ann_hex (env_hex n) (envOf_cons (ok_digit n) envOf_nil) [] (fun _ => none) gl_none (run_hex n) (by kernel_rfl)
def pre_rCode : Shape := ⟨[.c (.dat .str), .c (.dat (.int .i64))], []⟩
def post_rCode : List Shape := [⟨[.c (.dat (.int .i64))], []⟩]
def ann_rCode : Ann := .no
/-- what turnstile/turnstileref08.code comes to. -/
def rCode (n : Nat) (x : (List Int) × Int) : Option (Int) :=
  match x with
  | (x1, x2) =>
  (if (decide ((IntKind.wrap .i64 (x2 + (2 : Int))) ≥ (x1.length : Int))) = true then
  some (-1 : Int)
  else
  (Option.bind (idx x1 x2) fun v3 =>
  (if (v3 != (37 : Int)) = true then
  some (-1 : Int)
  else
  (Option.bind (idx x1 (IntKind.wrap .i64 (x2 + (1 : Int)))) fun v4 =>
  (Option.bind (rHex n v4) fun r5 =>
  (if (decide (r5 < (0 : Int))) = true then
  some (-1 : Int)
  else
  (Option.bind (idx x1 (IntKind.wrap .i64 (x2 + (2 : Int)))) fun v6 =>
  (Option.bind (rHex n v6) fun r7 =>
  (if (decide (r7 < (0 : Int))) = true then
  some (-1 : Int)
  else
  (Option.bind (idx x1 (IntKind.wrap .i64 (x2 + (1 : Int)))) fun v8 =>
  (Option.bind (rHex n v8) fun r9 =>
  (let u10 : Int := (IntKind.wrap .i64 (r9 * (16 : Int)))
  (Option.bind (idx x1 (IntKind.wrap .i64 (x2 + (2 : Int)))) fun v11 =>
  (Option.bind (rHex n v11) fun r12 =>
  some (IntKind.wrap .i64 (u10 + r12))))))))))))))))
def sp_rCode (n : Nat) : Spec := ⟨pre_rCode, post_rCode, rCode n⟩
def env_rCode (n : Nat) : List (FuncId × Spec) := [(79, sp_rHex n)]
theorem run_rCode (n : Nat) (x : pre_rCode.T) : fnRun Tryz.prog 51 (envG (env_rCode n) [] (fun _ => none)) n Tryz.f61 ann_rCode pre_rCode post_rCode x = rCode n x := by kernel_rfl
theorem ok_rCode (n : Nat) : FnOK Tryz.prog 51 LS 61 (sp_rCode n) :=
  fn_run mixed Tryz.func61 (sp_rCode n) n ann_rCode (env_rCode n) (envOf_cons (ok_rHex n) envOf_nil) [] (fun _ => none) gl_none (run_rCode n) (by kernel_rfl)
def pre_pathByte : Shape := ⟨[.c (.dat (.int .u8))], []⟩
def post_pathByte : List Shape := [⟨[.c (.dat .bool)], []⟩]
def ann_pathByte : Ann := .no
/-- what turnstile/target.pathByte comes to. -/
def pathByte (n : Nat) (x : Int) : Option (Bool) :=
  (Option.bind (unreserved n x) fun r2 =>
  (if r2 = true then
  some true
  else
  (Option.bind (stringsIndexByte n (([(33 : Int), (36 : Int), (38 : Int), (39 : Int), (40 : Int), (41 : Int), (42 : Int), (43 : Int), (44 : Int), (59 : Int), (61 : Int), (58 : Int), (64 : Int)] : List Int), x)) fun r3 =>
  some (decide (r3 ≥ (0 : Int))))))
def sp_pathByte (n : Nat) : Spec := ⟨pre_pathByte, post_pathByte, pathByte n⟩
def env_pathByte (n : Nat) : List (FuncId × Spec) := [(35, sp_unreserved n), (51, sp_stringsIndexByte n)]
theorem run_pathByte (n : Nat) (x : pre_pathByte.T) : fnRun Tryz.prog 51 (envG (env_pathByte n) [] (fun _ => none)) n Tryz.f64 ann_pathByte pre_pathByte post_pathByte x = pathByte n x := by kernel_rfl
theorem ok_pathByte (n : Nat) : FnOK Tryz.prog 51 LS 64 (sp_pathByte n) :=
  fn_run mixed Tryz.func64 (sp_pathByte n) n ann_pathByte (env_pathByte n) (envOf_cons (ok_unreserved n) (envOf_cons (ok_stringsIndexByte n) envOf_nil)) [] (fun _ => none) gl_none (run_pathByte n) (by kernel_rfl)
def pre_index : Shape := ⟨[.c (.dat .str), .c (.dat .str)], []⟩
def post_index : List Shape := [⟨[.c (.dat (.int .i64))], []⟩]
def ann_index : Ann := .no
/-- what strings.Index comes to. -/
def index (n : Nat) (x : (List Int) × List Int) : Option (Int) :=
  match x with
  | (x1, x2) =>
  (Option.bind (stringsliteIndex n (x1, x2)) fun r3 =>
  some r3)
def sp_index (n : Nat) : Spec := ⟨pre_index, post_index, index n⟩
def env_index (n : Nat) : List (FuncId × Spec) := [(88, sp_stringsliteIndex n)]
theorem run_index (n : Nat) (x : pre_index.T) : fnRun Tryz.prog 51 (envG (env_index n) [] (fun _ => none)) n Tryz.f69 ann_index pre_index post_index x = index n x := by kernel_rfl
theorem ok_index (n : Nat) : FnOK Tryz.prog 51 LS 69 (sp_index n) :=
  fn_run mixed Tryz.func69 (sp_index n) n ann_index (env_index n) (envOf_cons (ok_stringsliteIndex n) envOf_nil) [] (fun _ => none) gl_none (run_index n) (by kernel_rfl)
def pre_indexRune : Shape := ⟨[.c (.dat .str), .c (.dat (.int .i32))], []⟩
def post_indexRune : List Shape := [⟨[.c (.dat (.int .i64))], []⟩]
def ann_indexRune : Ann := (.two .no (.one (.two (.join ⟨[0, 1, 160], ⟨[.c (.dat .str), .c (.dat (.int .i32)), .c (.dat .bool)], []⟩⟩ .no) (.two .no (.two .no (.two (.two (.two .no (.one (.loop ⟨[175], ⟨[.c (.ptr 500 0)], [(500, .it)]⟩⟩ .no))) .no) (.two .no (.two .no (.one (.two .no (.two .no (.two .no (.two .no (.two (.one (.loop ⟨[0, 7, 8, 9], ⟨[.c (.dat .str), .c (.dat .str), .c (.dat (.int .i64)), .c (.dat (.int .i64))], []⟩⟩ (.two .no (.one (.one (.two .no (.two (.two .no (.one (.loop ⟨[0, 7, 8, 9, 12], ⟨[.c (.dat .str), .c (.dat .str), .c (.dat (.int .i64)), .c (.dat (.int .i64)), .c (.dat (.int .i64))], []⟩⟩ .no))) .no))))))) .no))))))))))))))
/-- what strings.IndexRune comes to. -/
def indexRune (n : Nat) (x : (List Int) × Int) : Option (Int) :=
  match x with
  | (x1, x2) =>
  (Option.bind (α := Out ((List Int) × Int × Bool) (Int)) ((if (decide ((0 : Int) ≤ x2)) = true then
  (some (Out.go (x1, (x2, (decide (x2 < (128 : Int)))))))
  else
  (some (Out.go (x1, (x2, false)))))) fun o => match o with
  | .go (z4, (z5, z6)) =>
  (if z6 = true then
  (Option.bind (stringsIndexByte n (z4, (IntKind.wrap .u8 z5))) fun r7 =>
  some r7)
  else
  (if (z5 == (65533 : Int)) = true then
  (loopF (X := (List Int) × Int) (A := Int) (fun rec8 y9 => match y9 with
  | (a10, a11) =>
  (if a11.toNat < List.length a10 then
  (let u12 : Int := (((u8d a10 a11.toNat).1 : Nat) : Int)
  (if (u12 == (65533 : Int)) = true then
  some ((a11.toNat : Nat) : Int)
  else
  rec8 (a10, (((a11.toNat + (u8d a10 a11.toNat).2) : Nat) : Int))))
  else
  some (-1 : Int))) n (z4, (0 : Int)))
  else
  (Option.bind (validRune n z5) fun r13 =>
  (if (!r13) = true then
  some (-1 : Int)
  else
  (let u14 : Int := ((bytesL (Utf8.encode z5)).length : Int)
  (let u15 : Int := (IntKind.wrap .i64 (u14 - (1 : Int)))
  (loopF (X := (List Int) × (List Int) × Int × Int) (A := Int) (fun rec16 y17 => match y17 with
  | (a18, (a19, (a20, a21))) =>
  (if (decide (a21 < (a18.length : Int))) = true then
  (Option.bind (idx a18 a21) fun v22 =>
  (Option.bind (idx a19 a20) fun v23 =>
  (if (v22 != v23) = true then
  (let u24 : Int := (IntKind.wrap .i64 (a21 + (1 : Int)))
  (if 0 ≤ u24 ∧ u24 ≤ (a18.length : Int) ∧ (a18.length : Int) ≤ (a18.length : Int) then
  (let u25 : List Int := ((a18.drop u24.toNat).take (((a18.length : Int)).toNat - u24.toNat))
  (Option.bind (idx a19 a20) fun v26 =>
  (Option.bind (stringsIndexByte n (u25, v26)) fun r27 =>
  (if (decide (r27 < (0 : Int))) = true then
  some (-1 : Int)
  else
  (let u28 : Int := (IntKind.wrap .i64 (r27 + (1 : Int)))
  (loopF (X := (List Int) × (List Int) × Int × Int × Int) (A := Int) (fun rec29 y30 => match y30 with
  | (a31, (a32, (a33, (a34, a35)))) =>
  (if (decide (a35 < (a32.length : Int))) = true then
  (Option.bind (idx a31 (IntKind.wrap .i64 (a34 - a35))) fun v36 =>
  (Option.bind (idx a32 (IntKind.wrap .i64 (a33 - a35))) fun v37 =>
  (if (v36 != v37) = true then
  none
  else
  (let u38 : Int := (IntKind.wrap .i64 (a35 + (1 : Int)))
  rec29 (a31, (a32, (a33, (a34, u38))))))))
  else
  some (IntKind.wrap .i64 (a34 - a33)))) n (a18, (a19, (a20, ((IntKind.wrap .i64 (a21 + u28)), (1 : Int)))))))))))
  else none))
  else
  (loopF (X := (List Int) × (List Int) × Int × Int × Int) (A := Int) (fun rec39 y40 => match y40 with
  | (a41, (a42, (a43, (a44, a45)))) =>
  (if (decide (a45 < (a42.length : Int))) = true then
  (Option.bind (idx a41 (IntKind.wrap .i64 (a44 - a45))) fun v46 =>
  (Option.bind (idx a42 (IntKind.wrap .i64 (a43 - a45))) fun v47 =>
  (if (v46 != v47) = true then
  none
  else
  (let u48 : Int := (IntKind.wrap .i64 (a45 + (1 : Int)))
  rec39 (a41, (a42, (a43, (a44, u48))))))))
  else
  some (IntKind.wrap .i64 (a44 - a43)))) n (a18, (a19, (a20, (a21, (1 : Int)))))))))
  else
  some (-1 : Int))) n (z4, ((bytesL (Utf8.encode z5)), (u15, u15))))))))))
  | .ret r49 => some r49)
def sp_indexRune (n : Nat) : Spec := ⟨pre_indexRune, post_indexRune, indexRune n⟩
def env_indexRune (n : Nat) : List (FuncId × Spec) := [(51, sp_stringsIndexByte n), (94, sp_validRune n), (95, sp_cutover n)]
theorem run_indexRune (n : Nat) (x : pre_indexRune.T) : fnRun Tryz.prog 51 (envG (env_indexRune n) [] (fun _ => none)) n Tryz.f73 ann_indexRune pre_indexRune post_indexRune x = indexRune n x := by kernel_rfl
theorem ok_indexRune (n : Nat) : FnOK Tryz.prog 51 LS 73 (sp_indexRune n) :=
  fn_run mixed Tryz.func73 (sp_indexRune n) n ann_indexRune (env_indexRune n) (envOf_cons (ok_stringsIndexByte n) (envOf_cons (ok_validRune n) (envOf_cons (ok_cutover n) envOf_nil))) [] (fun _ => none) gl_none (run_indexRune n) (by kernel_rfl)
def pre_stringsliteCut : Shape := ⟨[.c (.dat .str), .c (.dat .str)], []⟩
def post_stringsliteCut : List Shape := [⟨[.c (.dat .str), .c (.dat .str), .c (.dat .bool)], []⟩]
def ann_stringsliteCut : Ann := .no
/-- what internal/stringslite.Cut comes to. -/
def stringsliteCut (n : Nat) (x : (List Int) × List Int) : Option ((List Int) × (List Int) × Bool) :=
  match x with
  | (x1, x2) =>
  (Option.bind (stringsliteIndex n (x1, x2)) fun r3 =>
  (if (decide (r3 ≥ (0 : Int))) = true then
  (if 0 ≤ (0 : Int) ∧ (0 : Int) ≤ r3 ∧ r3 ≤ (x1.length : Int) then
  (let u4 : Int := (IntKind.wrap .i64 (r3 + (x2.length : Int)))
  (if 0 ≤ u4 ∧ u4 ≤ (x1.length : Int) ∧ (x1.length : Int) ≤ (x1.length : Int) then
  (let u5 : List Int := ((x1.drop u4.toNat).take (((x1.length : Int)).toNat - u4.toNat))
  some (((x1.drop 0).take (r3.toNat - 0)), (u5, true)))
  else none))
  else none)
  else
  some (x1, (([] : List Int), false))))
def sp_stringsliteCut (n : Nat) : Spec := ⟨pre_stringsliteCut, post_stringsliteCut, stringsliteCut n⟩
def env_stringsliteCut (n : Nat) : List (FuncId × Spec) := [(88, sp_stringsliteIndex n)]
theorem run_stringsliteCut (n : Nat) (x : pre_stringsliteCut.T) : fnRun Tryz.prog 51 (envG (env_stringsliteCut n) [] (fun _ => none)) n Tryz.f77 ann_stringsliteCut pre_stringsliteCut post_stringsliteCut x = stringsliteCut n x := by kernel_rfl
theorem ok_stringsliteCut (n : Nat) : FnOK Tryz.prog 51 LS 77 (sp_stringsliteCut n) :=
  fn_run mixed Tryz.func77 (sp_stringsliteCut n) n ann_stringsliteCut (env_stringsliteCut n) (envOf_cons (ok_stringsliteIndex n) envOf_nil) [] (fun _ => none) gl_none (run_stringsliteCut n) (by kernel_rfl)
def pre_rUnreserved : Shape := ⟨[.c (.dat (.int .u8))], []⟩
def post_rUnreserved : List Shape := [⟨[.c (.dat .bool)], []⟩]
def ann_rUnreserved : Ann := .no
/-- what turnstile/turnstileref08.Unreserved comes to. -/
def rUnreserved (n : Nat) (x : Int) : Option (Bool) :=
  (Option.bind (rLetter n x) fun r2 =>
  (if r2 = true then
  some true
  else
  (Option.bind (rAmong n (x, ([(45 : Int), (46 : Int), (95 : Int), (126 : Int)] : List Int))) fun r3 =>
  some r3)))
def sp_rUnreserved (n : Nat) : Spec := ⟨pre_rUnreserved, post_rUnreserved, rUnreserved n⟩
def env_rUnreserved (n : Nat) : List (FuncId × Spec) := [(97, sp_rLetter n), (60, sp_rAmong n)]
theorem run_rUnreserved (n : Nat) (x : pre_rUnreserved.T) : fnRun Tryz.prog 51 (envG (env_rUnreserved n) [] (fun _ => none)) n Tryz.f78 ann_rUnreserved pre_rUnreserved post_rUnreserved x = rUnreserved n x := by kernel_rfl
theorem ok_rUnreserved (n : Nat) : FnOK Tryz.prog 51 LS 78 (sp_rUnreserved n) :=
  fn_run mixed Tryz.func78 (sp_rUnreserved n) n ann_rUnreserved (env_rUnreserved n) (envOf_cons (ok_rLetter n) (envOf_cons (ok_rAmong n) envOf_nil)) [] (fun _ => none) gl_none (run_rUnreserved n) (by kernel_rfl)
def pre_indexRabinKarpstring : Shape := ⟨[.c (.dat .str), .c (.dat .str)], []⟩
def post_indexRabinKarpstring : List Shape := [⟨[.c (.dat (.int .i64))], []⟩]
def ann_indexRabinKarpstring : Ann := (.two .no (.two .no (.two .no (.two .no (.two (.two .no (.one (.loop ⟨[0, 1, 5, 6, 7, 8, 9], ⟨[.c (.dat .str), .c (.dat .str), .c (.dat (.int .u32)), .c (.dat (.int .u32)), .c (.dat (.int .i64)), .c (.dat (.int .u32)), .c (.dat (.int .i64))], []⟩⟩ .no))) (.two (.two (.join ⟨[0, 1, 5, 6, 7, 8, 39], ⟨[.c (.dat .str), .c (.dat .str), .c (.dat (.int .u32)), .c (.dat (.int .u32)), .c (.dat (.int .i64)), .c (.dat (.int .u32)), .c (.dat .bool)], []⟩⟩ .no) .no) (.two (.two .no (.one (.loop ⟨[0, 1, 5, 6, 7, 8, 10], ⟨[.c (.dat .str), .c (.dat .str), .c (.dat (.int .u32)), .c (.dat (.int .u32)), .c (.dat (.int .i64)), .c (.dat (.int .u32)), .c (.dat (.int .i64))], []⟩⟩ .no))) .no)))))))
/-- what internal/bytealg.IndexRabinKarp[string] comes to. -/
def indexRabinKarpstring (n : Nat) (x : (List Int) × List Int) : Option (Int) :=
  match x with
  | (x1, x2) =>
  (Option.bind (hashStrstring n x2) fun r3 =>
  (loopF (X := (List Int) × (List Int) × Int × Int × Int × Int × Int) (A := Int) (fun rec4 y5 => match y5 with
  | (a6, (a7, (a8, (a9, (a10, (a11, a12)))))) =>
  (if (decide (a12 < a10)) = true then
  (let u13 : Int := (IntKind.wrap .u32 (a11 * (16777619 : Int)))
  (Option.bind (idx a6 a12) fun v14 =>
  (let u15 : Int := (IntKind.wrap .u32 (u13 + (IntKind.wrap .u32 v14)))
  (let u16 : Int := (IntKind.wrap .i64 (a12 + (1 : Int)))
  rec4 (a6, (a7, (a8, (a9, (a10, (u15, u16))))))))))
  else
  (Option.bind (α := Out ((List Int) × (List Int) × Int × Int × Int × Int × Bool) (Int)) ((if (a11 == a8) = true then
  (if 0 ≤ (0 : Int) ∧ (0 : Int) ≤ a10 ∧ a10 ≤ (a6.length : Int) then
  (some (Out.go (a6, (a7, (a8, (a9, (a10, (a11, (((a6.drop 0).take (a10.toNat - 0)) == a7)))))))))
  else none)
  else
  (some (Out.go (a6, (a7, (a8, (a9, (a10, (a11, false)))))))))) fun o => match o with
  | .go (z18, (z19, (z20, (z21, (z22, (z23, z24)))))) =>
  (if z24 = true then
  some (0 : Int)
  else
  (loopF (X := (List Int) × (List Int) × Int × Int × Int × Int × Int) (A := Int) (fun rec25 y26 => match y26 with
  | (a27, (a28, (a29, (a30, (a31, (a32, a33)))))) =>
  (if (decide (a33 < (a27.length : Int))) = true then
  (let u34 : Int := (IntKind.wrap .u32 (a32 * (16777619 : Int)))
  (Option.bind (idx a27 a33) fun v35 =>
  (let u36 : Int := (IntKind.wrap .u32 (u34 + (IntKind.wrap .u32 v35)))
  (Option.bind (idx a27 (IntKind.wrap .i64 (a33 - a31))) fun v37 =>
  (let u38 : Int := (IntKind.wrap .u32 (a30 * (IntKind.wrap .u32 v37)))
  (let u39 : Int := (IntKind.wrap .i64 (a33 + (1 : Int)))
  (if ((IntKind.wrap .u32 (u36 - u38)) == a29) = true then
  (if 0 ≤ (IntKind.wrap .i64 (u39 - a31)) ∧ (IntKind.wrap .i64 (u39 - a31)) ≤ u39 ∧ u39 ≤ (a27.length : Int) then
  (let u40 : List Int := ((a27.drop (IntKind.wrap .i64 (u39 - a31)).toNat).take (u39.toNat - (IntKind.wrap .i64 (u39 - a31)).toNat))
  (if (u40 == a28) = true then
  some (IntKind.wrap .i64 (u39 - a31))
  else
  rec25 (a27, (a28, (a29, (a30, (a31, ((IntKind.wrap .u32 (u36 - u38)), u39))))))))
  else none)
  else
  rec25 (a27, (a28, (a29, (a30, (a31, ((IntKind.wrap .u32 (u36 - u38)), u39)))))))))))))
  else
  some (-1 : Int))) n (z18, (z19, (z20, (z21, (z22, (z23, z22))))))))
  | .ret r41 => some r41))) n (x1, (x2, (r3.1, (r3.2, ((x2.length : Int), ((0 : Int), (0 : Int)))))))))
def sp_indexRabinKarpstring (n : Nat) : Spec := ⟨pre_indexRabinKarpstring, post_indexRabinKarpstring, indexRabinKarpstring n⟩
def env_indexRabinKarpstring (n : Nat) : List (FuncId × Spec) := [(109, sp_hashStrstring n)]
theorem run_indexRabinKarpstring (n : Nat) (x : pre_indexRabinKarpstring.T) : fnRun Tryz.prog 51 (envG (env_indexRabinKarpstring n) [] (fun _ => none)) n Tryz.f104 ann_indexRabinKarpstring pre_indexRabinKarpstring post_indexRabinKarpstring x = indexRabinKarpstring n x := by kernel_rfl
theorem ok_indexRabinKarpstring (n : Nat) : FnOK Tryz.prog 51 LS 104 (sp_indexRabinKarpstring n) :=
  fn_run mixed Tryz.func104 (sp_indexRabinKarpstring n) n ann_indexRabinKarpstring (env_indexRabinKarpstring n) (envOf_cons (ok_hashStrstring n) envOf_nil) [] (fun _ => none) gl_none (run_indexRabinKarpstring n) (by kernel_rfl)
def pre_rText : Shape := ⟨[.a [.dat .bool, .dat (.int .i64), .dat (.int .i64), .dat (.int .i64)]], []⟩
def post_rText : List Shape := [⟨[.c (.dat .str)], []⟩]
def ann_rText : Ann := (.two .no (.two .no (.two (.join ⟨[1, 3], ⟨[.c (.ptr 500 0), .c (.dat .str)], [(500, .cells 23 [.dat .bool, .dat (.int .i64), .dat (.int .i64), .dat (.int .i64)])]⟩⟩ .no) .no)))
/-- what turnstile/turnstileref24.Text comes to. -/
def rText (n : Nat) (x : Bool × Int × Int × Int) : Option (List Int) :=
  match x with
  | (x1, (x2, (x3, x4))) =>
  (Option.bind (α := Out ((List Int) × Bool × Int × Int × Int) (List Int)) ((if x1 = true then
  (some (Out.go (([(117 : Int), (112 : Int), (32 : Int)] : List Int), (x1, (x2, (x3, x4))))))
  else
  (some (Out.go (([(100 : Int), (111 : Int), (119 : Int), (110 : Int), (32 : Int)] : List Int), (x1, (x2, (x3, x4)))))))) fun o => match o with
  | .go (z6, (z7, (z8, (z9, z10)))) =>
  (Option.bind (turnstileref01RText n z8) fun r11 =>
  (if z6.length + r11.length ≤ 140737488355328 then
  (if (z6 ++ r11).length + 1 ≤ 140737488355328 then
  (let u12 : List Int := ((z6 ++ r11) ++ ([(32 : Int)] : List Int))
  (Option.bind (turnstileref01RText n z9) fun r13 =>
  (if u12.length + r13.length ≤ 140737488355328 then
  (if (u12 ++ r13).length + 1 ≤ 140737488355328 then
  (let u14 : List Int := ((u12 ++ r13) ++ ([(32 : Int)] : List Int))
  (Option.bind (turnstileref01RText n z10) fun r15 =>
  (if u14.length + r15.length ≤ 140737488355328 then
  some (u14 ++ r15)
  else none)))
  else none)
  else none)))
  else none)
  else none))
  | .ret r16 => some r16)
def sp_rText (n : Nat) : Spec := ⟨pre_rText, post_rText, rText n⟩
def env_rText (n : Nat) : List (FuncId × Spec) := [(29, sp_turnstileref01RText n)]
theorem run_rText (n : Nat) (x : pre_rText.T) : fnRun Tryz.prog 51 (envG (env_rText n) [] (fun _ => none)) n Tryz.f20 ann_rText pre_rText post_rText x = rText n x := by kernel_rfl
theorem ok_rText (n : Nat) : FnOK Tryz.prog 51 LS 20 (sp_rText n) :=
  fn_run mixed Tryz.func20 (sp_rText n) n ann_rText (env_rText n) (envOf_cons (ok_turnstileref01RText n) envOf_nil) [] (fun _ => none) gl_none (run_rText n) (by kernel_rfl)
def pre_code : Shape := ⟨[.c (.dat .str), .c (.dat (.int .i64))], []⟩
def post_code : List Shape := [⟨[.c (.dat (.int .u8)), .c (.dat .bool)], []⟩]
def ann_code : Ann := .no
/-- what turnstile/target.code comes to. -/
def code (n : Nat) (x : (List Int) × Int) : Option (Int × Bool) :=
  match x with
  | (x1, x2) =>
  (if (decide ((IntKind.wrap .i64 (x2 + (2 : Int))) ≥ (x1.length : Int))) = true then
  some ((0 : Int), false)
  else
  (Option.bind (idx x1 x2) fun v3 =>
  (if (v3 != (37 : Int)) = true then
  some ((0 : Int), false)
  else
  (Option.bind (idx x1 (IntKind.wrap .i64 (x2 + (1 : Int)))) fun v4 =>
  (Option.bind (hex n v4) fun r5 =>
  (Option.bind (idx x1 (IntKind.wrap .i64 (x2 + (2 : Int)))) fun v6 =>
  (Option.bind (hex n v6) fun r7 =>
  (let u8 : Int := (bits .or .u8 (IntKind.wrap .u8 (r5.1 * 16)) r7.1)
  (if r5.2 = true then
  some (u8, r7.2)
  else
  some (u8, false))))))))))
def sp_code (n : Nat) : Spec := ⟨pre_code, post_code, code n⟩
def env_code (n : Nat) : List (FuncId × Spec) := [(47, sp_hex n)]
theorem run_code (n : Nat) (x : pre_code.T) : fnRun Tryz.prog 51 (envG (env_code n) [] (fun _ => none)) n Tryz.f33 ann_code pre_code post_code x = code n x := by kernel_rfl
theorem ok_code (n : Nat) : FnOK Tryz.prog 51 LS 33 (sp_code n) :=
  fn_run mixed Tryz.func33 (sp_code n) n ann_code (env_code n) (envOf_cons (ok_hex n) envOf_nil) [] (fun _ => none) gl_none (run_code n) (by kernel_rfl)
def pre_made : Shape := ⟨[.c (.dat .str), .c (.dat .str), .c (.dat .bool)], []⟩
def post_made : List Shape := [⟨[.c (.dat .bool)], []⟩]
def ann_made : Ann := (.two .no (.two (.two .no (.one (.loop ⟨[0, 1, 2, 7], ⟨[.c (.dat .str), .c (.dat .str), .c (.dat .bool), .c (.dat (.int .i64))], []⟩⟩ .no))) .no))
/-- what turnstile/target.made comes to. -/
def made (n : Nat) (x : (List Int) × (List Int) × Bool) : Option (Bool) :=
  match x with
  | (x1, (x2, x3)) =>
  (loopF (X := (List Int) × (List Int) × Bool × Int) (A := Bool) (fun rec4 y5 => match y5 with
  | (a6, (a7, (a8, a9))) =>
  (if (decide (a9 < (a6.length : Int))) = true then
  (Option.bind (idx a6 a9) fun v10 =>
  (if (v10 == (37 : Int)) = true then
  (Option.bind (code n (a6, a9)) fun r11 =>
  (if (!r11.2) = true then
  some false
  else
  (if a8 = true then
  (if (decide (r11.1 < (32 : Int))) = true then
  some false
  else
  (if (r11.1 == (127 : Int)) = true then
  some false
  else
  (let u12 : Int := (IntKind.wrap .i64 ((IntKind.wrap .i64 (a9 + (2 : Int))) + (1 : Int)))
  rec4 (a6, (a7, (a8, u12))))))
  else
  (let u13 : Int := (IntKind.wrap .i64 ((IntKind.wrap .i64 (a9 + (2 : Int))) + (1 : Int)))
  rec4 (a6, (a7, (a8, u13)))))))
  else
  (Option.bind (idx a6 a9) fun v14 =>
  (Option.bind (pathByte n v14) fun r15 =>
  (if (!r15) = true then
  (Option.bind (idx a6 a9) fun v16 =>
  (Option.bind (stringsIndexByte n (a7, v16)) fun r17 =>
  (if (decide (r17 < (0 : Int))) = true then
  some false
  else
  rec4 (a6, (a7, (a8, (IntKind.wrap .i64 (a9 + (1 : Int)))))))))
  else
  rec4 (a6, (a7, (a8, (IntKind.wrap .i64 (a9 + (1 : Int)))))))))))
  else
  some true)) n (x1, (x2, (x3, (0 : Int)))))
def sp_made (n : Nat) : Spec := ⟨pre_made, post_made, made n⟩
def env_made (n : Nat) : List (FuncId × Spec) := [(33, sp_code n), (64, sp_pathByte n), (51, sp_stringsIndexByte n)]
theorem run_made (n : Nat) (x : pre_made.T) : fnRun Tryz.prog 51 (envG (env_made n) [] (fun _ => none)) n Tryz.f46 ann_made pre_made post_made x = made n x := by kernel_rfl
theorem ok_made (n : Nat) : FnOK Tryz.prog 51 LS 46 (sp_made n) :=
  fn_run mixed Tryz.func46 (sp_made n) n ann_made (env_made n) (envOf_cons (ok_code n) (envOf_cons (ok_pathByte n) (envOf_cons (ok_stringsIndexByte n) envOf_nil))) [] (fun _ => none) gl_none (run_made n) (by kernel_rfl)
def pre_genSplit : Shape := ⟨[.c (.dat .str), .c (.dat .str), .c (.dat (.int .i64)), .c (.dat (.int .i64))], []⟩
def post_genSplit : List Shape := [⟨[.c (.dat (.list .str))], []⟩]
def ann_genSplit : Ann := (.two .no (.two .no (.two .no (.two (.join ⟨[0, 1, 2, 3], ⟨[.c (.dat .str), .c (.dat .str), .c (.dat (.int .i64)), .c (.dat (.int .i64))], []⟩⟩ .no) (.two .no (.two .no (.two .no (.two .no (.two (.one (.loop ⟨[0, 1, 2, 3, 9, 10], ⟨[.c (.dat .str), .c (.dat .str), .c (.dat (.int .i64)), .c (.dat (.int .i64)), .c (.own 500), .c (.dat (.int .i64))], [(500, .row 9 .str)]⟩⟩ .no)) .no)))))))))
/-- what strings.genSplit comes to. -/
def genSplit (n : Nat) (x : (List Int) × (List Int) × Int × Int) : Option (List (List Int)) :=
  match x with
  | (x1, (x2, (x3, x4))) =>
  (if (x4 == (0 : Int)) = true then
  some ([] : List (List Int))
  else
  (if (x2 == ([] : List Int)) = true then
  none
  else
  (Option.bind (α := Out ((List Int) × (List Int) × Int × Int) (List (List Int))) ((if (decide (x4 < (0 : Int))) = true then
  (Option.bind (stringsCount n (x1, x2)) fun r5 =>
  (some (Out.go (x1, (x2, (x3, (IntKind.wrap .i64 (r5 + (1 : Int)))))))))
  else
  (some (Out.go (x1, (x2, (x3, x4))))))) fun o => match o with
  | .go (z7, (z8, (z9, z10))) =>
  (let u11 : Int := (IntKind.wrap .i64 ((z7.length : Int) + (1 : Int)))
  (if 0 ≤ (if u11 < z10 then u11 else z10) ∧ (if u11 < z10 then u11 else z10) ≤ (if u11 < z10 then u11 else z10) ∧ (16 : Int) * (if u11 < z10 then u11 else z10) ≤ 140737488355328 then
  (let u12 : List (List Int) := (List.replicate (if u11 < z10 then u11 else z10).toNat ([] : List Int))
  (let u13 : Int := (IntKind.wrap .i64 ((if u11 < z10 then u11 else z10) - (1 : Int)))
  (loopF (X := (List Int) × (List Int) × Int × Int × Int × List (List Int)) (A := List (List Int)) (fun rec14 y15 => match y15 with
  | (a16, (a17, (a18, (a19, (a20, a21))))) =>
  (if (decide (a20 < a19)) = true then
  (Option.bind (index n (a16, a17)) fun r22 =>
  (if (decide (r22 < (0 : Int))) = true then
  (if 0 ≤ a20 ∧ a20 < (a21.length : Int) then
  (let u23 : Int := (IntKind.wrap .i64 (a20 + (1 : Int)))
  (if 0 ≤ (0 : Int) ∧ (0 : Int) ≤ u23 ∧ u23 ≤ ((a21.set a20.toNat a16).length : Int) then
  (let u24 : List (List Int) := ((a21.set a20.toNat a16).take u23.toNat)
  some u24)
  else none))
  else none)
  else
  (if 0 ≤ (0 : Int) ∧ (0 : Int) ≤ (IntKind.wrap .i64 (r22 + a18)) ∧ (IntKind.wrap .i64 (r22 + a18)) ≤ (a16.length : Int) then
  (let u25 : List Int := ((a16.drop 0).take ((IntKind.wrap .i64 (r22 + a18)).toNat - 0))
  (if 0 ≤ a20 ∧ a20 < (a21.length : Int) then
  (let u26 : Int := (IntKind.wrap .i64 (r22 + (a17.length : Int)))
  (if 0 ≤ u26 ∧ u26 ≤ (a16.length : Int) ∧ (a16.length : Int) ≤ (a16.length : Int) then
  (let u27 : List Int := ((a16.drop u26.toNat).take (((a16.length : Int)).toNat - u26.toNat))
  (let u28 : Int := (IntKind.wrap .i64 (a20 + (1 : Int)))
  rec14 (u27, (a17, (a18, (a19, (u28, (a21.set a20.toNat u25))))))))
  else none))
  else none))
  else none)))
  else
  (if 0 ≤ a20 ∧ a20 < (a21.length : Int) then
  (let u29 : Int := (IntKind.wrap .i64 (a20 + (1 : Int)))
  (if 0 ≤ (0 : Int) ∧ (0 : Int) ≤ u29 ∧ u29 ≤ ((a21.set a20.toNat a16).length : Int) then
  (let u30 : List (List Int) := ((a21.set a20.toNat a16).take u29.toNat)
  some u30)
  else none))
  else none))) n (z7, (z8, (z9, (u13, ((0 : Int), u12))))))))
  else none))
  | .ret r31 => some r31)))
def sp_genSplit (n : Nat) : Spec := ⟨pre_genSplit, post_genSplit, genSplit n⟩
def env_genSplit (n : Nat) : List (FuncId × Spec) := [(68, sp_stringsCount n), (69, sp_index n)]
theorem run_genSplit (n : Nat) (x : pre_genSplit.T) : fnRun Tryz.prog 51 (envG (env_genSplit n) [296104] (fun _ => none)) n Tryz.f52 ann_genSplit pre_genSplit post_genSplit x = genSplit n x := by kernel_rfl
theorem ok_genSplit (n : Nat) : FnOK Tryz.prog 51 LS 52 (sp_genSplit n) :=
  fn_run mixed Tryz.func52 (sp_genSplit n) n ann_genSplit (env_genSplit n) (envOf_cons (ok_stringsCount n) (envOf_cons (ok_index n) envOf_nil)) [296104] (fun _ => none) gl_none (run_genSplit n) (by kernel_rfl)
def pre_indexAny : Shape := ⟨[.c (.dat .str), .c (.dat .str)], []⟩
def post_indexAny : List Shape := [⟨[.c (.dat (.int .i64))], []⟩]
def ann_indexAny : Ann := (.two .no (.two .no (.two .no (.two (.two .no (.two (.two .no (.two .no (.two (.two (.two .no (.one (.loop ⟨[0, 6, 8], ⟨[.c (.dat .str), .c (.arr 500 1), .c (.dat (.int .i64))], [(500, .row 104 .bool)]⟩⟩ .no))) .no) .no))) .no)) (.two (.two .no (.one (.loop ⟨[1, 45], ⟨[.c (.dat .str), .c (.ptr 500 0)], [(500, .it)]⟩⟩ .no))) .no)))))
/-- what strings.IndexAny comes to. -/
def indexAny (n : Nat) (x : (List Int) × List Int) : Option (Int) :=
  match x with
  | (x1, x2) =>
  (if (x2 == ([] : List Int)) = true then
  some (-1 : Int)
  else
  (if ((x2.length : Int) == (1 : Int)) = true then
  (Option.bind (idx x2 (0 : Int)) fun v3 =>
  (if (decide ((IntKind.wrap .i32 v3) ≥ (128 : Int))) = true then
  (Option.bind (indexRune n (x1, (65533 : Int))) fun r4 =>
  some r4)
  else
  (Option.bind (indexRune n (x1, (IntKind.wrap .i32 v3))) fun r5 =>
  some r5)))
  else
  (Option.bind (shouldUseASCIISet n (x1.length : Int)) fun r6 =>
  (if r6 = true then
  (Option.bind (makeASCIISet n x2) fun r7 =>
  (if 256 = 256 ∧ 256 = r7.1.length then
  (if r7.2 = true then
  (loopF (X := (List Int) × Int × List Bool) (A := Int) (fun rec8 y9 => match y9 with
  | (a10, (a11, a12)) =>
  (if (decide (a11 < (a10.length : Int))) = true then
  (Option.bind (idx a10 a11) fun v13 =>
  (Option.bind (setHas n (v13, a12)) fun r14 =>
  (if r14.1 = true then
  some a11
  else
  (let u15 : Int := (IntKind.wrap .i64 (a11 + (1 : Int)))
  rec8 (a10, (u15, r14.2))))))
  else
  some (-1 : Int))) n (x1, ((0 : Int), r7.1)))
  else
  (loopF (X := (List Int) × (List Int) × Int) (A := Int) (fun rec16 y17 => match y17 with
  | (a18, (a19, a20)) =>
  (if a20.toNat < List.length a19 then
  (let u21 : Int := (((u8d a19 a20.toNat).1 : Nat) : Int)
  (Option.bind (indexRune n (a18, u21)) fun r22 =>
  (if (decide (r22 ≥ (0 : Int))) = true then
  some ((a20.toNat : Nat) : Int)
  else
  rec16 (a18, (a19, (((a20.toNat + (u8d a19 a20.toNat).2) : Nat) : Int))))))
  else
  some (-1 : Int))) n (x2, (x1, (0 : Int)))))
  else none))
  else
  (loopF (X := (List Int) × (List Int) × Int) (A := Int) (fun rec23 y24 => match y24 with
  | (a25, (a26, a27)) =>
  (if a27.toNat < List.length a26 then
  (let u28 : Int := (((u8d a26 a27.toNat).1 : Nat) : Int)
  (Option.bind (indexRune n (a25, u28)) fun r29 =>
  (if (decide (r29 ≥ (0 : Int))) = true then
  some ((a27.toNat : Nat) : Int)
  else
  rec23 (a25, (a26, (((a27.toNat + (u8d a26 a27.toNat).2) : Nat) : Int))))))
  else
  some (-1 : Int))) n (x2, (x1, (0 : Int))))))))
def sp_indexAny (n : Nat) : Spec := ⟨pre_indexAny, post_indexAny, indexAny n⟩
def env_indexAny (n : Nat) : List (FuncId × Spec) := [(73, sp_indexRune n), (74, sp_shouldUseASCIISet n), (75, sp_makeASCIISet n), (76, sp_setHas n)]
theorem run_indexAny (n : Nat) (x : pre_indexAny.T) : fnRun Tryz.prog 51 (envG (env_indexAny n) [] (fun _ => none)) n Tryz.f55 ann_indexAny pre_indexAny post_indexAny x = indexAny n x := by kernel_rfl
theorem ok_indexAny (n : Nat) : FnOK Tryz.prog 51 LS 55 (sp_indexAny n) :=
  fn_run mixed Tryz.func55 (sp_indexAny n) n ann_indexAny (env_indexAny n) (envOf_cons (ok_indexRune n) (envOf_cons (ok_shouldUseASCIISet n) (envOf_cons (ok_makeASCIISet n) (envOf_cons (ok_setHas n) envOf_nil)))) [] (fun _ => none) gl_none (run_indexAny n) (by kernel_rfl)
def pre_cut : Shape := ⟨[.c (.dat .str), .c (.dat .str)], []⟩
def post_cut : List Shape := [⟨[.c (.dat .str), .c (.dat .str), .c (.dat .bool)], []⟩]
def ann_cut : Ann := .no
/-- what strings.Cut comes to. -/
def cut (n : Nat) (x : (List Int) × List Int) : Option ((List Int) × (List Int) × Bool) :=
  match x with
  | (x1, x2) =>
  (Option.bind (stringsliteCut n (x1, x2)) fun r3 =>
  some (r3.1, (r3.2.1, r3.2.2)))
def sp_cut (n : Nat) : Spec := ⟨pre_cut, post_cut, cut n⟩
def env_cut (n : Nat) : List (FuncId × Spec) := [(77, sp_stringsliteCut n)]
theorem run_cut (n : Nat) (x : pre_cut.T) : fnRun Tryz.prog 51 (envG (env_cut n) [] (fun _ => none)) n Tryz.f57 ann_cut pre_cut post_cut x = cut n x := by kernel_rfl
theorem ok_cut (n : Nat) : FnOK Tryz.prog 51 LS 57 (sp_cut n) :=
  fn_run mixed Tryz.func57 (sp_cut n) n ann_cut (env_cut n) (envOf_cons (ok_stringsliteCut n) envOf_nil) [] (fun _ => none) gl_none (run_cut n) (by kernel_rfl)
def pre_isQuery : Shape := ⟨[.c (.dat .str)], []⟩
def post_isQuery : List Shape := [⟨[.c (.dat .bool)], []⟩]
def ann_isQuery : Ann := .no
/-- what turnstile/target.isQuery comes to. -/
def isQuery (n : Nat) (x : List Int) : Option (Bool) :=
  (Option.bind (made n (x, (([(47 : Int), (63 : Int)] : List Int), false))) fun r2 =>
  some r2)
def sp_isQuery (n : Nat) : Spec := ⟨pre_isQuery, post_isQuery, isQuery n⟩
def env_isQuery (n : Nat) : List (FuncId × Spec) := [(46, sp_made n)]
theorem run_isQuery (n : Nat) (x : pre_isQuery.T) : fnRun Tryz.prog 51 (envG (env_isQuery n) [] (fun _ => none)) n Tryz.f58 ann_isQuery pre_isQuery post_isQuery x = isQuery n x := by kernel_rfl
theorem ok_isQuery (n : Nat) : FnOK Tryz.prog 51 LS 58 (sp_isQuery n) :=
  fn_run mixed Tryz.func58 (sp_isQuery n) n ann_isQuery (env_isQuery n) (envOf_cons (ok_made n) envOf_nil) [] (fun _ => none) gl_none (run_isQuery n) (by kernel_rfl)
def pre_rPlain : Shape := ⟨[.c (.dat (.int .u8))], []⟩
def post_rPlain : List Shape := [⟨[.c (.dat .bool)], []⟩]
def ann_rPlain : Ann := .no
/-- what turnstile/turnstileref08.plain comes to. -/
def rPlain (n : Nat) (x : Int) : Option (Bool) :=
  (Option.bind (rUnreserved n x) fun r2 =>
  (if r2 = true then
  some true
  else
  (Option.bind (rAmong n (x, ([(33 : Int), (36 : Int), (38 : Int), (39 : Int), (40 : Int), (41 : Int), (42 : Int), (43 : Int), (44 : Int), (59 : Int), (61 : Int), (58 : Int), (64 : Int)] : List Int))) fun r3 =>
  some r3)))
def sp_rPlain (n : Nat) : Spec := ⟨pre_rPlain, post_rPlain, rPlain n⟩
def env_rPlain (n : Nat) : List (FuncId × Spec) := [(78, sp_rUnreserved n), (60, sp_rAmong n)]
theorem run_rPlain (n : Nat) (x : pre_rPlain.T) : fnRun Tryz.prog 51 (envG (env_rPlain n) [] (fun _ => none)) n Tryz.f59 ann_rPlain pre_rPlain post_rPlain x = rPlain n x := by kernel_rfl
theorem ok_rPlain (n : Nat) : FnOK Tryz.prog 51 LS 59 (sp_rPlain n) :=
  fn_run mixed Tryz.func59 (sp_rPlain n) n ann_rPlain (env_rPlain n) (envOf_cons (ok_rUnreserved n) (envOf_cons (ok_rAmong n) envOf_nil)) [] (fun _ => none) gl_none (run_rPlain n) (by kernel_rfl)
def pre_targetIsPath : Shape := ⟨[.c (.dat .str)], []⟩
def post_targetIsPath : List Shape := [⟨[.c (.dat .bool)], []⟩]
def ann_targetIsPath : Ann := .no
/-- what turnstile/target.isPath comes to. -/
def targetIsPath (n : Nat) (x : List Int) : Option (Bool) :=
  (Option.bind (hasPrefix n (x, ([(47 : Int)] : List Int))) fun r2 =>
  (if r2 = true then
  (Option.bind (made n (x, (([(47 : Int)] : List Int), true))) fun r3 =>
  some r3)
  else
  some false))
def sp_targetIsPath (n : Nat) : Spec := ⟨pre_targetIsPath, post_targetIsPath, targetIsPath n⟩
def env_targetIsPath (n : Nat) : List (FuncId × Spec) := [(45, sp_hasPrefix n), (46, sp_made n)]
theorem run_targetIsPath (n : Nat) (x : pre_targetIsPath.T) : fnRun Tryz.prog 51 (envG (env_targetIsPath n) [] (fun _ => none)) n Tryz.f32 ann_targetIsPath pre_targetIsPath post_targetIsPath x = targetIsPath n x := by kernel_rfl
theorem ok_targetIsPath (n : Nat) : FnOK Tryz.prog 51 LS 32 (sp_targetIsPath n) :=
  fn_run mixed Tryz.func32 (sp_targetIsPath n) n ann_targetIsPath (env_targetIsPath n) (envOf_cons (ok_hasPrefix n) (envOf_cons (ok_made n) envOf_nil)) [] (fun _ => none) gl_none (run_targetIsPath n) (by kernel_rfl)
def pre_split : Shape := ⟨[.c (.dat .str), .c (.dat .str)], []⟩
def post_split : List Shape := [⟨[.c (.dat (.list .str))], []⟩]
def ann_split : Ann := .no
/-- what strings.Split comes to. -/
def split (n : Nat) (x : (List Int) × List Int) : Option (List (List Int)) :=
  match x with
  | (x1, x2) =>
  (Option.bind (genSplit n (x1, (x2, ((0 : Int), (-1 : Int))))) fun r3 =>
  some r3)
def sp_split (n : Nat) : Spec := ⟨pre_split, post_split, split n⟩
def env_split (n : Nat) : List (FuncId × Spec) := [(52, sp_genSplit n)]
theorem run_split (n : Nat) (x : pre_split.T) : fnRun Tryz.prog 51 (envG (env_split n) [] (fun _ => none)) n Tryz.f38 ann_split pre_split post_split x = split n x := by kernel_rfl
theorem ok_split (n : Nat) : FnOK Tryz.prog 51 LS 38 (sp_split n) :=
  fn_run mixed Tryz.func38 (sp_split n) n ann_split (env_split n) (envOf_cons (ok_genSplit n) envOf_nil) [] (fun _ => none) gl_none (run_split n) (by kernel_rfl)
def pre_parse : Shape := ⟨[.c (.dat .str)], []⟩
def post_parse : List Shape := [⟨[.a [.dat (.int .i64), .dat .str, .dat .str, .dat .str, .dat .bool], .c (.dat .err)], []⟩]
def ann_parse : Ann := (.two .no (.two .no (.two .no (.two .no (.two (.join ⟨[2, 4, 5], ⟨[.c (.ptr 500 0), .c (.ptr 501 0), .c (.dat .str)], [(500, .cells 77 [.dat (.int .i64), .dat .str, .dat .str, .dat .str, .dat .bool]), (501, .cells 77 [.dat (.int .i64), .dat .str, .dat .str, .dat .str, .dat .bool])]⟩⟩ (.one (.two .no (.two .no (.two (.join ⟨[0, 2, 4, 5, 18], ⟨[.c (.dat .str), .c (.ptr 500 0), .c (.ptr 501 0), .c (.dat .str), .c (.dat .bool)], [(500, .cells 77 [.dat (.int .i64), .dat .str, .dat .str, .dat .str, .dat .bool]), (501, .cells 77 [.dat (.int .i64), .dat .str, .dat .str, .dat .str, .dat .bool])]⟩⟩ .no) (.two (.two .no (.two .no (.two .no (.two (.join ⟨[2, 4, 5, 6], ⟨[.c (.ptr 500 0), .c (.ptr 501 0), .c (.dat .str), .c (.dat (.int .i64))], [(500, .cells 77 [.dat (.int .i64), .dat .str, .dat .str, .dat .str, .dat .bool]), (501, .cells 77 [.dat (.int .i64), .dat .str, .dat .str, .dat .str, .dat .bool])]⟩⟩ .no) .no)))) .no)))))) (.two .no (.two (.join ⟨[2, 4], ⟨[.c (.ptr 500 0), .c (.ptr 501 0)], [(500, .cells 77 [.dat (.int .i64), .dat .str, .dat .str, .dat .str, .dat .bool]), (501, .cells 77 [.dat (.int .i64), .dat .str, .dat .str, .dat .str, .dat .bool])]⟩⟩ .no) .no)))))))
/-- what turnstile/target.Parse comes to. -/
def parse (n : Nat) (x : List Int) : Option (Int × (List Int) × (List Int) × (List Int) × Bool × Int) :=
  (if (decide ((x.length : Int) > (65536 : Int))) = true then
  some ((0 : Int), (([] : List Int), (([] : List Int), (([] : List Int), (false, (2 : Int))))))
  else
  (Option.bind (α := Out ((List Int) × Int × (List Int) × (List Int) × (List Int) × Bool × Int × (List Int) × (List Int) × (List Int) × Bool) (Int × (List Int) × (List Int) × (List Int) × Bool × Int)) ((if (x == ([(42 : Int)] : List Int)) = true then
  (Option.map Out.ret (some ((3 : Int), (([] : List Int), (([] : List Int), (([] : List Int), (false, (0 : Int))))))))
  else
  (Option.bind (α := Out ((List Int) × (List Int) × Bool × Int × (List Int) × (List Int) × (List Int) × Bool × Int × (List Int) × (List Int) × (List Int) × Bool) (Out ((List Int) × Int × (List Int) × (List Int) × (List Int) × Bool × Int × (List Int) × (List Int) × (List Int) × Bool) (Int × (List Int) × (List Int) × (List Int) × Bool × Int))) ((if (decide ((x.length : Int) ≥ (7 : Int))) = true then
  (if 0 ≤ (0 : Int) ∧ (0 : Int) ≤ (7 : Int) ∧ (7 : Int) ≤ (x.length : Int) then
  (Option.bind (strToLower n ((x.drop 0).take (7 - 0))) fun r2 =>
  (some (Out.go (x, (x, ((r2 == ([(104 : Int), (116 : Int), (116 : Int), (112 : Int), (58 : Int), (47 : Int), (47 : Int)] : List Int)), ((0 : Int), (([] : List Int), (([] : List Int), (([] : List Int), (false, ((1 : Int), (([] : List Int), (([] : List Int), (([] : List Int), false)))))))))))))))
  else none)
  else
  (some (Out.go (x, (x, (false, ((0 : Int), (([] : List Int), (([] : List Int), (([] : List Int), (false, ((1 : Int), (([] : List Int), (([] : List Int), (([] : List Int), false)))))))))))))))) fun o => match o with
  | .go (z4, (z5, (z6, (z7, (z8, (z9, (z10, (z11, (z12, (z13, (z14, (z15, z16)))))))))))) =>
  (if z6 = true then
  (if 0 ≤ (7 : Int) ∧ (7 : Int) ≤ (z4.length : Int) ∧ (z4.length : Int) ≤ (z4.length : Int) then
  (let u17 : List Int := ((z4.drop 7).take (((z4.length : Int)).toNat - 7))
  (Option.bind (indexAny n (u17, ([(47 : Int), (63 : Int)] : List Int))) fun r18 =>
  (Option.bind (α := Out ((List Int) × Int × Int × (List Int) × (List Int) × (List Int) × Bool × Int × (List Int) × (List Int) × (List Int) × Bool) (Out ((List Int) × Int × (List Int) × (List Int) × (List Int) × Bool × Int × (List Int) × (List Int) × (List Int) × Bool) (Int × (List Int) × (List Int) × (List Int) × Bool × Int))) ((if (decide (r18 < (0 : Int))) = true then
  (some (Out.go (u17, ((u17.length : Int), (z7, (z8, (z9, (z10, (z11, ((2 : Int), (z13, (z14, (z15, z16)))))))))))))
  else
  (some (Out.go (u17, (r18, (z7, (z8, (z9, (z10, (z11, ((2 : Int), (z13, (z14, (z15, z16))))))))))))))) fun o => match o with
  | .go (z20, (z21, (z22, (z23, (z24, (z25, (z26, (z27, (z28, (z29, (z30, z31))))))))))) =>
  (if 0 ≤ (0 : Int) ∧ (0 : Int) ≤ z21 ∧ z21 ≤ (z20.length : Int) then
  (if 0 ≤ z21 ∧ z21 ≤ (z20.length : Int) ∧ (z20.length : Int) ≤ (z20.length : Int) then
  (let u32 : List Int := ((z20.drop z21.toNat).take (((z20.length : Int)).toNat - z21.toNat))
  (Option.bind (isHost n ((z20.drop 0).take (z21.toNat - 0))) fun r33 =>
  (if (!r33) = true then
  (Option.map Out.ret (some ((0 : Int), (([] : List Int), (([] : List Int), (([] : List Int), (false, (23 : Int))))))))
  else
  (Option.bind (strToLower n ((z20.drop 0).take (z21.toNat - 0))) fun r34 =>
  (some (Out.go (u32, (z22, (z23, (z24, (z25, (z26, (z27, (r34, (z29, (z30, z31))))))))))))))))
  else none)
  else none)
  | .ret r35 => some r35)))
  else none)
  else
  (some (Out.go (z5, (z7, (z8, (z9, (z10, (z11, (z12, (z13, (z14, (z15, z16)))))))))))))
  | .ret r36 => some r36))) fun o => match o with
  | .go (z38, (z39, (z40, (z41, (z42, (z43, (z44, (z45, (z46, (z47, z48)))))))))) =>
  (Option.bind (cut n (z38, ([(63 : Int)] : List Int))) fun r49 =>
  (Option.bind (α := Out (Int × (List Int) × (List Int) × (List Int) × Bool × Int × (List Int) × (List Int) × (List Int) × Bool) (Int × (List Int) × (List Int) × (List Int) × Bool × Int)) ((if (r49.1 == ([] : List Int)) = true then
  (if (z44 == (2 : Int)) = true then
  (some (Out.go (z39, (z40, (z41, (z42, (z43, (z44, (z45, (([(47 : Int)] : List Int), (r49.2.1, r49.2.2)))))))))))
  else
  (some (Out.go (z39, (z40, (z41, (z42, (z43, (z44, (z45, (r49.1, (r49.2.1, r49.2.2))))))))))))
  else
  (some (Out.go (z39, (z40, (z41, (z42, (z43, (z44, (z45, (r49.1, (r49.2.1, r49.2.2))))))))))))) fun o => match o with
  | .go (z51, (z52, (z53, (z54, (z55, (z56, (z57, (z58, (z59, z60))))))))) =>
  (Option.bind (targetIsPath n z58) fun r61 =>
  (if (!r61) = true then
  some ((0 : Int), (([] : List Int), (([] : List Int), (([] : List Int), (false, (23 : Int))))))
  else
  (Option.bind (isQuery n z59) fun r62 =>
  (if (!r62) = true then
  some ((0 : Int), (([] : List Int), (([] : List Int), (([] : List Int), (false, (23 : Int))))))
  else
  some (z56, (z57, (z58, (z59, (z60, (0 : Int))))))))))
  | .ret r63 => some r63))
  | .ret r64 => some r64))
def sp_parse (n : Nat) : Spec := ⟨pre_parse, post_parse, parse n⟩
def env_parse (n : Nat) : List (FuncId × Spec) := [(54, sp_strToLower n), (55, sp_indexAny n), (56, sp_isHost n), (57, sp_cut n), (32, sp_targetIsPath n), (58, sp_isQuery n)]
theorem run_parse (n : Nat) (x : pre_parse.T) : fnRun Tryz.prog 51 (envG (env_parse n) [] (fun _ => none)) n Tryz.f41 ann_parse pre_parse post_parse x = parse n x := by kernel_rfl
theorem ok_parse (n : Nat) : FnOK Tryz.prog 51 LS 41 (sp_parse n) :=
  fn_run mixed Tryz.func41 (sp_parse n) n ann_parse (env_parse n) (envOf_cons (ok_strToLower n) (envOf_cons (ok_indexAny n) (envOf_cons (ok_isHost n) (envOf_cons (ok_cut n) (envOf_cons (ok_targetIsPath n) (envOf_cons (ok_isQuery n) envOf_nil)))))) [] (fun _ => none) gl_none (run_parse n) (by kernel_rfl)
def pre_rMade : Shape := ⟨[.c (.dat .str), .c (.dat .str), .c (.dat .bool)], []⟩
def post_rMade : List Shape := [⟨[.c (.dat .bool)], []⟩]
def ann_rMade : Ann := (.two .no (.two (.two .no (.one (.loop ⟨[0, 1, 2, 7], ⟨[.c (.dat .str), .c (.dat .str), .c (.dat .bool), .c (.dat (.int .i64))], []⟩⟩ .no))) .no))
/-- what turnstile/turnstileref08.made comes to. -/
def rMade (n : Nat) (x : (List Int) × (List Int) × Bool) : Option (Bool) :=
  match x with
  | (x1, (x2, x3)) =>
  (loopF (X := (List Int) × (List Int) × Bool × Int) (A := Bool) (fun rec4 y5 => match y5 with
  | (a6, (a7, (a8, a9))) =>
  (if (decide (a9 < (a6.length : Int))) = true then
  (Option.bind (idx a6 a9) fun v10 =>
  (Option.bind (rPlain n v10) fun r11 =>
  (if r11 = true then
  rec4 (a6, (a7, (a8, (IntKind.wrap .i64 (a9 + (1 : Int))))))
  else
  (Option.bind (idx a6 a9) fun v12 =>
  (Option.bind (rAmong n (v12, a7)) fun r13 =>
  (if r13 = true then
  rec4 (a6, (a7, (a8, (IntKind.wrap .i64 (a9 + (1 : Int))))))
  else
  (Option.bind (rCode n (a6, a9)) fun r14 =>
  (if (decide (r14 < (0 : Int))) = true then
  some false
  else
  (if a8 = true then
  (if (decide (r14 < (32 : Int))) = true then
  some false
  else
  (if (r14 == (127 : Int)) = true then
  some false
  else
  (let u15 : Int := (IntKind.wrap .i64 ((IntKind.wrap .i64 (a9 + (2 : Int))) + (1 : Int)))
  rec4 (a6, (a7, (a8, u15))))))
  else
  (let u16 : Int := (IntKind.wrap .i64 ((IntKind.wrap .i64 (a9 + (2 : Int))) + (1 : Int)))
  rec4 (a6, (a7, (a8, u16)))))))))))))
  else
  some true)) n (x1, (x2, (x3, (0 : Int)))))
def sp_rMade (n : Nat) : Spec := ⟨pre_rMade, post_rMade, rMade n⟩
def env_rMade (n : Nat) : List (FuncId × Spec) := [(59, sp_rPlain n), (60, sp_rAmong n), (61, sp_rCode n)]
theorem run_rMade (n : Nat) (x : pre_rMade.T) : fnRun Tryz.prog 51 (envG (env_rMade n) [] (fun _ => none)) n Tryz.f42 ann_rMade pre_rMade post_rMade x = rMade n x := by kernel_rfl
theorem ok_rMade (n : Nat) : FnOK Tryz.prog 51 LS 42 (sp_rMade n) :=
  fn_run mixed Tryz.func42 (sp_rMade n) n ann_rMade (env_rMade n) (envOf_cons (ok_rPlain n) (envOf_cons (ok_rAmong n) (envOf_cons (ok_rCode n) envOf_nil))) [] (fun _ => none) gl_none (run_rMade n) (by kernel_rfl)
def pre_normal : Shape := ⟨[.c (.dat .str)], []⟩
def post_normal : List Shape := [⟨[.c (.dat .str), .c (.dat .err)], []⟩]
def ann_normal : Ann := (.two .no (.two .no (.two .no (.two (.two .no (.one (.loop ⟨[0, 4, 5], ⟨[.c (.dat .str), .c (.ptr 500 0), .c (.dat (.int .i64))], [(500, .cells 64 [.slf 500, .own 501]), (501, .row 5 (.int .u8))]⟩⟩ .no))) (.two .no (.two .no (.two (.two .no (.one (.loop ⟨[8, 9, 49, 50, 51], ⟨[.c (.dat (.list .str)), .c (.own 500), .c (.dat (.list .str)), .c (.dat (.int .i64)), .c (.dat (.int .i64))], [(500, .row 9 .str)]⟩⟩ .no))) .no)))))))
/-- what turnstile/target.Normal comes to. -/
def normal (n : Nat) (x : List Int) : Option ((List Int) × Int) :=
  (Option.bind (targetIsPath n x) fun r2 =>
  (if (!r2) = true then
  some (([] : List Int), (23 : Int))
  else
  (loopF (X := (List Int) × Int × List Int) (A := (List Int) × Int) (fun rec3 y4 => match y4 with
  | (a5, (a6, a7)) =>
  (if (decide (a6 < (a5.length : Int))) = true then
  (Option.bind (code n (a5, a6)) fun r8 =>
  (if (!r8.2) = true then
  (Option.bind (idx a5 a6) fun v9 =>
  (Option.bind (bldByte n (v9, a7)) fun r10 =>
  rec3 (a5, ((IntKind.wrap .i64 (a6 + (1 : Int))), r10))))
  else
  (Option.bind (unreserved n r8.1) fun r11 =>
  (if r11 = true then
  (Option.bind (bldByte n (r8.1, a7)) fun r12 =>
  (let u13 : Int := (IntKind.wrap .i64 ((IntKind.wrap .i64 (a6 + (2 : Int))) + (1 : Int)))
  rec3 (a5, (u13, r12))))
  else
  (Option.bind (coded n r8.1) fun r14 =>
  (Option.bind (bldStr n (r14, a7)) fun r15 =>
  (let u16 : Int := (IntKind.wrap .i64 ((IntKind.wrap .i64 (a6 + (2 : Int))) + (1 : Int)))
  rec3 (a5, (u16, r15.2)))))))))
  else
  (Option.bind (bldString n a7) fun r17 =>
  (if 0 ≤ (1 : Int) ∧ (1 : Int) ≤ (r17.length : Int) ∧ (r17.length : Int) ≤ (r17.length : Int) then
  (let u18 : List Int := ((r17.drop 1).take (((r17.length : Int)).toNat - 1))
  (Option.bind (split n (u18, ([(47 : Int)] : List Int))) fun r19 =>
  (loopF (X := (List (List Int)) × (List (List Int)) × Int × Int × List (List Int)) (A := (List Int) × Int) (fun rec20 y21 => match y21 with
  | (a22, (a23, (a24, (a25, a26)))) =>
  (if (decide (a25 < a24)) = true then
  (Option.bind (idx a23 a25) fun v27 =>
  (let u28 : Int := (IntKind.wrap .i64 ((a22.length : Int) - (1 : Int)))
  (if (v27 == ([(46 : Int), (46 : Int)] : List Int)) = true then
  (if ((a26.length : Int) == (0 : Int)) = true then
  some (([] : List Int), (23 : Int))
  else
  (let u29 : Int := (IntKind.wrap .i64 ((a26.length : Int) - (1 : Int)))
  (if 0 ≤ (0 : Int) ∧ (0 : Int) ≤ u29 ∧ u29 ≤ (a26.length : Int) then
  (if (a25 == u28) = true then
  (if ((a26.take u29.toNat).length + 1) * 16 ≤ 140737488355328 then
  (let u30 : List (List Int) := ((a26.take u29.toNat) ++ ([([] : List Int)] : List (List Int)))
  (let u31 : Int := (IntKind.wrap .i64 (a25 + (1 : Int)))
  rec20 (a22, (a23, (a24, (u31, u30))))))
  else none)
  else
  (let u32 : Int := (IntKind.wrap .i64 (a25 + (1 : Int)))
  rec20 (a22, (a23, (a24, (u32, (a26.take u29.toNat)))))))
  else none)))
  else
  (if (v27 == ([(46 : Int)] : List Int)) = true then
  (if (a25 == u28) = true then
  (if (a26.length + 1) * 16 ≤ 140737488355328 then
  (let u33 : List (List Int) := (a26 ++ ([([] : List Int)] : List (List Int)))
  (let u34 : Int := (IntKind.wrap .i64 (a25 + (1 : Int)))
  rec20 (a22, (a23, (a24, (u34, u33))))))
  else none)
  else
  (let u35 : Int := (IntKind.wrap .i64 (a25 + (1 : Int)))
  rec20 (a22, (a23, (a24, (u35, a26))))))
  else
  (if (a26.length + 1) * 16 ≤ 140737488355328 then
  (let u36 : Int := (IntKind.wrap .i64 (a25 + (1 : Int)))
  rec20 (a22, (a23, (a24, (u36, (a26 ++ ([v27] : List (List Int))))))))
  else none)))))
  else
  (Option.bind (join n (a26, ([(47 : Int)] : List Int))) fun r37 =>
  (if 1 + r37.length ≤ 140737488355328 then
  some ((([(47 : Int)] : List Int) ++ r37), (0 : Int))
  else none)))) n (r19, (r19, ((r19.length : Int), ((0 : Int), ([] : List (List Int)))))))))
  else none)))) n (x, ((0 : Int), ([] : List Int))))))
def sp_normal (n : Nat) : Spec := ⟨pre_normal, post_normal, normal n⟩
def env_normal (n : Nat) : List (FuncId × Spec) := [(32, sp_targetIsPath n), (33, sp_code n), (34, sp_bldByte n), (35, sp_unreserved n), (37, sp_coded n), (36, sp_bldStr n), (39, sp_bldString n), (38, sp_split n), (40, sp_join n)]
theorem run_normal (n : Nat) (x : pre_normal.T) : fnRun Tryz.prog 51 (envG (env_normal n) [410856] (fun _ => none)) n Tryz.f25 ann_normal pre_normal post_normal x = normal n x := by kernel_rfl
theorem ok_normal (n : Nat) : FnOK Tryz.prog 51 LS 25 (sp_normal n) :=
  fn_run mixed Tryz.func25 (sp_normal n) n ann_normal (env_normal n) (envOf_cons (ok_targetIsPath n) (envOf_cons (ok_code n) (envOf_cons (ok_bldByte n) (envOf_cons (ok_unreserved n) (envOf_cons (ok_coded n) (envOf_cons (ok_bldStr n) (envOf_cons (ok_bldString n) (envOf_cons (ok_split n) (envOf_cons (ok_join n) envOf_nil))))))))) [410856] (fun _ => none) gl_none (run_normal n) (by kernel_rfl)
def pre_isPath : Shape := ⟨[.c (.dat .str), .c (.dat .err)], []⟩
def post_isPath : List Shape := [⟨[.c (.dat .bool)], []⟩]
def ann_isPath : Ann := .no
/-- what turnstile/health.isPath comes to. -/
def isPath (n : Nat) (x : (List Int) × Int) : Option (Bool) :=
  match x with
  | (x1, x2) =>
  (if (x2 == (0 : Int)) = true then
  some true
  else
  (Option.bind (parse n x1) fun r3 =>
  (if (r3.2.2.2.2.2 == (0 : Int)) = true then
  (if (r3.1 == (1 : Int)) = true then
  some (!r3.2.2.2.2.1)
  else
  some false)
  else
  some false)))
def sp_isPath (n : Nat) : Spec := ⟨pre_isPath, post_isPath, isPath n⟩
def env_isPath (n : Nat) : List (FuncId × Spec) := [(41, sp_parse n)]
theorem run_isPath (n : Nat) (x : pre_isPath.T) : fnRun Tryz.prog 51 (envG (env_isPath n) [] (fun _ => none)) n Tryz.f26 ann_isPath pre_isPath post_isPath x = isPath n x := by kernel_rfl
theorem ok_isPath (n : Nat) : FnOK Tryz.prog 51 LS 26 (sp_isPath n) :=
  fn_run mixed Tryz.func26 (sp_isPath n) n ann_isPath (env_isPath n) (envOf_cons (ok_parse n) envOf_nil) [] (fun _ => none) gl_none (run_isPath n) (by kernel_rfl)
def pre_rPath : Shape := ⟨[.c (.dat .str)], []⟩
def post_rPath : List Shape := [⟨[.c (.dat .bool)], []⟩]
def ann_rPath : Ann := .no
/-- what turnstile/turnstileref08.Path comes to. -/
def rPath (n : Nat) (x : List Int) : Option (Bool) :=
  (if (!(x == ([] : List Int))) = true then
  (Option.bind (idx x (0 : Int)) fun v2 =>
  (if (v2 == (47 : Int)) = true then
  (Option.bind (rMade n (x, (([(47 : Int)] : List Int), true))) fun r3 =>
  some r3)
  else
  some false))
  else
  some false)
def sp_rPath (n : Nat) : Spec := ⟨pre_rPath, post_rPath, rPath n⟩
def env_rPath (n : Nat) : List (FuncId × Spec) := [(42, sp_rMade n)]
theorem run_rPath (n : Nat) (x : pre_rPath.T) : fnRun Tryz.prog 51 (envG (env_rPath n) [] (fun _ => none)) n Tryz.f27 ann_rPath pre_rPath post_rPath x = rPath n x := by kernel_rfl
theorem ok_rPath (n : Nat) : FnOK Tryz.prog 51 LS 27 (sp_rPath n) :=
  fn_run mixed Tryz.func27 (sp_rPath n) n ann_rPath (env_rPath n) (envOf_cons (ok_rMade n) envOf_nil) [] (fun _ => none) gl_none (run_rPath n) (by kernel_rfl)
def pre_valid : Shape := ⟨[.a [.dat .str, .dat (.int .i64), .dat (.int .i64), .dat (.int .i64), .dat (.int .i64)]], []⟩
def post_valid : List Shape := [⟨[.c (.dat .err)], []⟩]
def ann_valid : Ann := .no
/-- what turnstile/health.Valid comes to. -/
def valid (n : Nat) (x : (List Int) × Int × Int × Int × Int) : Option (Int) :=
  match x with
  | (x1, (x2, (x3, (x4, x5)))) =>
  (if (x2 == (0 : Int)) = true then
  some (0 : Int)
  else
  (Option.bind (healthIn n (x2, ((1 : Int), (1099511627776 : Int)))) fun r6 =>
  (if r6 = true then
  (Option.bind (healthIn n (x3, ((1 : Int), x2))) fun r7 =>
  (if r7 = true then
  (Option.bind (healthIn n (x4, ((1 : Int), (1024 : Int)))) fun r8 =>
  (if r8 = true then
  (Option.bind (healthIn n (x5, ((1 : Int), (1024 : Int)))) fun r9 =>
  (if r9 = true then
  (Option.bind (normal n x1) fun r10 =>
  (if (!(decide ((x1.length : Int) ≤ (1024 : Int)))) = true then
  some (4 : Int)
  else
  (Option.bind (isPath n (x1, r10.2)) fun r11 =>
  (if (!r11) = true then
  some (4 : Int)
  else
  some (0 : Int)))))
  else
  (Option.bind (normal n x1) fun r12 =>
  some (4 : Int))))
  else
  (Option.bind (normal n x1) fun r13 =>
  some (4 : Int))))
  else
  (Option.bind (normal n x1) fun r14 =>
  some (4 : Int))))
  else
  (Option.bind (normal n x1) fun r15 =>
  some (4 : Int)))))
def sp_valid (n : Nat) : Spec := ⟨pre_valid, post_valid, valid n⟩
def env_valid (n : Nat) : List (FuncId × Spec) := [(24, sp_healthIn n), (25, sp_normal n), (26, sp_isPath n)]
theorem run_valid (n : Nat) (x : pre_valid.T) : fnRun Tryz.prog 51 (envG (env_valid n) [] (fun _ => none)) n Tryz.f15 ann_valid pre_valid post_valid x = valid n x := by kernel_rfl
theorem ok_valid (n : Nat) : FnOK Tryz.prog 51 LS 15 (sp_valid n) :=
  fn_run mixed Tryz.func15 (sp_valid n) n ann_valid (env_valid n) (envOf_cons (ok_healthIn n) (envOf_cons (ok_normal n) (envOf_cons (ok_isPath n) envOf_nil))) [] (fun _ => none) gl_none (run_valid n) (by kernel_rfl)
def pre_rValid : Shape := ⟨[.a [.dat .str, .dat (.int .i64), .dat (.int .i64), .dat (.int .i64), .dat (.int .i64)]], []⟩
def post_rValid : List Shape := [⟨[.c (.dat (.int .i64))], []⟩]
def ann_rValid : Ann := .no
/-- what turnstile/turnstileref24.Valid comes to. -/
def rValid (n : Nat) (x : (List Int) × Int × Int × Int × Int) : Option (Int) :=
  match x with
  | (x1, (x2, (x3, (x4, x5)))) =>
  (if (x2 == (0 : Int)) = true then
  some (0 : Int)
  else
  (if (decide (x2 < (1 : Int))) = true then
  some (4 : Int)
  else
  (if (decide (x2 > (1099511627776 : Int))) = true then
  some (4 : Int)
  else
  (if (decide (x3 < (1 : Int))) = true then
  some (4 : Int)
  else
  (if (decide (x3 > x2)) = true then
  some (4 : Int)
  else
  (if (decide (x4 < (1 : Int))) = true then
  some (4 : Int)
  else
  (if (decide (x4 > (1024 : Int))) = true then
  some (4 : Int)
  else
  (if (decide (x5 < (1 : Int))) = true then
  some (4 : Int)
  else
  (if (decide (x5 > (1024 : Int))) = true then
  some (4 : Int)
  else
  (if (decide ((x1.length : Int) > (1024 : Int))) = true then
  some (4 : Int)
  else
  (Option.bind (rPath n x1) fun r6 =>
  (if (!r6) = true then
  some (4 : Int)
  else
  some (0 : Int)))))))))))))
def sp_rValid (n : Nat) : Spec := ⟨pre_rValid, post_rValid, rValid n⟩
def env_rValid (n : Nat) : List (FuncId × Spec) := [(27, sp_rPath n)]
theorem run_rValid (n : Nat) (x : pre_rValid.T) : fnRun Tryz.prog 51 (envG (env_rValid n) [] (fun _ => none)) n Tryz.f16 ann_rValid pre_rValid post_rValid x = rValid n x := by kernel_rfl
theorem ok_rValid (n : Nat) : FnOK Tryz.prog 51 LS 16 (sp_rValid n) :=
  fn_run mixed Tryz.func16 (sp_rValid n) n ann_rValid (env_rValid n) (envOf_cons (ok_rPath n) envOf_nil) [] (fun _ => none) gl_none (run_rValid n) (by kernel_rfl)
def pre_check : Shape := ⟨[.a [.dat .bool, .dat (.int .i64), .dat (.int .i64), .dat (.int .i64)], .a [.dat .str, .dat (.int .i64), .dat (.int .i64), .dat (.int .i64), .dat (.int .i64)], .c (.dat (.int .i64))], []⟩
def post_check : List Shape := [⟨[.c (.dat .err)], []⟩]
def ann_check : Ann := .no
/-- what turnstile/health.check comes to. -/
def check (n : Nat) (x : Bool × Int × Int × Int × (List Int) × Int × Int × Int × Int × Int) : Option (Int) :=
  match x with
  | (x1, (x2, (x3, (x4, (x5, (x6, (x7, (x8, (x9, x10))))))))) =>
  (Option.bind (valid n (x5, (x6, (x7, (x8, x9))))) fun r11 =>
  (if (!(r11 == (0 : Int))) = true then
  some r11
  else
  (Option.bind (healthIn n (x10, ((0 : Int), (1099511627776 : Int)))) fun r12 =>
  (if (!r12) = true then
  some (1 : Int)
  else
  (Option.bind (statecan n (x1, (x2, (x3, (x4, (x5, (x6, (x7, (x8, x9))))))))) fun r13 =>
  (if (!r13) = true then
  some (1 : Int)
  else
  some (0 : Int)))))))
def sp_check (n : Nat) : Spec := ⟨pre_check, post_check, check n⟩
def env_check (n : Nat) : List (FuncId × Spec) := [(15, sp_valid n), (24, sp_healthIn n), (30, sp_statecan n)]
theorem run_check (n : Nat) (x : pre_check.T) : fnRun Tryz.prog 51 (envG (env_check n) [] (fun _ => none)) n Tryz.f22 ann_check pre_check post_check x = check n x := by kernel_rfl
theorem ok_check (n : Nat) : FnOK Tryz.prog 51 LS 22 (sp_check n) :=
  fn_run mixed Tryz.func22 (sp_check n) n ann_check (env_check n) (envOf_cons (ok_valid n) (envOf_cons (ok_healthIn n) (envOf_cons (ok_statecan n) envOf_nil))) [] (fun _ => none) gl_none (run_check n) (by kernel_rfl)
def pre_rAsked : Shape := ⟨[.a [.dat .bool, .dat (.int .i64), .dat (.int .i64), .dat (.int .i64)], .a [.dat .str, .dat (.int .i64), .dat (.int .i64), .dat (.int .i64), .dat (.int .i64)], .c (.dat (.int .i64))], []⟩
def post_rAsked : List Shape := [⟨[.c (.dat (.int .i64))], []⟩]
def ann_rAsked : Ann := .no
/-- what turnstile/turnstileref24.asked comes to. -/
def rAsked (n : Nat) (x : Bool × Int × Int × Int × (List Int) × Int × Int × Int × Int × Int) : Option (Int) :=
  match x with
  | (x1, (x2, (x3, (x4, (x5, (x6, (x7, (x8, (x9, x10))))))))) =>
  (Option.bind (rValid n (x5, (x6, (x7, (x8, x9))))) fun r11 =>
  (if (r11 != (0 : Int)) = true then
  some (4 : Int)
  else
  (if (decide (x10 < (0 : Int))) = true then
  some (1 : Int)
  else
  (if (decide (x10 > (1099511627776 : Int))) = true then
  some (1 : Int)
  else
  (Option.bind (rMay n (x1, (x2, (x3, (x4, (x5, (x6, (x7, (x8, x9))))))))) fun r12 =>
  (if (!r12) = true then
  some (1 : Int)
  else
  some (0 : Int)))))))
def sp_rAsked (n : Nat) : Spec := ⟨pre_rAsked, post_rAsked, rAsked n⟩
def env_rAsked (n : Nat) : List (FuncId × Spec) := [(16, sp_rValid n), (31, sp_rMay n)]
theorem run_rAsked (n : Nat) (x : pre_rAsked.T) : fnRun Tryz.prog 51 (envG (env_rAsked n) [] (fun _ => none)) n Tryz.f23 ann_rAsked pre_rAsked post_rAsked x = rAsked n x := by kernel_rfl
theorem ok_rAsked (n : Nat) : FnOK Tryz.prog 51 LS 23 (sp_rAsked n) :=
  fn_run mixed Tryz.func23 (sp_rAsked n) n ann_rAsked (env_rAsked n) (envOf_cons (ok_rValid n) (envOf_cons (ok_rMay n) envOf_nil)) [] (fun _ => none) gl_none (run_rAsked n) (by kernel_rfl)
def pre_new : Shape := ⟨[.a [.dat .str, .dat (.int .i64), .dat (.int .i64), .dat (.int .i64), .dat (.int .i64)], .c (.dat (.int .i64))], []⟩
def post_new : List Shape := [⟨[.a [.dat .bool, .dat (.int .i64), .dat (.int .i64), .dat (.int .i64)], .c (.dat .err)], []⟩]
def ann_new : Ann := .no
/-- what turnstile/health.New comes to. -/
def new (n : Nat) (x : (List Int) × Int × Int × Int × Int × Int) : Option (Bool × Int × Int × Int × Int) :=
  match x with
  | (x1, (x2, (x3, (x4, (x5, x6))))) =>
  (Option.bind (check n (true, ((0 : Int), ((0 : Int), ((-1 : Int), (x1, (x2, (x3, (x4, (x5, x6)))))))))) fun r7 =>
  (if (!(r7 == (0 : Int))) = true then
  some (false, ((0 : Int), ((0 : Int), ((0 : Int), r7))))
  else
  (if (decide (x2 > (0 : Int))) = true then
  some (true, ((0 : Int), (x6, ((-1 : Int), (0 : Int)))))
  else
  some (true, ((0 : Int), ((0 : Int), ((-1 : Int), (0 : Int))))))))
def sp_new (n : Nat) : Spec := ⟨pre_new, post_new, new n⟩
def env_new (n : Nat) : List (FuncId × Spec) := [(22, sp_check n)]
theorem run_new (n : Nat) (x : pre_new.T) : fnRun Tryz.prog 51 (envG (env_new n) [] (fun _ => none)) n Tryz.f4 ann_new pre_new post_new x = new n x := by kernel_rfl
theorem ok_new (n : Nat) : FnOK Tryz.prog 51 LS 4 (sp_new n) :=
  fn_run mixed Tryz.func4 (sp_new n) n ann_new (env_new n) (envOf_cons (ok_check n) envOf_nil) [] (fun _ => none) gl_none (run_new n) (by kernel_rfl)
def pre_rNew : Shape := ⟨[.a [.dat .str, .dat (.int .i64), .dat (.int .i64), .dat (.int .i64), .dat (.int .i64)], .c (.dat (.int .i64))], []⟩
def post_rNew : List Shape := [⟨[.a [.dat .bool, .dat (.int .i64), .dat (.int .i64), .dat (.int .i64)], .c (.dat (.int .i64))], []⟩]
def ann_rNew : Ann := .no
/-- what turnstile/turnstileref24.New comes to. -/
def rNew (n : Nat) (x : (List Int) × Int × Int × Int × Int × Int) : Option (Bool × Int × Int × Int × Int) :=
  match x with
  | (x1, (x2, (x3, (x4, (x5, x6))))) =>
  (Option.bind (rValid n (x1, (x2, (x3, (x4, x5))))) fun r7 =>
  (if (r7 != (0 : Int)) = true then
  some (false, ((0 : Int), ((0 : Int), ((0 : Int), (4 : Int)))))
  else
  (if (decide (x6 < (0 : Int))) = true then
  some (false, ((0 : Int), ((0 : Int), ((0 : Int), (1 : Int)))))
  else
  (if (decide (x6 > (1099511627776 : Int))) = true then
  some (false, ((0 : Int), ((0 : Int), ((0 : Int), (1 : Int)))))
  else
  (if (decide (x2 > (0 : Int))) = true then
  some (true, ((0 : Int), (x6, ((-1 : Int), (0 : Int)))))
  else
  some (true, ((0 : Int), ((0 : Int), ((-1 : Int), (0 : Int))))))))))
def sp_rNew (n : Nat) : Spec := ⟨pre_rNew, post_rNew, rNew n⟩
def env_rNew (n : Nat) : List (FuncId × Spec) := [(16, sp_rValid n)]
theorem run_rNew (n : Nat) (x : pre_rNew.T) : fnRun Tryz.prog 51 (envG (env_rNew n) [] (fun _ => none)) n Tryz.f5 ann_rNew pre_rNew post_rNew x = rNew n x := by kernel_rfl
theorem ok_rNew (n : Nat) : FnOK Tryz.prog 51 LS 5 (sp_rNew n) :=
  fn_run mixed Tryz.func5 (sp_rNew n) n ann_rNew (env_rNew n) (envOf_cons (ok_rValid n) envOf_nil) [] (fun _ => none) gl_none (run_rNew n) (by kernel_rfl)
def pre_due : Shape := ⟨[.a [.dat .bool, .dat (.int .i64), .dat (.int .i64), .dat (.int .i64)], .a [.dat .str, .dat (.int .i64), .dat (.int .i64), .dat (.int .i64), .dat (.int .i64)], .c (.dat (.int .i64))], []⟩
def post_due : List Shape := [⟨[.c (.dat .bool), .c (.dat .err)], []⟩]
def ann_due : Ann := .no
/-- what turnstile/health.Due comes to. -/
def due (n : Nat) (x : Bool × Int × Int × Int × (List Int) × Int × Int × Int × Int × Int) : Option (Bool × Int) :=
  match x with
  | (x1, (x2, (x3, (x4, (x5, (x6, (x7, (x8, (x9, x10))))))))) =>
  (Option.bind (check n (x1, (x2, (x3, (x4, (x5, (x6, (x7, (x8, (x9, x10)))))))))) fun r11 =>
  (if (r11 == (0 : Int)) = true then
  (if (decide (x6 > (0 : Int))) = true then
  (if (decide (x4 < (0 : Int))) = true then
  some ((decide (x10 ≥ x3)), r11)
  else
  some (false, r11))
  else
  some (false, r11))
  else
  some (false, r11)))
def sp_due (n : Nat) : Spec := ⟨pre_due, post_due, due n⟩
def env_due (n : Nat) : List (FuncId × Spec) := [(22, sp_check n)]
theorem run_due (n : Nat) (x : pre_due.T) : fnRun Tryz.prog 51 (envG (env_due n) [] (fun _ => none)) n Tryz.f6 ann_due pre_due post_due x = due n x := by kernel_rfl
theorem ok_due (n : Nat) : FnOK Tryz.prog 51 LS 6 (sp_due n) :=
  fn_run mixed Tryz.func6 (sp_due n) n ann_due (env_due n) (envOf_cons (ok_check n) envOf_nil) [] (fun _ => none) gl_none (run_due n) (by kernel_rfl)
def pre_rDue : Shape := ⟨[.a [.dat .bool, .dat (.int .i64), .dat (.int .i64), .dat (.int .i64)], .a [.dat .str, .dat (.int .i64), .dat (.int .i64), .dat (.int .i64), .dat (.int .i64)], .c (.dat (.int .i64))], []⟩
def post_rDue : List Shape := [⟨[.c (.dat .bool), .c (.dat (.int .i64))], []⟩]
def ann_rDue : Ann := .no
/-- what turnstile/turnstileref24.Due comes to. -/
def rDue (n : Nat) (x : Bool × Int × Int × Int × (List Int) × Int × Int × Int × Int × Int) : Option (Bool × Int) :=
  match x with
  | (x1, (x2, (x3, (x4, (x5, (x6, (x7, (x8, (x9, x10))))))))) =>
  (Option.bind (rAsked n (x1, (x2, (x3, (x4, (x5, (x6, (x7, (x8, (x9, x10)))))))))) fun r11 =>
  (if (r11 != (0 : Int)) = true then
  some (false, r11)
  else
  (if (decide (x6 > (0 : Int))) = true then
  (if (decide (x4 < (0 : Int))) = true then
  some ((decide (x10 ≥ x3)), (0 : Int))
  else
  some (false, (0 : Int)))
  else
  some (false, (0 : Int)))))
def sp_rDue (n : Nat) : Spec := ⟨pre_rDue, post_rDue, rDue n⟩
def env_rDue (n : Nat) : List (FuncId × Spec) := [(23, sp_rAsked n)]
theorem run_rDue (n : Nat) (x : pre_rDue.T) : fnRun Tryz.prog 51 (envG (env_rDue n) [] (fun _ => none)) n Tryz.f7 ann_rDue pre_rDue post_rDue x = rDue n x := by kernel_rfl
theorem ok_rDue (n : Nat) : FnOK Tryz.prog 51 LS 7 (sp_rDue n) :=
  fn_run mixed Tryz.func7 (sp_rDue n) n ann_rDue (env_rDue n) (envOf_cons (ok_rAsked n) envOf_nil) [] (fun _ => none) gl_none (run_rDue n) (by kernel_rfl)
def pre_send : Shape := ⟨[.a [.dat .bool, .dat (.int .i64), .dat (.int .i64), .dat (.int .i64)], .a [.dat .str, .dat (.int .i64), .dat (.int .i64), .dat (.int .i64), .dat (.int .i64)], .c (.dat (.int .i64))], []⟩
def post_send : List Shape := [⟨[.a [.dat .bool, .dat (.int .i64), .dat (.int .i64), .dat (.int .i64)], .c (.dat .err)], []⟩]
def ann_send : Ann := .no
/-- what turnstile/health.Send comes to. -/
def send (n : Nat) (x : Bool × Int × Int × Int × (List Int) × Int × Int × Int × Int × Int) : Option (Bool × Int × Int × Int × Int) :=
  match x with
  | (x1, (x2, (x3, (x4, (x5, (x6, (x7, (x8, (x9, x10))))))))) =>
  (Option.bind (due n (x1, (x2, (x3, (x4, (x5, (x6, (x7, (x8, (x9, x10)))))))))) fun r11 =>
  (if (!(r11.2 == (0 : Int))) = true then
  some (false, ((0 : Int), ((0 : Int), ((0 : Int), r11.2))))
  else
  (if (!r11.1) = true then
  some (false, ((0 : Int), ((0 : Int), ((0 : Int), (1 : Int)))))
  else
  some (x1, (x2, ((IntKind.wrap .i64 (x10 + x6)), (x10, (0 : Int))))))))
def sp_send (n : Nat) : Spec := ⟨pre_send, post_send, send n⟩
def env_send (n : Nat) : List (FuncId × Spec) := [(6, sp_due n)]
theorem run_send (n : Nat) (x : pre_send.T) : fnRun Tryz.prog 51 (envG (env_send n) [] (fun _ => none)) n Tryz.f8 ann_send pre_send post_send x = send n x := by kernel_rfl
theorem ok_send (n : Nat) : FnOK Tryz.prog 51 LS 8 (sp_send n) :=
  fn_run mixed Tryz.func8 (sp_send n) n ann_send (env_send n) (envOf_cons (ok_due n) envOf_nil) [] (fun _ => none) gl_none (run_send n) (by kernel_rfl)
def pre_rSend : Shape := ⟨[.a [.dat .bool, .dat (.int .i64), .dat (.int .i64), .dat (.int .i64)], .a [.dat .str, .dat (.int .i64), .dat (.int .i64), .dat (.int .i64), .dat (.int .i64)], .c (.dat (.int .i64))], []⟩
def post_rSend : List Shape := [⟨[.a [.dat .bool, .dat (.int .i64), .dat (.int .i64), .dat (.int .i64)], .c (.dat (.int .i64))], []⟩]
def ann_rSend : Ann := .no
/-- what turnstile/turnstileref24.Send comes to. -/
def rSend (n : Nat) (x : Bool × Int × Int × Int × (List Int) × Int × Int × Int × Int × Int) : Option (Bool × Int × Int × Int × Int) :=
  match x with
  | (x1, (x2, (x3, (x4, (x5, (x6, (x7, (x8, (x9, x10))))))))) =>
  (Option.bind (rDue n (x1, (x2, (x3, (x4, (x5, (x6, (x7, (x8, (x9, x10)))))))))) fun r11 =>
  (if (r11.2 != (0 : Int)) = true then
  some (false, ((0 : Int), ((0 : Int), ((0 : Int), r11.2))))
  else
  (if (!r11.1) = true then
  some (false, ((0 : Int), ((0 : Int), ((0 : Int), (1 : Int)))))
  else
  some (x1, (x2, ((IntKind.wrap .i64 (x10 + x6)), (x10, (0 : Int))))))))
def sp_rSend (n : Nat) : Spec := ⟨pre_rSend, post_rSend, rSend n⟩
def env_rSend (n : Nat) : List (FuncId × Spec) := [(7, sp_rDue n)]
theorem run_rSend (n : Nat) (x : pre_rSend.T) : fnRun Tryz.prog 51 (envG (env_rSend n) [] (fun _ => none)) n Tryz.f9 ann_rSend pre_rSend post_rSend x = rSend n x := by kernel_rfl
theorem ok_rSend (n : Nat) : FnOK Tryz.prog 51 LS 9 (sp_rSend n) :=
  fn_run mixed Tryz.func9 (sp_rSend n) n ann_rSend (env_rSend n) (envOf_cons (ok_rDue n) envOf_nil) [] (fun _ => none) gl_none (run_rSend n) (by kernel_rfl)
def pre_late : Shape := ⟨[.a [.dat .bool, .dat (.int .i64), .dat (.int .i64), .dat (.int .i64)], .a [.dat .str, .dat (.int .i64), .dat (.int .i64), .dat (.int .i64), .dat (.int .i64)], .c (.dat (.int .i64))], []⟩
def post_late : List Shape := [⟨[.c (.dat .bool), .c (.dat .err)], []⟩]
def ann_late : Ann := .no
/-- what turnstile/health.Late comes to. -/
def late (n : Nat) (x : Bool × Int × Int × Int × (List Int) × Int × Int × Int × Int × Int) : Option (Bool × Int) :=
  match x with
  | (x1, (x2, (x3, (x4, (x5, (x6, (x7, (x8, (x9, x10))))))))) =>
  (Option.bind (check n (x1, (x2, (x3, (x4, (x5, (x6, (x7, (x8, (x9, x10)))))))))) fun r11 =>
  (if (r11 == (0 : Int)) = true then
  (if (decide (x4 ≥ (0 : Int))) = true then
  some ((decide (x10 ≥ (IntKind.wrap .i64 (x4 + x7)))), r11)
  else
  some (false, r11))
  else
  some (false, r11)))
def sp_late (n : Nat) : Spec := ⟨pre_late, post_late, late n⟩
def env_late (n : Nat) : List (FuncId × Spec) := [(22, sp_check n)]
theorem run_late (n : Nat) (x : pre_late.T) : fnRun Tryz.prog 51 (envG (env_late n) [] (fun _ => none)) n Tryz.f10 ann_late pre_late post_late x = late n x := by kernel_rfl
theorem ok_late (n : Nat) : FnOK Tryz.prog 51 LS 10 (sp_late n) :=
  fn_run mixed Tryz.func10 (sp_late n) n ann_late (env_late n) (envOf_cons (ok_check n) envOf_nil) [] (fun _ => none) gl_none (run_late n) (by kernel_rfl)
def pre_rLate : Shape := ⟨[.a [.dat .bool, .dat (.int .i64), .dat (.int .i64), .dat (.int .i64)], .a [.dat .str, .dat (.int .i64), .dat (.int .i64), .dat (.int .i64), .dat (.int .i64)], .c (.dat (.int .i64))], []⟩
def post_rLate : List Shape := [⟨[.c (.dat .bool), .c (.dat (.int .i64))], []⟩]
def ann_rLate : Ann := .no
/-- what turnstile/turnstileref24.Late comes to. -/
def rLate (n : Nat) (x : Bool × Int × Int × Int × (List Int) × Int × Int × Int × Int × Int) : Option (Bool × Int) :=
  match x with
  | (x1, (x2, (x3, (x4, (x5, (x6, (x7, (x8, (x9, x10))))))))) =>
  (Option.bind (rAsked n (x1, (x2, (x3, (x4, (x5, (x6, (x7, (x8, (x9, x10)))))))))) fun r11 =>
  (if (r11 != (0 : Int)) = true then
  some (false, r11)
  else
  (if (decide (x4 ≥ (0 : Int))) = true then
  some ((decide (x10 ≥ (IntKind.wrap .i64 (x4 + x7)))), (0 : Int))
  else
  some (false, (0 : Int)))))
def sp_rLate (n : Nat) : Spec := ⟨pre_rLate, post_rLate, rLate n⟩
def env_rLate (n : Nat) : List (FuncId × Spec) := [(23, sp_rAsked n)]
theorem run_rLate (n : Nat) (x : pre_rLate.T) : fnRun Tryz.prog 51 (envG (env_rLate n) [] (fun _ => none)) n Tryz.f11 ann_rLate pre_rLate post_rLate x = rLate n x := by kernel_rfl
theorem ok_rLate (n : Nat) : FnOK Tryz.prog 51 LS 11 (sp_rLate n) :=
  fn_run mixed Tryz.func11 (sp_rLate n) n ann_rLate (env_rLate n) (envOf_cons (ok_rAsked n) envOf_nil) [] (fun _ => none) gl_none (run_rLate n) (by kernel_rfl)
def pre_said : Shape := ⟨[.a [.dat .bool, .dat (.int .i64), .dat (.int .i64), .dat (.int .i64)], .a [.dat .str, .dat (.int .i64), .dat (.int .i64), .dat (.int .i64), .dat (.int .i64)], .c (.dat .bool), .c (.dat (.int .i64))], []⟩
def post_said : List Shape := [⟨[.a [.dat .bool, .dat (.int .i64), .dat (.int .i64), .dat (.int .i64)], .c (.dat .err)], []⟩]
def ann_said : Ann := .no
/-- what turnstile/health.Said comes to. -/
def said (n : Nat) (x : Bool × Int × Int × Int × (List Int) × Int × Int × Int × Int × Bool × Int) : Option (Bool × Int × Int × Int × Int) :=
  match x with
  | (x1, (x2, (x3, (x4, (x5, (x6, (x7, (x8, (x9, (x10, x11)))))))))) =>
  (Option.bind (check n (x1, (x2, (x3, (x4, (x5, (x6, (x7, (x8, (x9, x11)))))))))) fun r12 =>
  (if (!(r12 == (0 : Int))) = true then
  some (false, ((0 : Int), ((0 : Int), ((0 : Int), r12))))
  else
  (if (decide (x4 < (0 : Int))) = true then
  some (false, ((0 : Int), ((0 : Int), ((0 : Int), (1 : Int)))))
  else
  (if (x10 == x1) = true then
  some (x1, ((0 : Int), (x3, ((-1 : Int), (0 : Int)))))
  else
  (if x1 = true then
  (if ((IntKind.wrap .i64 (x2 + (1 : Int))) == x9) = true then
  some ((!x1), ((0 : Int), (x3, ((-1 : Int), (0 : Int)))))
  else
  some (x1, ((IntKind.wrap .i64 (x2 + (1 : Int))), (x3, ((-1 : Int), (0 : Int))))))
  else
  (if ((IntKind.wrap .i64 (x2 + (1 : Int))) == x8) = true then
  some ((!x1), ((0 : Int), (x3, ((-1 : Int), (0 : Int)))))
  else
  some (x1, ((IntKind.wrap .i64 (x2 + (1 : Int))), (x3, ((-1 : Int), (0 : Int)))))))))))
def sp_said (n : Nat) : Spec := ⟨pre_said, post_said, said n⟩
def env_said (n : Nat) : List (FuncId × Spec) := [(22, sp_check n)]
theorem run_said (n : Nat) (x : pre_said.T) : fnRun Tryz.prog 51 (envG (env_said n) [] (fun _ => none)) n Tryz.f13 ann_said pre_said post_said x = said n x := by kernel_rfl
theorem ok_said (n : Nat) : FnOK Tryz.prog 51 LS 13 (sp_said n) :=
  fn_run mixed Tryz.func13 (sp_said n) n ann_said (env_said n) (envOf_cons (ok_check n) envOf_nil) [] (fun _ => none) gl_none (run_said n) (by kernel_rfl)
def pre_rSaid : Shape := ⟨[.a [.dat .bool, .dat (.int .i64), .dat (.int .i64), .dat (.int .i64)], .a [.dat .str, .dat (.int .i64), .dat (.int .i64), .dat (.int .i64), .dat (.int .i64)], .c (.dat .bool), .c (.dat (.int .i64))], []⟩
def post_rSaid : List Shape := [⟨[.a [.dat .bool, .dat (.int .i64), .dat (.int .i64), .dat (.int .i64)], .c (.dat (.int .i64))], []⟩]
def ann_rSaid : Ann := .no
/-- what turnstile/turnstileref24.Said comes to. -/
def rSaid (n : Nat) (x : Bool × Int × Int × Int × (List Int) × Int × Int × Int × Int × Bool × Int) : Option (Bool × Int × Int × Int × Int) :=
  match x with
  | (x1, (x2, (x3, (x4, (x5, (x6, (x7, (x8, (x9, (x10, x11)))))))))) =>
  (Option.bind (rAsked n (x1, (x2, (x3, (x4, (x5, (x6, (x7, (x8, (x9, x11)))))))))) fun r12 =>
  (if (r12 != (0 : Int)) = true then
  some (false, ((0 : Int), ((0 : Int), ((0 : Int), r12))))
  else
  (if (decide (x4 < (0 : Int))) = true then
  some (false, ((0 : Int), ((0 : Int), ((0 : Int), (1 : Int)))))
  else
  (if (x10 == x1) = true then
  some (x1, ((0 : Int), (x3, ((-1 : Int), (0 : Int)))))
  else
  (if x1 = true then
  (if ((IntKind.wrap .i64 (x2 + (1 : Int))) == x9) = true then
  some ((!x1), ((0 : Int), (x3, ((-1 : Int), (0 : Int)))))
  else
  (if (!x1) = true then
  (if ((IntKind.wrap .i64 (x2 + (1 : Int))) == x8) = true then
  some ((!x1), ((0 : Int), (x3, ((-1 : Int), (0 : Int)))))
  else
  some (x1, ((IntKind.wrap .i64 (x2 + (1 : Int))), (x3, ((-1 : Int), (0 : Int))))))
  else
  some (x1, ((IntKind.wrap .i64 (x2 + (1 : Int))), (x3, ((-1 : Int), (0 : Int)))))))
  else
  (if (!x1) = true then
  (if ((IntKind.wrap .i64 (x2 + (1 : Int))) == x8) = true then
  some ((!x1), ((0 : Int), (x3, ((-1 : Int), (0 : Int)))))
  else
  some (x1, ((IntKind.wrap .i64 (x2 + (1 : Int))), (x3, ((-1 : Int), (0 : Int))))))
  else
  some (x1, ((IntKind.wrap .i64 (x2 + (1 : Int))), (x3, ((-1 : Int), (0 : Int)))))))))))
def sp_rSaid (n : Nat) : Spec := ⟨pre_rSaid, post_rSaid, rSaid n⟩
def env_rSaid (n : Nat) : List (FuncId × Spec) := [(23, sp_rAsked n)]
theorem run_rSaid (n : Nat) (x : pre_rSaid.T) : fnRun Tryz.prog 51 (envG (env_rSaid n) [] (fun _ => none)) n Tryz.f14 ann_rSaid pre_rSaid post_rSaid x = rSaid n x := by kernel_rfl
theorem ok_rSaid (n : Nat) : FnOK Tryz.prog 51 LS 14 (sp_rSaid n) :=
  fn_run mixed Tryz.func14 (sp_rSaid n) n ann_rSaid (env_rSaid n) (envOf_cons (ok_rAsked n) envOf_nil) [] (fun _ => none) gl_none (run_rSaid n) (by kernel_rfl)
def pre_works : Shape := ⟨[], []⟩
def post_works : List Shape := [⟨[.c (.dat .bool)], []⟩]
def ann_works : Ann := (.two .no (.two .no (.two .no (.two .no (.two (.two .no (.one (.loop ⟨[1, 2, 4], ⟨[.c (.ptr 500 0), .c (.ptr 501 0), .c (.dat (.int .i64))], [(500, .cells 25 [.dat .str, .dat (.int .i64), .dat (.int .i64), .dat (.int .i64), .dat (.int .i64)]), (501, .cells 26 [.dat .bool, .dat (.int .i64), .dat (.int .i64), .dat (.int .i64)])]⟩⟩ .no))) .no)))))
/-- what turnstile/turnstilelaw24.works comes to. -/
def works (n : Nat) (x : Unit) : Option (Bool) :=
  (Option.bind (new n (([(47 : Int)] : List Int), ((10 : Int), ((3 : Int), ((2 : Int), ((2 : Int), (5 : Int))))))) fun r1 =>
  (if (!(r1.2.2.2.2 == (0 : Int))) = true then
  some false
  else
  (loopF (X := Int × (List Int) × Int × Int × Int × Int × Bool × Int × Int × Int) (A := Bool) (fun rec2 y3 => match y3 with
  | (a4, (a5, (a6, (a7, (a8, (a9, (a10, (a11, (a12, a13))))))))) =>
  (if (decide (a4 < (2 : Int))) = true then
  (Option.bind (due n (a10, (a11, (a12, (a13, (a5, (a6, (a7, (a8, (a9, a12)))))))))) fun r14 =>
  (Option.bind (send n (a10, (a11, (a12, (a13, (a5, (a6, (a7, (a8, (a9, a12)))))))))) fun r15 =>
  (let u16 : Int := (IntKind.wrap .i64 (r15.2.2.2.1 + (1 : Int)))
  (Option.bind (said n (r15.1, (r15.2.1, (r15.2.2.1, (r15.2.2.2.1, (a5, (a6, (a7, (a8, (a9, (false, u16))))))))))) fun r17 =>
  (if (!r14.1) = true then
  some false
  else
  (if (!(r15.2.2.2.2 == (0 : Int))) = true then
  some false
  else
  (if (!(r17.2.2.2.2 == (0 : Int))) = true then
  some false
  else
  rec2 ((IntKind.wrap .i64 (a4 + (1 : Int))), (a5, (a6, (a7, (a8, (a9, (r17.1, (r17.2.1, (r17.2.2.1, r17.2.2.2.1))))))))))))))))
  else
  (Option.bind (send n (a10, (a11, (a12, (a13, (a5, (a6, (a7, (a8, (a9, (0 : Int))))))))))) fun r18 =>
  (if (!a10) = true then
  (if (a11 == (0 : Int)) = true then
  (if (a12 == (25 : Int)) = true then
  (Option.bind (turnstilelaw24Num n r18.2.2.2.2) fun r19 =>
  (if (r19 == (1 : Int)) = true then
  (Option.bind (text n (a10, (a11, (a12, a13)))) fun r20 =>
  some (r20 == ([(100 : Int), (111 : Int), (119 : Int), (110 : Int), (32 : Int), (48 : Int), (32 : Int), (50 : Int), (53 : Int), (32 : Int), (45 : Int), (49 : Int)] : List Int)))
  else
  some false))
  else
  some false)
  else
  some false)
  else
  some false)))) n ((0 : Int), (([(47 : Int)] : List Int), ((10 : Int), ((3 : Int), ((2 : Int), ((2 : Int), (r1.1, (r1.2.1, (r1.2.2.1, r1.2.2.2.1))))))))))))
def sp_works (n : Nat) : Spec := ⟨pre_works, post_works, works n⟩
def env_works (n : Nat) : List (FuncId × Spec) := [(4, sp_new n), (6, sp_due n), (8, sp_send n), (13, sp_said n), (12, sp_turnstilelaw24Num n), (19, sp_text n)]
theorem run_works (n : Nat) (x : pre_works.T) : fnRun Tryz.prog 51 (envG (env_works n) [] (fun _ => none)) n Tryz.f21 ann_works pre_works post_works x = works n x := by kernel_rfl
theorem ok_works (n : Nat) : FnOK Tryz.prog 51 LS 21 (sp_works n) :=
  fn_run mixed Tryz.func21 (sp_works n) n ann_works (env_works n) (envOf_cons (ok_new n) (envOf_cons (ok_due n) (envOf_cons (ok_send n) (envOf_cons (ok_said n) (envOf_cons (ok_turnstilelaw24Num n) (envOf_cons (ok_text n) envOf_nil)))))) [] (fun _ => none) gl_none (run_works n) (by kernel_rfl)
def pre_healthAnswers : Shape := ⟨[.a [.dat .bool, .dat (.int .i64), .dat (.int .i64), .dat (.int .i64)], .a [.dat .str, .dat (.int .i64), .dat (.int .i64), .dat (.int .i64), .dat (.int .i64)], .c (.dat (.int .i64))], []⟩
def post_healthAnswers : List Shape := [⟨[.c (.dat .bool)], []⟩]
def ann_healthAnswers : Ann := (.two .no (.two .no (.two .no (.two .no (.two .no (.two .no (.two .no (.two .no (.two .no (.two .no (.two .no (.two (.two .no (.one (.loop ⟨[2, 3, 4, 7, 24], ⟨[.c (.dat (.int .i64)), .c (.ptr 500 0), .c (.ptr 501 0), .c (.ptr 502 0), .c (.dat (.int .i64))], [(500, .cells 23 [.dat .bool, .dat (.int .i64), .dat (.int .i64), .dat (.int .i64)]), (501, .cells 25 [.dat .str, .dat (.int .i64), .dat (.int .i64), .dat (.int .i64), .dat (.int .i64)]), (502, .cells 26 [.dat .bool, .dat (.int .i64), .dat (.int .i64), .dat (.int .i64)])]⟩⟩ .no))) .no))))))))))))
/-- what turnstile/turnstilelaw24.HealthAnswers comes to. -/
def healthAnswers (n : Nat) (x : Bool × Int × Int × Int × (List Int) × Int × Int × Int × Int × Int) : Option (Bool) :=
  match x with
  | (x1, (x2, (x3, (x4, (x5, (x6, (x7, (x8, (x9, x10))))))))) =>
  (Option.bind (new n (x5, (x6, (x7, (x8, (x9, x10)))))) fun r11 =>
  (Option.bind (rNew n (x5, (x6, (x7, (x8, (x9, x10)))))) fun r12 =>
  (Option.bind (due n (x1, (x2, (x3, (x4, (x5, (x6, (x7, (x8, (x9, x10)))))))))) fun r13 =>
  (Option.bind (rDue n (x1, (x2, (x3, (x4, (x5, (x6, (x7, (x8, (x9, x10)))))))))) fun r14 =>
  (Option.bind (send n (x1, (x2, (x3, (x4, (x5, (x6, (x7, (x8, (x9, x10)))))))))) fun r15 =>
  (Option.bind (rSend n (x1, (x2, (x3, (x4, (x5, (x6, (x7, (x8, (x9, x10)))))))))) fun r16 =>
  (Option.bind (late n (x1, (x2, (x3, (x4, (x5, (x6, (x7, (x8, (x9, x10)))))))))) fun r17 =>
  (Option.bind (rLate n (x1, (x2, (x3, (x4, (x5, (x6, (x7, (x8, (x9, x10)))))))))) fun r18 =>
  (if (!((r11.1 == r12.1) && ((r11.2.1 == r12.2.1) && ((r11.2.2.1 == r12.2.2.1) && ((r11.2.2.2.1 == r12.2.2.2.1) && true))))) = true then
  some false
  else
  (Option.bind (turnstilelaw24Num n r11.2.2.2.2) fun r19 =>
  (if (r19 != r12.2.2.2.2) = true then
  some false
  else
  (if (!(r13.1 == r14.1)) = true then
  some false
  else
  (Option.bind (turnstilelaw24Num n r13.2) fun r20 =>
  (if (r20 != r14.2) = true then
  some false
  else
  (if (!((r15.1 == r16.1) && ((r15.2.1 == r16.2.1) && ((r15.2.2.1 == r16.2.2.1) && ((r15.2.2.2.1 == r16.2.2.2.1) && true))))) = true then
  some false
  else
  (Option.bind (turnstilelaw24Num n r15.2.2.2.2) fun r21 =>
  (if (r21 != r16.2.2.2.2) = true then
  some false
  else
  (if (!(r17.1 == r18.1)) = true then
  some false
  else
  (Option.bind (turnstilelaw24Num n r17.2) fun r22 =>
  (if (r22 != r18.2) = true then
  some false
  else
  (loopF (X := Int × Int × Bool × Int × Int × Int × (List Int) × Int × Int × Int × Int × Bool × Int × Int × Int) (A := Bool) (fun rec23 y24 => match y24 with
  | (a25, (a26, (a27, (a28, (a29, (a30, (a31, (a32, (a33, (a34, (a35, (a36, (a37, (a38, a39)))))))))))))) =>
  (if (decide (a26 < (2 : Int))) = true then
  (Option.bind (said n (a36, (a37, (a38, (a39, (a31, (a32, (a33, (a34, (a35, ((a26 == (1 : Int)), a25))))))))))) fun r40 =>
  (Option.bind (rSaid n (a27, (a28, (a29, (a30, (a31, (a32, (a33, (a34, (a35, ((a26 == (1 : Int)), a25))))))))))) fun r41 =>
  (if (!((r40.1 == r41.1) && ((r40.2.1 == r41.2.1) && ((r40.2.2.1 == r41.2.2.1) && ((r40.2.2.2.1 == r41.2.2.2.1) && true))))) = true then
  some false
  else
  (Option.bind (turnstilelaw24Num n r40.2.2.2.2) fun r42 =>
  (if (r42 != r41.2.2.2.2) = true then
  some false
  else
  (let u43 : Int := (IntKind.wrap .i64 (a26 + (1 : Int)))
  rec23 (a25, (u43, (a27, (a28, (a29, (a30, (a31, (a32, (a33, (a34, (a35, (a36, (a37, (a38, a39))))))))))))))))))))
  else
  (Option.bind (valid n (a31, (a32, (a33, (a34, a35))))) fun r44 =>
  (Option.bind (turnstilelaw24Num n r44) fun r45 =>
  (Option.bind (rValid n (a31, (a32, (a33, (a34, a35))))) fun r46 =>
  (if (r45 == r46) = true then
  (Option.bind (good n a25) fun r47 =>
  (Option.bind (rGood n a25) fun r48 =>
  (if (r47 == r48) = true then
  (Option.bind (text n (a36, (a37, (a38, a39)))) fun r49 =>
  (Option.bind (rText n (a27, (a28, (a29, a30)))) fun r50 =>
  (if (r49 == r50) = true then
  (Option.bind (works n ()) fun r51 =>
  some r51)
  else
  some false)))
  else
  some false)))
  else
  some false)))))) n (x10, ((0 : Int), (x1, (x2, (x3, (x4, (x5, (x6, (x7, (x8, (x9, (x1, (x2, (x3, x4)))))))))))))))))))))))))))))))))))
def sp_healthAnswers (n : Nat) : Spec := ⟨pre_healthAnswers, post_healthAnswers, healthAnswers n⟩
def env_healthAnswers (n : Nat) : List (FuncId × Spec) := [(4, sp_new n), (5, sp_rNew n), (6, sp_due n), (7, sp_rDue n), (8, sp_send n), (9, sp_rSend n), (10, sp_late n), (11, sp_rLate n), (12, sp_turnstilelaw24Num n), (13, sp_said n), (14, sp_rSaid n), (15, sp_valid n), (16, sp_rValid n), (17, sp_good n), (18, sp_rGood n), (19, sp_text n), (20, sp_rText n), (21, sp_works n)]
theorem run_healthAnswers (n : Nat) (x : pre_healthAnswers.T) : fnRun Tryz.prog 51 (envG (env_healthAnswers n) [] (fun _ => none)) n Tryz.f3 ann_healthAnswers pre_healthAnswers post_healthAnswers x = healthAnswers n x := by kernel_rfl
theorem ok_healthAnswers (n : Nat) : FnOK Tryz.prog 51 LS 3 (sp_healthAnswers n) :=
  fn_run mixed Tryz.func3 (sp_healthAnswers n) n ann_healthAnswers (env_healthAnswers n) (envOf_cons (ok_new n) (envOf_cons (ok_rNew n) (envOf_cons (ok_due n) (envOf_cons (ok_rDue n) (envOf_cons (ok_send n) (envOf_cons (ok_rSend n) (envOf_cons (ok_late n) (envOf_cons (ok_rLate n) (envOf_cons (ok_turnstilelaw24Num n) (envOf_cons (ok_said n) (envOf_cons (ok_rSaid n) (envOf_cons (ok_valid n) (envOf_cons (ok_rValid n) (envOf_cons (ok_good n) (envOf_cons (ok_rGood n) (envOf_cons (ok_text n) (envOf_cons (ok_rText n) (envOf_cons (ok_works n) envOf_nil)))))))))))))))))) [] (fun _ => none) gl_none (run_healthAnswers n) (by kernel_rfl)
end Go.Sx.YtbiipgbejlfkbaaGreatDoor
