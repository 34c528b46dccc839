/- Part of a proof by a small interpreter on plain values; no condition. -/
import Derived.Test.YtndkpphniekmlaaDoorCa
import Derived.Test.YtndkpphniekmlaaDoorProg
/-! written by program: the functions as plain ones, and their contracts. -/
namespace Go.Sx.YtndkpphniekmlaaDoor
open Go Go.Sx Go.Proofs
set_option autoImplicit false
set_option maxRecDepth 100000
set_option linter.unusedVariables false
theorem mixed : Tryd.prog.follows .mixedOrders = true := by kernel_rfl
def pre_turnstilelaw08Num : Shape := ⟨[.c (.dat .err)], []⟩
def post_turnstilelaw08Num : List Shape := [⟨[.c (.dat (.int .i64))], []⟩]
def ann_turnstilelaw08Num : Ann := .no
/-- what turnstile/turnstilelaw08.num comes to. -/
def turnstilelaw08Num (n : Nat) (x : Int) : Option (Int) :=
  (if (x == (0 : Int)) = true then
  some (0 : Int)
  else
  (if (!(x != 0)) = true then
  some (-1 : Int)
  else
  some x))
def sp_turnstilelaw08Num (n : Nat) : Spec := ⟨pre_turnstilelaw08Num, post_turnstilelaw08Num, turnstilelaw08Num n⟩
def env_turnstilelaw08Num (n : Nat) : List (FuncId × Spec) := []
theorem run_turnstilelaw08Num (n : Nat) (x : pre_turnstilelaw08Num.T) : fnRun Tryd.prog 50 (envG (env_turnstilelaw08Num n) [] (fun _ => none)) n Tryd.f11 ann_turnstilelaw08Num pre_turnstilelaw08Num post_turnstilelaw08Num x = turnstilelaw08Num n x := by kernel_rfl
theorem ok_turnstilelaw08Num (n : Nat) : FnOK Tryd.prog 50 LS 11 (sp_turnstilelaw08Num n) :=
  fn_run mixed Tryd.func11 (sp_turnstilelaw08Num n) n ann_turnstilelaw08Num (env_turnstilelaw08Num n) envOf_nil [] (fun _ => none) gl_none (run_turnstilelaw08Num n) (by kernel_rfl)
def pre_same : Shape := ⟨[.c (.dat (.list .str)), .c (.dat (.list .str))], []⟩
def post_same : List Shape := [⟨[.c (.dat .bool)], []⟩]
def ann_same : Ann := (.two .no (.two .no (.two (.two .no (.one (.loop ⟨[0, 1, 5], ⟨[.c (.dat (.list .str)), .c (.dat (.list .str)), .c (.dat (.int .i64))], []⟩⟩ .no))) .no)))
/-- what turnstile/turnstilelaw08.same comes to. -/
def same (n : Nat) (x : (List (List Int)) × List (List Int)) : Option (Bool) :=
  match x with
  | (x1, x2) =>
  (if ((x1.length : Int) != (x2.length : Int)) = true then
  some false
  else
  (loopF (X := (List (List Int)) × (List (List Int)) × Int) (A := Bool) (fun rec3 y4 => match y4 with
  | (a5, (a6, a7)) =>
  (if (decide (a7 < (a5.length : Int))) = true then
  (Option.bind (idx a5 a7) fun v8 =>
  (Option.bind (idx a6 a7) fun v9 =>
  (if (!(v8 == v9)) = true then
  some false
  else
  rec3 (a5, (a6, (IntKind.wrap .i64 (a7 + (1 : Int))))))))
  else
  some true)) n (x1, (x2, (0 : Int)))))
def sp_same (n : Nat) : Spec := ⟨pre_same, post_same, same n⟩
def env_same (n : Nat) : List (FuncId × Spec) := []
theorem run_same (n : Nat) (x : pre_same.T) : fnRun Tryd.prog 50 (envG (env_same n) [] (fun _ => none)) n Tryd.f17 ann_same pre_same post_same x = same n x := by kernel_rfl
theorem ok_same (n : Nat) : FnOK Tryd.prog 50 LS 17 (sp_same n) :=
  fn_run mixed Tryd.func17 (sp_same n) n ann_same (env_same n) envOf_nil [] (fun _ => none) gl_none (run_same n) (by kernel_rfl)
def pre_rSmall : Shape := ⟨[.c (.dat .str)], []⟩
def post_rSmall : List Shape := [⟨[.c (.dat .str)], []⟩]
def ann_rSmall : Ann := (.two .no (.two .no (.two (.two .no (.one (.loop ⟨[0, 3, 4], ⟨[.c (.dat .str), .c (.own 500), .c (.dat (.int .i64))], [(500, .row 5 (.int .u8))]⟩⟩ .no))) .no)))
/-- what turnstile/turnstileref08.small comes to. -/
def rSmall (n : Nat) (x : List Int) : Option (List Int) :=
  (loopF (X := (List Int) × Int × List Int) (A := List Int) (fun rec2 y3 => match y3 with
  | (a4, (a5, a6)) =>
  (if (decide (a5 < (a4.length : Int))) = true then
  (Option.bind (idx a4 a5) fun v7 =>
  (if (decide (v7 ≥ (65 : Int))) = true then
  (if (decide (v7 ≤ (90 : Int))) = true then
  (if (a6.length + 1) * 1 ≤ 140737488355328 then
  (let u8 : List Int := (a6 ++ ([(IntKind.wrap .u8 (v7 + (32 : Int)))] : List Int))
  rec2 (a4, ((IntKind.wrap .i64 (a5 + (1 : Int))), u8)))
  else none)
  else
  (if (a6.length + 1) * 1 ≤ 140737488355328 then
  rec2 (a4, ((IntKind.wrap .i64 (a5 + (1 : Int))), (a6 ++ ([v7] : List Int))))
  else none))
  else
  (if (a6.length + 1) * 1 ≤ 140737488355328 then
  rec2 (a4, ((IntKind.wrap .i64 (a5 + (1 : Int))), (a6 ++ ([v7] : List Int))))
  else none)))
  else
  some a6)) n (x, ((0 : Int), ([] : List Int))))
def sp_rSmall (n : Nat) : Spec := ⟨pre_rSmall, post_rSmall, rSmall n⟩
def env_rSmall (n : Nat) : List (FuncId × Spec) := []
theorem run_rSmall (n : Nat) (x : pre_rSmall.T) : fnRun Tryd.prog 50 (envG (env_rSmall n) [] (fun _ => none)) n Tryd.f30 ann_rSmall pre_rSmall post_rSmall x = rSmall n x := by kernel_rfl
theorem ok_rSmall (n : Nat) : FnOK Tryd.prog 50 LS 30 (sp_rSmall n) :=
  fn_run mixed Tryd.func30 (sp_rSmall n) n ann_rSmall (env_rSmall n) envOf_nil [] (fun _ => none) gl_none (run_rSmall n) (by kernel_rfl)
def pre_rLetter : Shape := ⟨[.c (.dat (.int .u8))], []⟩
def post_rLetter : List Shape := [⟨[.c (.dat .bool)], []⟩]
def ann_rLetter : Ann := .no
/-- what turnstile/turnstileref08.letter comes to. -/
def rLetter (n : Nat) (x : Int) : Option (Bool) :=
  (if (decide (x ≥ (97 : Int))) = true then
  (if (decide (x ≤ (122 : Int))) = true then
  some true
  else
  (if (decide (x ≥ (65 : Int))) = true then
  (if (decide (x ≤ (90 : Int))) = true then
  some true
  else
  (if (decide (x ≥ (48 : Int))) = true then
  some (decide (x ≤ (57 : Int)))
  else
  some false))
  else
  (if (decide (x ≥ (48 : Int))) = true then
  some (decide (x ≤ (57 : Int)))
  else
  some false)))
  else
  (if (decide (x ≥ (65 : Int))) = true then
  (if (decide (x ≤ (90 : Int))) = true then
  some true
  else
  (if (decide (x ≥ (48 : Int))) = true then
  some (decide (x ≤ (57 : Int)))
  else
  some false))
  else
  (if (decide (x ≥ (48 : Int))) = true then
  some (decide (x ≤ (57 : Int)))
  else
  some false)))
def sp_rLetter (n : Nat) : Spec := ⟨pre_rLetter, post_rLetter, rLetter n⟩
def env_rLetter (n : Nat) : List (FuncId × Spec) := []
theorem run_rLetter (n : Nat) (x : pre_rLetter.T) : fnRun Tryd.prog 50 (envG (env_rLetter n) [] (fun _ => none)) n Tryd.f31 ann_rLetter pre_rLetter post_rLetter x = rLetter n x := by kernel_rfl
theorem ok_rLetter (n : Nat) : FnOK Tryd.prog 50 LS 31 (sp_rLetter n) :=
  fn_run mixed Tryd.func31 (sp_rLetter n) n ann_rLetter (env_rLetter n) envOf_nil [] (fun _ => none) gl_none (run_rLetter n) (by kernel_rfl)
def pre_rAmong : Shape := ⟨[.c (.dat (.int .u8)), .c (.dat .str)], []⟩
def post_rAmong : List Shape := [⟨[.c (.dat .bool)], []⟩]
def ann_rAmong : Ann := (.two .no (.two (.two .no (.one (.loop ⟨[0, 1, 5], ⟨[.c (.dat (.int .u8)), .c (.dat .str), .c (.dat (.int .i64))], []⟩⟩ .no))) .no))
/-- what turnstile/turnstileref08.among comes to. -/
def rAmong (n : Nat) (x : Int × List Int) : Option (Bool) :=
  match x with
  | (x1, x2) =>
  (loopF (X := Int × (List Int) × Int) (A := Bool) (fun rec3 y4 => match y4 with
  | (a5, (a6, a7)) =>
  (if (decide (a7 < (a6.length : Int))) = true then
  (Option.bind (idx a6 a7) fun v8 =>
  (if (v8 == a5) = true then
  some true
  else
  rec3 (a5, (a6, (IntKind.wrap .i64 (a7 + (1 : Int)))))))
  else
  some false)) n (x1, (x2, (0 : Int))))
def sp_rAmong (n : Nat) : Spec := ⟨pre_rAmong, post_rAmong, rAmong n⟩
def env_rAmong (n : Nat) : List (FuncId × Spec) := []
theorem run_rAmong (n : Nat) (x : pre_rAmong.T) : fnRun Tryd.prog 50 (envG (env_rAmong n) [] (fun _ => none)) n Tryd.f32 ann_rAmong pre_rAmong post_rAmong x = rAmong n x := by kernel_rfl
theorem ok_rAmong (n : Nat) : FnOK Tryd.prog 50 LS 32 (sp_rAmong n) :=
  fn_run mixed Tryd.func32 (sp_rAmong n) n ann_rAmong (env_rAmong n) envOf_nil [] (fun _ => none) gl_none (run_rAmong n) (by kernel_rfl)
def pre_bldByte : Shape := ⟨[.c (.ptr 0 0), .c (.dat (.int .u8))], [(0, .cells 60 [.slf 0, .own 1]), (1, .row 5 (.int .u8))]⟩
def post_bldByte : List Shape := [⟨[.c (.errc (0))], [(0, .cells 60 [.slf 0, .own 1]), (1, .row 5 (.int .u8))]⟩]
def ann_bldByte : Ann := .no
/-- what (strings.Builder).WriteByte comes to. -/
def bldByte (n : Nat) (x : Int × List Int) : Option (List Int) :=
  match x with
  | (x1, x2) =>
  (Option.bind (bldCheck n x2) fun r3 =>
  (if (r3.length + 1) * 1 ≤ 140737488355328 then
  some (r3 ++ ([x1] : List Int))
  else none))
def sp_bldByte (n : Nat) : Spec := ⟨pre_bldByte, post_bldByte, bldByte n⟩
def env_bldByte (n : Nat) : List (FuncId × Spec) := [(61, sp_bldCheck n)]
theorem run_bldByte (n : Nat) (x : pre_bldByte.T) : fnRun Tryd.prog 50 (envG (env_bldByte n) [] (fun _ => none)) n Tryd.f34 ann_bldByte pre_bldByte post_bldByte x = bldByte n x := by kernel_rfl
theorem ok_bldByte (n : Nat) : FnOK Tryd.prog 50 LS 34 (sp_bldByte n) :=
  fn_run mixed Tryd.func34 (sp_bldByte n) n ann_bldByte (env_bldByte n) (envOf_cons (ok_bldCheck n) envOf_nil) [] (fun _ => none) gl_none (run_bldByte n) (by kernel_rfl)
def pre_bldStr : Shape := ⟨[.c (.ptr 0 0), .c (.dat .str)], [(0, .cells 60 [.slf 0, .own 1]), (1, .row 5 (.int .u8))]⟩
def post_bldStr : List Shape := [⟨[.c (.dat (.int .i64)), .c (.errc (0))], [(0, .cells 60 [.slf 0, .own 1]), (1, .row 5 (.int .u8))]⟩]
def ann_bldStr : Ann := .no
/-- what (strings.Builder).WriteString comes to. -/
def bldStr (n : Nat) (x : (List Int) × List Int) : Option (Int × List Int) :=
  match x with
  | (x1, x2) =>
  (Option.bind (bldCheck n x2) fun r3 =>
  (if (r3.length + x1.length) * 1 ≤ 140737488355328 then
  some ((x1.length : Int), (r3 ++ x1))
  else none))
def sp_bldStr (n : Nat) : Spec := ⟨pre_bldStr, post_bldStr, bldStr n⟩
def env_bldStr (n : Nat) : List (FuncId × Spec) := [(61, sp_bldCheck n)]
theorem run_bldStr (n : Nat) (x : pre_bldStr.T) : fnRun Tryd.prog 50 (envG (env_bldStr n) [] (fun _ => none)) n Tryd.f36 ann_bldStr pre_bldStr post_bldStr x = bldStr n x := by kernel_rfl
theorem ok_bldStr (n : Nat) : FnOK Tryd.prog 50 LS 36 (sp_bldStr n) :=
  fn_run mixed Tryd.func36 (sp_bldStr n) n ann_bldStr (env_bldStr n) (envOf_cons (ok_bldCheck n) envOf_nil) [] (fun _ => none) gl_none (run_bldStr n) (by kernel_rfl)
def pre_coded : Shape := ⟨[.c (.dat (.int .u8))], []⟩
def post_coded : List Shape := [⟨[.c (.dat .str)], []⟩]
def ann_coded : Ann := .no
/-- what turnstile/target.coded comes to. -/
def coded (n : Nat) (x : Int) : Option (List Int) :=
  (let u2 : Int := (IntKind.wrap .u8 ((Int.fdiv x 16) + (1 : Int)))
  (if 0 ≤ (Int.fdiv x 16) ∧ (Int.fdiv x 16) ≤ u2 ∧ u2 ≤ (16 : Int) then
  (let u3 : List Int := ((([(48 : Int), (49 : Int), (50 : Int), (51 : Int), (52 : Int), (53 : Int), (54 : Int), (55 : Int), (56 : Int), (57 : Int), (65 : Int), (66 : Int), (67 : Int), (68 : Int), (69 : Int), (70 : Int)] : List Int).drop (Int.fdiv x 16).toNat).take (u2.toNat - (Int.fdiv x 16).toNat))
  (if 1 + u3.length ≤ 140737488355328 then
  (let u4 : Int := (IntKind.wrap .u8 ((bits .and .u8 x (15 : Int)) + (1 : Int)))
  (if 0 ≤ (bits .and .u8 x (15 : Int)) ∧ (bits .and .u8 x (15 : Int)) ≤ u4 ∧ u4 ≤ (16 : Int) then
  (let u5 : List Int := ((([(48 : Int), (49 : Int), (50 : Int), (51 : Int), (52 : Int), (53 : Int), (54 : Int), (55 : Int), (56 : Int), (57 : Int), (65 : Int), (66 : Int), (67 : Int), (68 : Int), (69 : Int), (70 : Int)] : List Int).drop (bits .and .u8 x (15 : Int)).toNat).take (u4.toNat - (bits .and .u8 x (15 : Int)).toNat))
  (if (([(37 : Int)] : List Int) ++ u3).length + u5.length ≤ 140737488355328 then
  (let u6 : List Int := ((([(37 : Int)] : List Int) ++ u3) ++ u5)
  some u6)
  else none))
  else none))
  else none))
  else none))
def sp_coded (n : Nat) : Spec := ⟨pre_coded, post_coded, coded n⟩
def env_coded (n : Nat) : List (FuncId × Spec) := []
theorem run_coded (n : Nat) (x : pre_coded.T) : fnRun Tryd.prog 50 (envG (env_coded n) [] (fun _ => none)) n Tryd.f37 ann_coded pre_coded post_coded x = coded n x := by kernel_rfl
theorem ok_coded (n : Nat) : FnOK Tryd.prog 50 LS 37 (sp_coded n) :=
  fn_run mixed Tryd.func37 (sp_coded n) n ann_coded (env_coded n) envOf_nil [] (fun _ => none) gl_none (run_coded n) (by kernel_rfl)
def pre_join : Shape := ⟨[.c (.dat (.list .str)), .c (.dat .str)], []⟩
def post_join : List Shape := [⟨[.c (.dat .str)], []⟩]
def ann_join : Ann := (.two .no (.two .no (.two .no (.two (.join ⟨[0, 1, 5], ⟨[.c (.dat (.list .str)), .c (.dat .str), .c (.dat (.int .i64))], []⟩⟩ .no) (.two (.two .no (.one (.loop ⟨[0, 1, 5, 39, 40, 41], ⟨[.c (.dat (.list .str)), .c (.dat .str), .c (.dat (.int .i64)), .c (.dat (.list .str)), .c (.dat (.int .i64)), .c (.dat (.int .i64))], []⟩⟩ .no))) (.two .no (.two .no (.two .no (.two (.two .no (.one (.loop ⟨[1, 8, 63, 64, 65], ⟨[.c (.dat .str), .c (.ptr 500 0), .c (.dat (.list .str)), .c (.dat (.int .i64)), .c (.dat (.int .i64))], [(500, .cells 60 [.slf 500, .own 501]), (501, .row 5 (.int .u8))]⟩⟩ .no))) .no)))))))))
/-- what strings.Join comes to. -/
def join (n : Nat) (x : (List (List Int)) × List Int) : Option (List Int) :=
  match x with
  | (x1, x2) =>
  (if ((x1.length : Int) == (0 : Int)) = true then
  some ([] : List Int)
  else
  (if ((x1.length : Int) == (1 : Int)) = true then
  (Option.bind (idx x1 (0 : Int)) fun v3 =>
  some v3)
  else
  (Option.bind (α := Out ((List (List Int)) × (List Int) × Int) (List Int)) ((if (decide ((x2.length : Int) > (0 : Int))) = true then
  (let u4 : Int := (IntKind.wrap .i64 ((x1.length : Int) - (1 : Int)))
  (if u4 = 0 then none else
  (let u5 : Int := (IntKind.wrap .i64 (Int.tdiv (9223372036854775807 : Int) u4))
  (if (decide ((x2.length : Int) ≥ u5)) = true then
  none
  else
  (let u6 : Int := (IntKind.wrap .i64 ((x1.length : Int) - (1 : Int)))
  (let u7 : Int := (IntKind.wrap .i64 ((x2.length : Int) * u6))
  (some (Out.go (x1, (x2, (IntKind.wrap .i64 ((0 : Int) + u7))))))))))))
  else
  (some (Out.go (x1, (x2, (0 : Int))))))) fun o => match o with
  | .go (z9, (z10, z11)) =>
  (loopF (X := (List (List Int)) × (List Int) × Int × (List (List Int)) × Int × Int) (A := List Int) (fun rec12 y13 => match y13 with
  | (a14, (a15, (a16, (a17, (a18, a19))))) =>
  (if (decide (a19 < a18)) = true then
  (Option.bind (idx a17 a19) fun v20 =>
  (let u21 : Int := (IntKind.wrap .i64 ((9223372036854775807 : Int) - a16))
  (if (decide ((v20.length : Int) > u21)) = true then
  none
  else
  (let u22 : Int := (IntKind.wrap .i64 (a16 + (v20.length : Int)))
  (let u23 : Int := (IntKind.wrap .i64 (a19 + (1 : Int)))
  rec12 (a14, (a15, (u22, (a17, (a18, u23))))))))))
  else
  (Option.bind (bldGrow n a16) fun r24 =>
  (Option.bind (idx a14 (0 : Int)) fun v25 =>
  (Option.bind (bldStr n (v25, r24)) fun r26 =>
  (if 0 ≤ (1 : Int) ∧ (1 : Int) ≤ (a14.length : Int) ∧ (a14.length : Int) ≤ (a14.length : Int) then
  (let u27 : List (List Int) := ((a14.drop 1).take (((a14.length : Int)).toNat - 1))
  (loopF (X := (List Int) × (List (List Int)) × Int × Int × List Int) (A := List Int) (fun rec28 y29 => match y29 with
  | (a30, (a31, (a32, (a33, a34)))) =>
  (if (decide (a33 < a32)) = true then
  (Option.bind (idx a31 a33) fun v35 =>
  (Option.bind (bldStr n (a30, a34)) fun r36 =>
  (Option.bind (bldStr n (v35, r36.2)) fun r37 =>
  (let u38 : Int := (IntKind.wrap .i64 (a33 + (1 : Int)))
  rec28 (a30, (a31, (a32, (u38, r37.2))))))))
  else
  (Option.bind (bldString n a34) fun r39 =>
  some r39))) n (a15, (u27, ((u27.length : Int), ((0 : Int), r26.2))))))
  else none)))))) n (z9, (z10, (z11, (z9, ((z9.length : Int), (0 : Int)))))))
  | .ret r40 => some r40)))
def sp_join (n : Nat) : Spec := ⟨pre_join, post_join, join n⟩
def env_join (n : Nat) : List (FuncId × Spec) := [(45, sp_bldGrow n), (36, sp_bldStr n), (39, sp_bldString n)]
theorem run_join (n : Nat) (x : pre_join.T) : fnRun Tryd.prog 50 (envG (env_join n) [] (fun _ => none)) n Tryd.f40 ann_join pre_join post_join x = join n x := by kernel_rfl
theorem ok_join (n : Nat) : FnOK Tryd.prog 50 LS 40 (sp_join n) :=
  fn_run mixed Tryd.func40 (sp_join n) n ann_join (env_join n) (envOf_cons (ok_bldGrow n) (envOf_cons (ok_bldStr n) (envOf_cons (ok_bldString n) envOf_nil))) [] (fun _ => none) gl_none (run_join n) (by kernel_rfl)
def pre_turnstileref08RSegments : Shape := ⟨[.c (.dat .str)], []⟩
def post_turnstileref08RSegments : List Shape := [⟨[.c (.dat (.list .str))], []⟩]
def ann_turnstileref08RSegments : Ann := (.two .no (.two .no (.two (.two .no (.one (.loop ⟨[0, 3, 4], ⟨[.c (.dat .str), .c (.own 500), .c (.dat (.int .i64))], [(500, .row 9 .str)]⟩⟩ (.two .no (.two (.one (.two .no (.two .no (.two (.one (.loop ⟨[0, 3, 4, 5], ⟨[.c (.dat .str), .c (.own 500), .c (.dat (.int .i64)), .c (.dat (.int .i64))], [(500, .row 9 .str)]⟩⟩ .no)) .no)))) .no))))) .no)))
/-- what turnstile/turnstileref08.segments comes to. -/
def turnstileref08RSegments (n : Nat) (x : List Int) : Option (List (List Int)) :=
  (loopF (X := (List Int) × Int × List (List Int)) (A := List (List Int)) (fun rec2 y3 => match y3 with
  | (a4, (a5, a6)) =>
  (if (decide (a5 < (a4.length : Int))) = true then
  (Option.bind (idx a4 a5) fun v7 =>
  (if (v7 != (47 : Int)) = true then
  rec2 (a4, ((IntKind.wrap .i64 (a5 + (1 : Int))), a6))
  else
  (loopF (X := (List Int) × Int × Int × List (List Int)) (A := List (List Int)) (fun rec8 y9 => match y9 with
  | (a10, (a11, (a12, a13))) =>
  (if (decide (a12 < (a10.length : Int))) = true then
  (Option.bind (idx a10 a12) fun v14 =>
  (if (v14 != (47 : Int)) = true then
  (let u15 : Int := (IntKind.wrap .i64 (a12 + (1 : Int)))
  rec8 (a10, (a11, (u15, a13))))
  else
  (let u16 : Int := (IntKind.wrap .i64 (a11 + (1 : Int)))
  (if 0 ≤ u16 ∧ u16 ≤ a12 ∧ a12 ≤ (a10.length : Int) then
  (let u17 : List Int := ((a10.drop u16.toNat).take (a12.toNat - u16.toNat))
  (if (a13.length + 1) * 16 ≤ 140737488355328 then
  (let u18 : Int := (IntKind.wrap .i64 (a11 + (1 : Int)))
  rec2 (a10, (u18, (a13 ++ ([u17] : List (List Int))))))
  else none))
  else none))))
  else
  (let u19 : Int := (IntKind.wrap .i64 (a11 + (1 : Int)))
  (if 0 ≤ u19 ∧ u19 ≤ a12 ∧ a12 ≤ (a10.length : Int) then
  (let u20 : List Int := ((a10.drop u19.toNat).take (a12.toNat - u19.toNat))
  (if (a13.length + 1) * 16 ≤ 140737488355328 then
  (let u21 : Int := (IntKind.wrap .i64 (a11 + (1 : Int)))
  rec2 (a10, (u21, (a13 ++ ([u20] : List (List Int))))))
  else none))
  else none)))) n (a4, (a5, ((IntKind.wrap .i64 (a5 + (1 : Int))), a6))))))
  else
  some a6)) n (x, ((0 : Int), ([] : List (List Int)))))
def sp_turnstileref08RSegments (n : Nat) : Spec := ⟨pre_turnstileref08RSegments, post_turnstileref08RSegments, turnstileref08RSegments n⟩
def env_turnstileref08RSegments (n : Nat) : List (FuncId × Spec) := []
theorem run_turnstileref08RSegments (n : Nat) (x : pre_turnstileref08RSegments.T) : fnRun Tryd.prog 50 (envG (env_turnstileref08RSegments n) [] (fun _ => none)) n Tryd.f42 ann_turnstileref08RSegments pre_turnstileref08RSegments post_turnstileref08RSegments x = turnstileref08RSegments n x := by kernel_rfl
theorem ok_turnstileref08RSegments (n : Nat) : FnOK Tryd.prog 50 LS 42 (sp_turnstileref08RSegments n) :=
  fn_run mixed Tryd.func42 (sp_turnstileref08RSegments n) n ann_turnstileref08RSegments (env_turnstileref08RSegments n) envOf_nil [] (fun _ => none) gl_none (run_turnstileref08RSegments n) (by kernel_rfl)
def pre_shouldUseASCIISet : Shape := ⟨[.c (.dat (.int .i64))], []⟩
def post_shouldUseASCIISet : List Shape := [⟨[.c (.dat .bool)], []⟩]
def ann_shouldUseASCIISet : Ann := .no
/-- what strings.shouldUseASCIISet comes to. -/
def shouldUseASCIISet (n : Nat) (x : Int) : Option (Bool) :=
  some (decide (x > (8 : Int)))
def sp_shouldUseASCIISet (n : Nat) : Spec := ⟨pre_shouldUseASCIISet, post_shouldUseASCIISet, shouldUseASCIISet n⟩
def env_shouldUseASCIISet (n : Nat) : List (FuncId × Spec) := []
theorem run_shouldUseASCIISet (n : Nat) (x : pre_shouldUseASCIISet.T) : fnRun Tryd.prog 50 (envG (env_shouldUseASCIISet n) [] (fun _ => none)) n Tryd.f49 ann_shouldUseASCIISet pre_shouldUseASCIISet post_shouldUseASCIISet x = shouldUseASCIISet n x := by kernel_rfl
theorem ok_shouldUseASCIISet (n : Nat) : FnOK Tryd.prog 50 LS 49 (sp_shouldUseASCIISet n) :=
  fn_run mixed Tryd.func49 (sp_shouldUseASCIISet n) n ann_shouldUseASCIISet (env_shouldUseASCIISet n) envOf_nil [] (fun _ => none) gl_none (run_shouldUseASCIISet n) (by kernel_rfl)
def pre_makeASCIISet : Shape := ⟨[.c (.dat .str)], []⟩
def post_makeASCIISet : List Shape := [⟨[.sg [.blk (.arr 256 .bool)], .c (.dat .bool)], []⟩]
def ann_makeASCIISet : Ann := (.two .no (.two (.two .no (.one (.loop ⟨[0, 2, 4], ⟨[.c (.dat .str), .c (.arr 500 1), .c (.dat (.int .i64))], [(500, .row 77 .bool)]⟩⟩ .no))) .no))
/-- what strings.makeASCIISet comes to. -/
def makeASCIISet (n : Nat) (x : List Int) : Option ((List Bool) × Bool) :=
  (loopF (X := (List Int) × Int × List Bool) (A := (List Bool) × Bool) (fun rec2 y3 => match y3 with
  | (a4, (a5, a6)) =>
  (if (decide (a5 < (a4.length : Int))) = true then
  (Option.bind (idx a4 a5) fun v7 =>
  (if (decide (v7 ≥ (128 : Int))) = true then
  (if 256 = a6.length then
  (if 256 = a6.length ∧ 256 = a6.length then
  (if 256 = a6.length then
  some (a6, false)
  else none)
  else none)
  else none)
  else
  (if 256 = a6.length then
  (if 0 ≤ v7 ∧ v7 < (a6.length : Int) then
  rec2 (a4, ((IntKind.wrap .i64 (a5 + (1 : Int))), (a6.set v7.toNat true)))
  else none)
  else none)))
  else
  (if 256 = a6.length then
  (if 256 = a6.length ∧ 256 = a6.length then
  (if 256 = a6.length then
  some (a6, true)
  else none)
  else none)
  else none))) n (x, ((0 : Int), ([false, false, false, false, false, false, false, false, false, false, false, false, false, false, false, false, false, false, false, false, false, false, false, false, false, false, false, false, false, false, false, false, false, false, false, false, false, false, false, false, false, false, false, false, false, false, false, false, false, false, false, false, false, false, false, false, false, false, false, false, false, false, false, false, false, false, false, false, false, false, false, false, false, false, false, false, false, false, false, false, false, false, false, false, false, false, false, false, false, false, false, false, false, false, false, false, false, false, false, false, false, false, false, false, false, false, false, false, false, false, false, false, false, false, false, false, false, false, false, false, false, false, false, false, false, false, false, false, false, false, false, false, false, false, false, false, false, false, false, false, false, false, false, false, false, false, false, false, false, false, false, false, false, false, false, false, false, false, false, false, false, false, false, false, false, false, false, false, false, false, false, false, false, false, false, false, false, false, false, false, false, false, false, false, false, false, false, false, false, false, false, false, false, false, false, false, false, false, false, false, false, false, false, false, false, false, false, false, false, false, false, false, false, false, false, false, false, false, false, false, false, false, false, false, false, false, false, false, false, false, false, false, false, false, false, false, false, false, false, false, false, false, false, false, false, false, false, false, false, false, false, false, false, false, false, false] : List Bool))))
def sp_makeASCIISet (n : Nat) : Spec := ⟨pre_makeASCIISet, post_makeASCIISet, makeASCIISet n⟩
def env_makeASCIISet (n : Nat) : List (FuncId × Spec) := []
theorem run_makeASCIISet (n : Nat) (x : pre_makeASCIISet.T) : fnRun Tryd.prog 50 (envG (env_makeASCIISet n) [] (fun _ => none)) n Tryd.f50 ann_makeASCIISet pre_makeASCIISet post_makeASCIISet x = makeASCIISet n x := by kernel_rfl
theorem ok_makeASCIISet (n : Nat) : FnOK Tryd.prog 50 LS 50 (sp_makeASCIISet n) :=
  fn_run mixed Tryd.func50 (sp_makeASCIISet n) n ann_makeASCIISet (env_makeASCIISet n) envOf_nil [] (fun _ => none) gl_none (run_makeASCIISet n) (by kernel_rfl)
def pre_setHas : Shape := ⟨[.c (.arr 250 1), .c (.dat (.int .u8))], [(250, .row 77 .bool)]⟩
def post_setHas : List Shape := [⟨[.c (.dat .bool)], [(250, .row 77 .bool)]⟩]
def ann_setHas : Ann := .no
/-- what (strings.asciiSet).contains comes to. -/
def setHas (n : Nat) (x : Int × List Bool) : Option (Bool × List Bool) :=
  match x with
  | (x1, x2) =>
  (if 256 = x2.length then
  (if 0 ≤ x1 ∧ x1 < (x2.length : Int) then
  some ((x2.getD x1.toNat false), x2)
  else none)
  else none)
def sp_setHas (n : Nat) : Spec := ⟨pre_setHas, post_setHas, setHas n⟩
def env_setHas (n : Nat) : List (FuncId × Spec) := []
theorem run_setHas (n : Nat) (x : pre_setHas.T) : fnRun Tryd.prog 50 (envG (env_setHas n) [] (fun _ => none)) n Tryd.f51 ann_setHas pre_setHas post_setHas x = setHas n x := by kernel_rfl
theorem ok_setHas (n : Nat) : FnOK Tryd.prog 50 LS 51 (sp_setHas n) :=
  fn_run mixed Tryd.func51 (sp_setHas n) n ann_setHas (env_setHas n) envOf_nil [] (fun _ => none) gl_none (run_setHas n) (by kernel_rfl)
def pre_letter : Shape := ⟨[.c (.dat (.int .u8))], []⟩
def post_letter : List Shape := [⟨[.c (.dat .bool)], []⟩]
def ann_letter : Ann := .no
/-- what turnstile/target.letter comes to. -/
def letter (n : Nat) (x : Int) : Option (Bool) :=
  (if (decide ((bits .or .u8 x (32 : Int)) ≥ (97 : Int))) = true then
  some (decide ((bits .or .u8 x (32 : Int)) ≤ (122 : Int)))
  else
  some false)
def sp_letter (n : Nat) : Spec := ⟨pre_letter, post_letter, letter n⟩
def env_letter (n : Nat) : List (FuncId × Spec) := []
theorem run_letter (n : Nat) (x : pre_letter.T) : fnRun Tryd.prog 50 (envG (env_letter n) [] (fun _ => none)) n Tryd.f52 ann_letter pre_letter post_letter x = letter n x := by kernel_rfl
theorem ok_letter (n : Nat) : FnOK Tryd.prog 50 LS 52 (sp_letter n) :=
  fn_run mixed Tryd.func52 (sp_letter n) n ann_letter (env_letter n) envOf_nil [] (fun _ => none) gl_none (run_letter n) (by kernel_rfl)
def pre_digit : Shape := ⟨[.c (.dat (.int .u8))], []⟩
def post_digit : List Shape := [⟨[.c (.dat .bool)], []⟩]
def ann_digit : Ann := .no
/-- what turnstile/target.digit comes to. -/
def digit (n : Nat) (x : Int) : Option (Bool) :=
  (if (decide (x ≥ (48 : Int))) = true then
  some (decide (x ≤ (57 : Int)))
  else
  some false)
def sp_digit (n : Nat) : Spec := ⟨pre_digit, post_digit, digit n⟩
def env_digit (n : Nat) : List (FuncId × Spec) := []
theorem run_digit (n : Nat) (x : pre_digit.T) : fnRun Tryd.prog 50 (envG (env_digit n) [] (fun _ => none)) n Tryd.f53 ann_digit pre_digit post_digit x = digit n x := by kernel_rfl
theorem ok_digit (n : Nat) : FnOK Tryd.prog 50 LS 53 (sp_digit n) :=
  fn_run mixed Tryd.func53 (sp_digit n) n ann_digit (env_digit n) envOf_nil [] (fun _ => none) gl_none (run_digit n) (by kernel_rfl)
def pre_rCut : Shape := ⟨[.c (.dat .str), .c (.dat (.int .u8))], []⟩
def post_rCut : List Shape := [⟨[.c (.dat .str), .c (.dat .str), .c (.dat .bool)], []⟩]
def ann_rCut : Ann := (.two .no (.two (.two .no (.one (.loop ⟨[0, 1, 7], ⟨[.c (.dat .str), .c (.dat (.int .u8)), .c (.dat (.int .i64))], []⟩⟩ .no))) .no))
/-- what turnstile/turnstileref08.cut comes to. -/
def rCut (n : Nat) (x : (List Int) × Int) : Option ((List Int) × (List Int) × Bool) :=
  match x with
  | (x1, x2) =>
  (loopF (X := (List Int) × Int × Int) (A := (List Int) × (List Int) × Bool) (fun rec3 y4 => match y4 with
  | (a5, (a6, a7)) =>
  (if (decide (a7 < (a5.length : Int))) = true then
  (Option.bind (idx a5 a7) fun v8 =>
  (if (v8 == a6) = true then
  (if 0 ≤ (0 : Int) ∧ (0 : Int) ≤ a7 ∧ a7 ≤ (a5.length : Int) then
  (if 0 ≤ (IntKind.wrap .i64 (a7 + (1 : Int))) ∧ (IntKind.wrap .i64 (a7 + (1 : Int))) ≤ (a5.length : Int) ∧ (a5.length : Int) ≤ (a5.length : Int) then
  (let u9 : List Int := ((a5.drop (IntKind.wrap .i64 (a7 + (1 : Int))).toNat).take (((a5.length : Int)).toNat - (IntKind.wrap .i64 (a7 + (1 : Int))).toNat))
  some (((a5.drop 0).take (a7.toNat - 0)), (u9, true)))
  else none)
  else none)
  else
  rec3 (a5, (a6, (IntKind.wrap .i64 (a7 + (1 : Int)))))))
  else
  some (a5, (([] : List Int), false)))) n (x1, (x2, (0 : Int))))
def sp_rCut (n : Nat) : Spec := ⟨pre_rCut, post_rCut, rCut n⟩
def env_rCut (n : Nat) : List (FuncId × Spec) := []
theorem run_rCut (n : Nat) (x : pre_rCut.T) : fnRun Tryd.prog 50 (envG (env_rCut n) [] (fun _ => none)) n Tryd.f58 ann_rCut pre_rCut post_rCut x = rCut n x := by kernel_rfl
theorem ok_rCut (n : Nat) : FnOK Tryd.prog 50 LS 58 (sp_rCut n) :=
  fn_run mixed Tryd.func58 (sp_rCut n) n ann_rCut (env_rCut n) envOf_nil [] (fun _ => none) gl_none (run_rCut n) (by kernel_rfl)
def pre_hex : Shape := ⟨[.c (.dat (.int .u8))], []⟩
def post_hex : List Shape := [⟨[.c (.dat (.int .u8)), .c (.dat .bool)], []⟩]
def ann_hex : Ann := .no
/-- what turnstile/target.hex comes to. -/
def hex (n : Nat) (x : Int) : Option (Int × Bool) :=
  (if (decide (x ≥ (65 : Int))) = true then
  (if (decide (x ≤ (70 : Int))) = true then
  (let u2 : Int := (IntKind.wrap .u8 ((IntKind.wrap .u8 (x + (32 : Int))) - (97 : Int)))
  some ((IntKind.wrap .u8 (u2 + (10 : Int))), true))
  else
  (if (decide (x ≥ (97 : Int))) = true then
  (if (decide (x ≤ (102 : Int))) = true then
  (let u3 : Int := (IntKind.wrap .u8 ((IntKind.wrap .u8 (x - (97 : Int))) + (10 : Int)))
  some (u3, true))
  else
  (Option.bind (digit n x) fun r4 =>
  (if r4 = true then
  some ((IntKind.wrap .u8 (x - (48 : Int))), true)
  else
  some ((0 : Int), false))))
  else
  (Option.bind (digit n x) fun r5 =>
  (if r5 = true then
  some ((IntKind.wrap .u8 (x - (48 : Int))), true)
  else
  some ((0 : Int), false)))))
  else
  (if (decide (x ≥ (97 : Int))) = true then
  (if (decide (x ≤ (102 : Int))) = true then
  (let u6 : Int := (IntKind.wrap .u8 ((IntKind.wrap .u8 (x - (97 : Int))) + (10 : Int)))
  some (u6, true))
  else
  (Option.bind (digit n x) fun r7 =>
  (if r7 = true then
  some ((IntKind.wrap .u8 (x - (48 : Int))), true)
  else
  some ((0 : Int), false))))
  else
  (Option.bind (digit n x) fun r8 =>
  (if r8 = true then
  some ((IntKind.wrap .u8 (x - (48 : Int))), true)
  else
  some ((0 : Int), false)))))
def sp_hex (n : Nat) : Spec := ⟨pre_hex, post_hex, hex n⟩
def env_hex (n : Nat) : List (FuncId × Spec) := [(53, sp_digit n)]
theorem run_hex (n : Nat) (x : pre_hex.T) : fnRun Tryd.prog 50 (envG (env_hex n) [] (fun _ => none)) n Tryd.f60 ann_hex pre_hex post_hex x = hex n x := by kernel_rfl
theorem ok_hex (n : Nat) : FnOK Tryd.prog 50 LS 60 (sp_hex n) :=
  fn_run mixed Tryd.func60 (sp_hex n) n ann_hex (env_hex n) (envOf_cons (ok_digit n) envOf_nil) [] (fun _ => none) gl_none (run_hex n) (by kernel_rfl)
def pre_validRune : Shape := ⟨[.c (.dat (.int .i32))], []⟩
def post_validRune : List Shape := [⟨[.c (.dat .bool)], []⟩]
def ann_validRune : Ann := .no
/-- what unicode/utf8.ValidRune comes to. -/
def validRune (n : Nat) (x : Int) : Option (Bool) :=
  (if (decide ((0 : Int) ≤ x)) = true then
  (if (decide (x < (55296 : Int))) = true then
  some true
  else
  (if (decide ((57343 : Int) < x)) = true then
  (if (decide (x ≤ (1114111 : Int))) = true then
  some true
  else
  some false)
  else
  some false))
  else
  (if (decide ((57343 : Int) < x)) = true then
  (if (decide (x ≤ (1114111 : Int))) = true then
  some true
  else
  some false)
  else
  some false))
def sp_validRune (n : Nat) : Spec := ⟨pre_validRune, post_validRune, validRune n⟩
def env_validRune (n : Nat) : List (FuncId × Spec) := []
theorem run_validRune (n : Nat) (x : pre_validRune.T) : fnRun Tryd.prog 50 (envG (env_validRune n) [] (fun _ => none)) n Tryd.f71 ann_validRune pre_validRune post_validRune x = validRune n x := by kernel_rfl
theorem ok_validRune (n : Nat) : FnOK Tryd.prog 50 LS 71 (sp_validRune n) :=
  fn_run mixed Tryd.func71 (sp_validRune n) n ann_validRune (env_validRune n) envOf_nil [] (fun _ => none) gl_none (run_validRune n) (by kernel_rfl)
def pre_cutover : Shape := ⟨[.c (.dat (.int .i64))], []⟩
def post_cutover : List Shape := [⟨[.c (.dat (.int .i64))], []⟩]
def ann_cutover : Ann := .no
/-- what internal/bytealg.Cutover comes to. -/
def cutover (n : Nat) (x : Int) : Option (Int) :=
  (let u2 : Int := (IntKind.wrap .i64 (Int.tdiv (IntKind.wrap .i64 (x + (16 : Int))) (8 : Int)))
  some u2)
def sp_cutover (n : Nat) : Spec := ⟨pre_cutover, post_cutover, cutover n⟩
def env_cutover (n : Nat) : List (FuncId × Spec) := []
theorem run_cutover (n : Nat) (x : pre_cutover.T) : fnRun Tryd.prog 50 (envG (env_cutover n) [] (fun _ => none)) n Tryd.f72 ann_cutover pre_cutover post_cutover x = cutover n x := by kernel_rfl
theorem ok_cutover (n : Nat) : FnOK Tryd.prog 50 LS 72 (sp_cutover n) :=
  fn_run mixed Tryd.func72 (sp_cutover n) n ann_cutover (env_cutover n) envOf_nil [] (fun _ => none) gl_none (run_cutover n) (by kernel_rfl)
def pre_index : Shape := ⟨[.c (.dat .str), .c (.dat .str)], []⟩
def post_index : List Shape := [⟨[.c (.dat (.int .i64))], []⟩]
def ann_index : Ann := .no
/-- what internal/stringslite.Index comes to. -/
def index (n : Nat) (x : (List Int) × List Int) : Option (Int) :=
  match x with
  | (x1, x2) =>
  (if ((x2.length : Int) == (0 : Int)) = true then
  some (0 : Int)
  else
  (if (x2 == x1) = true then
  some (0 : Int)
  else
  (if ((x2.length : Int) == (1 : Int)) = true then
  (Option.bind (idx x2 (0 : Int)) fun v3 =>
  (Option.bind (liteIndexByte n (x1, v3)) fun r4 =>
  some r4))
  else
  (if (decide ((x2.length : Int) ≥ (x1.length : Int))) = true then
  some (-1 : Int)
  else
  none))))
def sp_index (n : Nat) : Spec := ⟨pre_index, post_index, index n⟩
def env_index (n : Nat) : List (FuncId × Spec) := [(74, sp_liteIndexByte n), (72, sp_cutover n)]
theorem run_index (n : Nat) (x : pre_index.T) : fnRun Tryd.prog 50 (envG (env_index n) [] (fun _ => none)) n Tryd.f75 ann_index pre_index post_index x = index n x := by kernel_rfl
theorem ok_index (n : Nat) : FnOK Tryd.prog 50 LS 75 (sp_index n) :=
  fn_run mixed Tryd.func75 (sp_index n) n ann_index (env_index n) (envOf_cons (ok_liteIndexByte n) (envOf_cons (ok_cutover n) envOf_nil)) [] (fun _ => none) gl_none (run_index n) (by kernel_rfl)
def pre_stringsliteHasPrefix : Shape := ⟨[.c (.dat .str), .c (.dat .str)], []⟩
def post_stringsliteHasPrefix : List Shape := [⟨[.c (.dat .bool)], []⟩]
def ann_stringsliteHasPrefix : Ann := .no
/-- what internal/stringslite.HasPrefix comes to. -/
def stringsliteHasPrefix (n : Nat) (x : (List Int) × List Int) : Option (Bool) :=
  match x with
  | (x1, x2) =>
  (if (decide ((x1.length : Int) ≥ (x2.length : Int))) = true then
  (if 0 ≤ (0 : Int) ∧ (0 : Int) ≤ (x2.length : Int) ∧ (x2.length : Int) ≤ (x1.length : Int) then
  (let u3 : List Int := ((x1.drop 0).take ((x2.length : Int).toNat - 0))
  some (u3 == x2))
  else none)
  else
  some false)
def sp_stringsliteHasPrefix (n : Nat) : Spec := ⟨pre_stringsliteHasPrefix, post_stringsliteHasPrefix, stringsliteHasPrefix n⟩
def env_stringsliteHasPrefix (n : Nat) : List (FuncId × Spec) := []
theorem run_stringsliteHasPrefix (n : Nat) (x : pre_stringsliteHasPrefix.T) : fnRun Tryd.prog 50 (envG (env_stringsliteHasPrefix n) [] (fun _ => none)) n Tryd.f76 ann_stringsliteHasPrefix pre_stringsliteHasPrefix post_stringsliteHasPrefix x = stringsliteHasPrefix n x := by kernel_rfl
theorem ok_stringsliteHasPrefix (n : Nat) : FnOK Tryd.prog 50 LS 76 (sp_stringsliteHasPrefix n) :=
  fn_run mixed Tryd.func76 (sp_stringsliteHasPrefix n) n ann_stringsliteHasPrefix (env_stringsliteHasPrefix n) envOf_nil [] (fun _ => none) gl_none (run_stringsliteHasPrefix n) (by kernel_rfl)
def pre_stringsIndex : Shape := ⟨[.c (.dat .str), .c (.dat .str)], []⟩
def post_stringsIndex : List Shape := [⟨[.c (.dat (.int .i64))], []⟩]
def ann_stringsIndex : Ann := .no
/-- what strings.Index comes to. -/
def stringsIndex (n : Nat) (x : (List Int) × List Int) : Option (Int) :=
  match x with
  | (x1, x2) =>
  (Option.bind (index n (x1, x2)) fun r3 =>
  some r3)
def sp_stringsIndex (n : Nat) : Spec := ⟨pre_stringsIndex, post_stringsIndex, stringsIndex n⟩
def env_stringsIndex (n : Nat) : List (FuncId × Spec) := [(75, sp_index n)]
theorem run_stringsIndex (n : Nat) (x : pre_stringsIndex.T) : fnRun Tryd.prog 50 (envG (env_stringsIndex n) [] (fun _ => none)) n Tryd.f81 ann_stringsIndex pre_stringsIndex post_stringsIndex x = stringsIndex n x := by kernel_rfl
theorem ok_stringsIndex (n : Nat) : FnOK Tryd.prog 50 LS 81 (sp_stringsIndex n) :=
  fn_run mixed Tryd.func81 (sp_stringsIndex n) n ann_stringsIndex (env_stringsIndex n) (envOf_cons (ok_index n) envOf_nil) [] (fun _ => none) gl_none (run_stringsIndex n) (by kernel_rfl)
def pre_rHex : Shape := ⟨[.c (.dat (.int .u8))], []⟩
def post_rHex : List Shape := [⟨[.c (.dat (.int .i64))], []⟩]
def ann_rHex : Ann := (.two .no (.two (.two .no (.one (.loop ⟨[0, 3], ⟨[.c (.dat (.int .u8)), .c (.dat (.int .i64))], []⟩⟩ .no))) .no))
/-- what turnstile/turnstileref08.hex comes to. -/
def rHex (n : Nat) (x : Int) : Option (Int) :=
  (loopF (X := Int × Int) (A := Int) (fun rec2 y3 => match y3 with
  | (a4, a5) =>
  (if (decide (a5 < (16 : Int))) = true then
  (Option.bind (idx ([(48 : Int), (49 : Int), (50 : Int), (51 : Int), (52 : Int), (53 : Int), (54 : Int), (55 : Int), (56 : Int), (57 : Int), (97 : Int), (98 : Int), (99 : Int), (100 : Int), (101 : Int), (102 : Int)] : List Int) a5) fun v6 =>
  (if (v6 == a4) = true then
  some a5
  else
  (if (decide (a4 ≥ (65 : Int))) = true then
  (if (decide (a4 ≤ (70 : Int))) = true then
  (Option.bind (idx ([(48 : Int), (49 : Int), (50 : Int), (51 : Int), (52 : Int), (53 : Int), (54 : Int), (55 : Int), (56 : Int), (57 : Int), (97 : Int), (98 : Int), (99 : Int), (100 : Int), (101 : Int), (102 : Int)] : List Int) a5) fun v7 =>
  (if (v7 == (IntKind.wrap .u8 (a4 + (32 : Int)))) = true then
  some a5
  else
  rec2 (a4, (IntKind.wrap .i64 (a5 + (1 : Int))))))
  else
  rec2 (a4, (IntKind.wrap .i64 (a5 + (1 : Int)))))
  else
  rec2 (a4, (IntKind.wrap .i64 (a5 + (1 : Int)))))))
  else
  some (-1 : Int))) n (x, (0 : Int)))
def sp_rHex (n : Nat) : Spec := ⟨pre_rHex, post_rHex, rHex n⟩
def env_rHex (n : Nat) : List (FuncId × Spec) := []
theorem run_rHex (n : Nat) (x : pre_rHex.T) : fnRun Tryd.prog 50 (envG (env_rHex n) [] (fun _ => none)) n Tryd.f83 ann_rHex pre_rHex post_rHex x = rHex n x := by kernel_rfl
theorem ok_rHex (n : Nat) : FnOK Tryd.prog 50 LS 83 (sp_rHex n) :=
  fn_run mixed Tryd.func83 (sp_rHex n) n ann_rHex (env_rHex n) envOf_nil [] (fun _ => none) gl_none (run_rHex n) (by kernel_rfl)
def pre_hashStrstring : Shape := ⟨[.c (.dat .str)], []⟩
def post_hashStrstring : List Shape := [⟨[.c (.dat (.int .u32)), .c (.dat (.int .u32))], []⟩]
def ann_hashStrstring : Ann := (.two .no (.two .no (.two (.two .no (.one (.loop ⟨[0, 4, 5], ⟨[.c (.dat .str), .c (.dat (.int .u32)), .c (.dat (.int .i64))], []⟩⟩ .no))) (.two .no (.two (.two .no (.one (.loop ⟨[4, 6, 7, 8], ⟨[.c (.dat (.int .u32)), .c (.dat (.int .u32)), .c (.dat (.int .u32)), .c (.dat (.int .i64))], []⟩⟩ .no))) .no)))))
/-- what internal/bytealg.hashStr[string] comes to. -/
def hashStrstring (n : Nat) (x : List Int) : Option (Int × Int) :=
  (loopF (X := (List Int) × Int × Int) (A := Int × Int) (fun rec2 y3 => match y3 with
  | (a4, (a5, a6)) =>
  (if (decide (a6 < (a4.length : Int))) = true then
  (let u7 : Int := (IntKind.wrap .u32 (a5 * (16777619 : Int)))
  (Option.bind (idx a4 a6) fun v8 =>
  (let u9 : Int := (IntKind.wrap .u32 (u7 + (IntKind.wrap .u32 v8)))
  rec2 (a4, (u9, (IntKind.wrap .i64 (a6 + (1 : Int))))))))
  else
  (loopF (X := Int × Int × Int × Int) (A := Int × Int) (fun rec10 y11 => match y11 with
  | (a12, (a13, (a14, a15))) =>
  (if (decide (a15 > (0 : Int))) = true then
  (if ((bits .and .i64 a15 (1 : Int)) != (0 : Int)) = true then
  rec10 (a12, ((IntKind.wrap .u32 (a13 * a14)), ((IntKind.wrap .u32 (a14 * a14)), (Int.fdiv a15 2))))
  else
  rec10 (a12, (a13, ((IntKind.wrap .u32 (a14 * a14)), (Int.fdiv a15 2)))))
  else
  some (a12, a13))) n (a5, ((1 : Int), ((16777619 : Int), (a4.length : Int))))))) n (x, ((0 : Int), (0 : Int))))
def sp_hashStrstring (n : Nat) : Spec := ⟨pre_hashStrstring, post_hashStrstring, hashStrstring n⟩
def env_hashStrstring (n : Nat) : List (FuncId × Spec) := []
theorem run_hashStrstring (n : Nat) (x : pre_hashStrstring.T) : fnRun Tryd.prog 50 (envG (env_hashStrstring n) [] (fun _ => none)) n Tryd.f95 ann_hashStrstring pre_hashStrstring post_hashStrstring x = hashStrstring n x := by kernel_rfl
theorem ok_hashStrstring (n : Nat) : FnOK Tryd.prog 50 LS 95 (sp_hashStrstring n) :=
  fn_run mixed Tryd.func95 (sp_hashStrstring n) n ann_hashStrstring (env_hashStrstring n) envOf_nil [] (fun _ => none) gl_none (run_hashStrstring n) (by kernel_rfl)
def pre_rUnreserved : Shape := ⟨[.c (.dat (.int .u8))], []⟩
def post_rUnreserved : List Shape := [⟨[.c (.dat .bool)], []⟩]
def ann_rUnreserved : Ann := .no
/-- what turnstile/turnstileref08.Unreserved comes to. -/
def rUnreserved (n : Nat) (x : Int) : Option (Bool) :=
  (Option.bind (rLetter n x) fun r2 =>
  (if r2 = true then
  some true
  else
  (Option.bind (rAmong n (x, ([(45 : Int), (46 : Int), (95 : Int), (126 : Int)] : List Int))) fun r3 =>
  some r3)))
def sp_rUnreserved (n : Nat) : Spec := ⟨pre_rUnreserved, post_rUnreserved, rUnreserved n⟩
def env_rUnreserved (n : Nat) : List (FuncId × Spec) := [(31, sp_rLetter n), (32, sp_rAmong n)]
theorem run_rUnreserved (n : Nat) (x : pre_rUnreserved.T) : fnRun Tryd.prog 50 (envG (env_rUnreserved n) [] (fun _ => none)) n Tryd.f19 ann_rUnreserved pre_rUnreserved post_rUnreserved x = rUnreserved n x := by kernel_rfl
theorem ok_rUnreserved (n : Nat) : FnOK Tryd.prog 50 LS 19 (sp_rUnreserved n) :=
  fn_run mixed Tryd.func19 (sp_rUnreserved n) n ann_rUnreserved (env_rUnreserved n) (envOf_cons (ok_rLetter n) (envOf_cons (ok_rAmong n) envOf_nil)) [] (fun _ => none) gl_none (run_rUnreserved n) (by kernel_rfl)
def pre_isHost : Shape := ⟨[.c (.dat .str)], []⟩
def post_isHost : List Shape := [⟨[.c (.dat .bool)], []⟩]
def ann_isHost : Ann := (.two .no (.two (.two .no (.one (.loop ⟨[0, 5, 6], ⟨[.c (.dat .str), .c (.dat (.int .i64)), .c (.dat (.int .i64))], []⟩⟩ .no))) .no))
/-- what turnstile/target.isHost comes to. -/
def isHost (n : Nat) (x : List Int) : Option (Bool) :=
  (loopF (X := (List Int) × Int × Int) (A := Bool) (fun rec2 y3 => match y3 with
  | (a4, (a5, a6)) =>
  (if (decide (a6 < a5)) = true then
  (Option.bind (idx a4 a6) fun v7 =>
  (Option.bind (letter n v7) fun r8 =>
  (if (!r8) = true then
  (Option.bind (idx a4 a6) fun v9 =>
  (Option.bind (digit n v9) fun r10 =>
  (if (!r10) = true then
  (Option.bind (idx a4 a6) fun v11 =>
  (Option.bind (stringsIndexByte n (([(45 : Int), (46 : Int), (95 : Int), (58 : Int)] : List Int), v11)) fun r12 =>
  (if (decide (r12 < (0 : Int))) = true then
  some false
  else
  rec2 (a4, (a5, (IntKind.wrap .i64 (a6 + (1 : Int))))))))
  else
  rec2 (a4, (a5, (IntKind.wrap .i64 (a6 + (1 : Int))))))))
  else
  rec2 (a4, (a5, (IntKind.wrap .i64 (a6 + (1 : Int))))))))
  else
  (if (decide ((a4.length : Int) ≥ (1 : Int))) = true then
  some (decide ((a4.length : Int) ≤ (255 : Int)))
  else
  some false))) n (x, ((x.length : Int), (0 : Int))))
def sp_isHost (n : Nat) : Spec := ⟨pre_isHost, post_isHost, isHost n⟩
def env_isHost (n : Nat) : List (FuncId × Spec) := [(52, sp_letter n), (53, sp_digit n), (54, sp_stringsIndexByte n)]
theorem run_isHost (n : Nat) (x : pre_isHost.T) : fnRun Tryd.prog 50 (envG (env_isHost n) [] (fun _ => none)) n Tryd.f25 ann_isHost pre_isHost post_isHost x = isHost n x := by kernel_rfl
theorem ok_isHost (n : Nat) : FnOK Tryd.prog 50 LS 25 (sp_isHost n) :=
  fn_run mixed Tryd.func25 (sp_isHost n) n ann_isHost (env_isHost n) (envOf_cons (ok_letter n) (envOf_cons (ok_digit n) (envOf_cons (ok_stringsIndexByte n) envOf_nil))) [] (fun _ => none) gl_none (run_isHost n) (by kernel_rfl)
def pre_code : Shape := ⟨[.c (.dat .str), .c (.dat (.int .i64))], []⟩
def post_code : List Shape := [⟨[.c (.dat (.int .u8)), .c (.dat .bool)], []⟩]
def ann_code : Ann := .no
/-- what turnstile/target.code comes to. -/
def code (n : Nat) (x : (List Int) × Int) : Option (Int × Bool) :=
  match x with
  | (x1, x2) =>
  (if (decide ((IntKind.wrap .i64 (x2 + (2 : Int))) ≥ (x1.length : Int))) = true then
  some ((0 : Int), false)
  else
  (Option.bind (idx x1 x2) fun v3 =>
  (if (v3 != (37 : Int)) = true then
  some ((0 : Int), false)
  else
  (Option.bind (idx x1 (IntKind.wrap .i64 (x2 + (1 : Int)))) fun v4 =>
  (Option.bind (hex n v4) fun r5 =>
  (Option.bind (idx x1 (IntKind.wrap .i64 (x2 + (2 : Int)))) fun v6 =>
  (Option.bind (hex n v6) fun r7 =>
  (let u8 : Int := (bits .or .u8 (IntKind.wrap .u8 (r5.1 * 16)) r7.1)
  (if r5.2 = true then
  some (u8, r7.2)
  else
  some (u8, false))))))))))
def sp_code (n : Nat) : Spec := ⟨pre_code, post_code, code n⟩
def env_code (n : Nat) : List (FuncId × Spec) := [(60, sp_hex n)]
theorem run_code (n : Nat) (x : pre_code.T) : fnRun Tryd.prog 50 (envG (env_code n) [] (fun _ => none)) n Tryd.f33 ann_code pre_code post_code x = code n x := by kernel_rfl
theorem ok_code (n : Nat) : FnOK Tryd.prog 50 LS 33 (sp_code n) :=
  fn_run mixed Tryd.func33 (sp_code n) n ann_code (env_code n) (envOf_cons (ok_hex n) envOf_nil) [] (fun _ => none) gl_none (run_code n) (by kernel_rfl)
def pre_unreserved : Shape := ⟨[.c (.dat (.int .u8))], []⟩
def post_unreserved : List Shape := [⟨[.c (.dat .bool)], []⟩]
def ann_unreserved : Ann := .no
/-- what turnstile/target.unreserved comes to. -/
def unreserved (n : Nat) (x : Int) : Option (Bool) :=
  (Option.bind (letter n x) fun r2 =>
  (if r2 = true then
  some true
  else
  (Option.bind (digit n x) fun r3 =>
  (if r3 = true then
  some true
  else
  (Option.bind (stringsIndexByte n (([(45 : Int), (46 : Int), (95 : Int), (126 : Int)] : List Int), x)) fun r4 =>
  some (decide (r4 ≥ (0 : Int))))))))
def sp_unreserved (n : Nat) : Spec := ⟨pre_unreserved, post_unreserved, unreserved n⟩
def env_unreserved (n : Nat) : List (FuncId × Spec) := [(52, sp_letter n), (53, sp_digit n), (54, sp_stringsIndexByte n)]
theorem run_unreserved (n : Nat) (x : pre_unreserved.T) : fnRun Tryd.prog 50 (envG (env_unreserved n) [] (fun _ => none)) n Tryd.f35 ann_unreserved pre_unreserved post_unreserved x = unreserved n x := by kernel_rfl
theorem ok_unreserved (n : Nat) : FnOK Tryd.prog 50 LS 35 (sp_unreserved n) :=
  fn_run mixed Tryd.func35 (sp_unreserved n) n ann_unreserved (env_unreserved n) (envOf_cons (ok_letter n) (envOf_cons (ok_digit n) (envOf_cons (ok_stringsIndexByte n) envOf_nil))) [] (fun _ => none) gl_none (run_unreserved n) (by kernel_rfl)
def pre_indexRune : Shape := ⟨[.c (.dat .str), .c (.dat (.int .i32))], []⟩
def post_indexRune : List Shape := [⟨[.c (.dat (.int .i64))], []⟩]
def ann_indexRune : Ann := (.two .no (.one (.two (.join ⟨[0, 1, 160], ⟨[.c (.dat .str), .c (.dat (.int .i32)), .c (.dat .bool)], []⟩⟩ .no) (.two .no (.two .no (.two (.two (.two .no (.one (.loop ⟨[175], ⟨[.c (.ptr 500 0)], [(500, .it)]⟩⟩ .no))) .no) (.two .no (.two .no (.one (.two .no (.two .no (.two .no (.two .no (.two (.one (.loop ⟨[0, 7, 8, 9], ⟨[.c (.dat .str), .c (.dat .str), .c (.dat (.int .i64)), .c (.dat (.int .i64))], []⟩⟩ (.two .no (.one (.one (.two .no (.two (.two .no (.one (.loop ⟨[0, 7, 8, 9, 12], ⟨[.c (.dat .str), .c (.dat .str), .c (.dat (.int .i64)), .c (.dat (.int .i64)), .c (.dat (.int .i64))], []⟩⟩ .no))) .no))))))) .no))))))))))))))
/-- what strings.IndexRune comes to. -/
def indexRune (n : Nat) (x : (List Int) × Int) : Option (Int) :=
  match x with
  | (x1, x2) =>
  (Option.bind (α := Out ((List Int) × Int × Bool) (Int)) ((if (decide ((0 : Int) ≤ x2)) = true then
  (some (Out.go (x1, (x2, (decide (x2 < (128 : Int)))))))
  else
  (some (Out.go (x1, (x2, false)))))) fun o => match o with
  | .go (z4, (z5, z6)) =>
  (if z6 = true then
  (Option.bind (stringsIndexByte n (z4, (IntKind.wrap .u8 z5))) fun r7 =>
  some r7)
  else
  (if (z5 == (65533 : Int)) = true then
  (loopF (X := (List Int) × Int) (A := Int) (fun rec8 y9 => match y9 with
  | (a10, a11) =>
  (if a11.toNat < List.length a10 then
  (let u12 : Int := (((u8d a10 a11.toNat).1 : Nat) : Int)
  (if (u12 == (65533 : Int)) = true then
  some ((a11.toNat : Nat) : Int)
  else
  rec8 (a10, (((a11.toNat + (u8d a10 a11.toNat).2) : Nat) : Int))))
  else
  some (-1 : Int))) n (z4, (0 : Int)))
  else
  (Option.bind (validRune n z5) fun r13 =>
  (if (!r13) = true then
  some (-1 : Int)
  else
  (let u14 : Int := ((bytesL (Utf8.encode z5)).length : Int)
  (let u15 : Int := (IntKind.wrap .i64 (u14 - (1 : Int)))
  (loopF (X := (List Int) × (List Int) × Int × Int) (A := Int) (fun rec16 y17 => match y17 with
  | (a18, (a19, (a20, a21))) =>
  (if (decide (a21 < (a18.length : Int))) = true then
  (Option.bind (idx a18 a21) fun v22 =>
  (Option.bind (idx a19 a20) fun v23 =>
  (if (v22 != v23) = true then
  (let u24 : Int := (IntKind.wrap .i64 (a21 + (1 : Int)))
  (if 0 ≤ u24 ∧ u24 ≤ (a18.length : Int) ∧ (a18.length : Int) ≤ (a18.length : Int) then
  (let u25 : List Int := ((a18.drop u24.toNat).take (((a18.length : Int)).toNat - u24.toNat))
  (Option.bind (idx a19 a20) fun v26 =>
  (Option.bind (stringsIndexByte n (u25, v26)) fun r27 =>
  (if (decide (r27 < (0 : Int))) = true then
  some (-1 : Int)
  else
  (let u28 : Int := (IntKind.wrap .i64 (r27 + (1 : Int)))
  (loopF (X := (List Int) × (List Int) × Int × Int × Int) (A := Int) (fun rec29 y30 => match y30 with
  | (a31, (a32, (a33, (a34, a35)))) =>
  (if (decide (a35 < (a32.length : Int))) = true then
  (Option.bind (idx a31 (IntKind.wrap .i64 (a34 - a35))) fun v36 =>
  (Option.bind (idx a32 (IntKind.wrap .i64 (a33 - a35))) fun v37 =>
  (if (v36 != v37) = true then
  none
  else
  (let u38 : Int := (IntKind.wrap .i64 (a35 + (1 : Int)))
  rec29 (a31, (a32, (a33, (a34, u38))))))))
  else
  some (IntKind.wrap .i64 (a34 - a33)))) n (a18, (a19, (a20, ((IntKind.wrap .i64 (a21 + u28)), (1 : Int)))))))))))
  else none))
  else
  (loopF (X := (List Int) × (List Int) × Int × Int × Int) (A := Int) (fun rec39 y40 => match y40 with
  | (a41, (a42, (a43, (a44, a45)))) =>
  (if (decide (a45 < (a42.length : Int))) = true then
  (Option.bind (idx a41 (IntKind.wrap .i64 (a44 - a45))) fun v46 =>
  (Option.bind (idx a42 (IntKind.wrap .i64 (a43 - a45))) fun v47 =>
  (if (v46 != v47) = true then
  none
  else
  (let u48 : Int := (IntKind.wrap .i64 (a45 + (1 : Int)))
  rec39 (a41, (a42, (a43, (a44, u48))))))))
  else
  some (IntKind.wrap .i64 (a44 - a43)))) n (a18, (a19, (a20, (a21, (1 : Int)))))))))
  else
  some (-1 : Int))) n (z4, ((bytesL (Utf8.encode z5)), (u15, u15))))))))))
  | .ret r49 => some r49)
def sp_indexRune (n : Nat) : Spec := ⟨pre_indexRune, post_indexRune, indexRune n⟩
def env_indexRune (n : Nat) : List (FuncId × Spec) := [(54, sp_stringsIndexByte n), (71, sp_validRune n), (72, sp_cutover n)]
theorem run_indexRune (n : Nat) (x : pre_indexRune.T) : fnRun Tryd.prog 50 (envG (env_indexRune n) [] (fun _ => none)) n Tryd.f48 ann_indexRune pre_indexRune post_indexRune x = indexRune n x := by kernel_rfl
theorem ok_indexRune (n : Nat) : FnOK Tryd.prog 50 LS 48 (sp_indexRune n) :=
  fn_run mixed Tryd.func48 (sp_indexRune n) n ann_indexRune (env_indexRune n) (envOf_cons (ok_stringsIndexByte n) (envOf_cons (ok_validRune n) (envOf_cons (ok_cutover n) envOf_nil))) [] (fun _ => none) gl_none (run_indexRune n) (by kernel_rfl)
def pre_stringsliteCut : Shape := ⟨[.c (.dat .str), .c (.dat .str)], []⟩
def post_stringsliteCut : List Shape := [⟨[.c (.dat .str), .c (.dat .str), .c (.dat .bool)], []⟩]
def ann_stringsliteCut : Ann := .no
/-- what internal/stringslite.Cut comes to. -/
def stringsliteCut (n : Nat) (x : (List Int) × List Int) : Option ((List Int) × (List Int) × Bool) :=
  match x with
  | (x1, x2) =>
  (Option.bind (index n (x1, x2)) fun r3 =>
  (if (decide (r3 ≥ (0 : Int))) = true then
  (if 0 ≤ (0 : Int) ∧ (0 : Int) ≤ r3 ∧ r3 ≤ (x1.length : Int) then
  (let u4 : Int := (IntKind.wrap .i64 (r3 + (x2.length : Int)))
  (if 0 ≤ u4 ∧ u4 ≤ (x1.length : Int) ∧ (x1.length : Int) ≤ (x1.length : Int) then
  (let u5 : List Int := ((x1.drop u4.toNat).take (((x1.length : Int)).toNat - u4.toNat))
  some (((x1.drop 0).take (r3.toNat - 0)), (u5, true)))
  else none))
  else none)
  else
  some (x1, (([] : List Int), false))))
def sp_stringsliteCut (n : Nat) : Spec := ⟨pre_stringsliteCut, post_stringsliteCut, stringsliteCut n⟩
def env_stringsliteCut (n : Nat) : List (FuncId × Spec) := [(75, sp_index n)]
theorem run_stringsliteCut (n : Nat) (x : pre_stringsliteCut.T) : fnRun Tryd.prog 50 (envG (env_stringsliteCut n) [] (fun _ => none)) n Tryd.f55 ann_stringsliteCut pre_stringsliteCut post_stringsliteCut x = stringsliteCut n x := by kernel_rfl
theorem ok_stringsliteCut (n : Nat) : FnOK Tryd.prog 50 LS 55 (sp_stringsliteCut n) :=
  fn_run mixed Tryd.func55 (sp_stringsliteCut n) n ann_stringsliteCut (env_stringsliteCut n) (envOf_cons (ok_index n) envOf_nil) [] (fun _ => none) gl_none (run_stringsliteCut n) (by kernel_rfl)
def pre_hasPrefix : Shape := ⟨[.c (.dat .str), .c (.dat .str)], []⟩
def post_hasPrefix : List Shape := [⟨[.c (.dat .bool)], []⟩]
def ann_hasPrefix : Ann := .no
/-- what strings.HasPrefix comes to. -/
def hasPrefix (n : Nat) (x : (List Int) × List Int) : Option (Bool) :=
  match x with
  | (x1, x2) =>
  (Option.bind (stringsliteHasPrefix n (x1, x2)) fun r3 =>
  some r3)
def sp_hasPrefix (n : Nat) : Spec := ⟨pre_hasPrefix, post_hasPrefix, hasPrefix n⟩
def env_hasPrefix (n : Nat) : List (FuncId × Spec) := [(76, sp_stringsliteHasPrefix n)]
theorem run_hasPrefix (n : Nat) (x : pre_hasPrefix.T) : fnRun Tryd.prog 50 (envG (env_hasPrefix n) [] (fun _ => none)) n Tryd.f56 ann_hasPrefix pre_hasPrefix post_hasPrefix x = hasPrefix n x := by kernel_rfl
theorem ok_hasPrefix (n : Nat) : FnOK Tryd.prog 50 LS 56 (sp_hasPrefix n) :=
  fn_run mixed Tryd.func56 (sp_hasPrefix n) n ann_hasPrefix (env_hasPrefix n) (envOf_cons (ok_stringsliteHasPrefix n) envOf_nil) [] (fun _ => none) gl_none (run_hasPrefix n) (by kernel_rfl)
def pre_genSplit : Shape := ⟨[.c (.dat .str), .c (.dat .str), .c (.dat (.int .i64)), .c (.dat (.int .i64))], []⟩
def post_genSplit : List Shape := [⟨[.c (.dat (.list .str))], []⟩]
def ann_genSplit : Ann := (.two .no (.two .no (.two .no (.two (.join ⟨[0, 1, 2, 3], ⟨[.c (.dat .str), .c (.dat .str), .c (.dat (.int .i64)), .c (.dat (.int .i64))], []⟩⟩ .no) (.two .no (.two .no (.two .no (.two .no (.two (.one (.loop ⟨[0, 1, 2, 3, 9, 10], ⟨[.c (.dat .str), .c (.dat .str), .c (.dat (.int .i64)), .c (.dat (.int .i64)), .c (.own 500), .c (.dat (.int .i64))], [(500, .row 9 .str)]⟩⟩ .no)) .no)))))))))
/-- what strings.genSplit comes to. -/
def genSplit (n : Nat) (x : (List Int) × (List Int) × Int × Int) : Option (List (List Int)) :=
  match x with
  | (x1, (x2, (x3, x4))) =>
  (if (x4 == (0 : Int)) = true then
  some ([] : List (List Int))
  else
  (if (x2 == ([] : List Int)) = true then
  none
  else
  (Option.bind (α := Out ((List Int) × (List Int) × Int × Int) (List (List Int))) ((if (decide (x4 < (0 : Int))) = true then
  (Option.bind (stringsCount n (x1, x2)) fun r5 =>
  (some (Out.go (x1, (x2, (x3, (IntKind.wrap .i64 (r5 + (1 : Int)))))))))
  else
  (some (Out.go (x1, (x2, (x3, x4))))))) fun o => match o with
  | .go (z7, (z8, (z9, z10))) =>
  (let u11 : Int := (IntKind.wrap .i64 ((z7.length : Int) + (1 : Int)))
  (if 0 ≤ (if u11 < z10 then u11 else z10) ∧ (if u11 < z10 then u11 else z10) ≤ (if u11 < z10 then u11 else z10) ∧ (16 : Int) * (if u11 < z10 then u11 else z10) ≤ 140737488355328 then
  (let u12 : List (List Int) := (List.replicate (if u11 < z10 then u11 else z10).toNat ([] : List Int))
  (let u13 : Int := (IntKind.wrap .i64 ((if u11 < z10 then u11 else z10) - (1 : Int)))
  (loopF (X := (List Int) × (List Int) × Int × Int × Int × List (List Int)) (A := List (List Int)) (fun rec14 y15 => match y15 with
  | (a16, (a17, (a18, (a19, (a20, a21))))) =>
  (if (decide (a20 < a19)) = true then
  (Option.bind (stringsIndex n (a16, a17)) fun r22 =>
  (if (decide (r22 < (0 : Int))) = true then
  (if 0 ≤ a20 ∧ a20 < (a21.length : Int) then
  (let u23 : Int := (IntKind.wrap .i64 (a20 + (1 : Int)))
  (if 0 ≤ (0 : Int) ∧ (0 : Int) ≤ u23 ∧ u23 ≤ ((a21.set a20.toNat a16).length : Int) then
  (let u24 : List (List Int) := ((a21.set a20.toNat a16).take u23.toNat)
  some u24)
  else none))
  else none)
  else
  (if 0 ≤ (0 : Int) ∧ (0 : Int) ≤ (IntKind.wrap .i64 (r22 + a18)) ∧ (IntKind.wrap .i64 (r22 + a18)) ≤ (a16.length : Int) then
  (let u25 : List Int := ((a16.drop 0).take ((IntKind.wrap .i64 (r22 + a18)).toNat - 0))
  (if 0 ≤ a20 ∧ a20 < (a21.length : Int) then
  (let u26 : Int := (IntKind.wrap .i64 (r22 + (a17.length : Int)))
  (if 0 ≤ u26 ∧ u26 ≤ (a16.length : Int) ∧ (a16.length : Int) ≤ (a16.length : Int) then
  (let u27 : List Int := ((a16.drop u26.toNat).take (((a16.length : Int)).toNat - u26.toNat))
  (let u28 : Int := (IntKind.wrap .i64 (a20 + (1 : Int)))
  rec14 (u27, (a17, (a18, (a19, (u28, (a21.set a20.toNat u25))))))))
  else none))
  else none))
  else none)))
  else
  (if 0 ≤ a20 ∧ a20 < (a21.length : Int) then
  (let u29 : Int := (IntKind.wrap .i64 (a20 + (1 : Int)))
  (if 0 ≤ (0 : Int) ∧ (0 : Int) ≤ u29 ∧ u29 ≤ ((a21.set a20.toNat a16).length : Int) then
  (let u30 : List (List Int) := ((a21.set a20.toNat a16).take u29.toNat)
  some u30)
  else none))
  else none))) n (z7, (z8, (z9, (u13, ((0 : Int), u12))))))))
  else none))
  | .ret r31 => some r31)))
def sp_genSplit (n : Nat) : Spec := ⟨pre_genSplit, post_genSplit, genSplit n⟩
def env_genSplit (n : Nat) : List (FuncId × Spec) := [(80, sp_stringsCount n), (81, sp_stringsIndex n)]
theorem run_genSplit (n : Nat) (x : pre_genSplit.T) : fnRun Tryd.prog 50 (envG (env_genSplit n) [296104] (fun _ => none)) n Tryd.f62 ann_genSplit pre_genSplit post_genSplit x = genSplit n x := by kernel_rfl
theorem ok_genSplit (n : Nat) : FnOK Tryd.prog 50 LS 62 (sp_genSplit n) :=
  fn_run mixed Tryd.func62 (sp_genSplit n) n ann_genSplit (env_genSplit n) (envOf_cons (ok_stringsCount n) (envOf_cons (ok_stringsIndex n) envOf_nil)) [296104] (fun _ => none) gl_none (run_genSplit n) (by kernel_rfl)
def pre_rCode : Shape := ⟨[.c (.dat .str), .c (.dat (.int .i64))], []⟩
def post_rCode : List Shape := [⟨[.c (.dat (.int .i64))], []⟩]
def ann_rCode : Ann := .no
/-- what turnstile/turnstileref08.code comes to. -/
def rCode (n : Nat) (x : (List Int) × Int) : Option (Int) :=
  match x with
  | (x1, x2) =>
  (if (decide ((IntKind.wrap .i64 (x2 + (2 : Int))) ≥ (x1.length : Int))) = true then
  some (-1 : Int)
  else
  (Option.bind (idx x1 x2) fun v3 =>
  (if (v3 != (37 : Int)) = true then
  some (-1 : Int)
  else
  (Option.bind (idx x1 (IntKind.wrap .i64 (x2 + (1 : Int)))) fun v4 =>
  (Option.bind (rHex n v4) fun r5 =>
  (if (decide (r5 < (0 : Int))) = true then
  some (-1 : Int)
  else
  (Option.bind (idx x1 (IntKind.wrap .i64 (x2 + (2 : Int)))) fun v6 =>
  (Option.bind (rHex n v6) fun r7 =>
  (if (decide (r7 < (0 : Int))) = true then
  some (-1 : Int)
  else
  (Option.bind (idx x1 (IntKind.wrap .i64 (x2 + (1 : Int)))) fun v8 =>
  (Option.bind (rHex n v8) fun r9 =>
  (let u10 : Int := (IntKind.wrap .i64 (r9 * (16 : Int)))
  (Option.bind (idx x1 (IntKind.wrap .i64 (x2 + (2 : Int)))) fun v11 =>
  (Option.bind (rHex n v11) fun r12 =>
  some (IntKind.wrap .i64 (u10 + r12))))))))))))))))
def sp_rCode (n : Nat) : Spec := ⟨pre_rCode, post_rCode, rCode n⟩
def env_rCode (n : Nat) : List (FuncId × Spec) := [(83, sp_rHex n)]
theorem run_rCode (n : Nat) (x : pre_rCode.T) : fnRun Tryd.prog 50 (envG (env_rCode n) [] (fun _ => none)) n Tryd.f64 ann_rCode pre_rCode post_rCode x = rCode n x := by kernel_rfl
theorem ok_rCode (n : Nat) : FnOK Tryd.prog 50 LS 64 (sp_rCode n) :=
  fn_run mixed Tryd.func64 (sp_rCode n) n ann_rCode (env_rCode n) (envOf_cons (ok_rHex n) envOf_nil) [] (fun _ => none) gl_none (run_rCode n) (by kernel_rfl)
def pre_pathByte : Shape := ⟨[.c (.dat (.int .u8))], []⟩
def post_pathByte : List Shape := [⟨[.c (.dat .bool)], []⟩]
def ann_pathByte : Ann := .no
/-- what turnstile/target.pathByte comes to. -/
def pathByte (n : Nat) (x : Int) : Option (Bool) :=
  (Option.bind (unreserved n x) fun r2 =>
  (if r2 = true then
  some true
  else
  (Option.bind (stringsIndexByte n (([(33 : Int), (36 : Int), (38 : Int), (39 : Int), (40 : Int), (41 : Int), (42 : Int), (43 : Int), (44 : Int), (59 : Int), (61 : Int), (58 : Int), (64 : Int)] : List Int), x)) fun r3 =>
  some (decide (r3 ≥ (0 : Int))))))
def sp_pathByte (n : Nat) : Spec := ⟨pre_pathByte, post_pathByte, pathByte n⟩
def env_pathByte (n : Nat) : List (FuncId × Spec) := [(35, sp_unreserved n), (54, sp_stringsIndexByte n)]
theorem run_pathByte (n : Nat) (x : pre_pathByte.T) : fnRun Tryd.prog 50 (envG (env_pathByte n) [] (fun _ => none)) n Tryd.f77 ann_pathByte pre_pathByte post_pathByte x = pathByte n x := by kernel_rfl
theorem ok_pathByte (n : Nat) : FnOK Tryd.prog 50 LS 77 (sp_pathByte n) :=
  fn_run mixed Tryd.func77 (sp_pathByte n) n ann_pathByte (env_pathByte n) (envOf_cons (ok_unreserved n) (envOf_cons (ok_stringsIndexByte n) envOf_nil)) [] (fun _ => none) gl_none (run_pathByte n) (by kernel_rfl)
def pre_rPlain : Shape := ⟨[.c (.dat (.int .u8))], []⟩
def post_rPlain : List Shape := [⟨[.c (.dat .bool)], []⟩]
def ann_rPlain : Ann := .no
/-- what turnstile/turnstileref08.plain comes to. -/
def rPlain (n : Nat) (x : Int) : Option (Bool) :=
  (Option.bind (rUnreserved n x) fun r2 =>
  (if r2 = true then
  some true
  else
  (Option.bind (rAmong n (x, ([(33 : Int), (36 : Int), (38 : Int), (39 : Int), (40 : Int), (41 : Int), (42 : Int), (43 : Int), (44 : Int), (59 : Int), (61 : Int), (58 : Int), (64 : Int)] : List Int))) fun r3 =>
  some r3)))
def sp_rPlain (n : Nat) : Spec := ⟨pre_rPlain, post_rPlain, rPlain n⟩
def env_rPlain (n : Nat) : List (FuncId × Spec) := [(19, sp_rUnreserved n), (32, sp_rAmong n)]
theorem run_rPlain (n : Nat) (x : pre_rPlain.T) : fnRun Tryd.prog 50 (envG (env_rPlain n) [] (fun _ => none)) n Tryd.f82 ann_rPlain pre_rPlain post_rPlain x = rPlain n x := by kernel_rfl
theorem ok_rPlain (n : Nat) : FnOK Tryd.prog 50 LS 82 (sp_rPlain n) :=
  fn_run mixed Tryd.func82 (sp_rPlain n) n ann_rPlain (env_rPlain n) (envOf_cons (ok_rUnreserved n) (envOf_cons (ok_rAmong n) envOf_nil)) [] (fun _ => none) gl_none (run_rPlain n) (by kernel_rfl)
def pre_indexRabinKarpstring : Shape := ⟨[.c (.dat .str), .c (.dat .str)], []⟩
def post_indexRabinKarpstring : List Shape := [⟨[.c (.dat (.int .i64))], []⟩]
def ann_indexRabinKarpstring : Ann := (.two .no (.two .no (.two .no (.two .no (.two (.two .no (.one (.loop ⟨[0, 1, 5, 6, 7, 8, 9], ⟨[.c (.dat .str), .c (.dat .str), .c (.dat (.int .u32)), .c (.dat (.int .u32)), .c (.dat (.int .i64)), .c (.dat (.int .u32)), .c (.dat (.int .i64))], []⟩⟩ .no))) (.two (.two (.join ⟨[0, 1, 5, 6, 7, 8, 39], ⟨[.c (.dat .str), .c (.dat .str), .c (.dat (.int .u32)), .c (.dat (.int .u32)), .c (.dat (.int .i64)), .c (.dat (.int .u32)), .c (.dat .bool)], []⟩⟩ .no) .no) (.two (.two .no (.one (.loop ⟨[0, 1, 5, 6, 7, 8, 10], ⟨[.c (.dat .str), .c (.dat .str), .c (.dat (.int .u32)), .c (.dat (.int .u32)), .c (.dat (.int .i64)), .c (.dat (.int .u32)), .c (.dat (.int .i64))], []⟩⟩ .no))) .no)))))))
/-- what internal/bytealg.IndexRabinKarp[string] comes to. -/
def indexRabinKarpstring (n : Nat) (x : (List Int) × List Int) : Option (Int) :=
  match x with
  | (x1, x2) =>
  (Option.bind (hashStrstring n x2) fun r3 =>
  (loopF (X := (List Int) × (List Int) × Int × Int × Int × Int × Int) (A := Int) (fun rec4 y5 => match y5 with
  | (a6, (a7, (a8, (a9, (a10, (a11, a12)))))) =>
  (if (decide (a12 < a10)) = true then
  (let u13 : Int := (IntKind.wrap .u32 (a11 * (16777619 : Int)))
  (Option.bind (idx a6 a12) fun v14 =>
  (let u15 : Int := (IntKind.wrap .u32 (u13 + (IntKind.wrap .u32 v14)))
  (let u16 : Int := (IntKind.wrap .i64 (a12 + (1 : Int)))
  rec4 (a6, (a7, (a8, (a9, (a10, (u15, u16))))))))))
  else
  (Option.bind (α := Out ((List Int) × (List Int) × Int × Int × Int × Int × Bool) (Int)) ((if (a11 == a8) = true then
  (if 0 ≤ (0 : Int) ∧ (0 : Int) ≤ a10 ∧ a10 ≤ (a6.length : Int) then
  (some (Out.go (a6, (a7, (a8, (a9, (a10, (a11, (((a6.drop 0).take (a10.toNat - 0)) == a7)))))))))
  else none)
  else
  (some (Out.go (a6, (a7, (a8, (a9, (a10, (a11, false)))))))))) fun o => match o with
  | .go (z18, (z19, (z20, (z21, (z22, (z23, z24)))))) =>
  (if z24 = true then
  some (0 : Int)
  else
  (loopF (X := (List Int) × (List Int) × Int × Int × Int × Int × Int) (A := Int) (fun rec25 y26 => match y26 with
  | (a27, (a28, (a29, (a30, (a31, (a32, a33)))))) =>
  (if (decide (a33 < (a27.length : Int))) = true then
  (let u34 : Int := (IntKind.wrap .u32 (a32 * (16777619 : Int)))
  (Option.bind (idx a27 a33) fun v35 =>
  (let u36 : Int := (IntKind.wrap .u32 (u34 + (IntKind.wrap .u32 v35)))
  (Option.bind (idx a27 (IntKind.wrap .i64 (a33 - a31))) fun v37 =>
  (let u38 : Int := (IntKind.wrap .u32 (a30 * (IntKind.wrap .u32 v37)))
  (let u39 : Int := (IntKind.wrap .i64 (a33 + (1 : Int)))
  (if ((IntKind.wrap .u32 (u36 - u38)) == a29) = true then
  (if 0 ≤ (IntKind.wrap .i64 (u39 - a31)) ∧ (IntKind.wrap .i64 (u39 - a31)) ≤ u39 ∧ u39 ≤ (a27.length : Int) then
  (let u40 : List Int := ((a27.drop (IntKind.wrap .i64 (u39 - a31)).toNat).take (u39.toNat - (IntKind.wrap .i64 (u39 - a31)).toNat))
  (if (u40 == a28) = true then
  some (IntKind.wrap .i64 (u39 - a31))
  else
  rec25 (a27, (a28, (a29, (a30, (a31, ((IntKind.wrap .u32 (u36 - u38)), u39))))))))
  else none)
  else
  rec25 (a27, (a28, (a29, (a30, (a31, ((IntKind.wrap .u32 (u36 - u38)), u39)))))))))))))
  else
  some (-1 : Int))) n (z18, (z19, (z20, (z21, (z22, (z23, z22))))))))
  | .ret r41 => some r41))) n (x1, (x2, (r3.1, (r3.2, ((x2.length : Int), ((0 : Int), (0 : Int)))))))))
def sp_indexRabinKarpstring (n : Nat) : Spec := ⟨pre_indexRabinKarpstring, post_indexRabinKarpstring, indexRabinKarpstring n⟩
def env_indexRabinKarpstring (n : Nat) : List (FuncId × Spec) := [(95, sp_hashStrstring n)]
theorem run_indexRabinKarpstring (n : Nat) (x : pre_indexRabinKarpstring.T) : fnRun Tryd.prog 50 (envG (env_indexRabinKarpstring n) [] (fun _ => none)) n Tryd.f89 ann_indexRabinKarpstring pre_indexRabinKarpstring post_indexRabinKarpstring x = indexRabinKarpstring n x := by kernel_rfl
theorem ok_indexRabinKarpstring (n : Nat) : FnOK Tryd.prog 50 LS 89 (sp_indexRabinKarpstring n) :=
  fn_run mixed Tryd.func89 (sp_indexRabinKarpstring n) n ann_indexRabinKarpstring (env_indexRabinKarpstring n) (envOf_cons (ok_hashStrstring n) envOf_nil) [] (fun _ => none) gl_none (run_indexRabinKarpstring n) (by kernel_rfl)
def pre_decode : Shape := ⟨[.c (.dat .str)], []⟩
def post_decode : List Shape := [⟨[.c (.dat .str), .c (.dat .err)], []⟩]
def ann_decode : Ann := (.two .no (.two .no (.two (.two .no (.one (.loop ⟨[0, 4, 5], ⟨[.c (.dat .str), .c (.ptr 500 0), .c (.dat (.int .i64))], [(500, .cells 60 [.slf 500, .own 501]), (501, .row 5 (.int .u8))]⟩⟩ .no))) .no)))
/-- what turnstile/target.Decode comes to. -/
def decode (n : Nat) (x : List Int) : Option ((List Int) × Int) :=
  (loopF (X := (List Int) × Int × List Int) (A := (List Int) × Int) (fun rec2 y3 => match y3 with
  | (a4, (a5, a6)) =>
  (if (decide (a5 < (a4.length : Int))) = true then
  (Option.bind (idx a4 a5) fun v7 =>
  (if (v7 != (37 : Int)) = true then
  (Option.bind (idx a4 a5) fun v8 =>
  (Option.bind (bldByte n (v8, a6)) fun r9 =>
  rec2 (a4, ((IntKind.wrap .i64 (a5 + (1 : Int))), r9))))
  else
  (Option.bind (code n (a4, a5)) fun r10 =>
  (if (!r10.2) = true then
  some (([] : List Int), (23 : Int))
  else
  (Option.bind (bldByte n (r10.1, a6)) fun r11 =>
  (let u12 : Int := (IntKind.wrap .i64 ((IntKind.wrap .i64 (a5 + (2 : Int))) + (1 : Int)))
  rec2 (a4, (u12, r11))))))))
  else
  (Option.bind (bldString n a6) fun r13 =>
  some (r13, (0 : Int))))) n (x, ((0 : Int), ([] : List Int))))
def sp_decode (n : Nat) : Spec := ⟨pre_decode, post_decode, decode n⟩
def env_decode (n : Nat) : List (FuncId × Spec) := [(34, sp_bldByte n), (33, sp_code n), (39, sp_bldString n)]
theorem run_decode (n : Nat) (x : pre_decode.T) : fnRun Tryd.prog 50 (envG (env_decode n) [] (fun _ => none)) n Tryd.f18 ann_decode pre_decode post_decode x = decode n x := by kernel_rfl
theorem ok_decode (n : Nat) : FnOK Tryd.prog 50 LS 18 (sp_decode n) :=
  fn_run mixed Tryd.func18 (sp_decode n) n ann_decode (env_decode n) (envOf_cons (ok_bldByte n) (envOf_cons (ok_code n) (envOf_cons (ok_bldString n) envOf_nil))) [] (fun _ => none) gl_none (run_decode n) (by kernel_rfl)
def pre_encode : Shape := ⟨[.c (.dat .str)], []⟩
def post_encode : List Shape := [⟨[.c (.dat .str)], []⟩]
def ann_encode : Ann := (.two .no (.two .no (.two (.two .no (.one (.loop ⟨[0, 3, 6, 7], ⟨[.c (.dat .str), .c (.ptr 500 0), .c (.dat (.int .i64)), .c (.dat (.int .i64))], [(500, .cells 60 [.slf 500, .own 501]), (501, .row 5 (.int .u8))]⟩⟩ .no))) .no)))
/-- what turnstile/target.Encode comes to. -/
def encode (n : Nat) (x : List Int) : Option (List Int) :=
  (loopF (X := (List Int) × Int × Int × List Int) (A := List Int) (fun rec2 y3 => match y3 with
  | (a4, (a5, (a6, a7))) =>
  (if (decide (a6 < a5)) = true then
  (Option.bind (idx a4 a6) fun v8 =>
  (Option.bind (unreserved n v8) fun r9 =>
  (if r9 = true then
  (Option.bind (idx a4 a6) fun v10 =>
  (Option.bind (bldByte n (v10, a7)) fun r11 =>
  rec2 (a4, (a5, ((IntKind.wrap .i64 (a6 + (1 : Int))), r11)))))
  else
  (Option.bind (idx a4 a6) fun v12 =>
  (Option.bind (coded n v12) fun r13 =>
  (Option.bind (bldStr n (r13, a7)) fun r14 =>
  rec2 (a4, (a5, ((IntKind.wrap .i64 (a6 + (1 : Int))), r14.2)))))))))
  else
  (Option.bind (bldString n a7) fun r15 =>
  some r15))) n (x, ((x.length : Int), ((0 : Int), ([] : List Int)))))
def sp_encode (n : Nat) : Spec := ⟨pre_encode, post_encode, encode n⟩
def env_encode (n : Nat) : List (FuncId × Spec) := [(35, sp_unreserved n), (34, sp_bldByte n), (37, sp_coded n), (36, sp_bldStr n), (39, sp_bldString n)]
theorem run_encode (n : Nat) (x : pre_encode.T) : fnRun Tryd.prog 50 (envG (env_encode n) [] (fun _ => none)) n Tryd.f22 ann_encode pre_encode post_encode x = encode n x := by kernel_rfl
theorem ok_encode (n : Nat) : FnOK Tryd.prog 50 LS 22 (sp_encode n) :=
  fn_run mixed Tryd.func22 (sp_encode n) n ann_encode (env_encode n) (envOf_cons (ok_unreserved n) (envOf_cons (ok_bldByte n) (envOf_cons (ok_coded n) (envOf_cons (ok_bldStr n) (envOf_cons (ok_bldString n) envOf_nil))))) [] (fun _ => none) gl_none (run_encode n) (by kernel_rfl)
def pre_indexAny : Shape := ⟨[.c (.dat .str), .c (.dat .str)], []⟩
def post_indexAny : List Shape := [⟨[.c (.dat (.int .i64))], []⟩]
def ann_indexAny : Ann := (.two .no (.two .no (.two .no (.two (.two .no (.two (.two .no (.two .no (.two (.two (.two .no (.one (.loop ⟨[0, 6, 8], ⟨[.c (.dat .str), .c (.arr 500 1), .c (.dat (.int .i64))], [(500, .row 77 .bool)]⟩⟩ .no))) .no) .no))) .no)) (.two (.two .no (.one (.loop ⟨[1, 45], ⟨[.c (.dat .str), .c (.ptr 500 0)], [(500, .it)]⟩⟩ .no))) .no)))))
/-- what strings.IndexAny comes to. -/
def indexAny (n : Nat) (x : (List Int) × List Int) : Option (Int) :=
  match x with
  | (x1, x2) =>
  (if (x2 == ([] : List Int)) = true then
  some (-1 : Int)
  else
  (if ((x2.length : Int) == (1 : Int)) = true then
  (Option.bind (idx x2 (0 : Int)) fun v3 =>
  (if (decide ((IntKind.wrap .i32 v3) ≥ (128 : Int))) = true then
  (Option.bind (indexRune n (x1, (65533 : Int))) fun r4 =>
  some r4)
  else
  (Option.bind (indexRune n (x1, (IntKind.wrap .i32 v3))) fun r5 =>
  some r5)))
  else
  (Option.bind (shouldUseASCIISet n (x1.length : Int)) fun r6 =>
  (if r6 = true then
  (Option.bind (makeASCIISet n x2) fun r7 =>
  (if 256 = 256 ∧ 256 = r7.1.length then
  (if r7.2 = true then
  (loopF (X := (List Int) × Int × List Bool) (A := Int) (fun rec8 y9 => match y9 with
  | (a10, (a11, a12)) =>
  (if (decide (a11 < (a10.length : Int))) = true then
  (Option.bind (idx a10 a11) fun v13 =>
  (Option.bind (setHas n (v13, a12)) fun r14 =>
  (if r14.1 = true then
  some a11
  else
  (let u15 : Int := (IntKind.wrap .i64 (a11 + (1 : Int)))
  rec8 (a10, (u15, r14.2))))))
  else
  some (-1 : Int))) n (x1, ((0 : Int), r7.1)))
  else
  (loopF (X := (List Int) × (List Int) × Int) (A := Int) (fun rec16 y17 => match y17 with
  | (a18, (a19, a20)) =>
  (if a20.toNat < List.length a19 then
  (let u21 : Int := (((u8d a19 a20.toNat).1 : Nat) : Int)
  (Option.bind (indexRune n (a18, u21)) fun r22 =>
  (if (decide (r22 ≥ (0 : Int))) = true then
  some ((a20.toNat : Nat) : Int)
  else
  rec16 (a18, (a19, (((a20.toNat + (u8d a19 a20.toNat).2) : Nat) : Int))))))
  else
  some (-1 : Int))) n (x2, (x1, (0 : Int)))))
  else none))
  else
  (loopF (X := (List Int) × (List Int) × Int) (A := Int) (fun rec23 y24 => match y24 with
  | (a25, (a26, a27)) =>
  (if a27.toNat < List.length a26 then
  (let u28 : Int := (((u8d a26 a27.toNat).1 : Nat) : Int)
  (Option.bind (indexRune n (a25, u28)) fun r29 =>
  (if (decide (r29 ≥ (0 : Int))) = true then
  some ((a27.toNat : Nat) : Int)
  else
  rec23 (a25, (a26, (((a27.toNat + (u8d a26 a27.toNat).2) : Nat) : Int))))))
  else
  some (-1 : Int))) n (x2, (x1, (0 : Int))))))))
def sp_indexAny (n : Nat) : Spec := ⟨pre_indexAny, post_indexAny, indexAny n⟩
def env_indexAny (n : Nat) : List (FuncId × Spec) := [(48, sp_indexRune n), (49, sp_shouldUseASCIISet n), (50, sp_makeASCIISet n), (51, sp_setHas n)]
theorem run_indexAny (n : Nat) (x : pre_indexAny.T) : fnRun Tryd.prog 50 (envG (env_indexAny n) [] (fun _ => none)) n Tryd.f24 ann_indexAny pre_indexAny post_indexAny x = indexAny n x := by kernel_rfl
theorem ok_indexAny (n : Nat) : FnOK Tryd.prog 50 LS 24 (sp_indexAny n) :=
  fn_run mixed Tryd.func24 (sp_indexAny n) n ann_indexAny (env_indexAny n) (envOf_cons (ok_indexRune n) (envOf_cons (ok_shouldUseASCIISet n) (envOf_cons (ok_makeASCIISet n) (envOf_cons (ok_setHas n) envOf_nil)))) [] (fun _ => none) gl_none (run_indexAny n) (by kernel_rfl)
def pre_cut : Shape := ⟨[.c (.dat .str), .c (.dat .str)], []⟩
def post_cut : List Shape := [⟨[.c (.dat .str), .c (.dat .str), .c (.dat .bool)], []⟩]
def ann_cut : Ann := .no
/-- what strings.Cut comes to. -/
def cut (n : Nat) (x : (List Int) × List Int) : Option ((List Int) × (List Int) × Bool) :=
  match x with
  | (x1, x2) =>
  (Option.bind (stringsliteCut n (x1, x2)) fun r3 =>
  some (r3.1, (r3.2.1, r3.2.2)))
def sp_cut (n : Nat) : Spec := ⟨pre_cut, post_cut, cut n⟩
def env_cut (n : Nat) : List (FuncId × Spec) := [(55, sp_stringsliteCut n)]
theorem run_cut (n : Nat) (x : pre_cut.T) : fnRun Tryd.prog 50 (envG (env_cut n) [] (fun _ => none)) n Tryd.f26 ann_cut pre_cut post_cut x = cut n x := by kernel_rfl
theorem ok_cut (n : Nat) : FnOK Tryd.prog 50 LS 26 (sp_cut n) :=
  fn_run mixed Tryd.func26 (sp_cut n) n ann_cut (env_cut n) (envOf_cons (ok_stringsliteCut n) envOf_nil) [] (fun _ => none) gl_none (run_cut n) (by kernel_rfl)
def pre_split : Shape := ⟨[.c (.dat .str), .c (.dat .str)], []⟩
def post_split : List Shape := [⟨[.c (.dat (.list .str))], []⟩]
def ann_split : Ann := .no
/-- what strings.Split comes to. -/
def split (n : Nat) (x : (List Int) × List Int) : Option (List (List Int)) :=
  match x with
  | (x1, x2) =>
  (Option.bind (genSplit n (x1, (x2, ((0 : Int), (-1 : Int))))) fun r3 =>
  some r3)
def sp_split (n : Nat) : Spec := ⟨pre_split, post_split, split n⟩
def env_split (n : Nat) : List (FuncId × Spec) := [(62, sp_genSplit n)]
theorem run_split (n : Nat) (x : pre_split.T) : fnRun Tryd.prog 50 (envG (env_split n) [] (fun _ => none)) n Tryd.f38 ann_split pre_split post_split x = split n x := by kernel_rfl
theorem ok_split (n : Nat) : FnOK Tryd.prog 50 LS 38 (sp_split n) :=
  fn_run mixed Tryd.func38 (sp_split n) n ann_split (env_split n) (envOf_cons (ok_genSplit n) envOf_nil) [] (fun _ => none) gl_none (run_split n) (by kernel_rfl)
def pre_rMeant : Shape := ⟨[.c (.dat .str)], []⟩
def post_rMeant : List Shape := [⟨[.c (.dat .str)], []⟩]
def ann_rMeant : Ann := (.two .no (.two .no (.two (.two .no (.one (.loop ⟨[0, 3, 4], ⟨[.c (.dat .str), .c (.own 500), .c (.dat (.int .i64))], [(500, .row 5 (.int .u8))]⟩⟩ .no))) .no)))
/-- what turnstile/turnstileref08.meant comes to. -/
def rMeant (n : Nat) (x : List Int) : Option (List Int) :=
  (loopF (X := (List Int) × Int × List Int) (A := List Int) (fun rec2 y3 => match y3 with
  | (a4, (a5, a6)) =>
  (if (decide (a5 < (a4.length : Int))) = true then
  (Option.bind (rCode n (a4, a5)) fun r7 =>
  (if (decide (r7 < (0 : Int))) = true then
  (Option.bind (idx a4 a5) fun v8 =>
  (if (a6.length + 1) * 1 ≤ 140737488355328 then
  rec2 (a4, ((IntKind.wrap .i64 (a5 + (1 : Int))), (a6 ++ ([v8] : List Int))))
  else none))
  else
  (Option.bind (rUnreserved n (IntKind.wrap .u8 r7)) fun r9 =>
  (if r9 = true then
  (if (a6.length + 1) * 1 ≤ 140737488355328 then
  (let u10 : List Int := (a6 ++ ([(IntKind.wrap .u8 r7)] : List Int))
  (let u11 : Int := (IntKind.wrap .i64 ((IntKind.wrap .i64 (a5 + (2 : Int))) + (1 : Int)))
  rec2 (a4, (u11, u10))))
  else none)
  else
  (let u12 : Int := (IntKind.wrap .i64 (Int.tdiv r7 (16 : Int)))
  (Option.bind (idx ([(48 : Int), (49 : Int), (50 : Int), (51 : Int), (52 : Int), (53 : Int), (54 : Int), (55 : Int), (56 : Int), (57 : Int), (65 : Int), (66 : Int), (67 : Int), (68 : Int), (69 : Int), (70 : Int)] : List Int) u12) fun v13 =>
  (Option.bind (idx ([(48 : Int), (49 : Int), (50 : Int), (51 : Int), (52 : Int), (53 : Int), (54 : Int), (55 : Int), (56 : Int), (57 : Int), (65 : Int), (66 : Int), (67 : Int), (68 : Int), (69 : Int), (70 : Int)] : List Int) (Int.tmod r7 (16 : Int))) fun v14 =>
  (if (a6.length + 3) * 1 ≤ 140737488355328 then
  (let u15 : List Int := (a6 ++ ([(37 : Int), v13, v14] : List Int))
  (let u16 : Int := (IntKind.wrap .i64 ((IntKind.wrap .i64 (a5 + (2 : Int))) + (1 : Int)))
  rec2 (a4, (u16, u15))))
  else none))))))))
  else
  some a6)) n (x, ((0 : Int), ([] : List Int))))
def sp_rMeant (n : Nat) : Spec := ⟨pre_rMeant, post_rMeant, rMeant n⟩
def env_rMeant (n : Nat) : List (FuncId × Spec) := [(64, sp_rCode n), (19, sp_rUnreserved n)]
theorem run_rMeant (n : Nat) (x : pre_rMeant.T) : fnRun Tryd.prog 50 (envG (env_rMeant n) [] (fun _ => none)) n Tryd.f43 ann_rMeant pre_rMeant post_rMeant x = rMeant n x := by kernel_rfl
theorem ok_rMeant (n : Nat) : FnOK Tryd.prog 50 LS 43 (sp_rMeant n) :=
  fn_run mixed Tryd.func43 (sp_rMeant n) n ann_rMeant (env_rMeant n) (envOf_cons (ok_rCode n) (envOf_cons (ok_rUnreserved n) envOf_nil)) [] (fun _ => none) gl_none (run_rMeant n) (by kernel_rfl)
def pre_rDecode : Shape := ⟨[.c (.dat .str)], []⟩
def post_rDecode : List Shape := [⟨[.c (.dat .str), .c (.dat (.int .i64))], []⟩]
def ann_rDecode : Ann := (.two .no (.two .no (.two (.two .no (.one (.loop ⟨[0, 4, 5], ⟨[.c (.dat .str), .c (.own 500), .c (.dat (.int .i64))], [(500, .row 5 (.int .u8))]⟩⟩ .no))) .no)))
/-- what turnstile/turnstileref08.Decode comes to. -/
def rDecode (n : Nat) (x : List Int) : Option ((List Int) × Int) :=
  (loopF (X := (List Int) × Int × List Int) (A := (List Int) × Int) (fun rec2 y3 => match y3 with
  | (a4, (a5, a6)) =>
  (if (decide (a5 < (a4.length : Int))) = true then
  (Option.bind (idx a4 a5) fun v7 =>
  (if (v7 != (37 : Int)) = true then
  (Option.bind (idx a4 a5) fun v8 =>
  (if (a6.length + 1) * 1 ≤ 140737488355328 then
  rec2 (a4, ((IntKind.wrap .i64 (a5 + (1 : Int))), (a6 ++ ([v8] : List Int))))
  else none))
  else
  (Option.bind (rCode n (a4, a5)) fun r9 =>
  (if (decide (r9 < (0 : Int))) = true then
  some (([] : List Int), (23 : Int))
  else
  (if (a6.length + 1) * 1 ≤ 140737488355328 then
  (let u10 : List Int := (a6 ++ ([(IntKind.wrap .u8 r9)] : List Int))
  (let u11 : Int := (IntKind.wrap .i64 ((IntKind.wrap .i64 (a5 + (2 : Int))) + (1 : Int)))
  rec2 (a4, (u11, u10))))
  else none)))))
  else
  some (a6, (0 : Int)))) n (x, ((0 : Int), ([] : List Int))))
def sp_rDecode (n : Nat) : Spec := ⟨pre_rDecode, post_rDecode, rDecode n⟩
def env_rDecode (n : Nat) : List (FuncId × Spec) := [(64, sp_rCode n)]
theorem run_rDecode (n : Nat) (x : pre_rDecode.T) : fnRun Tryd.prog 50 (envG (env_rDecode n) [] (fun _ => none)) n Tryd.f44 ann_rDecode pre_rDecode post_rDecode x = rDecode n x := by kernel_rfl
theorem ok_rDecode (n : Nat) : FnOK Tryd.prog 50 LS 44 (sp_rDecode n) :=
  fn_run mixed Tryd.func44 (sp_rDecode n) n ann_rDecode (env_rDecode n) (envOf_cons (ok_rCode n) envOf_nil) [] (fun _ => none) gl_none (run_rDecode n) (by kernel_rfl)
def pre_made : Shape := ⟨[.c (.dat .str), .c (.dat .str), .c (.dat .bool)], []⟩
def post_made : List Shape := [⟨[.c (.dat .bool)], []⟩]
def ann_made : Ann := (.two .no (.two (.two .no (.one (.loop ⟨[0, 1, 2, 7], ⟨[.c (.dat .str), .c (.dat .str), .c (.dat .bool), .c (.dat (.int .i64))], []⟩⟩ .no))) .no))
/-- what turnstile/target.made comes to. -/
def made (n : Nat) (x : (List Int) × (List Int) × Bool) : Option (Bool) :=
  match x with
  | (x1, (x2, x3)) =>
  (loopF (X := (List Int) × (List Int) × Bool × Int) (A := Bool) (fun rec4 y5 => match y5 with
  | (a6, (a7, (a8, a9))) =>
  (if (decide (a9 < (a6.length : Int))) = true then
  (Option.bind (idx a6 a9) fun v10 =>
  (if (v10 == (37 : Int)) = true then
  (Option.bind (code n (a6, a9)) fun r11 =>
  (if (!r11.2) = true then
  some false
  else
  (if a8 = true then
  (if (decide (r11.1 < (32 : Int))) = true then
  some false
  else
  (if (r11.1 == (127 : Int)) = true then
  some false
  else
  (let u12 : Int := (IntKind.wrap .i64 ((IntKind.wrap .i64 (a9 + (2 : Int))) + (1 : Int)))
  rec4 (a6, (a7, (a8, u12))))))
  else
  (let u13 : Int := (IntKind.wrap .i64 ((IntKind.wrap .i64 (a9 + (2 : Int))) + (1 : Int)))
  rec4 (a6, (a7, (a8, u13)))))))
  else
  (Option.bind (idx a6 a9) fun v14 =>
  (Option.bind (pathByte n v14) fun r15 =>
  (if (!r15) = true then
  (Option.bind (idx a6 a9) fun v16 =>
  (Option.bind (stringsIndexByte n (a7, v16)) fun r17 =>
  (if (decide (r17 < (0 : Int))) = true then
  some false
  else
  rec4 (a6, (a7, (a8, (IntKind.wrap .i64 (a9 + (1 : Int)))))))))
  else
  rec4 (a6, (a7, (a8, (IntKind.wrap .i64 (a9 + (1 : Int)))))))))))
  else
  some true)) n (x1, (x2, (x3, (0 : Int)))))
def sp_made (n : Nat) : Spec := ⟨pre_made, post_made, made n⟩
def env_made (n : Nat) : List (FuncId × Spec) := [(33, sp_code n), (77, sp_pathByte n), (54, sp_stringsIndexByte n)]
theorem run_made (n : Nat) (x : pre_made.T) : fnRun Tryd.prog 50 (envG (env_made n) [] (fun _ => none)) n Tryd.f57 ann_made pre_made post_made x = made n x := by kernel_rfl
theorem ok_made (n : Nat) : FnOK Tryd.prog 50 LS 57 (sp_made n) :=
  fn_run mixed Tryd.func57 (sp_made n) n ann_made (env_made n) (envOf_cons (ok_code n) (envOf_cons (ok_pathByte n) (envOf_cons (ok_stringsIndexByte n) envOf_nil))) [] (fun _ => none) gl_none (run_made n) (by kernel_rfl)
def pre_rMade : Shape := ⟨[.c (.dat .str), .c (.dat .str), .c (.dat .bool)], []⟩
def post_rMade : List Shape := [⟨[.c (.dat .bool)], []⟩]
def ann_rMade : Ann := (.two .no (.two (.two .no (.one (.loop ⟨[0, 1, 2, 7], ⟨[.c (.dat .str), .c (.dat .str), .c (.dat .bool), .c (.dat (.int .i64))], []⟩⟩ .no))) .no))
/-- what turnstile/turnstileref08.made comes to. -/
def rMade (n : Nat) (x : (List Int) × (List Int) × Bool) : Option (Bool) :=
  match x with
  | (x1, (x2, x3)) =>
  (loopF (X := (List Int) × (List Int) × Bool × Int) (A := Bool) (fun rec4 y5 => match y5 with
  | (a6, (a7, (a8, a9))) =>
  (if (decide (a9 < (a6.length : Int))) = true then
  (Option.bind (idx a6 a9) fun v10 =>
  (Option.bind (rPlain n v10) fun r11 =>
  (if r11 = true then
  rec4 (a6, (a7, (a8, (IntKind.wrap .i64 (a9 + (1 : Int))))))
  else
  (Option.bind (idx a6 a9) fun v12 =>
  (Option.bind (rAmong n (v12, a7)) fun r13 =>
  (if r13 = true then
  rec4 (a6, (a7, (a8, (IntKind.wrap .i64 (a9 + (1 : Int))))))
  else
  (Option.bind (rCode n (a6, a9)) fun r14 =>
  (if (decide (r14 < (0 : Int))) = true then
  some false
  else
  (if a8 = true then
  (if (decide (r14 < (32 : Int))) = true then
  some false
  else
  (if (r14 == (127 : Int)) = true then
  some false
  else
  (let u15 : Int := (IntKind.wrap .i64 ((IntKind.wrap .i64 (a9 + (2 : Int))) + (1 : Int)))
  rec4 (a6, (a7, (a8, u15))))))
  else
  (let u16 : Int := (IntKind.wrap .i64 ((IntKind.wrap .i64 (a9 + (2 : Int))) + (1 : Int)))
  rec4 (a6, (a7, (a8, u16)))))))))))))
  else
  some true)) n (x1, (x2, (x3, (0 : Int)))))
def sp_rMade (n : Nat) : Spec := ⟨pre_rMade, post_rMade, rMade n⟩
def env_rMade (n : Nat) : List (FuncId × Spec) := [(82, sp_rPlain n), (32, sp_rAmong n), (64, sp_rCode n)]
theorem run_rMade (n : Nat) (x : pre_rMade.T) : fnRun Tryd.prog 50 (envG (env_rMade n) [] (fun _ => none)) n Tryd.f63 ann_rMade pre_rMade post_rMade x = rMade n x := by kernel_rfl
theorem ok_rMade (n : Nat) : FnOK Tryd.prog 50 LS 63 (sp_rMade n) :=
  fn_run mixed Tryd.func63 (sp_rMade n) n ann_rMade (env_rMade n) (envOf_cons (ok_rPlain n) (envOf_cons (ok_rAmong n) (envOf_cons (ok_rCode n) envOf_nil))) [] (fun _ => none) gl_none (run_rMade n) (by kernel_rfl)
def pre_isPath : Shape := ⟨[.c (.dat .str)], []⟩
def post_isPath : List Shape := [⟨[.c (.dat .bool)], []⟩]
def ann_isPath : Ann := .no
/-- what turnstile/target.isPath comes to. -/
def isPath (n : Nat) (x : List Int) : Option (Bool) :=
  (Option.bind (hasPrefix n (x, ([(47 : Int)] : List Int))) fun r2 =>
  (if r2 = true then
  (Option.bind (made n (x, (([(47 : Int)] : List Int), true))) fun r3 =>
  some r3)
  else
  some false))
def sp_isPath (n : Nat) : Spec := ⟨pre_isPath, post_isPath, isPath n⟩
def env_isPath (n : Nat) : List (FuncId × Spec) := [(56, sp_hasPrefix n), (57, sp_made n)]
theorem run_isPath (n : Nat) (x : pre_isPath.T) : fnRun Tryd.prog 50 (envG (env_isPath n) [] (fun _ => none)) n Tryd.f27 ann_isPath pre_isPath post_isPath x = isPath n x := by kernel_rfl
theorem ok_isPath (n : Nat) : FnOK Tryd.prog 50 LS 27 (sp_isPath n) :=
  fn_run mixed Tryd.func27 (sp_isPath n) n ann_isPath (env_isPath n) (envOf_cons (ok_hasPrefix n) (envOf_cons (ok_made n) envOf_nil)) [] (fun _ => none) gl_none (run_isPath n) (by kernel_rfl)
def pre_isQuery : Shape := ⟨[.c (.dat .str)], []⟩
def post_isQuery : List Shape := [⟨[.c (.dat .bool)], []⟩]
def ann_isQuery : Ann := .no
/-- what turnstile/target.isQuery comes to. -/
def isQuery (n : Nat) (x : List Int) : Option (Bool) :=
  (Option.bind (made n (x, (([(47 : Int), (63 : Int)] : List Int), false))) fun r2 =>
  some r2)
def sp_isQuery (n : Nat) : Spec := ⟨pre_isQuery, post_isQuery, isQuery n⟩
def env_isQuery (n : Nat) : List (FuncId × Spec) := [(57, sp_made n)]
theorem run_isQuery (n : Nat) (x : pre_isQuery.T) : fnRun Tryd.prog 50 (envG (env_isQuery n) [] (fun _ => none)) n Tryd.f28 ann_isQuery pre_isQuery post_isQuery x = isQuery n x := by kernel_rfl
theorem ok_isQuery (n : Nat) : FnOK Tryd.prog 50 LS 28 (sp_isQuery n) :=
  fn_run mixed Tryd.func28 (sp_isQuery n) n ann_isQuery (env_isQuery n) (envOf_cons (ok_made n) envOf_nil) [] (fun _ => none) gl_none (run_isQuery n) (by kernel_rfl)
def pre_rPath : Shape := ⟨[.c (.dat .str)], []⟩
def post_rPath : List Shape := [⟨[.c (.dat .bool)], []⟩]
def ann_rPath : Ann := .no
/-- what turnstile/turnstileref08.Path comes to. -/
def rPath (n : Nat) (x : List Int) : Option (Bool) :=
  (if (!(x == ([] : List Int))) = true then
  (Option.bind (idx x (0 : Int)) fun v2 =>
  (if (v2 == (47 : Int)) = true then
  (Option.bind (rMade n (x, (([(47 : Int)] : List Int), true))) fun r3 =>
  some r3)
  else
  some false))
  else
  some false)
def sp_rPath (n : Nat) : Spec := ⟨pre_rPath, post_rPath, rPath n⟩
def env_rPath (n : Nat) : List (FuncId × Spec) := [(63, sp_rMade n)]
theorem run_rPath (n : Nat) (x : pre_rPath.T) : fnRun Tryd.prog 50 (envG (env_rPath n) [] (fun _ => none)) n Tryd.f41 ann_rPath pre_rPath post_rPath x = rPath n x := by kernel_rfl
theorem ok_rPath (n : Nat) : FnOK Tryd.prog 50 LS 41 (sp_rPath n) :=
  fn_run mixed Tryd.func41 (sp_rPath n) n ann_rPath (env_rPath n) (envOf_cons (ok_rMade n) envOf_nil) [] (fun _ => none) gl_none (run_rPath n) (by kernel_rfl)
def pre_rQuery : Shape := ⟨[.c (.dat .str)], []⟩
def post_rQuery : List Shape := [⟨[.c (.dat .bool)], []⟩]
def ann_rQuery : Ann := .no
/-- what turnstile/turnstileref08.Query comes to. -/
def rQuery (n : Nat) (x : List Int) : Option (Bool) :=
  (Option.bind (rMade n (x, (([(47 : Int), (63 : Int)] : List Int), false))) fun r2 =>
  some r2)
def sp_rQuery (n : Nat) : Spec := ⟨pre_rQuery, post_rQuery, rQuery n⟩
def env_rQuery (n : Nat) : List (FuncId × Spec) := [(63, sp_rMade n)]
theorem run_rQuery (n : Nat) (x : pre_rQuery.T) : fnRun Tryd.prog 50 (envG (env_rQuery n) [] (fun _ => none)) n Tryd.f59 ann_rQuery pre_rQuery post_rQuery x = rQuery n x := by kernel_rfl
theorem ok_rQuery (n : Nat) : FnOK Tryd.prog 50 LS 59 (sp_rQuery n) :=
  fn_run mixed Tryd.func59 (sp_rQuery n) n ann_rQuery (env_rQuery n) (envOf_cons (ok_rMade n) envOf_nil) [] (fun _ => none) gl_none (run_rQuery n) (by kernel_rfl)
def pre_parse : Shape := ⟨[.c (.dat .str)], []⟩
def post_parse : List Shape := [⟨[.a [.dat (.int .i64), .dat .str, .dat .str, .dat .str, .dat .bool], .c (.dat .err)], []⟩]
def ann_parse : Ann := (.two .no (.two .no (.two .no (.two .no (.two (.join ⟨[2, 4, 5], ⟨[.c (.ptr 500 0), .c (.ptr 501 0), .c (.dat .str)], [(500, .cells 23 [.dat (.int .i64), .dat .str, .dat .str, .dat .str, .dat .bool]), (501, .cells 23 [.dat (.int .i64), .dat .str, .dat .str, .dat .str, .dat .bool])]⟩⟩ (.one (.two .no (.two .no (.two (.join ⟨[0, 2, 4, 5, 18], ⟨[.c (.dat .str), .c (.ptr 500 0), .c (.ptr 501 0), .c (.dat .str), .c (.dat .bool)], [(500, .cells 23 [.dat (.int .i64), .dat .str, .dat .str, .dat .str, .dat .bool]), (501, .cells 23 [.dat (.int .i64), .dat .str, .dat .str, .dat .str, .dat .bool])]⟩⟩ .no) (.two (.two .no (.two .no (.two .no (.two (.join ⟨[2, 4, 5, 6], ⟨[.c (.ptr 500 0), .c (.ptr 501 0), .c (.dat .str), .c (.dat (.int .i64))], [(500, .cells 23 [.dat (.int .i64), .dat .str, .dat .str, .dat .str, .dat .bool]), (501, .cells 23 [.dat (.int .i64), .dat .str, .dat .str, .dat .str, .dat .bool])]⟩⟩ .no) .no)))) .no)))))) (.two .no (.two (.join ⟨[2, 4], ⟨[.c (.ptr 500 0), .c (.ptr 501 0)], [(500, .cells 23 [.dat (.int .i64), .dat .str, .dat .str, .dat .str, .dat .bool]), (501, .cells 23 [.dat (.int .i64), .dat .str, .dat .str, .dat .str, .dat .bool])]⟩⟩ .no) .no)))))))
/-- what turnstile/target.Parse comes to. -/
def parse (n : Nat) (x : List Int) : Option (Int × (List Int) × (List Int) × (List Int) × Bool × Int) :=
  (if (decide ((x.length : Int) > (65536 : Int))) = true then
  some ((0 : Int), (([] : List Int), (([] : List Int), (([] : List Int), (false, (2 : Int))))))
  else
  (Option.bind (α := Out ((List Int) × Int × (List Int) × (List Int) × (List Int) × Bool × Int × (List Int) × (List Int) × (List Int) × Bool) (Int × (List Int) × (List Int) × (List Int) × Bool × Int)) ((if (x == ([(42 : Int)] : List Int)) = true then
  (Option.map Out.ret (some ((3 : Int), (([] : List Int), (([] : List Int), (([] : List Int), (false, (0 : Int))))))))
  else
  (Option.bind (α := Out ((List Int) × (List Int) × Bool × Int × (List Int) × (List Int) × (List Int) × Bool × Int × (List Int) × (List Int) × (List Int) × Bool) (Out ((List Int) × Int × (List Int) × (List Int) × (List Int) × Bool × Int × (List Int) × (List Int) × (List Int) × Bool) (Int × (List Int) × (List Int) × (List Int) × Bool × Int))) ((if (decide ((x.length : Int) ≥ (7 : Int))) = true then
  (if 0 ≤ (0 : Int) ∧ (0 : Int) ≤ (7 : Int) ∧ (7 : Int) ≤ (x.length : Int) then
  (Option.bind (strToLower n ((x.drop 0).take (7 - 0))) fun r2 =>
  (some (Out.go (x, (x, ((r2 == ([(104 : Int), (116 : Int), (116 : Int), (112 : Int), (58 : Int), (47 : Int), (47 : Int)] : List Int)), ((0 : Int), (([] : List Int), (([] : List Int), (([] : List Int), (false, ((1 : Int), (([] : List Int), (([] : List Int), (([] : List Int), false)))))))))))))))
  else none)
  else
  (some (Out.go (x, (x, (false, ((0 : Int), (([] : List Int), (([] : List Int), (([] : List Int), (false, ((1 : Int), (([] : List Int), (([] : List Int), (([] : List Int), false)))))))))))))))) fun o => match o with
  | .go (z4, (z5, (z6, (z7, (z8, (z9, (z10, (z11, (z12, (z13, (z14, (z15, z16)))))))))))) =>
  (if z6 = true then
  (if 0 ≤ (7 : Int) ∧ (7 : Int) ≤ (z4.length : Int) ∧ (z4.length : Int) ≤ (z4.length : Int) then
  (let u17 : List Int := ((z4.drop 7).take (((z4.length : Int)).toNat - 7))
  (Option.bind (indexAny n (u17, ([(47 : Int), (63 : Int)] : List Int))) fun r18 =>
  (Option.bind (α := Out ((List Int) × Int × Int × (List Int) × (List Int) × (List Int) × Bool × Int × (List Int) × (List Int) × (List Int) × Bool) (Out ((List Int) × Int × (List Int) × (List Int) × (List Int) × Bool × Int × (List Int) × (List Int) × (List Int) × Bool) (Int × (List Int) × (List Int) × (List Int) × Bool × Int))) ((if (decide (r18 < (0 : Int))) = true then
  (some (Out.go (u17, ((u17.length : Int), (z7, (z8, (z9, (z10, (z11, ((2 : Int), (z13, (z14, (z15, z16)))))))))))))
  else
  (some (Out.go (u17, (r18, (z7, (z8, (z9, (z10, (z11, ((2 : Int), (z13, (z14, (z15, z16))))))))))))))) fun o => match o with
  | .go (z20, (z21, (z22, (z23, (z24, (z25, (z26, (z27, (z28, (z29, (z30, z31))))))))))) =>
  (if 0 ≤ (0 : Int) ∧ (0 : Int) ≤ z21 ∧ z21 ≤ (z20.length : Int) then
  (if 0 ≤ z21 ∧ z21 ≤ (z20.length : Int) ∧ (z20.length : Int) ≤ (z20.length : Int) then
  (let u32 : List Int := ((z20.drop z21.toNat).take (((z20.length : Int)).toNat - z21.toNat))
  (Option.bind (isHost n ((z20.drop 0).take (z21.toNat - 0))) fun r33 =>
  (if (!r33) = true then
  (Option.map Out.ret (some ((0 : Int), (([] : List Int), (([] : List Int), (([] : List Int), (false, (23 : Int))))))))
  else
  (Option.bind (strToLower n ((z20.drop 0).take (z21.toNat - 0))) fun r34 =>
  (some (Out.go (u32, (z22, (z23, (z24, (z25, (z26, (z27, (r34, (z29, (z30, z31))))))))))))))))
  else none)
  else none)
  | .ret r35 => some r35)))
  else none)
  else
  (some (Out.go (z5, (z7, (z8, (z9, (z10, (z11, (z12, (z13, (z14, (z15, z16)))))))))))))
  | .ret r36 => some r36))) fun o => match o with
  | .go (z38, (z39, (z40, (z41, (z42, (z43, (z44, (z45, (z46, (z47, z48)))))))))) =>
  (Option.bind (cut n (z38, ([(63 : Int)] : List Int))) fun r49 =>
  (Option.bind (α := Out (Int × (List Int) × (List Int) × (List Int) × Bool × Int × (List Int) × (List Int) × (List Int) × Bool) (Int × (List Int) × (List Int) × (List Int) × Bool × Int)) ((if (r49.1 == ([] : List Int)) = true then
  (if (z44 == (2 : Int)) = true then
  (some (Out.go (z39, (z40, (z41, (z42, (z43, (z44, (z45, (([(47 : Int)] : List Int), (r49.2.1, r49.2.2)))))))))))
  else
  (some (Out.go (z39, (z40, (z41, (z42, (z43, (z44, (z45, (r49.1, (r49.2.1, r49.2.2))))))))))))
  else
  (some (Out.go (z39, (z40, (z41, (z42, (z43, (z44, (z45, (r49.1, (r49.2.1, r49.2.2))))))))))))) fun o => match o with
  | .go (z51, (z52, (z53, (z54, (z55, (z56, (z57, (z58, (z59, z60))))))))) =>
  (Option.bind (isPath n z58) fun r61 =>
  (if (!r61) = true then
  some ((0 : Int), (([] : List Int), (([] : List Int), (([] : List Int), (false, (23 : Int))))))
  else
  (Option.bind (isQuery n z59) fun r62 =>
  (if (!r62) = true then
  some ((0 : Int), (([] : List Int), (([] : List Int), (([] : List Int), (false, (23 : Int))))))
  else
  some (z56, (z57, (z58, (z59, (z60, (0 : Int))))))))))
  | .ret r63 => some r63))
  | .ret r64 => some r64))
def sp_parse (n : Nat) : Spec := ⟨pre_parse, post_parse, parse n⟩
def env_parse (n : Nat) : List (FuncId × Spec) := [(23, sp_strToLower n), (24, sp_indexAny n), (25, sp_isHost n), (26, sp_cut n), (27, sp_isPath n), (28, sp_isQuery n)]
theorem run_parse (n : Nat) (x : pre_parse.T) : fnRun Tryd.prog 50 (envG (env_parse n) [] (fun _ => none)) n Tryd.f9 ann_parse pre_parse post_parse x = parse n x := by kernel_rfl
theorem ok_parse (n : Nat) : FnOK Tryd.prog 50 LS 9 (sp_parse n) :=
  fn_run mixed Tryd.func9 (sp_parse n) n ann_parse (env_parse n) (envOf_cons (ok_strToLower n) (envOf_cons (ok_indexAny n) (envOf_cons (ok_isHost n) (envOf_cons (ok_cut n) (envOf_cons (ok_isPath n) (envOf_cons (ok_isQuery n) envOf_nil)))))) [] (fun _ => none) gl_none (run_parse n) (by kernel_rfl)
def pre_normal : Shape := ⟨[.c (.dat .str)], []⟩
def post_normal : List Shape := [⟨[.c (.dat .str), .c (.dat .err)], []⟩]
def ann_normal : Ann := (.two .no (.two .no (.two .no (.two (.two .no (.one (.loop ⟨[0, 4, 5], ⟨[.c (.dat .str), .c (.ptr 500 0), .c (.dat (.int .i64))], [(500, .cells 60 [.slf 500, .own 501]), (501, .row 5 (.int .u8))]⟩⟩ .no))) (.two .no (.two .no (.two (.two .no (.one (.loop ⟨[8, 9, 49, 50, 51], ⟨[.c (.dat (.list .str)), .c (.own 500), .c (.dat (.list .str)), .c (.dat (.int .i64)), .c (.dat (.int .i64))], [(500, .row 9 .str)]⟩⟩ .no))) .no)))))))
/-- what turnstile/target.Normal comes to. -/
def normal (n : Nat) (x : List Int) : Option ((List Int) × Int) :=
  (Option.bind (isPath n x) fun r2 =>
  (if (!r2) = true then
  some (([] : List Int), (23 : Int))
  else
  (loopF (X := (List Int) × Int × List Int) (A := (List Int) × Int) (fun rec3 y4 => match y4 with
  | (a5, (a6, a7)) =>
  (if (decide (a6 < (a5.length : Int))) = true then
  (Option.bind (code n (a5, a6)) fun r8 =>
  (if (!r8.2) = true then
  (Option.bind (idx a5 a6) fun v9 =>
  (Option.bind (bldByte n (v9, a7)) fun r10 =>
  rec3 (a5, ((IntKind.wrap .i64 (a6 + (1 : Int))), r10))))
  else
  (Option.bind (unreserved n r8.1) fun r11 =>
  (if r11 = true then
  (Option.bind (bldByte n (r8.1, a7)) fun r12 =>
  (let u13 : Int := (IntKind.wrap .i64 ((IntKind.wrap .i64 (a6 + (2 : Int))) + (1 : Int)))
  rec3 (a5, (u13, r12))))
  else
  (Option.bind (coded n r8.1) fun r14 =>
  (Option.bind (bldStr n (r14, a7)) fun r15 =>
  (let u16 : Int := (IntKind.wrap .i64 ((IntKind.wrap .i64 (a6 + (2 : Int))) + (1 : Int)))
  rec3 (a5, (u16, r15.2)))))))))
  else
  (Option.bind (bldString n a7) fun r17 =>
  (if 0 ≤ (1 : Int) ∧ (1 : Int) ≤ (r17.length : Int) ∧ (r17.length : Int) ≤ (r17.length : Int) then
  (let u18 : List Int := ((r17.drop 1).take (((r17.length : Int)).toNat - 1))
  (Option.bind (split n (u18, ([(47 : Int)] : List Int))) fun r19 =>
  (loopF (X := (List (List Int)) × (List (List Int)) × Int × Int × List (List Int)) (A := (List Int) × Int) (fun rec20 y21 => match y21 with
  | (a22, (a23, (a24, (a25, a26)))) =>
  (if (decide (a25 < a24)) = true then
  (Option.bind (idx a23 a25) fun v27 =>
  (let u28 : Int := (IntKind.wrap .i64 ((a22.length : Int) - (1 : Int)))
  (if (v27 == ([(46 : Int), (46 : Int)] : List Int)) = true then
  (if ((a26.length : Int) == (0 : Int)) = true then
  some (([] : List Int), (23 : Int))
  else
  (let u29 : Int := (IntKind.wrap .i64 ((a26.length : Int) - (1 : Int)))
  (if 0 ≤ (0 : Int) ∧ (0 : Int) ≤ u29 ∧ u29 ≤ (a26.length : Int) then
  (if (a25 == u28) = true then
  (if ((a26.take u29.toNat).length + 1) * 16 ≤ 140737488355328 then
  (let u30 : List (List Int) := ((a26.take u29.toNat) ++ ([([] : List Int)] : List (List Int)))
  (let u31 : Int := (IntKind.wrap .i64 (a25 + (1 : Int)))
  rec20 (a22, (a23, (a24, (u31, u30))))))
  else none)
  else
  (let u32 : Int := (IntKind.wrap .i64 (a25 + (1 : Int)))
  rec20 (a22, (a23, (a24, (u32, (a26.take u29.toNat)))))))
  else none)))
  else
  (if (v27 == ([(46 : Int)] : List Int)) = true then
  (if (a25 == u28) = true then
  (if (a26.length + 1) * 16 ≤ 140737488355328 then
  (let u33 : List (List Int) := (a26 ++ ([([] : List Int)] : List (List Int)))
  (let u34 : Int := (IntKind.wrap .i64 (a25 + (1 : Int)))
  rec20 (a22, (a23, (a24, (u34, u33))))))
  else none)
  else
  (let u35 : Int := (IntKind.wrap .i64 (a25 + (1 : Int)))
  rec20 (a22, (a23, (a24, (u35, a26))))))
  else
  (if (a26.length + 1) * 16 ≤ 140737488355328 then
  (let u36 : Int := (IntKind.wrap .i64 (a25 + (1 : Int)))
  rec20 (a22, (a23, (a24, (u36, (a26 ++ ([v27] : List (List Int))))))))
  else none)))))
  else
  (Option.bind (join n (a26, ([(47 : Int)] : List Int))) fun r37 =>
  (if 1 + r37.length ≤ 140737488355328 then
  some ((([(47 : Int)] : List Int) ++ r37), (0 : Int))
  else none)))) n (r19, (r19, ((r19.length : Int), ((0 : Int), ([] : List (List Int)))))))))
  else none)))) n (x, ((0 : Int), ([] : List Int))))))
def sp_normal (n : Nat) : Spec := ⟨pre_normal, post_normal, normal n⟩
def env_normal (n : Nat) : List (FuncId × Spec) := [(27, sp_isPath n), (33, sp_code n), (34, sp_bldByte n), (35, sp_unreserved n), (37, sp_coded n), (36, sp_bldStr n), (39, sp_bldString n), (38, sp_split n), (40, sp_join n)]
theorem run_normal (n : Nat) (x : pre_normal.T) : fnRun Tryd.prog 50 (envG (env_normal n) [410856] (fun _ => none)) n Tryd.f13 ann_normal pre_normal post_normal x = normal n x := by kernel_rfl
theorem ok_normal (n : Nat) : FnOK Tryd.prog 50 LS 13 (sp_normal n) :=
  fn_run mixed Tryd.func13 (sp_normal n) n ann_normal (env_normal n) (envOf_cons (ok_isPath n) (envOf_cons (ok_code n) (envOf_cons (ok_bldByte n) (envOf_cons (ok_unreserved n) (envOf_cons (ok_coded n) (envOf_cons (ok_bldStr n) (envOf_cons (ok_bldString n) (envOf_cons (ok_split n) (envOf_cons (ok_join n) envOf_nil))))))))) [410856] (fun _ => none) gl_none (run_normal n) (by kernel_rfl)
def pre_rNormal : Shape := ⟨[.c (.dat .str)], []⟩
def post_rNormal : List Shape := [⟨[.c (.dat .str), .c (.dat (.int .i64))], []⟩]
def ann_rNormal : Ann := (.two .no (.two .no (.two .no (.two .no (.two (.two .no (.one (.loop ⟨[4, 5, 6], ⟨[.c (.dat (.list .str)), .c (.own 500), .c (.dat (.int .i64))], [(500, .row 9 .str)]⟩⟩ (.two .no (.two (.one (.two .no (.two .no (.one (.two (.join ⟨[4, 5, 6, 7, 38], ⟨[.c (.dat (.list .str)), .c (.own 500), .c (.dat (.int .i64)), .c (.dat .bool), .c (.dat .bool)], [(500, .row 9 .str)]⟩⟩ .no) .no))))) .no))))) (.two .no (.two (.two .no (.one (.loop ⟨[5, 8, 9], ⟨[.c (.own 500), .c (.own 501), .c (.dat (.int .i64))], [(500, .row 9 .str), (501, .row 5 (.int .u8))]⟩⟩ .no))) .no)))))))
/-- what turnstile/turnstileref08.Normal comes to. -/
def rNormal (n : Nat) (x : List Int) : Option ((List Int) × Int) :=
  (Option.bind (rPath n x) fun r2 =>
  (if (!r2) = true then
  some (([] : List Int), (23 : Int))
  else
  (Option.bind (rMeant n x) fun r3 =>
  (Option.bind (turnstileref08RSegments n r3) fun r4 =>
  (loopF (X := (List (List Int)) × Int × List (List Int)) (A := (List Int) × Int) (fun rec5 y6 => match y6 with
  | (a7, (a8, a9)) =>
  (if (decide (a8 < (a7.length : Int))) = true then
  (let u10 : Int := (IntKind.wrap .i64 ((a7.length : Int) - (1 : Int)))
  (Option.bind (idx a7 a8) fun v11 =>
  (Option.bind (α := Out ((List (List Int)) × Int × Bool × Bool × List (List Int)) ((List Int) × Int)) ((if (v11 == ([(46 : Int)] : List Int)) = true then
  (some (Out.go (a7, (a8, ((a8 == u10), ((v11 == ([(46 : Int)] : List Int)), a9))))))
  else
  (some (Out.go (a7, (a8, ((a8 == u10), ((v11 == ([(46 : Int), (46 : Int)] : List Int)), a9)))))))) fun o => match o with
  | .go (z13, (z14, (z15, (z16, z17)))) =>
  (if z16 = true then
  (Option.bind (idx z13 z14) fun v18 =>
  (if (v18 == ([(46 : Int), (46 : Int)] : List Int)) = true then
  (if ((z17.length : Int) == (0 : Int)) = true then
  some (([] : List Int), (23 : Int))
  else
  (let u19 : Int := (IntKind.wrap .i64 ((z17.length : Int) - (1 : Int)))
  (if 0 ≤ (0 : Int) ∧ (0 : Int) ≤ u19 ∧ u19 ≤ (z17.length : Int) then
  (if z15 = true then
  (if ((z17.take u19.toNat).length + 1) * 16 ≤ 140737488355328 then
  (let u20 : List (List Int) := ((z17.take u19.toNat) ++ ([([] : List Int)] : List (List Int)))
  (let u21 : Int := (IntKind.wrap .i64 (z14 + (1 : Int)))
  rec5 (z13, (u21, u20))))
  else none)
  else
  (let u22 : Int := (IntKind.wrap .i64 (z14 + (1 : Int)))
  rec5 (z13, (u22, (z17.take u19.toNat)))))
  else none)))
  else
  (if z15 = true then
  (if (z17.length + 1) * 16 ≤ 140737488355328 then
  (let u23 : List (List Int) := (z17 ++ ([([] : List Int)] : List (List Int)))
  (let u24 : Int := (IntKind.wrap .i64 (z14 + (1 : Int)))
  rec5 (z13, (u24, u23))))
  else none)
  else
  (let u25 : Int := (IntKind.wrap .i64 (z14 + (1 : Int)))
  rec5 (z13, (u25, z17))))))
  else
  (Option.bind (idx z13 z14) fun v26 =>
  (if (z17.length + 1) * 16 ≤ 140737488355328 then
  (let u27 : Int := (IntKind.wrap .i64 (z14 + (1 : Int)))
  rec5 (z13, (u27, (z17 ++ ([v26] : List (List Int))))))
  else none)))
  | .ret r28 => some r28)))
  else
  (loopF (X := Int × (List (List Int)) × List Int) (A := (List Int) × Int) (fun rec29 y30 => match y30 with
  | (a31, (a32, a33)) =>
  (if (decide (a31 < (a32.length : Int))) = true then
  (if (a33.length + 1) * 1 ≤ 140737488355328 then
  (if 0 ≤ a31 ∧ a31 < (a32.length : Int) then
  (if ((a33 ++ ([(47 : Int)] : List Int)).length + (a32.getD a31.toNat ([] : List Int)).length) * 1 ≤ 140737488355328 then
  (let u34 : List Int := ((a33 ++ ([(47 : Int)] : List Int)) ++ (a32.getD a31.toNat ([] : List Int)))
  (let u35 : Int := (IntKind.wrap .i64 (a31 + (1 : Int)))
  rec29 (u35, (a32, u34))))
  else none)
  else none)
  else none)
  else
  some (a33, (0 : Int)))) n ((0 : Int), (a9, ([] : List Int)))))) n (r4, ((0 : Int), ([] : List (List Int)))))))))
def sp_rNormal (n : Nat) : Spec := ⟨pre_rNormal, post_rNormal, rNormal n⟩
def env_rNormal (n : Nat) : List (FuncId × Spec) := [(41, sp_rPath n), (43, sp_rMeant n), (42, sp_turnstileref08RSegments n)]
theorem run_rNormal (n : Nat) (x : pre_rNormal.T) : fnRun Tryd.prog 50 (envG (env_rNormal n) [263400] (fun _ => none)) n Tryd.f14 ann_rNormal pre_rNormal post_rNormal x = rNormal n x := by kernel_rfl
theorem ok_rNormal (n : Nat) : FnOK Tryd.prog 50 LS 14 (sp_rNormal n) :=
  fn_run mixed Tryd.func14 (sp_rNormal n) n ann_rNormal (env_rNormal n) (envOf_cons (ok_rPath n) (envOf_cons (ok_rMeant n) (envOf_cons (ok_turnstileref08RSegments n) envOf_nil))) [263400] (fun _ => none) gl_none (run_rNormal n) (by kernel_rfl)
def pre_genSplitO : Shape := ⟨[.c (.dat .str), .c (.dat .str), .c (.dat (.int .i64)), .c (.dat (.int .i64))], []⟩
def post_genSplitO : List Shape := [⟨[.c (.own 10)], [(10, .row 9 .str)]⟩]
def ann_genSplitO : Ann := (.two .no (.two .no (.two .no (.two (.join ⟨[0, 1, 2, 3], ⟨[.c (.dat .str), .c (.dat .str), .c (.dat (.int .i64)), .c (.dat (.int .i64))], []⟩⟩ .no) (.two .no (.two .no (.two .no (.two .no (.two (.one (.loop ⟨[0, 1, 2, 3, 9, 10], ⟨[.c (.dat .str), .c (.dat .str), .c (.dat (.int .i64)), .c (.dat (.int .i64)), .c (.own 500), .c (.dat (.int .i64))], [(500, .row 9 .str)]⟩⟩ .no)) .no)))))))))
/-- what strings.genSplit comes to. -/
def genSplitO (n : Nat) (x : (List Int) × (List Int) × Int × Int) : Option (List (List Int)) :=
  match x with
  | (x1, (x2, (x3, x4))) =>
  (if (x4 == (0 : Int)) = true then
  some ([] : List (List Int))
  else
  (if (x2 == ([] : List Int)) = true then
  none
  else
  (Option.bind (α := Out ((List Int) × (List Int) × Int × Int) (List (List Int))) ((if (decide (x4 < (0 : Int))) = true then
  (Option.bind (stringsCount n (x1, x2)) fun r5 =>
  (some (Out.go (x1, (x2, (x3, (IntKind.wrap .i64 (r5 + (1 : Int)))))))))
  else
  (some (Out.go (x1, (x2, (x3, x4))))))) fun o => match o with
  | .go (z7, (z8, (z9, z10))) =>
  (let u11 : Int := (IntKind.wrap .i64 ((z7.length : Int) + (1 : Int)))
  (if 0 ≤ (if u11 < z10 then u11 else z10) ∧ (if u11 < z10 then u11 else z10) ≤ (if u11 < z10 then u11 else z10) ∧ (16 : Int) * (if u11 < z10 then u11 else z10) ≤ 140737488355328 then
  (let u12 : List (List Int) := (List.replicate (if u11 < z10 then u11 else z10).toNat ([] : List Int))
  (let u13 : Int := (IntKind.wrap .i64 ((if u11 < z10 then u11 else z10) - (1 : Int)))
  (loopF (X := (List Int) × (List Int) × Int × Int × Int × List (List Int)) (A := List (List Int)) (fun rec14 y15 => match y15 with
  | (a16, (a17, (a18, (a19, (a20, a21))))) =>
  (if (decide (a20 < a19)) = true then
  (Option.bind (stringsIndex n (a16, a17)) fun r22 =>
  (if (decide (r22 < (0 : Int))) = true then
  (if 0 ≤ a20 ∧ a20 < (a21.length : Int) then
  (let u23 : Int := (IntKind.wrap .i64 (a20 + (1 : Int)))
  (if 0 ≤ (0 : Int) ∧ (0 : Int) ≤ u23 ∧ u23 ≤ ((a21.set a20.toNat a16).length : Int) then
  (let u24 : List (List Int) := ((a21.set a20.toNat a16).take u23.toNat)
  some u24)
  else none))
  else none)
  else
  (if 0 ≤ (0 : Int) ∧ (0 : Int) ≤ (IntKind.wrap .i64 (r22 + a18)) ∧ (IntKind.wrap .i64 (r22 + a18)) ≤ (a16.length : Int) then
  (let u25 : List Int := ((a16.drop 0).take ((IntKind.wrap .i64 (r22 + a18)).toNat - 0))
  (if 0 ≤ a20 ∧ a20 < (a21.length : Int) then
  (let u26 : Int := (IntKind.wrap .i64 (r22 + (a17.length : Int)))
  (if 0 ≤ u26 ∧ u26 ≤ (a16.length : Int) ∧ (a16.length : Int) ≤ (a16.length : Int) then
  (let u27 : List Int := ((a16.drop u26.toNat).take (((a16.length : Int)).toNat - u26.toNat))
  (let u28 : Int := (IntKind.wrap .i64 (a20 + (1 : Int)))
  rec14 (u27, (a17, (a18, (a19, (u28, (a21.set a20.toNat u25))))))))
  else none))
  else none))
  else none)))
  else
  (if 0 ≤ a20 ∧ a20 < (a21.length : Int) then
  (let u29 : Int := (IntKind.wrap .i64 (a20 + (1 : Int)))
  (if 0 ≤ (0 : Int) ∧ (0 : Int) ≤ u29 ∧ u29 ≤ ((a21.set a20.toNat a16).length : Int) then
  (let u30 : List (List Int) := ((a21.set a20.toNat a16).take u29.toNat)
  some u30)
  else none))
  else none))) n (z7, (z8, (z9, (u13, ((0 : Int), u12))))))))
  else none))
  | .ret r31 => some r31)))
def sp_genSplitO (n : Nat) : Spec := ⟨pre_genSplitO, post_genSplitO, genSplitO n⟩
def env_genSplitO (n : Nat) : List (FuncId × Spec) := [(80, sp_stringsCount n), (81, sp_stringsIndex n)]
theorem run_genSplitO (n : Nat) (x : pre_genSplitO.T) : fnRun Tryd.prog 50 (envG (env_genSplitO n) [296104] (fun _ => none)) n Tryd.f62 ann_genSplitO pre_genSplitO post_genSplitO x = genSplitO n x := by kernel_rfl
theorem ok_genSplitO (n : Nat) : FnOK Tryd.prog 50 LS 62 (sp_genSplitO n) :=
  fn_run mixed Tryd.func62 (sp_genSplitO n) n ann_genSplitO (env_genSplitO n) (envOf_cons (ok_stringsCount n) (envOf_cons (ok_stringsIndex n) envOf_nil)) [296104] (fun _ => none) gl_none (run_genSplitO n) (by kernel_rfl)
def pre_splitO : Shape := ⟨[.c (.dat .str), .c (.dat .str)], []⟩
def post_splitO : List Shape := [⟨[.c (.own 10)], [(10, .row 9 .str)]⟩]
def ann_splitO : Ann := .no
/-- what strings.Split comes to. -/
def splitO (n : Nat) (x : (List Int) × List Int) : Option (List (List Int)) :=
  match x with
  | (x1, x2) =>
  (Option.bind (genSplitO n (x1, (x2, ((0 : Int), (-1 : Int))))) fun r3 =>
  some r3)
def sp_splitO (n : Nat) : Spec := ⟨pre_splitO, post_splitO, splitO n⟩
def env_splitO (n : Nat) : List (FuncId × Spec) := [(62, sp_genSplitO n)]
theorem run_splitO (n : Nat) (x : pre_splitO.T) : fnRun Tryd.prog 50 (envG (env_splitO n) [] (fun _ => none)) n Tryd.f38 ann_splitO pre_splitO post_splitO x = splitO n x := by kernel_rfl
theorem ok_splitO (n : Nat) : FnOK Tryd.prog 50 LS 38 (sp_splitO n) :=
  fn_run mixed Tryd.func38 (sp_splitO n) n ann_splitO (env_splitO n) (envOf_cons (ok_genSplitO n) envOf_nil) [] (fun _ => none) gl_none (run_splitO n) (by kernel_rfl)
def pre_segments : Shape := ⟨[.c (.dat .str)], []⟩
def post_segments : List Shape := [⟨[.c (.dat (.list .str)), .c (.dat .err)], []⟩]
def ann_segments : Ann := (.two .no (.two .no (.two .no (.two .no (.two .no (.two (.two .no (.one (.loop ⟨[6, 24, 25], ⟨[.c (.own 500), .c (.dat (.int .i64)), .c (.dat (.int .i64))], [(500, .row 9 .str)]⟩⟩ .no))) .no))))))
/-- what turnstile/target.Segments comes to. -/
def segments (n : Nat) (x : List Int) : Option ((List (List Int)) × Int) :=
  (Option.bind (normal n x) fun r2 =>
  (if (!(r2.2 == (0 : Int))) = true then
  some (([] : List (List Int)), r2.2)
  else
  (if 0 ≤ (1 : Int) ∧ (1 : Int) ≤ (r2.1.length : Int) ∧ (r2.1.length : Int) ≤ (r2.1.length : Int) then
  (let u3 : List Int := ((r2.1.drop 1).take (((r2.1.length : Int)).toNat - 1))
  (Option.bind (splitO n (u3, ([(47 : Int)] : List Int))) fun r4 =>
  (if (decide ((r4.length : Int) > (64 : Int))) = true then
  some (([] : List (List Int)), (2 : Int))
  else
  (loopF (X := Int × Int × List (List Int)) (A := (List (List Int)) × Int) (fun rec5 y6 => match y6 with
  | (a7, (a8, a9)) =>
  (if (decide (a8 < a7)) = true then
  (if 0 ≤ a8 ∧ a8 < (a9.length : Int) then
  (Option.bind (decode n (a9.getD a8.toNat ([] : List Int))) fun r10 =>
  (if 0 ≤ a8 ∧ a8 < (a9.length : Int) then
  rec5 (a7, ((IntKind.wrap .i64 (a8 + (1 : Int))), (a9.set a8.toNat r10.1)))
  else none))
  else none)
  else
  some (a9, (0 : Int)))) n ((r4.length : Int), ((0 : Int), r4))))))
  else none)))
def sp_segments (n : Nat) : Spec := ⟨pre_segments, post_segments, segments n⟩
def env_segments (n : Nat) : List (FuncId × Spec) := [(13, sp_normal n), (38, sp_splitO n), (18, sp_decode n)]
theorem run_segments (n : Nat) (x : pre_segments.T) : fnRun Tryd.prog 50 (envG (env_segments n) [] (fun _ => none)) n Tryd.f15 ann_segments pre_segments post_segments x = segments n x := by kernel_rfl
theorem ok_segments (n : Nat) : FnOK Tryd.prog 50 LS 15 (sp_segments n) :=
  fn_run mixed Tryd.func15 (sp_segments n) n ann_segments (env_segments n) (envOf_cons (ok_normal n) (envOf_cons (ok_splitO n) (envOf_cons (ok_decode n) envOf_nil))) [] (fun _ => none) gl_none (run_segments n) (by kernel_rfl)
def pre_rSegments : Shape := ⟨[.c (.dat .str)], []⟩
def post_rSegments : List Shape := [⟨[.c (.dat (.list .str)), .c (.dat (.int .i64))], []⟩]
def ann_rSegments : Ann := (.two .no (.two .no (.two .no (.two .no (.two .no (.two .no (.two (.two .no (.one (.loop ⟨[6, 7, 8], ⟨[.c (.dat (.list .str)), .c (.own 500), .c (.dat (.int .i64))], [(500, .row 9 .str)]⟩⟩ .no))) .no)))))))
/-- what turnstile/turnstileref08.Segments comes to. -/
def rSegments (n : Nat) (x : List Int) : Option ((List (List Int)) × Int) :=
  (Option.bind (rNormal n x) fun r2 =>
  (if (r2.2 != (0 : Int)) = true then
  some (([] : List (List Int)), r2.2)
  else
  (Option.bind (turnstileref08RSegments n r2.1) fun r3 =>
  (if (decide ((r3.length : Int) > (64 : Int))) = true then
  some (([] : List (List Int)), (2 : Int))
  else
  (loopF (X := (List (List Int)) × Int × List (List Int)) (A := (List (List Int)) × Int) (fun rec4 y5 => match y5 with
  | (a6, (a7, a8)) =>
  (if (decide (a7 < (a6.length : Int))) = true then
  (Option.bind (idx a6 a7) fun v9 =>
  (Option.bind (rDecode n v9) fun r10 =>
  (if (a8.length + 1) * 16 ≤ 140737488355328 then
  rec4 (a6, ((IntKind.wrap .i64 (a7 + (1 : Int))), (a8 ++ ([r10.1] : List (List Int)))))
  else none)))
  else
  some (a8, (0 : Int)))) n (r3, ((0 : Int), ([] : List (List Int)))))))))
def sp_rSegments (n : Nat) : Spec := ⟨pre_rSegments, post_rSegments, rSegments n⟩
def env_rSegments (n : Nat) : List (FuncId × Spec) := [(14, sp_rNormal n), (42, sp_turnstileref08RSegments n), (44, sp_rDecode n)]
theorem run_rSegments (n : Nat) (x : pre_rSegments.T) : fnRun Tryd.prog 50 (envG (env_rSegments n) [] (fun _ => none)) n Tryd.f16 ann_rSegments pre_rSegments post_rSegments x = rSegments n x := by kernel_rfl
theorem ok_rSegments (n : Nat) : FnOK Tryd.prog 50 LS 16 (sp_rSegments n) :=
  fn_run mixed Tryd.func16 (sp_rSegments n) n ann_rSegments (env_rSegments n) (envOf_cons (ok_rNormal n) (envOf_cons (ok_turnstileref08RSegments n) (envOf_cons (ok_rDecode n) envOf_nil))) [] (fun _ => none) gl_none (run_rSegments n) (by kernel_rfl)
def pre_text : Shape := ⟨[.a [.dat (.int .i64), .dat .str, .dat .str, .dat .str, .dat .bool]], []⟩
def post_text : List Shape := [⟨[.c (.dat .str), .c (.dat .err)], []⟩]
def ann_text : Ann := (.two .no (.two .no (.two (.join ⟨[1, 4], ⟨[.c (.ptr 500 0), .c (.dat .str)], [(500, .cells 23 [.dat (.int .i64), .dat .str, .dat .str, .dat .str, .dat .bool])]⟩⟩ (.one (.two .no (.two .no (.two .no (.two (.two (.join ⟨[1, 4], ⟨[.c (.ptr 500 0), .c (.dat .str)], [(500, .cells 23 [.dat (.int .i64), .dat .str, .dat .str, .dat .str, .dat .bool])]⟩⟩ .no) .no) .no)))))) .no)))
/-- what turnstile/target.Text comes to. -/
def text (n : Nat) (x : Int × (List Int) × (List Int) × (List Int) × Bool) : Option ((List Int) × Int) :=
  match x with
  | (x1, (x2, (x3, (x4, x5)))) =>
  (Option.bind (α := Out ((List Int) × Int × (List Int) × (List Int) × (List Int) × Bool) ((List Int) × Int)) ((if (x1 == (3 : Int)) = true then
  (some (Out.go (([(42 : Int)] : List Int), (x1, (x2, (x3, (x4, x5)))))))
  else
  (if (x1 == (2 : Int)) = true then
  (Option.bind (α := Out ((List Int) × Int × (List Int) × (List Int) × (List Int) × Bool) (Out ((List Int) × Int × (List Int) × (List Int) × (List Int) × Bool) ((List Int) × Int))) ((if (x3 == ([(47 : Int)] : List Int)) = true then
  (some (Out.go (([] : List Int), (x1, (x2, (x3, (x4, x5)))))))
  else
  (some (Out.go (x3, (x1, (x2, (x3, (x4, x5))))))))) fun o => match o with
  | .go (z7, (z8, (z9, (z10, (z11, z12))))) =>
  (if 7 + z9.length ≤ 140737488355328 then
  (let u13 : List Int := (([(104 : Int), (116 : Int), (116 : Int), (112 : Int), (58 : Int), (47 : Int), (47 : Int)] : List Int) ++ z9)
  (if u13.length + z7.length ≤ 140737488355328 then
  (some (Out.go ((u13 ++ z7), (z8, (z9, (z10, (z11, z12)))))))
  else none))
  else none)
  | .ret r14 => some r14)
  else
  (some (Out.go (x3, (x1, (x2, (x3, (x4, x5)))))))))) fun o => match o with
  | .go (z16, (z17, (z18, (z19, (z20, z21))))) =>
  (if z21 = true then
  (if 1 + z20.length ≤ 140737488355328 then
  (if z16.length + (([(63 : Int)] : List Int) ++ z20).length ≤ 140737488355328 then
  (let u22 : List Int := (z16 ++ (([(63 : Int)] : List Int) ++ z20))
  (Option.bind (parse n u22) fun r23 =>
  (if (!(r23.2.2.2.2.2 == (0 : Int))) = true then
  some (([] : List Int), (23 : Int))
  else
  (if (!((r23.1 == z17) && ((r23.2.1 == z18) && ((r23.2.2.1 == z19) && ((r23.2.2.2.1 == z20) && ((r23.2.2.2.2.1 == z21) && true)))))) = true then
  some (([] : List Int), (23 : Int))
  else
  some (u22, (0 : Int))))))
  else none)
  else none)
  else
  (Option.bind (parse n z16) fun r24 =>
  (if (!(r24.2.2.2.2.2 == (0 : Int))) = true then
  some (([] : List Int), (23 : Int))
  else
  (if (!((r24.1 == z17) && ((r24.2.1 == z18) && ((r24.2.2.1 == z19) && ((r24.2.2.2.1 == z20) && ((r24.2.2.2.2.1 == z21) && true)))))) = true then
  some (([] : List Int), (23 : Int))
  else
  some (z16, (0 : Int))))))
  | .ret r25 => some r25)
def sp_text (n : Nat) : Spec := ⟨pre_text, post_text, text n⟩
def env_text (n : Nat) : List (FuncId × Spec) := [(9, sp_parse n)]
theorem run_text (n : Nat) (x : pre_text.T) : fnRun Tryd.prog 50 (envG (env_text n) [] (fun _ => none)) n Tryd.f20 ann_text pre_text post_text x = text n x := by kernel_rfl
theorem ok_text (n : Nat) : FnOK Tryd.prog 50 LS 20 (sp_text n) :=
  fn_run mixed Tryd.func20 (sp_text n) n ann_text (env_text n) (envOf_cons (ok_parse n) envOf_nil) [] (fun _ => none) gl_none (run_text n) (by kernel_rfl)
def pre_rBehind : Shape := ⟨[.a [.dat (.int .i64), .dat .str, .dat .str, .dat .str, .dat .bool], .c (.dat .str)], []⟩
def post_rBehind : List Shape := [⟨[.a [.dat (.int .i64), .dat .str, .dat .str, .dat .str, .dat .bool], .c (.dat (.int .i64))], []⟩]
def ann_rBehind : Ann := (.two .no (.two .no (.two (.join ⟨[2, 4, 6, 7, 8], ⟨[.c (.ptr 500 0), .c (.ptr 501 0), .c (.dat .str), .c (.dat .str), .c (.dat .bool)], [(500, .cells 28 [.dat (.int .i64), .dat .str, .dat .str, .dat .str, .dat .bool]), (501, .cells 28 [.dat (.int .i64), .dat .str, .dat .str, .dat .str, .dat .bool])]⟩⟩ .no) .no)))
/-- what turnstile/turnstileref08.behind comes to. -/
def rBehind (n : Nat) (x : Int × (List Int) × (List Int) × (List Int) × Bool × List Int) : Option (Int × (List Int) × (List Int) × (List Int) × Bool × Int) :=
  match x with
  | (x1, (x2, (x3, (x4, (x5, x6))))) =>
  (Option.bind (rCut n (x6, (63 : Int))) fun r7 =>
  (Option.bind (α := Out ((List Int) × (List Int) × Bool × Int × (List Int) × (List Int) × (List Int) × Bool × Int × (List Int) × (List Int) × (List Int) × Bool) (Int × (List Int) × (List Int) × (List Int) × Bool × Int)) ((if (r7.1 == ([] : List Int)) = true then
  (if (x1 == (2 : Int)) = true then
  (some (Out.go (([(47 : Int)] : List Int), (r7.2.1, (r7.2.2, (x1, (x2, (x3, (x4, (x5, ((0 : Int), (([] : List Int), (([] : List Int), (([] : List Int), false))))))))))))))
  else
  (some (Out.go (r7.1, (r7.2.1, (r7.2.2, (x1, (x2, (x3, (x4, (x5, ((0 : Int), (([] : List Int), (([] : List Int), (([] : List Int), false)))))))))))))))
  else
  (some (Out.go (r7.1, (r7.2.1, (r7.2.2, (x1, (x2, (x3, (x4, (x5, ((0 : Int), (([] : List Int), (([] : List Int), (([] : List Int), false)))))))))))))))) fun o => match o with
  | .go (z9, (z10, (z11, (z12, (z13, (z14, (z15, (z16, (z17, (z18, (z19, (z20, z21)))))))))))) =>
  (Option.bind (rPath n z9) fun r22 =>
  (if (!r22) = true then
  some ((0 : Int), (([] : List Int), (([] : List Int), (([] : List Int), (false, (23 : Int))))))
  else
  (Option.bind (rQuery n z10) fun r23 =>
  (if (!r23) = true then
  some ((0 : Int), (([] : List Int), (([] : List Int), (([] : List Int), (false, (23 : Int))))))
  else
  some (z12, (z13, (z9, (z10, (z11, (0 : Int))))))))))
  | .ret r24 => some r24))
def sp_rBehind (n : Nat) : Spec := ⟨pre_rBehind, post_rBehind, rBehind n⟩
def env_rBehind (n : Nat) : List (FuncId × Spec) := [(58, sp_rCut n), (41, sp_rPath n), (59, sp_rQuery n)]
theorem run_rBehind (n : Nat) (x : pre_rBehind.T) : fnRun Tryd.prog 50 (envG (env_rBehind n) [] (fun _ => none)) n Tryd.f29 ann_rBehind pre_rBehind post_rBehind x = rBehind n x := by kernel_rfl
theorem ok_rBehind (n : Nat) : FnOK Tryd.prog 50 LS 29 (sp_rBehind n) :=
  fn_run mixed Tryd.func29 (sp_rBehind n) n ann_rBehind (env_rBehind n) (envOf_cons (ok_rCut n) (envOf_cons (ok_rPath n) (envOf_cons (ok_rQuery n) envOf_nil))) [] (fun _ => none) gl_none (run_rBehind n) (by kernel_rfl)
def pre_rParse : Shape := ⟨[.c (.dat .str)], []⟩
def post_rParse : List Shape := [⟨[.a [.dat (.int .i64), .dat .str, .dat .str, .dat .str, .dat .bool], .c (.dat (.int .i64))], []⟩]
def ann_rParse : Ann := (.two .no (.two (.one (.two .no (.two .no (.two .no (.two .no (.two (.join ⟨[0, 2, 14], ⟨[.c (.dat .str), .c (.ptr 500 0), .c (.dat .bool)], [(500, .cells 28 [.dat (.int .i64), .dat .str, .dat .str, .dat .str, .dat .bool])]⟩⟩ .no) .no)))))) (.two .no (.two .no (.two (.one (.loop ⟨[0, 2, 4], ⟨[.c (.dat .str), .c (.ptr 500 0), .c (.dat (.int .i64))], [(500, .cells 28 [.dat (.int .i64), .dat .str, .dat .str, .dat .str, .dat .bool])]⟩⟩ (.two (.two (.join ⟨[0, 2, 4, 55], ⟨[.c (.dat .str), .c (.ptr 500 0), .c (.dat (.int .i64)), .c (.dat .bool)], [(500, .cells 28 [.dat (.int .i64), .dat .str, .dat .str, .dat .str, .dat .bool])]⟩⟩ .no) .no) .no))) .no)))))
/-- what turnstile/turnstileref08.Parse comes to. -/
def rParse (n : Nat) (x : List Int) : Option (Int × (List Int) × (List Int) × (List Int) × Bool × Int) :=
  (if (decide ((x.length : Int) > (65536 : Int))) = true then
  some ((0 : Int), (([] : List Int), (([] : List Int), (([] : List Int), (false, (2 : Int))))))
  else
  (if (x == ([(42 : Int)] : List Int)) = true then
  some ((3 : Int), (([] : List Int), (([] : List Int), (([] : List Int), (false, (0 : Int))))))
  else
  (Option.bind (α := Out ((List Int) × Bool × Int × (List Int) × (List Int) × (List Int) × Bool) (Int × (List Int) × (List Int) × (List Int) × Bool × Int)) ((if (!(x == ([] : List Int))) = true then
  (Option.bind (idx x (0 : Int)) fun v2 =>
  (some (Out.go (x, ((v2 == (47 : Int)), ((0 : Int), (([] : List Int), (([] : List Int), (([] : List Int), false)))))))))
  else
  (some (Out.go (x, (false, ((0 : Int), (([] : List Int), (([] : List Int), (([] : List Int), false)))))))))) fun o => match o with
  | .go (z4, (z5, (z6, (z7, (z8, (z9, z10)))))) =>
  (if z5 = true then
  (Option.bind (rBehind n ((1 : Int), (([] : List Int), (([] : List Int), (([] : List Int), (false, z4)))))) fun r11 =>
  some (r11.1, (r11.2.1, (r11.2.2.1, (r11.2.2.2.1, (r11.2.2.2.2.1, r11.2.2.2.2.2))))))
  else
  (if (decide ((z4.length : Int) < (7 : Int))) = true then
  some ((0 : Int), (([] : List Int), (([] : List Int), (([] : List Int), (false, (23 : Int))))))
  else
  (if 0 ≤ (0 : Int) ∧ (0 : Int) ≤ (7 : Int) ∧ (7 : Int) ≤ (z4.length : Int) then
  (Option.bind (rSmall n ((z4.drop 0).take (7 - 0))) fun r12 =>
  (if (!(r12 == ([(104 : Int), (116 : Int), (116 : Int), (112 : Int), (58 : Int), (47 : Int), (47 : Int)] : List Int))) = true then
  some ((0 : Int), (([] : List Int), (([] : List Int), (([] : List Int), (false, (23 : Int))))))
  else
  (if 0 ≤ (7 : Int) ∧ (7 : Int) ≤ (z4.length : Int) ∧ (z4.length : Int) ≤ (z4.length : Int) then
  (let u13 : List Int := ((z4.drop 7).take (((z4.length : Int)).toNat - 7))
  (loopF (X := (List Int) × Int × Int × (List Int) × (List Int) × (List Int) × Bool) (A := Int × (List Int) × (List Int) × (List Int) × Bool × Int) (fun rec14 y15 => match y15 with
  | (a16, (a17, (a18, (a19, (a20, (a21, a22)))))) =>
  (Option.bind (α := Out ((List Int) × Int × Bool × Int × (List Int) × (List Int) × (List Int) × Bool) (Int × (List Int) × (List Int) × (List Int) × Bool × Int)) ((if (decide (a17 < (a16.length : Int))) = true then
  (Option.bind (idx a16 a17) fun v23 =>
  (Option.bind (rLetter n v23) fun r24 =>
  (if r24 = true then
  (some (Out.go (a16, (a17, (true, (a18, (a19, (a20, (a21, a22)))))))))
  else
  (Option.bind (idx a16 a17) fun v25 =>
  (Option.bind (rAmong n (v25, ([(45 : Int), (46 : Int), (95 : Int), (58 : Int)] : List Int))) fun r26 =>
  (some (Out.go (a16, (a17, (r26, (a18, (a19, (a20, (a21, a22))))))))))))))
  else
  (some (Out.go (a16, (a17, (false, (a18, (a19, (a20, (a21, a22))))))))))) fun o => match o with
  | .go (z28, (z29, (z30, (z31, (z32, (z33, (z34, z35))))))) =>
  (if z30 = true then
  (let u36 : Int := (IntKind.wrap .i64 (z29 + (1 : Int)))
  rec14 (z28, (u36, (z31, (z32, (z33, (z34, z35)))))))
  else
  (if (decide (z29 < (1 : Int))) = true then
  some ((0 : Int), (([] : List Int), (([] : List Int), (([] : List Int), (false, (23 : Int))))))
  else
  (if (decide (z29 > (255 : Int))) = true then
  some ((0 : Int), (([] : List Int), (([] : List Int), (([] : List Int), (false, (23 : Int))))))
  else
  (if 0 ≤ (0 : Int) ∧ (0 : Int) ≤ z29 ∧ z29 ≤ (z28.length : Int) then
  (Option.bind (rSmall n ((z28.drop 0).take (z29.toNat - 0))) fun r37 =>
  (if 0 ≤ z29 ∧ z29 ≤ (z28.length : Int) ∧ (z28.length : Int) ≤ (z28.length : Int) then
  (let u38 : List Int := ((z28.drop z29.toNat).take (((z28.length : Int)).toNat - z29.toNat))
  (Option.bind (rBehind n ((2 : Int), (r37, (([] : List Int), (([] : List Int), (false, u38)))))) fun r39 =>
  some (r39.1, (r39.2.1, (r39.2.2.1, (r39.2.2.2.1, (r39.2.2.2.2.1, r39.2.2.2.2.2)))))))
  else none))
  else none))))
  | .ret r40 => some r40)) n (u13, ((0 : Int), (z6, (z7, (z8, (z9, z10))))))))
  else none)))
  else none)))
  | .ret r41 => some r41)))
def sp_rParse (n : Nat) : Spec := ⟨pre_rParse, post_rParse, rParse n⟩
def env_rParse (n : Nat) : List (FuncId × Spec) := [(29, sp_rBehind n), (30, sp_rSmall n), (31, sp_rLetter n), (32, sp_rAmong n)]
theorem run_rParse (n : Nat) (x : pre_rParse.T) : fnRun Tryd.prog 50 (envG (env_rParse n) [] (fun _ => none)) n Tryd.f10 ann_rParse pre_rParse post_rParse x = rParse n x := by kernel_rfl
theorem ok_rParse (n : Nat) : FnOK Tryd.prog 50 LS 10 (sp_rParse n) :=
  fn_run mixed Tryd.func10 (sp_rParse n) n ann_rParse (env_rParse n) (envOf_cons (ok_rBehind n) (envOf_cons (ok_rSmall n) (envOf_cons (ok_rLetter n) (envOf_cons (ok_rAmong n) envOf_nil)))) [] (fun _ => none) gl_none (run_rParse n) (by kernel_rfl)
def pre_works : Shape := ⟨[], []⟩
def post_works : List Shape := [⟨[.c (.dat .bool)], []⟩]
def ann_works : Ann := .no
/-- what turnstile/turnstilelaw08.works comes to. -/
def works (n : Nat) (x : Unit) : Option (Bool) :=
  (Option.bind (normal n ([(47 : Int), (97 : Int), (47 : Int), (46 : Int), (47 : Int), (98 : Int), (47 : Int), (46 : Int), (46 : Int), (47 : Int), (37 : Int), (55 : Int), (101 : Int), (99 : Int), (37 : Int), (50 : Int), (102 : Int)] : List Int)) fun r1 =>
  (Option.bind (normal n ([(47 : Int), (46 : Int), (46 : Int)] : List Int)) fun r2 =>
  (Option.bind (parse n ([(104 : Int), (116 : Int), (116 : Int), (112 : Int), (58 : Int), (47 : Int), (47 : Int), (72 : Int), (58 : Int), (56 : Int), (48 : Int), (63 : Int), (120 : Int)] : List Int)) fun r3 =>
  (Option.bind (segments n ([(47 : Int), (97 : Int), (37 : Int), (50 : Int), (48 : Int), (98 : Int), (47 : Int)] : List Int)) fun r4 =>
  (if (r1.1 == ([(47 : Int), (97 : Int), (47 : Int), (126 : Int), (99 : Int), (37 : Int), (50 : Int), (70 : Int)] : List Int)) = true then
  (if (r1.2 == (0 : Int)) = true then
  (Option.bind (turnstilelaw08Num n r2.2) fun r5 =>
  (if (r5 == (23 : Int)) = true then
  (if (r3.2.2.2.2.2 == (0 : Int)) = true then
  (if (r3.2.1 == ([(104 : Int), (58 : Int), (56 : Int), (48 : Int)] : List Int)) = true then
  (if (r3.2.2.1 == ([(47 : Int)] : List Int)) = true then
  (if (r3.2.2.2.1 == ([(120 : Int)] : List Int)) = true then
  (if (r4.2 == (0 : Int)) = true then
  (if ((r4.1.length : Int) == (2 : Int)) = true then
  (Option.bind (idx r4.1 (0 : Int)) fun v6 =>
  some (v6 == ([(97 : Int), (32 : Int), (98 : Int)] : List Int)))
  else
  some false)
  else
  some false)
  else
  some false)
  else
  some false)
  else
  some false)
  else
  some false)
  else
  some false))
  else
  some false)
  else
  some false)))))
def sp_works (n : Nat) : Spec := ⟨pre_works, post_works, works n⟩
def env_works (n : Nat) : List (FuncId × Spec) := [(13, sp_normal n), (9, sp_parse n), (15, sp_segments n), (11, sp_turnstilelaw08Num n)]
theorem run_works (n : Nat) (x : pre_works.T) : fnRun Tryd.prog 50 (envG (env_works n) [] (fun _ => none)) n Tryd.f12 ann_works pre_works post_works x = works n x := by kernel_rfl
theorem ok_works (n : Nat) : FnOK Tryd.prog 50 LS 12 (sp_works n) :=
  fn_run mixed Tryd.func12 (sp_works n) n ann_works (env_works n) (envOf_cons (ok_normal n) (envOf_cons (ok_parse n) (envOf_cons (ok_segments n) (envOf_cons (ok_turnstilelaw08Num n) envOf_nil)))) [] (fun _ => none) gl_none (run_works n) (by kernel_rfl)
def pre_rText : Shape := ⟨[.a [.dat (.int .i64), .dat .str, .dat .str, .dat .str, .dat .bool]], []⟩
def post_rText : List Shape := [⟨[.c (.dat .str), .c (.dat (.int .i64))], []⟩]
def ann_rText : Ann := (.two .no (.two .no (.two (.join ⟨[1, 4], ⟨[.c (.ptr 500 0), .c (.dat .str)], [(500, .cells 28 [.dat (.int .i64), .dat .str, .dat .str, .dat .str, .dat .bool])]⟩⟩ .no) .no)))
/-- what turnstile/turnstileref08.Text comes to. -/
def rText (n : Nat) (x : Int × (List Int) × (List Int) × (List Int) × Bool) : Option ((List Int) × Int) :=
  match x with
  | (x1, (x2, (x3, (x4, x5)))) =>
  (Option.bind (α := Out ((List Int) × Int × (List Int) × (List Int) × (List Int) × Bool) ((List Int) × Int)) ((if (x1 == (3 : Int)) = true then
  (some (Out.go (([(42 : Int)] : List Int), (x1, (x2, (x3, (x4, x5)))))))
  else
  (if (x1 == (1 : Int)) = true then
  (some (Out.go (x3, (x1, (x2, (x3, (x4, x5)))))))
  else
  (if (x1 == (2 : Int)) = true then
  (if 7 + x2.length ≤ 140737488355328 then
  (let u6 : List Int := (([(104 : Int), (116 : Int), (116 : Int), (112 : Int), (58 : Int), (47 : Int), (47 : Int)] : List Int) ++ x2)
  (if (!(x3 == ([(47 : Int)] : List Int))) = true then
  (if u6.length + x3.length ≤ 140737488355328 then
  (some (Out.go ((u6 ++ x3), (x1, (x2, (x3, (x4, x5)))))))
  else none)
  else
  (some (Out.go (u6, (x1, (x2, (x3, (x4, x5)))))))))
  else none)
  else
  (some (Out.go (([] : List Int), (x1, (x2, (x3, (x4, x5))))))))))) fun o => match o with
  | .go (z8, (z9, (z10, (z11, (z12, z13))))) =>
  (if z13 = true then
  (if z8.length + 1 ≤ 140737488355328 then
  (if (z8 ++ ([(63 : Int)] : List Int)).length + z12.length ≤ 140737488355328 then
  (let u14 : List Int := ((z8 ++ ([(63 : Int)] : List Int)) ++ z12)
  (Option.bind (rParse n u14) fun r15 =>
  (if (r15.2.2.2.2.2 != (0 : Int)) = true then
  some (([] : List Int), (23 : Int))
  else
  (if (!((r15.1 == z9) && ((r15.2.1 == z10) && ((r15.2.2.1 == z11) && ((r15.2.2.2.1 == z12) && ((r15.2.2.2.2.1 == z13) && true)))))) = true then
  some (([] : List Int), (23 : Int))
  else
  some (u14, (0 : Int))))))
  else none)
  else none)
  else
  (Option.bind (rParse n z8) fun r16 =>
  (if (r16.2.2.2.2.2 != (0 : Int)) = true then
  some (([] : List Int), (23 : Int))
  else
  (if (!((r16.1 == z9) && ((r16.2.1 == z10) && ((r16.2.2.1 == z11) && ((r16.2.2.2.1 == z12) && ((r16.2.2.2.2.1 == z13) && true)))))) = true then
  some (([] : List Int), (23 : Int))
  else
  some (z8, (0 : Int))))))
  | .ret r17 => some r17)
def sp_rText (n : Nat) : Spec := ⟨pre_rText, post_rText, rText n⟩
def env_rText (n : Nat) : List (FuncId × Spec) := [(10, sp_rParse n)]
theorem run_rText (n : Nat) (x : pre_rText.T) : fnRun Tryd.prog 50 (envG (env_rText n) [] (fun _ => none)) n Tryd.f21 ann_rText pre_rText post_rText x = rText n x := by kernel_rfl
theorem ok_rText (n : Nat) : FnOK Tryd.prog 50 LS 21 (sp_rText n) :=
  fn_run mixed Tryd.func21 (sp_rText n) n ann_rText (env_rText n) (envOf_cons (ok_rParse n) envOf_nil) [] (fun _ => none) gl_none (run_rText n) (by kernel_rfl)
def pre_targetReads : Shape := ⟨[.c (.dat .str)], []⟩
def post_targetReads : List Shape := [⟨[.c (.dat .bool)], []⟩]
def ann_targetReads : Ann := .no
/-- what turnstile/turnstilelaw08.TargetReads comes to. -/
def targetReads (n : Nat) (x : List Int) : Option (Bool) :=
  (Option.bind (parse n x) fun r2 =>
  (Option.bind (rParse n x) fun r3 =>
  (if ((r2.1 == r3.1) && ((r2.2.1 == r3.2.1) && ((r2.2.2.1 == r3.2.2.1) && ((r2.2.2.2.1 == r3.2.2.2.1) && ((r2.2.2.2.2.1 == r3.2.2.2.2.1) && true))))) = true then
  (Option.bind (turnstilelaw08Num n r2.2.2.2.2.2) fun r4 =>
  (if (r4 == r3.2.2.2.2.2) = true then
  (Option.bind (works n ()) fun r5 =>
  some r5)
  else
  some false))
  else
  some false)))
def sp_targetReads (n : Nat) : Spec := ⟨pre_targetReads, post_targetReads, targetReads n⟩
def env_targetReads (n : Nat) : List (FuncId × Spec) := [(9, sp_parse n), (10, sp_rParse n), (11, sp_turnstilelaw08Num n), (12, sp_works n)]
theorem run_targetReads (n : Nat) (x : pre_targetReads.T) : fnRun Tryd.prog 50 (envG (env_targetReads n) [] (fun _ => none)) n Tryd.f3 ann_targetReads pre_targetReads post_targetReads x = targetReads n x := by kernel_rfl
theorem ok_targetReads (n : Nat) : FnOK Tryd.prog 50 LS 3 (sp_targetReads n) :=
  fn_run mixed Tryd.func3 (sp_targetReads n) n ann_targetReads (env_targetReads n) (envOf_cons (ok_parse n) (envOf_cons (ok_rParse n) (envOf_cons (ok_turnstilelaw08Num n) (envOf_cons (ok_works n) envOf_nil)))) [] (fun _ => none) gl_none (run_targetReads n) (by kernel_rfl)
def pre_targetPaths : Shape := ⟨[.c (.dat .str)], []⟩
def post_targetPaths : List Shape := [⟨[.c (.dat .bool)], []⟩]
def ann_targetPaths : Ann := .no
/-- what turnstile/turnstilelaw08.TargetPaths comes to. -/
def targetPaths (n : Nat) (x : List Int) : Option (Bool) :=
  (Option.bind (normal n x) fun r2 =>
  (Option.bind (rNormal n x) fun r3 =>
  (Option.bind (segments n x) fun r4 =>
  (Option.bind (rSegments n x) fun r5 =>
  (if (r2.1 == r3.1) = true then
  (Option.bind (turnstilelaw08Num n r2.2) fun r6 =>
  (if (r6 == r3.2) = true then
  (Option.bind (same n (r4.1, r5.1)) fun r7 =>
  (if r7 = true then
  (Option.bind (turnstilelaw08Num n r4.2) fun r8 =>
  (if (r8 == r5.2) = true then
  (Option.bind (works n ()) fun r9 =>
  some r9)
  else
  some false))
  else
  some false))
  else
  some false))
  else
  some false)))))
def sp_targetPaths (n : Nat) : Spec := ⟨pre_targetPaths, post_targetPaths, targetPaths n⟩
def env_targetPaths (n : Nat) : List (FuncId × Spec) := [(13, sp_normal n), (14, sp_rNormal n), (15, sp_segments n), (16, sp_rSegments n), (11, sp_turnstilelaw08Num n), (17, sp_same n), (12, sp_works n)]
theorem run_targetPaths (n : Nat) (x : pre_targetPaths.T) : fnRun Tryd.prog 50 (envG (env_targetPaths n) [] (fun _ => none)) n Tryd.f4 ann_targetPaths pre_targetPaths post_targetPaths x = targetPaths n x := by kernel_rfl
theorem ok_targetPaths (n : Nat) : FnOK Tryd.prog 50 LS 4 (sp_targetPaths n) :=
  fn_run mixed Tryd.func4 (sp_targetPaths n) n ann_targetPaths (env_targetPaths n) (envOf_cons (ok_normal n) (envOf_cons (ok_rNormal n) (envOf_cons (ok_segments n) (envOf_cons (ok_rSegments n) (envOf_cons (ok_turnstilelaw08Num n) (envOf_cons (ok_same n) (envOf_cons (ok_works n) envOf_nil))))))) [] (fun _ => none) gl_none (run_targetPaths n) (by kernel_rfl)
def pre_targetMeant : Shape := ⟨[.c (.dat .str)], []⟩
def post_targetMeant : List Shape := [⟨[.c (.dat .bool)], []⟩]
def ann_targetMeant : Ann := (.two .no (.two .no (.two .no (.two .no (.two .no (.two .no (.two .no (.two .no (.two (.two .no (.one (.loop ⟨[3, 11, 12], ⟨[.c (.dat .str), .c (.dat (.int .i64)), .c (.dat (.int .i64))], []⟩⟩ .no))) (.two (.two .no (.one (.loop ⟨[3, 13], ⟨[.c (.dat .str), .c (.dat (.int .i64))], []⟩⟩ .no))) .no))))))))))
/-- what turnstile/turnstilelaw08.TargetMeant comes to. -/
def targetMeant (n : Nat) (x : List Int) : Option (Bool) :=
  (Option.bind (normal n x) fun r2 =>
  (if (!(r2.2 == (0 : Int))) = true then
  (if (r2.1 == ([] : List Int)) = true then
  (Option.bind (works n ()) fun r3 =>
  some r3)
  else
  some false)
  else
  (Option.bind (normal n r2.1) fun r4 =>
  (Option.bind (segments n x) fun r5 =>
  (Option.bind (segments n r2.1) fun r6 =>
  (if (!(r4.2 == (0 : Int))) = true then
  some false
  else
  (if (!(r4.1 == r2.1)) = true then
  some false
  else
  (Option.bind (same n (r5.1, r6.1)) fun r7 =>
  (if (!r7) = true then
  some false
  else
  (Option.bind (turnstilelaw08Num n r5.2) fun r8 =>
  (Option.bind (turnstilelaw08Num n r6.2) fun r9 =>
  (if (r8 != r9) = true then
  some false
  else
  (if (decide ((r2.1.length : Int) < (1 : Int))) = true then
  some false
  else
  (Option.bind (idx r2.1 (0 : Int)) fun v10 =>
  (if (v10 != (47 : Int)) = true then
  some false
  else
  (loopF (X := (List Int) × Int × Int) (A := Bool) (fun rec11 y12 => match y12 with
  | (a13, (a14, a15)) =>
  (if (decide (a15 ≤ (a13.length : Int))) = true then
  (if (decide (a15 < (a13.length : Int))) = true then
  (Option.bind (idx a13 a15) fun v16 =>
  (if (v16 != (47 : Int)) = true then
  (let u17 : Int := (IntKind.wrap .i64 (a15 + (1 : Int)))
  rec11 (a13, (a14, u17)))
  else
  (if 0 ≤ a14 ∧ a14 ≤ a15 ∧ a15 ≤ (a13.length : Int) then
  (let u18 : List Int := ((a13.drop a14.toNat).take (a15.toNat - a14.toNat))
  (if (u18 == ([(46 : Int)] : List Int)) = true then
  some false
  else
  (if 0 ≤ a14 ∧ a14 ≤ a15 ∧ a15 ≤ (a13.length : Int) then
  (let u19 : List Int := ((a13.drop a14.toNat).take (a15.toNat - a14.toNat))
  (if (u19 == ([(46 : Int), (46 : Int)] : List Int)) = true then
  some false
  else
  (let u20 : Int := (IntKind.wrap .i64 (a15 + (1 : Int)))
  (let u21 : Int := (IntKind.wrap .i64 (a15 + (1 : Int)))
  rec11 (a13, (u20, u21))))))
  else none)))
  else none)))
  else
  (if 0 ≤ a14 ∧ a14 ≤ a15 ∧ a15 ≤ (a13.length : Int) then
  (let u22 : List Int := ((a13.drop a14.toNat).take (a15.toNat - a14.toNat))
  (if (u22 == ([(46 : Int)] : List Int)) = true then
  some false
  else
  (if 0 ≤ a14 ∧ a14 ≤ a15 ∧ a15 ≤ (a13.length : Int) then
  (let u23 : List Int := ((a13.drop a14.toNat).take (a15.toNat - a14.toNat))
  (if (u23 == ([(46 : Int), (46 : Int)] : List Int)) = true then
  some false
  else
  (let u24 : Int := (IntKind.wrap .i64 (a15 + (1 : Int)))
  (let u25 : Int := (IntKind.wrap .i64 (a15 + (1 : Int)))
  rec11 (a13, (u24, u25))))))
  else none)))
  else none))
  else
  (loopF (X := (List Int) × Int) (A := Bool) (fun rec26 y27 => match y27 with
  | (a28, a29) =>
  (let u30 : Int := (IntKind.wrap .i64 (a29 + (2 : Int)))
  (if (decide (u30 < (a28.length : Int))) = true then
  (Option.bind (idx a28 a29) fun v31 =>
  (if (v31 != (37 : Int)) = true then
  (let u32 : Int := (IntKind.wrap .i64 (a29 + (1 : Int)))
  rec26 (a28, u32))
  else
  (let u33 : Int := (IntKind.wrap .i64 (a29 + (3 : Int)))
  (if 0 ≤ a29 ∧ a29 ≤ u33 ∧ u33 ≤ (a28.length : Int) then
  (let u34 : List Int := ((a28.drop a29.toNat).take (u33.toNat - a29.toNat))
  (Option.bind (decode n u34) fun r35 =>
  (if (!(r35.2 == (0 : Int))) = true then
  some false
  else
  (if ((r35.1.length : Int) != (1 : Int)) = true then
  some false
  else
  (Option.bind (idx r35.1 (0 : Int)) fun v36 =>
  (Option.bind (rUnreserved n v36) fun r37 =>
  (if r37 = true then
  some false
  else
  (let u38 : Int := (IntKind.wrap .i64 (a29 + (1 : Int)))
  (Option.bind (idx a28 u38) fun v39 =>
  (if (decide (v39 ≥ (97 : Int))) = true then
  some false
  else
  (let u40 : Int := (IntKind.wrap .i64 (a29 + (2 : Int)))
  (Option.bind (idx a28 u40) fun v41 =>
  (if (decide (v41 ≥ (97 : Int))) = true then
  some false
  else
  (let u42 : Int := (IntKind.wrap .i64 (a29 + (1 : Int)))
  rec26 (a28, u42)))))))))))))))
  else none))))
  else
  (Option.bind (works n ()) fun r43 =>
  some r43)))) n (a13, (0 : Int))))) n (r2.1, ((1 : Int), (1 : Int)))))))))))))))))))
def sp_targetMeant (n : Nat) : Spec := ⟨pre_targetMeant, post_targetMeant, targetMeant n⟩
def env_targetMeant (n : Nat) : List (FuncId × Spec) := [(13, sp_normal n), (12, sp_works n), (15, sp_segments n), (17, sp_same n), (11, sp_turnstilelaw08Num n), (18, sp_decode n), (19, sp_rUnreserved n)]
theorem run_targetMeant (n : Nat) (x : pre_targetMeant.T) : fnRun Tryd.prog 50 (envG (env_targetMeant n) [] (fun _ => none)) n Tryd.f5 ann_targetMeant pre_targetMeant post_targetMeant x = targetMeant n x := by kernel_rfl
theorem ok_targetMeant (n : Nat) : FnOK Tryd.prog 50 LS 5 (sp_targetMeant n) :=
  fn_run mixed Tryd.func5 (sp_targetMeant n) n ann_targetMeant (env_targetMeant n) (envOf_cons (ok_normal n) (envOf_cons (ok_works n) (envOf_cons (ok_segments n) (envOf_cons (ok_same n) (envOf_cons (ok_turnstilelaw08Num n) (envOf_cons (ok_decode n) (envOf_cons (ok_rUnreserved n) envOf_nil))))))) [] (fun _ => none) gl_none (run_targetMeant n) (by kernel_rfl)
def pre_targetPrefix : Shape := ⟨[.c (.dat .str), .c (.dat (.int .i64)), .c (.dat .bool)], []⟩
def post_targetPrefix : List Shape := [⟨[.c (.dat .bool)], []⟩]
def ann_targetPrefix : Ann := (.two .no (.two .no (.two .no (.two .no (.two .no (.two (.one (.loop ⟨[1, 2, 7], ⟨[.c (.dat (.int .i64)), .c (.dat .bool), .c (.dat .str)], []⟩⟩ .no)) (.two .no (.two (.join ⟨[1, 7, 9], ⟨[.c (.dat (.int .i64)), .c (.dat .str), .c (.dat .str)], []⟩⟩ .no) .no))))))))
/-- what turnstile/turnstilelaw08.TargetPrefix comes to. -/
def targetPrefix (n : Nat) (x : (List Int) × Int × Bool) : Option (Bool) :=
  match x with
  | (x1, (x2, x3)) =>
  (Option.bind (normal n x1) fun r4 =>
  (if (!(r4.2 == (0 : Int))) = true then
  (Option.bind (works n ()) fun r5 =>
  some r5)
  else
  (if (decide ((r4.1.length : Int) > (20000 : Int))) = true then
  (Option.bind (works n ()) fun r6 =>
  some r6)
  else
  (if (r4.1 == ([] : List Int)) = true then
  some false
  else
  (Option.bind (idx r4.1 (0 : Int)) fun v7 =>
  (if (v7 != (47 : Int)) = true then
  some false
  else
  (if (r4.1.length : Int) = 0 then none else
  (let u8 : Int := (IntKind.wrap .i64 ((Int.tmod x2 (r4.1.length : Int)) + (r4.1.length : Int)))
  (if (r4.1.length : Int) = 0 then none else
  (loopF (X := Int × Bool × List Int) (A := Bool) (fun rec9 y10 => match y10 with
  | (a11, (a12, a13)) =>
  (Option.bind (idx a13 a11) fun v14 =>
  (if (v14 != (47 : Int)) = true then
  (let u15 : Int := (IntKind.wrap .i64 (a11 - (1 : Int)))
  rec9 (u15, (a12, a13)))
  else
  (Option.bind (α := Out (Int × (List Int) × List Int) (Bool)) ((if a12 = true then
  (some (Out.go (a11, (a13, ([(47 : Int), (120 : Int), (47 : Int), (37 : Int), (50 : Int), (69 : Int), (46 : Int)] : List Int)))))
  else
  (some (Out.go (a11, (a13, ([(47 : Int), (46 : Int)] : List Int))))))) fun o => match o with
  | .go (z17, (z18, z19)) =>
  (if 0 ≤ (0 : Int) ∧ (0 : Int) ≤ z17 ∧ z17 ≤ (z18.length : Int) then
  (if ((z18.drop 0).take (z17.toNat - 0)).length + z19.length ≤ 140737488355328 then
  (let u20 : List Int := (((z18.drop 0).take (z17.toNat - 0)) ++ z19)
  (if 0 ≤ z17 ∧ z17 ≤ (z18.length : Int) ∧ (z18.length : Int) ≤ (z18.length : Int) then
  (let u21 : List Int := ((z18.drop z17.toNat).take (((z18.length : Int)).toNat - z17.toNat))
  (if u20.length + u21.length ≤ 140737488355328 then
  (Option.bind (normal n (u20 ++ u21)) fun r22 =>
  (if (r22.2 == (0 : Int)) = true then
  (if (r22.1 == z18) = true then
  (Option.bind (works n ()) fun r23 =>
  some r23)
  else
  some false)
  else
  some false))
  else none))
  else none))
  else none)
  else none)
  | .ret r24 => some r24)))) n ((Int.tmod u8 (r4.1.length : Int)), (x3, r4.1))))))))))))
def sp_targetPrefix (n : Nat) : Spec := ⟨pre_targetPrefix, post_targetPrefix, targetPrefix n⟩
def env_targetPrefix (n : Nat) : List (FuncId × Spec) := [(13, sp_normal n), (12, sp_works n)]
theorem run_targetPrefix (n : Nat) (x : pre_targetPrefix.T) : fnRun Tryd.prog 50 (envG (env_targetPrefix n) [] (fun _ => none)) n Tryd.f6 ann_targetPrefix pre_targetPrefix post_targetPrefix x = targetPrefix n x := by kernel_rfl
theorem ok_targetPrefix (n : Nat) : FnOK Tryd.prog 50 LS 6 (sp_targetPrefix n) :=
  fn_run mixed Tryd.func6 (sp_targetPrefix n) n ann_targetPrefix (env_targetPrefix n) (envOf_cons (ok_normal n) (envOf_cons (ok_works n) envOf_nil)) [] (fun _ => none) gl_none (run_targetPrefix n) (by kernel_rfl)
def pre_targetTells : Shape := ⟨[.a [.dat (.int .i64), .dat .str, .dat .str, .dat .str, .dat .bool]], []⟩
def post_targetTells : List Shape := [⟨[.c (.dat .bool)], []⟩]
def ann_targetTells : Ann := .no
/-- what turnstile/turnstilelaw08.TargetTells comes to. -/
def targetTells (n : Nat) (x : Int × (List Int) × (List Int) × (List Int) × Bool) : Option (Bool) :=
  match x with
  | (x1, (x2, (x3, (x4, x5)))) =>
  (Option.bind (text n (x1, (x2, (x3, (x4, x5))))) fun r6 =>
  (Option.bind (rText n (x1, (x2, (x3, (x4, x5))))) fun r7 =>
  (if (r6.1 == r7.1) = true then
  (Option.bind (turnstilelaw08Num n r6.2) fun r8 =>
  (if (r8 == r7.2) = true then
  (Option.bind (works n ()) fun r9 =>
  some r9)
  else
  some false))
  else
  some false)))
def sp_targetTells (n : Nat) : Spec := ⟨pre_targetTells, post_targetTells, targetTells n⟩
def env_targetTells (n : Nat) : List (FuncId × Spec) := [(20, sp_text n), (21, sp_rText n), (11, sp_turnstilelaw08Num n), (12, sp_works n)]
theorem run_targetTells (n : Nat) (x : pre_targetTells.T) : fnRun Tryd.prog 50 (envG (env_targetTells n) [] (fun _ => none)) n Tryd.f7 ann_targetTells pre_targetTells post_targetTells x = targetTells n x := by kernel_rfl
theorem ok_targetTells (n : Nat) : FnOK Tryd.prog 50 LS 7 (sp_targetTells n) :=
  fn_run mixed Tryd.func7 (sp_targetTells n) n ann_targetTells (env_targetTells n) (envOf_cons (ok_text n) (envOf_cons (ok_rText n) (envOf_cons (ok_turnstilelaw08Num n) (envOf_cons (ok_works n) envOf_nil)))) [] (fun _ => none) gl_none (run_targetTells n) (by kernel_rfl)
def pre_targetBack : Shape := ⟨[.c (.dat .str)], []⟩
def post_targetBack : List Shape := [⟨[.c (.dat .bool)], []⟩]
def ann_targetBack : Ann := (.two .no (.two .no (.two .no (.two (.two .no (.one (.loop ⟨[0, 3, 4, 5, 6], ⟨[.c (.dat .str), .c (.dat .str), .c (.dat .str), .c (.dat .err), .c (.dat (.int .i64))], []⟩⟩ .no))) .no))))
/-- what turnstile/turnstilelaw08.TargetBack comes to. -/
def targetBack (n : Nat) (x : List Int) : Option (Bool) :=
  (Option.bind (encode n x) fun r2 =>
  (Option.bind (decode n r2) fun r3 =>
  (loopF (X := (List Int) × (List Int) × (List Int) × Int × Int) (A := Bool) (fun rec4 y5 => match y5 with
  | (a6, (a7, (a8, (a9, a10)))) =>
  (if (decide (a10 < (a7.length : Int))) = true then
  (Option.bind (idx a7 a10) fun v11 =>
  (if (v11 != (37 : Int)) = true then
  (Option.bind (idx a7 a10) fun v12 =>
  (Option.bind (rUnreserved n v12) fun r13 =>
  (if (!r13) = true then
  some false
  else
  (let u14 : Int := (IntKind.wrap .i64 (a10 + (1 : Int)))
  rec4 (a6, (a7, (a8, (a9, u14))))))))
  else
  (let u15 : Int := (IntKind.wrap .i64 (a10 + (1 : Int)))
  rec4 (a6, (a7, (a8, (a9, u15)))))))
  else
  (if (!(a8 == a6)) = true then
  some false
  else
  (if (!(a9 == (0 : Int))) = true then
  some false
  else
  (Option.bind (parse n a6) fun r16 =>
  (if (!(r16.2.2.2.2.2 == (0 : Int))) = true then
  (if ((r16.1 == (0 : Int)) && ((r16.2.1 == ([] : List Int)) && ((r16.2.2.1 == ([] : List Int)) && ((r16.2.2.2.1 == ([] : List Int)) && ((r16.2.2.2.2.1 == false) && true))))) = true then
  (Option.bind (works n ()) fun r17 =>
  some r17)
  else
  some false)
  else
  (Option.bind (text n (r16.1, (r16.2.1, (r16.2.2.1, (r16.2.2.2.1, r16.2.2.2.2.1))))) fun r18 =>
  (Option.bind (parse n r18.1) fun r19 =>
  (if (r18.2 == (0 : Int)) = true then
  (if (r19.2.2.2.2.2 == (0 : Int)) = true then
  (if ((r19.1 == r16.1) && ((r19.2.1 == r16.2.1) && ((r19.2.2.1 == r16.2.2.1) && ((r19.2.2.2.1 == r16.2.2.2.1) && ((r19.2.2.2.2.1 == r16.2.2.2.2.1) && true))))) = true then
  (if (decide ((r18.1.length : Int) ≤ (a6.length : Int))) = true then
  (Option.bind (works n ()) fun r20 =>
  some r20)
  else
  some false)
  else
  some false)
  else
  some false)
  else
  some false))))))))) n (x, (r2, (r3.1, (r3.2, (0 : Int))))))))
def sp_targetBack (n : Nat) : Spec := ⟨pre_targetBack, post_targetBack, targetBack n⟩
def env_targetBack (n : Nat) : List (FuncId × Spec) := [(22, sp_encode n), (18, sp_decode n), (19, sp_rUnreserved n), (9, sp_parse n), (12, sp_works n), (20, sp_text n)]
theorem run_targetBack (n : Nat) (x : pre_targetBack.T) : fnRun Tryd.prog 50 (envG (env_targetBack n) [] (fun _ => none)) n Tryd.f8 ann_targetBack pre_targetBack post_targetBack x = targetBack n x := by kernel_rfl
theorem ok_targetBack (n : Nat) : FnOK Tryd.prog 50 LS 8 (sp_targetBack n) :=
  fn_run mixed Tryd.func8 (sp_targetBack n) n ann_targetBack (env_targetBack n) (envOf_cons (ok_encode n) (envOf_cons (ok_decode n) (envOf_cons (ok_rUnreserved n) (envOf_cons (ok_parse n) (envOf_cons (ok_works n) (envOf_cons (ok_text n) envOf_nil)))))) [] (fun _ => none) gl_none (run_targetBack n) (by kernel_rfl)
end Go.Sx.YtndkpphniekmlaaDoor
