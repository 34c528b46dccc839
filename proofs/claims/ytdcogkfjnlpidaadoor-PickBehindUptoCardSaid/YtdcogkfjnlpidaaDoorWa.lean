/- Part of a proof by a small interpreter on plain values; no condition. -/
import Derived.Test.YtdcogkfjnlpidaaDoorCa
import Derived.Test.YtdcogkfjnlpidaaDoorProg
/-! written by program: the functions as plain ones, and their contracts. -/
namespace Go.Sx.YtdcogkfjnlpidaaDoor
open Go Go.Sx Go.Proofs
set_option autoImplicit false
set_option maxRecDepth 100000
set_option linter.unusedVariables false
theorem mixed : Tryd.prog.follows .mixedOrders = true := by kernel_rfl
def pre_same : Shape := ⟨[.a [.dat (.int .i64), .dat .bool, .dat .str, .dat (.int .i64), .dat .bool, .dat (.list .js), .dat (.list .str)], .a [.dat (.int .i64), .dat .bool, .dat .str, .dat (.int .i64), .dat .bool, .dat (.list .js), .dat (.list .str)], .c (.dat (.int .i64))], []⟩
def post_same : List Shape := [⟨[.c (.dat .bool)], []⟩]
def pre_few : Shape := ⟨[.a [.dat (.int .i64), .dat .bool, .dat .str, .dat (.int .i64), .dat .bool, .dat (.list .js), .dat (.list .str)], .c (.dat (.int .i64)), .c (.dat (.int .i64))], []⟩
def post_few : List Shape := [⟨[.c (.dat (.int .i64))], []⟩]
def ann_few : Ann := (.two .no (.two .no (.two .no (.two (.two .no (.one (.loop ⟨[1, 2, 3, 7, 8], ⟨[.c (.dat (.int .i64)), .c (.dat (.int .i64)), .c (.ptr 500 0), .c (.dat (.int .i64)), .c (.dat (.int .i64))], [(500, .cells 25 [.dat (.int .i64), .dat .bool, .dat .str, .dat (.int .i64), .dat .bool, .dat (.list .js), .dat (.list .str)])]⟩⟩ .no))) .no))))
/-- what turnstile/turnstilelaw07.few comes to. -/
def fewStep (n : Nat) (s_few : (Int × Bool × (List Int) × Int × Bool × (List JV) × (List (List Int)) × Int × Int) → Option (Int)) (x : Int × Bool × (List Int) × Int × Bool × (List JV) × (List (List Int)) × Int × Int) : Option (Int) :=
  match x with
  | (x1, (x2, (x3, (x4, (x5, (x6, (x7, (x8, x9)))))))) =>
  (if (decide (x8 > (200 : Int))) = true then
  some x9
  else
  (loopF (X := Int × Int × Int × Int × Int × Bool × (List Int) × Int × Bool × (List JV) × List (List Int)) (A := Int) (fun rec10 y11 => match y11 with
  | (a12, (a13, (a14, (a15, (a16, (a17, (a18, (a19, (a20, (a21, a22)))))))))) =>
  (if (decide (a15 < (a21.length : Int))) = true then
  (if (decide (a14 < a13)) = true then
  (Option.bind (idx a21 a15) fun v23 =>
  (let u24 : Int := (IntKind.wrap .i64 (a12 + (1 : Int)))
  (Option.bind (s_few (v23.kind, (v23.b, (v23.text, (v23.n, (v23.whole, (v23.list, (v23.names, (u24, (IntKind.wrap .i64 (a13 - a14))))))))))) fun r25 =>
  (let u26 : Int := (IntKind.wrap .i64 (a15 + (1 : Int)))
  rec10 (a12, (a13, ((IntKind.wrap .i64 (a14 + r25)), (u26, (a16, (a17, (a18, (a19, (a20, (a21, a22))))))))))))))
  else
  some a14)
  else
  some a14)) n (x8, (x9, ((1 : Int), ((0 : Int), (x1, (x2, (x3, (x4, (x5, (x6, x7))))))))))))
def sp_fewStep (n : Nat) (s_few : (Int × Bool × (List Int) × Int × Bool × (List JV) × (List (List Int)) × Int × Int) → Option (Int)) : Spec := ⟨pre_few, post_few, fewStep n s_few⟩
def env_fewStep (n : Nat) (s_few : (Int × Bool × (List Int) × Int × Bool × (List JV) × (List (List Int)) × Int × Int) → Option (Int)) : List (FuncId × Spec) := [(5, ⟨pre_few, post_few, s_few⟩)]
theorem run_fewStep (n : Nat) (s_few : (Int × Bool × (List Int) × Int × Bool × (List JV) × (List (List Int)) × Int × Int) → Option (Int)) (x : pre_few.T) : fnRun Tryd.prog 45 (envG (env_fewStep n s_few) [] (fun _ => none)) n Tryd.f5 ann_few pre_few post_few x = fewStep n s_few x := by kernel_rfl
theorem ok_fewStep (n : Nat) (s_few : (Int × Bool × (List Int) × Int × Bool × (List JV) × (List (List Int)) × Int × Int) → Option (Int)) (h_few : FnOK Tryd.prog 45 LD 5 ⟨pre_few, post_few, s_few⟩) : FnOK Tryd.prog 45 LD 5 (sp_fewStep n s_few) :=
  fn_run mixed Tryd.func5 (sp_fewStep n s_few) n ann_few (env_fewStep n s_few) (envOf_cons (h_few) envOf_nil) [] (fun _ => none) gl_none (run_fewStep n s_few) (by kernel_rfl)
def few (n : Nat) (x : Int × Bool × (List Int) × Int × Bool × (List JV) × (List (List Int)) × Int × Int) : Option (Int) := loopF (X := Int × Bool × (List Int) × Int × Bool × (List JV) × (List (List Int)) × Int × Int) (A := Int) (fewStep n) n x
def sp_few (n : Nat) : Spec := ⟨pre_few, post_few, few n⟩
theorem ok_few (n : Nat) : FnOK Tryd.prog 45 LD 5 (sp_few n) := rec_ok (pre := pre_few) (post := post_few) ⟨_, Tryd.func5, by kernel_rfl, by kernel_rfl⟩ (fewStep n) (fun s h => ok_fewStep n s h) n
def pre_texts : Shape := ⟨[.c (.dat (.list .str)), .c (.dat (.list .str))], []⟩
def post_texts : List Shape := [⟨[.c (.dat .bool)], []⟩]
def ann_texts : Ann := (.two .no (.two .no (.two (.two .no (.one (.loop ⟨[0, 1, 5], ⟨[.c (.dat (.list .str)), .c (.dat (.list .str)), .c (.dat (.int .i64))], []⟩⟩ .no))) .no)))
/-- what turnstile/turnstilelaw07.texts comes to. -/
def texts (n : Nat) (x : (List (List Int)) × List (List Int)) : Option (Bool) :=
  match x with
  | (x1, x2) =>
  (if ((x1.length : Int) != (x2.length : Int)) = true then
  some false
  else
  (loopF (X := (List (List Int)) × (List (List Int)) × Int) (A := Bool) (fun rec3 y4 => match y4 with
  | (a5, (a6, a7)) =>
  (if (decide (a7 < (a5.length : Int))) = true then
  (Option.bind (idx a5 a7) fun v8 =>
  (Option.bind (idx a6 a7) fun v9 =>
  (if (!(v8 == v9)) = true then
  some false
  else
  rec3 (a5, (a6, (IntKind.wrap .i64 (a7 + (1 : Int))))))))
  else
  some true)) n (x1, (x2, (0 : Int)))))
def sp_texts (n : Nat) : Spec := ⟨pre_texts, post_texts, texts n⟩
def env_texts (n : Nat) : List (FuncId × Spec) := []
theorem run_texts (n : Nat) (x : pre_texts.T) : fnRun Tryd.prog 45 (envG (env_texts n) [] (fun _ => none)) n Tryd.f12 ann_texts pre_texts post_texts x = texts n x := by kernel_rfl
theorem ok_texts (n : Nat) : FnOK Tryd.prog 45 LD 12 (sp_texts n) :=
  fn_run mixed Tryd.func12 (sp_texts n) n ann_texts (env_texts n) envOf_nil [] (fun _ => none) gl_none (run_texts n) (by kernel_rfl)
def pre_indexstringstring : Shape := ⟨[.c (.dat (.list .str)), .c (.dat .str)], []⟩
def post_indexstringstring : List Shape := [⟨[.c (.dat (.int .i64))], []⟩]
def ann_indexstringstring : Ann := (.two .no (.two (.two .no (.one (.loop ⟨[0, 1, 7, 8], ⟨[.c (.dat (.list .str)), .c (.dat .str), .c (.dat (.int .i64)), .c (.dat (.int .i64))], []⟩⟩ .no))) .no))
/-- what slices.Index[[]string,string] comes to. -/
def indexstringstring (n : Nat) (x : (List (List Int)) × List Int) : Option (Int) :=
  match x with
  | (x1, x2) =>
  (loopF (X := (List (List Int)) × (List Int) × Int × Int) (A := Int) (fun rec3 y4 => match y4 with
  | (a5, (a6, (a7, a8))) =>
  (if (decide (a8 < a7)) = true then
  (Option.bind (idx a5 a8) fun v9 =>
  (if (a6 == v9) = true then
  some a8
  else
  rec3 (a5, (a6, (a7, (IntKind.wrap .i64 (a8 + (1 : Int))))))))
  else
  some (-1 : Int))) n (x1, (x2, ((x1.length : Int), (0 : Int)))))
def sp_indexstringstring (n : Nat) : Spec := ⟨pre_indexstringstring, post_indexstringstring, indexstringstring n⟩
def env_indexstringstring (n : Nat) : List (FuncId × Spec) := []
theorem run_indexstringstring (n : Nat) (x : pre_indexstringstring.T) : fnRun Tryd.prog 45 (envG (env_indexstringstring n) [] (fun _ => none)) n Tryd.f21 ann_indexstringstring pre_indexstringstring post_indexstringstring x = indexstringstring n x := by kernel_rfl
theorem ok_indexstringstring (n : Nat) : FnOK Tryd.prog 45 LD 21 (sp_indexstringstring n) :=
  fn_run mixed Tryd.func21 (sp_indexstringstring n) n ann_indexstringstring (env_indexstringstring n) envOf_nil [] (fun _ => none) gl_none (run_indexstringstring n) (by kernel_rfl)
def pre_index : Shape := ⟨[.c (.dat .str), .c (.dat .str)], []⟩
def post_index : List Shape := [⟨[.c (.dat (.int .i64))], []⟩]
def ann_index : Ann := .no
/-- what internal/stringslite.Index comes to. -/
def index (n : Nat) (x : (List Int) × List Int) : Option (Int) :=
  match x with
  | (x1, x2) =>
  (if ((x2.length : Int) == (0 : Int)) = true then
  some (0 : Int)
  else
  (if (x2 == x1) = true then
  some (0 : Int)
  else
  (if ((x2.length : Int) == (1 : Int)) = true then
  (Option.bind (idx x2 (0 : Int)) fun v3 =>
  (Option.bind (liteIndexByte n (x1, v3)) fun r4 =>
  some r4))
  else
  (if (decide ((x2.length : Int) ≥ (x1.length : Int))) = true then
  some (-1 : Int)
  else
  none))))
def sp_index (n : Nat) : Spec := ⟨pre_index, post_index, index n⟩
def env_index (n : Nat) : List (FuncId × Spec) := [(39, sp_liteIndexByte n)]
theorem run_index (n : Nat) (x : pre_index.T) : fnRun Tryd.prog 45 (envG (env_index n) [] (fun _ => none)) n Tryd.f30 ann_index pre_index post_index x = index n x := by kernel_rfl
theorem ok_index (n : Nat) : FnOK Tryd.prog 45 LD 30 (sp_index n) :=
  fn_run mixed Tryd.func30 (sp_index n) n ann_index (env_index n) (envOf_cons (ok_liteIndexByte n) envOf_nil) [] (fun _ => none) gl_none (run_index n) (by kernel_rfl)
def pre_digits : Shape := ⟨[.c (.dat (.int .u64)), .c (.dat (.int .u64))], []⟩
def post_digits : List Shape := [⟨[.c (.dat .str)], []⟩]
def ann_digits : Ann := (.two .no (.two .no (.two .no (.two (.one (.loop ⟨[0, 1, 5, 6], ⟨[.c (.dat (.int .u64)), .c (.dat (.int .u64)), .c (.arr 500 1), .c (.dat (.int .i64))], [(500, .row 97 (.int .u8))]⟩⟩ (.two (.two (.join ⟨[0, 1, 5, 6, 12], ⟨[.c (.dat (.int .u64)), .c (.dat (.int .u64)), .c (.arr 500 1), .c (.dat (.int .i64)), .c (.dat .bool)], [(500, .row 97 (.int .u8))]⟩⟩ .no) .no) .no))) .no))))
/-- what turnstile/chars.digits comes to. -/
def digits (n : Nat) (x : Int × Int) : Option (List Int) :=
  match x with
  | (x1, x2) =>
  (loopF (X := Int × Int × Int × List Int) (A := List Int) (fun rec3 y4 => match y4 with
  | (a5, (a6, (a7, a8))) =>
  (Option.bind (α := Out (Int × Int × Int × Bool × List Int) (List Int)) ((if (a7 == (20 : Int)) = true then
  (some (Out.go (a5, (a6, (a7, (true, a8))))))
  else
  (some (Out.go (a5, (a6, (a7, ((decide (a5 > (0 : Int))), a8)))))))) fun o => match o with
  | .go (z10, (z11, (z12, (z13, z14)))) =>
  (if z13 = true then
  (let u15 : Int := (IntKind.wrap .i64 (z12 - (1 : Int)))
  (if z11 = 0 then none else
  (Option.bind (idx ([(48 : Int), (49 : Int), (50 : Int), (51 : Int), (52 : Int), (53 : Int), (54 : Int), (55 : Int), (56 : Int), (57 : Int), (97 : Int), (98 : Int), (99 : Int), (100 : Int), (101 : Int), (102 : Int)] : List Int) (Int.tmod z10 z11)) fun v16 =>
  (if 20 = z14.length then
  (if 0 ≤ u15 ∧ u15 < (z14.length : Int) then
  (if z11 = 0 then none else
  (let u17 : Int := (IntKind.wrap .u64 (Int.tdiv z10 z11))
  rec3 (u17, (z11, (u15, (z14.set u15.toNat v16))))))
  else none)
  else none))))
  else
  (if 20 = z14.length then
  (if 0 ≤ z12 ∧ z12 ≤ (20 : Int) ∧ (20 : Int) ≤ (20 : Int) then
  (let u18 : List Int := ((z14.drop z12.toNat).take (20 - z12.toNat))
  some u18)
  else none)
  else none))
  | .ret r19 => some r19)) n (x1, (x2, ((20 : Int), ([(0 : Int), (0 : Int), (0 : Int), (0 : Int), (0 : Int), (0 : Int), (0 : Int), (0 : Int), (0 : Int), (0 : Int), (0 : Int), (0 : Int), (0 : Int), (0 : Int), (0 : Int), (0 : Int), (0 : Int), (0 : Int), (0 : Int), (0 : Int)] : List Int)))))
def sp_digits (n : Nat) : Spec := ⟨pre_digits, post_digits, digits n⟩
def env_digits (n : Nat) : List (FuncId × Spec) := []
theorem run_digits (n : Nat) (x : pre_digits.T) : fnRun Tryd.prog 45 (envG (env_digits n) [] (fun _ => none)) n Tryd.f32 ann_digits pre_digits post_digits x = digits n x := by kernel_rfl
theorem ok_digits (n : Nat) : FnOK Tryd.prog 45 LD 32 (sp_digits n) :=
  fn_run mixed Tryd.func32 (sp_digits n) n ann_digits (env_digits n) envOf_nil [] (fun _ => none) gl_none (run_digits n) (by kernel_rfl)
def pre_indexintint : Shape := ⟨[.c (.dat (.list (.int .i64))), .c (.dat (.int .i64))], []⟩
def post_indexintint : List Shape := [⟨[.c (.dat (.int .i64))], []⟩]
def ann_indexintint : Ann := (.two .no (.two (.two .no (.one (.loop ⟨[0, 1, 7, 8], ⟨[.c (.dat (.list (.int .i64))), .c (.dat (.int .i64)), .c (.dat (.int .i64)), .c (.dat (.int .i64))], []⟩⟩ .no))) .no))
/-- what slices.Index[[]int,int] comes to. -/
def indexintint (n : Nat) (x : (List Int) × Int) : Option (Int) :=
  match x with
  | (x1, x2) =>
  (loopF (X := (List Int) × Int × Int × Int) (A := Int) (fun rec3 y4 => match y4 with
  | (a5, (a6, (a7, a8))) =>
  (if (decide (a8 < a7)) = true then
  (Option.bind (idx a5 a8) fun v9 =>
  (if (a6 == v9) = true then
  some a8
  else
  rec3 (a5, (a6, (a7, (IntKind.wrap .i64 (a8 + (1 : Int))))))))
  else
  some (-1 : Int))) n (x1, (x2, ((x1.length : Int), (0 : Int)))))
def sp_indexintint (n : Nat) : Spec := ⟨pre_indexintint, post_indexintint, indexintint n⟩
def env_indexintint (n : Nat) : List (FuncId × Spec) := []
theorem run_indexintint (n : Nat) (x : pre_indexintint.T) : fnRun Tryd.prog 45 (envG (env_indexintint n) [] (fun _ => none)) n Tryd.f36 ann_indexintint pre_indexintint post_indexintint x = indexintint n x := by kernel_rfl
theorem ok_indexintint (n : Nat) : FnOK Tryd.prog 45 LD 36 (sp_indexintint n) :=
  fn_run mixed Tryd.func36 (sp_indexintint n) n ann_indexintint (env_indexintint n) envOf_nil [] (fun _ => none) gl_none (run_indexintint n) (by kernel_rfl)
def pre_rSteps : Shape := ⟨[.c (.dat .str)], []⟩
def post_rSteps : List Shape := [⟨[.c (.dat (.list .str))], []⟩]
def ann_rSteps : Ann := (.two .no (.two .no (.two .no (.two .no (.two (.two .no (.one (.loop ⟨[0, 3, 4, 5], ⟨[.c (.dat .str), .c (.own 500), .c (.dat (.int .i64)), .c (.dat (.int .i64))], [(500, .row 9 .str)]⟩⟩ .no))) .no)))))
/-- what turnstile/turnstileref07.Steps comes to. -/
def rSteps (n : Nat) (x : List Int) : Option (List (List Int)) :=
  (if (x == ([] : List Int)) = true then
  some ([] : List (List Int))
  else
  (loopF (X := (List Int) × Int × Int × List (List Int)) (A := List (List Int)) (fun rec2 y3 => match y3 with
  | (a4, (a5, (a6, a7))) =>
  (if (decide (a6 ≤ (a4.length : Int))) = true then
  (if (a6 == (a4.length : Int)) = true then
  (if 0 ≤ a5 ∧ a5 ≤ a6 ∧ a6 ≤ (a4.length : Int) then
  (let u8 : List Int := ((a4.drop a5.toNat).take (a6.toNat - a5.toNat))
  (if (a7.length + 1) * 16 ≤ 140737488355328 then
  rec2 (a4, ((IntKind.wrap .i64 (a6 + (1 : Int))), ((IntKind.wrap .i64 (a6 + (1 : Int))), (a7 ++ ([u8] : List (List Int))))))
  else none))
  else none)
  else
  (Option.bind (idx a4 a6) fun v9 =>
  (if (v9 == (46 : Int)) = true then
  (if 0 ≤ a5 ∧ a5 ≤ a6 ∧ a6 ≤ (a4.length : Int) then
  (let u10 : List Int := ((a4.drop a5.toNat).take (a6.toNat - a5.toNat))
  (if (a7.length + 1) * 16 ≤ 140737488355328 then
  rec2 (a4, ((IntKind.wrap .i64 (a6 + (1 : Int))), ((IntKind.wrap .i64 (a6 + (1 : Int))), (a7 ++ ([u10] : List (List Int))))))
  else none))
  else none)
  else
  rec2 (a4, (a5, ((IntKind.wrap .i64 (a6 + (1 : Int))), a7))))))
  else
  some a7)) n (x, ((0 : Int), ((0 : Int), ([] : List (List Int)))))))
def sp_rSteps (n : Nat) : Spec := ⟨pre_rSteps, post_rSteps, rSteps n⟩
def env_rSteps (n : Nat) : List (FuncId × Spec) := []
theorem run_rSteps (n : Nat) (x : pre_rSteps.T) : fnRun Tryd.prog 45 (envG (env_rSteps n) [] (fun _ => none)) n Tryd.f37 ann_rSteps pre_rSteps post_rSteps x = rSteps n x := by kernel_rfl
theorem ok_rSteps (n : Nat) : FnOK Tryd.prog 45 LD 37 (sp_rSteps n) :=
  fn_run mixed Tryd.func37 (sp_rSteps n) n ann_rSteps (env_rSteps n) envOf_nil [] (fun _ => none) gl_none (run_rSteps n) (by kernel_rfl)
def pre_digit : Shape := ⟨[.c (.dat (.int .u8))], []⟩
def post_digit : List Shape := [⟨[.c (.dat .bool)], []⟩]
def ann_digit : Ann := .no
/-- what turnstile/chars.Digit comes to. -/
def digit (n : Nat) (x : Int) : Option (Bool) :=
  (if (decide (x ≥ (48 : Int))) = true then
  some (decide (x ≤ (57 : Int)))
  else
  some false)
def sp_digit (n : Nat) : Spec := ⟨pre_digit, post_digit, digit n⟩
def env_digit (n : Nat) : List (FuncId × Spec) := []
theorem run_digit (n : Nat) (x : pre_digit.T) : fnRun Tryd.prog 45 (envG (env_digit n) [] (fun _ => none)) n Tryd.f48 ann_digit pre_digit post_digit x = digit n x := by kernel_rfl
theorem ok_digit (n : Nat) : FnOK Tryd.prog 45 LD 48 (sp_digit n) :=
  fn_run mixed Tryd.func48 (sp_digit n) n ann_digit (env_digit n) envOf_nil [] (fun _ => none) gl_none (run_digit n) (by kernel_rfl)
def pre_rTold : Shape := ⟨[.c (.dat (.int .u64)), .c (.dat (.int .u64))], []⟩
def post_rTold : List Shape := [⟨[.c (.dat .str)], []⟩]
def ann_rTold : Ann := (.two .no (.two .no (.one (.loop ⟨[0, 1, 5], ⟨[.c (.dat (.int .u64)), .c (.dat (.int .u64)), .c (.dat .str)], []⟩⟩ .no))))
/-- what turnstile/turnstileref01.told comes to. -/
def rTold (n : Nat) (x : Int × Int) : Option (List Int) :=
  match x with
  | (x1, x2) =>
  (loopF (X := Int × Int × List Int) (A := List Int) (fun rec3 y4 => match y4 with
  | (a5, (a6, a7)) =>
  (if a6 = 0 then none else
  (if a6 = 0 then none else
  (let u8 : Int := (IntKind.wrap .u64 ((Int.tmod a5 a6) + (1 : Int)))
  (if 0 ≤ (Int.tmod a5 a6) ∧ (Int.tmod a5 a6) ≤ u8 ∧ u8 ≤ (16 : Int) then
  (let u9 : List Int := ((([(48 : Int), (49 : Int), (50 : Int), (51 : Int), (52 : Int), (53 : Int), (54 : Int), (55 : Int), (56 : Int), (57 : Int), (97 : Int), (98 : Int), (99 : Int), (100 : Int), (101 : Int), (102 : Int)] : List Int).drop (Int.tmod a5 a6).toNat).take (u8.toNat - (Int.tmod a5 a6).toNat))
  (if u9.length + a7.length ≤ 140737488355328 then
  (if a6 = 0 then none else
  (if ((IntKind.wrap .u64 (Int.tdiv a5 a6)) == (0 : Int)) = true then
  some (u9 ++ a7)
  else
  rec3 ((IntKind.wrap .u64 (Int.tdiv a5 a6)), (a6, (u9 ++ a7)))))
  else none))
  else none))))) n (x1, (x2, ([] : List Int))))
def sp_rTold (n : Nat) : Spec := ⟨pre_rTold, post_rTold, rTold n⟩
def env_rTold (n : Nat) : List (FuncId × Spec) := []
theorem run_rTold (n : Nat) (x : pre_rTold.T) : fnRun Tryd.prog 45 (envG (env_rTold n) [] (fun _ => none)) n Tryd.f50 ann_rTold pre_rTold post_rTold x = rTold n x := by kernel_rfl
theorem ok_rTold (n : Nat) : FnOK Tryd.prog 45 LD 50 (sp_rTold n) :=
  fn_run mixed Tryd.func50 (sp_rTold n) n ann_rTold (env_rTold n) envOf_nil [] (fun _ => none) gl_none (run_rTold n) (by kernel_rfl)
def pre_rDigit : Shape := ⟨[.c (.dat (.int .u8))], []⟩
def post_rDigit : List Shape := [⟨[.c (.dat .bool)], []⟩]
def ann_rDigit : Ann := .no
/-- what turnstile/turnstileref01.Digit comes to. -/
def rDigit (n : Nat) (x : Int) : Option (Bool) :=
  (if (decide (x ≥ (48 : Int))) = true then
  some (decide (x ≤ (57 : Int)))
  else
  some false)
def sp_rDigit (n : Nat) : Spec := ⟨pre_rDigit, post_rDigit, rDigit n⟩
def env_rDigit (n : Nat) : List (FuncId × Spec) := []
theorem run_rDigit (n : Nat) (x : pre_rDigit.T) : fnRun Tryd.prog 45 (envG (env_rDigit n) [] (fun _ => none)) n Tryd.f52 ann_rDigit pre_rDigit post_rDigit x = rDigit n x := by kernel_rfl
theorem ok_rDigit (n : Nat) : FnOK Tryd.prog 45 LD 52 (sp_rDigit n) :=
  fn_run mixed Tryd.func52 (sp_rDigit n) n ann_rDigit (env_rDigit n) envOf_nil [] (fun _ => none) gl_none (run_rDigit n) (by kernel_rfl)
def ann_same : Ann := (.two .no (.two .no (.two (.two .no (.one (.loop ⟨[2, 3, 4, 7], ⟨[.c (.dat (.int .i64)), .c (.ptr 500 0), .c (.ptr 501 0), .c (.dat (.int .i64))], [(500, .cells 25 [.dat (.int .i64), .dat .bool, .dat .str, .dat (.int .i64), .dat .bool, .dat (.list .js), .dat (.list .str)]), (501, .cells 25 [.dat (.int .i64), .dat .bool, .dat .str, .dat (.int .i64), .dat .bool, .dat (.list .js), .dat (.list .str)])]⟩⟩ .no))) .no)))
/-- what turnstile/turnstilelaw07.same comes to. -/
def sameStep (n : Nat) (s_same : (Int × Bool × (List Int) × Int × Bool × (List JV) × (List (List Int)) × Int × Bool × (List Int) × Int × Bool × (List JV) × (List (List Int)) × Int) → Option (Bool)) (x : Int × Bool × (List Int) × Int × Bool × (List JV) × (List (List Int)) × Int × Bool × (List Int) × Int × Bool × (List JV) × (List (List Int)) × Int) : Option (Bool) :=
  match x with
  | (x1, (x2, (x3, (x4, (x5, (x6, (x7, (x8, (x9, (x10, (x11, (x12, (x13, (x14, x15)))))))))))))) =>
  (if (x1 != x8) = true then
  some false
  else
  (if (!(x2 == x9)) = true then
  some false
  else
  (if (!(x3 == x10)) = true then
  some false
  else
  (if (x4 != x11) = true then
  some false
  else
  (if (!(x5 == x12)) = true then
  some false
  else
  (Option.bind (texts n (x7, x14)) fun r16 =>
  (if (!r16) = true then
  some false
  else
  (if ((x6.length : Int) != (x13.length : Int)) = true then
  some false
  else
  (loopF (X := Int × Int × Int × Bool × (List Int) × Int × Bool × (List JV) × (List (List Int)) × Int × Bool × (List Int) × Int × Bool × (List JV) × List (List Int)) (A := Bool) (fun rec17 y18 => match y18 with
  | (a19, (a20, (a21, (a22, (a23, (a24, (a25, (a26, (a27, (a28, (a29, (a30, (a31, (a32, (a33, a34))))))))))))))) =>
  (if (decide (a20 < (a26.length : Int))) = true then
  (if (decide (a19 > (0 : Int))) = true then
  (Option.bind (idx a26 a20) fun v35 =>
  (Option.bind (idx a33 a20) fun v36 =>
  (let u37 : Int := (IntKind.wrap .i64 (a19 - (1 : Int)))
  (Option.bind (s_same (v35.kind, (v35.b, (v35.text, (v35.n, (v35.whole, (v35.list, (v35.names, (v36.kind, (v36.b, (v36.text, (v36.n, (v36.whole, (v36.list, (v36.names, u37))))))))))))))) fun r38 =>
  (if (!r38) = true then
  some false
  else
  (let u39 : Int := (IntKind.wrap .i64 (a20 + (1 : Int)))
  rec17 (a19, (u39, (a21, (a22, (a23, (a24, (a25, (a26, (a27, (a28, (a29, (a30, (a31, (a32, (a33, a34)))))))))))))))))))))
  else
  some true)
  else
  some true)) n (x15, ((0 : Int), (x1, (x2, (x3, (x4, (x5, (x6, (x7, (x8, (x9, (x10, (x11, (x12, (x13, x14))))))))))))))))))))))))
def sp_sameStep (n : Nat) (s_same : (Int × Bool × (List Int) × Int × Bool × (List JV) × (List (List Int)) × Int × Bool × (List Int) × Int × Bool × (List JV) × (List (List Int)) × Int) → Option (Bool)) : Spec := ⟨pre_same, post_same, sameStep n s_same⟩
def env_sameStep (n : Nat) (s_same : (Int × Bool × (List Int) × Int × Bool × (List JV) × (List (List Int)) × Int × Bool × (List Int) × Int × Bool × (List JV) × (List (List Int)) × Int) → Option (Bool)) : List (FuncId × Spec) := [(12, sp_texts n), (8, ⟨pre_same, post_same, s_same⟩)]
theorem run_sameStep (n : Nat) (s_same : (Int × Bool × (List Int) × Int × Bool × (List JV) × (List (List Int)) × Int × Bool × (List Int) × Int × Bool × (List JV) × (List (List Int)) × Int) → Option (Bool)) (x : pre_same.T) : fnRun Tryd.prog 45 (envG (env_sameStep n s_same) [] (fun _ => none)) n Tryd.f8 ann_same pre_same post_same x = sameStep n s_same x := by kernel_rfl
theorem ok_sameStep (n : Nat) (s_same : (Int × Bool × (List Int) × Int × Bool × (List JV) × (List (List Int)) × Int × Bool × (List Int) × Int × Bool × (List JV) × (List (List Int)) × Int) → Option (Bool)) (h_same : FnOK Tryd.prog 45 LD 8 ⟨pre_same, post_same, s_same⟩) : FnOK Tryd.prog 45 LD 8 (sp_sameStep n s_same) :=
  fn_run mixed Tryd.func8 (sp_sameStep n s_same) n ann_same (env_sameStep n s_same) (envOf_cons (ok_texts n) (envOf_cons (h_same) envOf_nil)) [] (fun _ => none) gl_none (run_sameStep n s_same) (by kernel_rfl)
def same (n : Nat) (x : Int × Bool × (List Int) × Int × Bool × (List JV) × (List (List Int)) × Int × Bool × (List Int) × Int × Bool × (List JV) × (List (List Int)) × Int) : Option (Bool) := loopF (X := Int × Bool × (List Int) × Int × Bool × (List JV) × (List (List Int)) × Int × Bool × (List Int) × Int × Bool × (List JV) × (List (List Int)) × Int) (A := Bool) (sameStep n) n x
def sp_same (n : Nat) : Spec := ⟨pre_same, post_same, same n⟩
theorem ok_same (n : Nat) : FnOK Tryd.prog 45 LD 8 (sp_same n) := rec_ok (pre := pre_same) (post := post_same) ⟨_, Tryd.func8, by kernel_rfl, by kernel_rfl⟩ (sameStep n) (fun s h => ok_sameStep n s h) n
def pre_containsstringstring : Shape := ⟨[.c (.dat (.list .str)), .c (.dat .str)], []⟩
def post_containsstringstring : List Shape := [⟨[.c (.dat .bool)], []⟩]
def ann_containsstringstring : Ann := .no
/-- what slices.Contains[[]string,string] comes to. -/
def containsstringstring (n : Nat) (x : (List (List Int)) × List Int) : Option (Bool) :=
  match x with
  | (x1, x2) =>
  (Option.bind (indexstringstring n (x1, x2)) fun r3 =>
  some (decide (r3 ≥ (0 : Int))))
def sp_containsstringstring (n : Nat) : Spec := ⟨pre_containsstringstring, post_containsstringstring, containsstringstring n⟩
def env_containsstringstring (n : Nat) : List (FuncId × Spec) := [(21, sp_indexstringstring n)]
theorem run_containsstringstring (n : Nat) (x : pre_containsstringstring.T) : fnRun Tryd.prog 45 (envG (env_containsstringstring n) [] (fun _ => none)) n Tryd.f18 ann_containsstringstring pre_containsstringstring post_containsstringstring x = containsstringstring n x := by kernel_rfl
theorem ok_containsstringstring (n : Nat) : FnOK Tryd.prog 45 LD 18 (sp_containsstringstring n) :=
  fn_run mixed Tryd.func18 (sp_containsstringstring n) n ann_containsstringstring (env_containsstringstring n) (envOf_cons (ok_indexstringstring n) envOf_nil) [] (fun _ => none) gl_none (run_containsstringstring n) (by kernel_rfl)
def pre_stringsliteCut : Shape := ⟨[.c (.dat .str), .c (.dat .str)], []⟩
def post_stringsliteCut : List Shape := [⟨[.c (.dat .str), .c (.dat .str), .c (.dat .bool)], []⟩]
def ann_stringsliteCut : Ann := .no
/-- what internal/stringslite.Cut comes to. -/
def stringsliteCut (n : Nat) (x : (List Int) × List Int) : Option ((List Int) × (List Int) × Bool) :=
  match x with
  | (x1, x2) =>
  (Option.bind (index n (x1, x2)) fun r3 =>
  (if (decide (r3 ≥ (0 : Int))) = true then
  (if 0 ≤ (0 : Int) ∧ (0 : Int) ≤ r3 ∧ r3 ≤ (x1.length : Int) then
  (let u4 : Int := (IntKind.wrap .i64 (r3 + (x2.length : Int)))
  (if 0 ≤ u4 ∧ u4 ≤ (x1.length : Int) ∧ (x1.length : Int) ≤ (x1.length : Int) then
  (let u5 : List Int := ((x1.drop u4.toNat).take (((x1.length : Int)).toNat - u4.toNat))
  some (((x1.drop 0).take (r3.toNat - 0)), (u5, true)))
  else none))
  else none)
  else
  some (x1, (([] : List Int), false))))
def sp_stringsliteCut (n : Nat) : Spec := ⟨pre_stringsliteCut, post_stringsliteCut, stringsliteCut n⟩
def env_stringsliteCut (n : Nat) : List (FuncId × Spec) := [(30, sp_index n)]
theorem run_stringsliteCut (n : Nat) (x : pre_stringsliteCut.T) : fnRun Tryd.prog 45 (envG (env_stringsliteCut n) [] (fun _ => none)) n Tryd.f20 ann_stringsliteCut pre_stringsliteCut post_stringsliteCut x = stringsliteCut n x := by kernel_rfl
theorem ok_stringsliteCut (n : Nat) : FnOK Tryd.prog 45 LD 20 (sp_stringsliteCut n) :=
  fn_run mixed Tryd.func20 (sp_stringsliteCut n) n ann_stringsliteCut (env_stringsliteCut n) (envOf_cons (ok_index n) envOf_nil) [] (fun _ => none) gl_none (run_stringsliteCut n) (by kernel_rfl)
def pre_charsText : Shape := ⟨[.c (.dat (.int .i64))], []⟩
def post_charsText : List Shape := [⟨[.c (.dat .str)], []⟩]
def ann_charsText : Ann := .no
/-- what turnstile/chars.Text comes to. -/
def charsText (n : Nat) (x : Int) : Option (List Int) :=
  (if (decide (x < (0 : Int))) = true then
  (let u2 : Int := (IntKind.wrap .u64 (0 - (IntKind.wrap .u64 x)))
  (Option.bind (digits n (u2, (10 : Int))) fun r3 =>
  (if 1 + r3.length ≤ 140737488355328 then
  some (([(45 : Int)] : List Int) ++ r3)
  else none)))
  else
  (Option.bind (digits n ((IntKind.wrap .u64 x), (10 : Int))) fun r4 =>
  some r4))
def sp_charsText (n : Nat) : Spec := ⟨pre_charsText, post_charsText, charsText n⟩
def env_charsText (n : Nat) : List (FuncId × Spec) := [(32, sp_digits n)]
theorem run_charsText (n : Nat) (x : pre_charsText.T) : fnRun Tryd.prog 45 (envG (env_charsText n) [] (fun _ => none)) n Tryd.f23 ann_charsText pre_charsText post_charsText x = charsText n x := by kernel_rfl
theorem ok_charsText (n : Nat) : FnOK Tryd.prog 45 LD 23 (sp_charsText n) :=
  fn_run mixed Tryd.func23 (sp_charsText n) n ann_charsText (env_charsText n) (envOf_cons (ok_digits n) envOf_nil) [] (fun _ => none) gl_none (run_charsText n) (by kernel_rfl)
def pre_containsintint : Shape := ⟨[.c (.dat (.list (.int .i64))), .c (.dat (.int .i64))], []⟩
def post_containsintint : List Shape := [⟨[.c (.dat .bool)], []⟩]
def ann_containsintint : Ann := .no
/-- what slices.Contains[[]int,int] comes to. -/
def containsintint (n : Nat) (x : (List Int) × Int) : Option (Bool) :=
  match x with
  | (x1, x2) =>
  (Option.bind (indexintint n (x1, x2)) fun r3 =>
  some (decide (r3 ≥ (0 : Int))))
def sp_containsintint (n : Nat) : Spec := ⟨pre_containsintint, post_containsintint, containsintint n⟩
def env_containsintint (n : Nat) : List (FuncId × Spec) := [(36, sp_indexintint n)]
theorem run_containsintint (n : Nat) (x : pre_containsintint.T) : fnRun Tryd.prog 45 (envG (env_containsintint n) [] (fun _ => none)) n Tryd.f28 ann_containsintint pre_containsintint post_containsintint x = containsintint n x := by kernel_rfl
theorem ok_containsintint (n : Nat) : FnOK Tryd.prog 45 LD 28 (sp_containsintint n) :=
  fn_run mixed Tryd.func28 (sp_containsintint n) n ann_containsintint (env_containsintint n) (envOf_cons (ok_indexintint n) envOf_nil) [] (fun _ => none) gl_none (run_containsintint n) (by kernel_rfl)
def pre_hex : Shape := ⟨[.c (.dat (.int .u8))], []⟩
def post_hex : List Shape := [⟨[.c (.dat (.int .i64)), .c (.dat .bool)], []⟩]
def ann_hex : Ann := .no
/-- what turnstile/chars.Hex comes to. -/
def hex (n : Nat) (x : Int) : Option (Int × Bool) :=
  (Option.bind (digit n x) fun r2 =>
  (if r2 = true then
  (let u3 : Int := (IntKind.wrap .i64 (IntKind.wrap .u8 (x - (48 : Int))))
  some (u3, true))
  else
  (if (decide (x ≥ (97 : Int))) = true then
  (if (decide (x ≤ (102 : Int))) = true then
  (let u4 : Int := (IntKind.wrap .i64 (IntKind.wrap .u8 (x - (97 : Int))))
  (let u5 : Int := (IntKind.wrap .i64 (u4 + (10 : Int)))
  some (u5, true)))
  else
  (if (decide (x ≥ (65 : Int))) = true then
  (if (decide (x ≤ (70 : Int))) = true then
  (let u6 : Int := (IntKind.wrap .i64 (IntKind.wrap .u8 (x - (65 : Int))))
  (let u7 : Int := (IntKind.wrap .i64 (u6 + (10 : Int)))
  some (u7, true)))
  else
  some ((0 : Int), false))
  else
  some ((0 : Int), false)))
  else
  (if (decide (x ≥ (65 : Int))) = true then
  (if (decide (x ≤ (70 : Int))) = true then
  (let u8 : Int := (IntKind.wrap .i64 (IntKind.wrap .u8 (x - (65 : Int))))
  (let u9 : Int := (IntKind.wrap .i64 (u8 + (10 : Int)))
  some (u9, true)))
  else
  some ((0 : Int), false))
  else
  some ((0 : Int), false)))))
def sp_hex (n : Nat) : Spec := ⟨pre_hex, post_hex, hex n⟩
def env_hex (n : Nat) : List (FuncId × Spec) := [(48, sp_digit n)]
theorem run_hex (n : Nat) (x : pre_hex.T) : fnRun Tryd.prog 45 (envG (env_hex n) [] (fun _ => none)) n Tryd.f43 ann_hex pre_hex post_hex x = hex n x := by kernel_rfl
theorem ok_hex (n : Nat) : FnOK Tryd.prog 45 LD 43 (sp_hex n) :=
  fn_run mixed Tryd.func43 (sp_hex n) n ann_hex (env_hex n) (envOf_cons (ok_digit n) envOf_nil) [] (fun _ => none) gl_none (run_hex n) (by kernel_rfl)
def pre_rText : Shape := ⟨[.c (.dat (.int .i64))], []⟩
def post_rText : List Shape := [⟨[.c (.dat .str)], []⟩]
def ann_rText : Ann := .no
/-- what turnstile/turnstileref01.Text comes to. -/
def rText (n : Nat) (x : Int) : Option (List Int) :=
  (if (decide (x < (0 : Int))) = true then
  (let u2 : Int := (IntKind.wrap .u64 (0 - (IntKind.wrap .u64 x)))
  (Option.bind (rTold n (u2, (10 : Int))) fun r3 =>
  (if 1 + r3.length ≤ 140737488355328 then
  some (([(45 : Int)] : List Int) ++ r3)
  else none)))
  else
  (Option.bind (rTold n ((IntKind.wrap .u64 x), (10 : Int))) fun r4 =>
  some r4))
def sp_rText (n : Nat) : Spec := ⟨pre_rText, post_rText, rText n⟩
def env_rText (n : Nat) : List (FuncId × Spec) := [(50, sp_rTold n)]
theorem run_rText (n : Nat) (x : pre_rText.T) : fnRun Tryd.prog 45 (envG (env_rText n) [] (fun _ => none)) n Tryd.f45 ann_rText pre_rText post_rText x = rText n x := by kernel_rfl
theorem ok_rText (n : Nat) : FnOK Tryd.prog 45 LD 45 (sp_rText n) :=
  fn_run mixed Tryd.func45 (sp_rText n) n ann_rText (env_rText n) (envOf_cons (ok_rTold n) envOf_nil) [] (fun _ => none) gl_none (run_rText n) (by kernel_rfl)
def pre_rHex : Shape := ⟨[.c (.dat (.int .u8))], []⟩
def post_rHex : List Shape := [⟨[.c (.dat (.int .i64)), .c (.dat .bool)], []⟩]
def ann_rHex : Ann := .no
/-- what turnstile/turnstileref01.Hex comes to. -/
def rHex (n : Nat) (x : Int) : Option (Int × Bool) :=
  (Option.bind (rDigit n x) fun r2 =>
  (if r2 = true then
  (let u3 : Int := (IntKind.wrap .i64 (IntKind.wrap .u8 (x - (48 : Int))))
  some (u3, true))
  else
  (if (decide (x ≥ (97 : Int))) = true then
  (if (decide (x ≤ (102 : Int))) = true then
  (let u4 : Int := (IntKind.wrap .i64 (IntKind.wrap .u8 (x - (97 : Int))))
  (let u5 : Int := (IntKind.wrap .i64 (u4 + (10 : Int)))
  some (u5, true)))
  else
  (if (decide (x ≥ (65 : Int))) = true then
  (if (decide (x ≤ (70 : Int))) = true then
  (let u6 : Int := (IntKind.wrap .i64 (IntKind.wrap .u8 (x - (65 : Int))))
  (let u7 : Int := (IntKind.wrap .i64 (u6 + (10 : Int)))
  some (u7, true)))
  else
  some ((0 : Int), false))
  else
  some ((0 : Int), false)))
  else
  (if (decide (x ≥ (65 : Int))) = true then
  (if (decide (x ≤ (70 : Int))) = true then
  (let u8 : Int := (IntKind.wrap .i64 (IntKind.wrap .u8 (x - (65 : Int))))
  (let u9 : Int := (IntKind.wrap .i64 (u8 + (10 : Int)))
  some (u9, true)))
  else
  some ((0 : Int), false))
  else
  some ((0 : Int), false)))))
def sp_rHex (n : Nat) : Spec := ⟨pre_rHex, post_rHex, rHex n⟩
def env_rHex (n : Nat) : List (FuncId × Spec) := [(52, sp_rDigit n)]
theorem run_rHex (n : Nat) (x : pre_rHex.T) : fnRun Tryd.prog 45 (envG (env_rHex n) [] (fun _ => none)) n Tryd.f51 ann_rHex pre_rHex post_rHex x = rHex n x := by kernel_rfl
theorem ok_rHex (n : Nat) : FnOK Tryd.prog 45 LD 51 (sp_rHex n) :=
  fn_run mixed Tryd.func51 (sp_rHex n) n ann_rHex (env_rHex n) (envOf_cons (ok_rDigit n) envOf_nil) [] (fun _ => none) gl_none (run_rHex n) (by kernel_rfl)
def pre_cut : Shape := ⟨[.c (.dat .str), .c (.dat .str)], []⟩
def post_cut : List Shape := [⟨[.c (.dat .str), .c (.dat .str), .c (.dat .bool)], []⟩]
def ann_cut : Ann := .no
/-- what strings.Cut comes to. -/
def cut (n : Nat) (x : (List Int) × List Int) : Option ((List Int) × (List Int) × Bool) :=
  match x with
  | (x1, x2) =>
  (Option.bind (stringsliteCut n (x1, x2)) fun r3 =>
  some (r3.1, (r3.2.1, r3.2.2)))
def sp_cut (n : Nat) : Spec := ⟨pre_cut, post_cut, cut n⟩
def env_cut (n : Nat) : List (FuncId × Spec) := [(20, sp_stringsliteCut n)]
theorem run_cut (n : Nat) (x : pre_cut.T) : fnRun Tryd.prog 45 (envG (env_cut n) [] (fun _ => none)) n Tryd.f14 ann_cut pre_cut post_cut x = cut n x := by kernel_rfl
theorem ok_cut (n : Nat) : FnOK Tryd.prog 45 LD 14 (sp_cut n) :=
  fn_run mixed Tryd.func14 (sp_cut n) n ann_cut (env_cut n) (envOf_cons (ok_stringsliteCut n) envOf_nil) [] (fun _ => none) gl_none (run_cut n) (by kernel_rfl)
def pre_number : Shape := ⟨[.c (.dat .str), .c (.dat (.int .i64)), .c (.dat (.int .i64))], []⟩
def post_number : List Shape := [⟨[.c (.dat (.int .i64)), .c (.dat .err)], []⟩]
def ann_number : Ann := (.two .no (.two .no (.two .no (.two (.two .no (.one (.loop ⟨[0, 1, 2, 8, 9, 10], ⟨[.c (.dat .str), .c (.dat (.int .i64)), .c (.dat (.int .i64)), .c (.dat (.int .i64)), .c (.dat .bool), .c (.dat (.int .i64))], []⟩⟩ .no))) .no))))
/-- what turnstile/chars.number comes to. -/
def number (n : Nat) (x : (List Int) × Int × Int) : Option (Int × Int) :=
  match x with
  | (x1, (x2, x3)) =>
  (if (decide (x3 < (0 : Int))) = true then
  some ((0 : Int), (1 : Int))
  else
  (loopF (X := (List Int) × Int × Int × Int × Bool × Int) (A := Int × Int) (fun rec4 y5 => match y5 with
  | (a6, (a7, (a8, (a9, (a10, a11))))) =>
  (if (decide (a11 < (a6.length : Int))) = true then
  (Option.bind (idx a6 a11) fun v12 =>
  (Option.bind (hex n v12) fun r13 =>
  (if (!r13.2) = true then
  some ((0 : Int), (3 : Int))
  else
  (if (decide (r13.1 ≥ a7)) = true then
  some ((0 : Int), (3 : Int))
  else
  (if a10 = true then
  (let u14 : Int := (IntKind.wrap .i64 (a11 + (1 : Int)))
  rec4 (a6, (a7, (a8, (a9, (true, u14))))))
  else
  (if a7 = 0 then none else
  (let u15 : Int := (IntKind.wrap .i64 (Int.tdiv (IntKind.wrap .i64 (a8 - r13.1)) a7))
  (if (decide (a9 > u15)) = true then
  (let u16 : Int := (IntKind.wrap .i64 (a11 + (1 : Int)))
  rec4 (a6, (a7, (a8, (a9, (true, u16))))))
  else
  (if (decide (a8 < r13.1)) = true then
  (let u17 : Int := (IntKind.wrap .i64 (a11 + (1 : Int)))
  rec4 (a6, (a7, (a8, (a9, (true, u17))))))
  else
  (let u18 : Int := (IntKind.wrap .i64 ((IntKind.wrap .i64 (a9 * a7)) + r13.1))
  (let u19 : Int := (IntKind.wrap .i64 (a11 + (1 : Int)))
  rec4 (a6, (a7, (a8, (u18, (a10, u19))))))))))))))))
  else
  (if (a6 == ([] : List Int)) = true then
  some ((0 : Int), (3 : Int))
  else
  (if a10 = true then
  some ((0 : Int), (4 : Int))
  else
  some (a9, (0 : Int)))))) n (x1, (x2, (x3, ((0 : Int), ((x1 == ([] : List Int)), (0 : Int))))))))
def sp_number (n : Nat) : Spec := ⟨pre_number, post_number, number n⟩
def env_number (n : Nat) : List (FuncId × Spec) := [(43, sp_hex n)]
theorem run_number (n : Nat) (x : pre_number.T) : fnRun Tryd.prog 45 (envG (env_number n) [] (fun _ => none)) n Tryd.f31 ann_number pre_number post_number x = number n x := by kernel_rfl
theorem ok_number (n : Nat) : FnOK Tryd.prog 45 LD 31 (sp_number n) :=
  fn_run mixed Tryd.func31 (sp_number n) n ann_number (env_number n) (envOf_cons (ok_hex n) envOf_nil) [] (fun _ => none) gl_none (run_number n) (by kernel_rfl)
def pre_rNumber : Shape := ⟨[.c (.dat .str), .c (.dat (.int .i64)), .c (.dat (.int .i64))], []⟩
def post_rNumber : List Shape := [⟨[.c (.dat (.int .i64)), .c (.dat (.int .i64))], []⟩]
def ann_rNumber : Ann := (.two .no (.two .no (.two (.two .no (.one (.loop ⟨[0, 1, 2, 8], ⟨[.c (.dat .str), .c (.dat (.int .i64)), .c (.dat (.int .i64)), .c (.dat (.int .i64))], []⟩⟩ .no))) (.two .no (.two .no (.two (.two .no (.one (.loop ⟨[0, 1, 2, 11, 12], ⟨[.c (.dat .str), .c (.dat (.int .i64)), .c (.dat (.int .i64)), .c (.dat (.int .i64)), .c (.dat (.int .i64))], []⟩⟩ .no))) .no))))))
/-- what turnstile/turnstileref01.number comes to. -/
def rNumber (n : Nat) (x : (List Int) × Int × Int) : Option (Int × Int) :=
  match x with
  | (x1, (x2, x3)) =>
  (if (decide (x3 < (0 : Int))) = true then
  some ((0 : Int), (1 : Int))
  else
  (loopF (X := (List Int) × Int × Int × Int) (A := Int × Int) (fun rec4 y5 => match y5 with
  | (a6, (a7, (a8, a9))) =>
  (if (decide (a9 < (a6.length : Int))) = true then
  (Option.bind (idx a6 a9) fun v10 =>
  (Option.bind (rHex n v10) fun r11 =>
  (if (!r11.2) = true then
  some ((0 : Int), (3 : Int))
  else
  (if (decide (r11.1 ≥ a7)) = true then
  some ((0 : Int), (3 : Int))
  else
  rec4 (a6, (a7, (a8, (IntKind.wrap .i64 (a9 + (1 : Int))))))))))
  else
  (if ((a6.length : Int) == (0 : Int)) = true then
  some ((0 : Int), (3 : Int))
  else
  (loopF (X := (List Int) × Int × Int × Int × Int) (A := Int × Int) (fun rec12 y13 => match y13 with
  | (a14, (a15, (a16, (a17, a18)))) =>
  (if (decide (a18 < (a14.length : Int))) = true then
  (Option.bind (idx a14 a18) fun v19 =>
  (Option.bind (rHex n v19) fun r20 =>
  (if (decide (r20.1 > a16)) = true then
  some ((0 : Int), (4 : Int))
  else
  (if a15 = 0 then none else
  (let u21 : Int := (IntKind.wrap .i64 (Int.tdiv (IntKind.wrap .i64 (a16 - r20.1)) a15))
  (if (decide (a17 > u21)) = true then
  some ((0 : Int), (4 : Int))
  else
  (let u22 : Int := (IntKind.wrap .i64 ((IntKind.wrap .i64 (a17 * a15)) + r20.1))
  (let u23 : Int := (IntKind.wrap .i64 (a18 + (1 : Int)))
  rec12 (a14, (a15, (a16, (u22, u23))))))))))))
  else
  some (a17, (0 : Int)))) n (a6, (a7, (a8, ((0 : Int), (0 : Int))))))))) n (x1, (x2, (x3, (0 : Int))))))
def sp_rNumber (n : Nat) : Spec := ⟨pre_rNumber, post_rNumber, rNumber n⟩
def env_rNumber (n : Nat) : List (FuncId × Spec) := [(51, sp_rHex n)]
theorem run_rNumber (n : Nat) (x : pre_rNumber.T) : fnRun Tryd.prog 45 (envG (env_rNumber n) [] (fun _ => none)) n Tryd.f49 ann_rNumber pre_rNumber post_rNumber x = rNumber n x := by kernel_rfl
theorem ok_rNumber (n : Nat) : FnOK Tryd.prog 45 LD 49 (sp_rNumber n) :=
  fn_run mixed Tryd.func49 (sp_rNumber n) n ann_rNumber (env_rNumber n) (envOf_cons (ok_rHex n) envOf_nil) [] (fun _ => none) gl_none (run_rNumber n) (by kernel_rfl)
def pre_decimal : Shape := ⟨[.c (.dat .str), .c (.dat (.int .i64))], []⟩
def post_decimal : List Shape := [⟨[.c (.dat (.int .i64)), .c (.dat .err)], []⟩]
def ann_decimal : Ann := .no
/-- what turnstile/chars.Decimal comes to. -/
def decimal (n : Nat) (x : (List Int) × Int) : Option (Int × Int) :=
  match x with
  | (x1, x2) =>
  (Option.bind (number n (x1, ((10 : Int), x2))) fun r3 =>
  some (r3.1, r3.2))
def sp_decimal (n : Nat) : Spec := ⟨pre_decimal, post_decimal, decimal n⟩
def env_decimal (n : Nat) : List (FuncId × Spec) := [(31, sp_number n)]
theorem run_decimal (n : Nat) (x : pre_decimal.T) : fnRun Tryd.prog 45 (envG (env_decimal n) [] (fun _ => none)) n Tryd.f22 ann_decimal pre_decimal post_decimal x = decimal n x := by kernel_rfl
theorem ok_decimal (n : Nat) : FnOK Tryd.prog 45 LD 22 (sp_decimal n) :=
  fn_run mixed Tryd.func22 (sp_decimal n) n ann_decimal (env_decimal n) (envOf_cons (ok_number n) envOf_nil) [] (fun _ => none) gl_none (run_decimal n) (by kernel_rfl)
def pre_rDecimal : Shape := ⟨[.c (.dat .str), .c (.dat (.int .i64))], []⟩
def post_rDecimal : List Shape := [⟨[.c (.dat (.int .i64)), .c (.dat (.int .i64))], []⟩]
def ann_rDecimal : Ann := .no
/-- what turnstile/turnstileref01.Decimal comes to. -/
def rDecimal (n : Nat) (x : (List Int) × Int) : Option (Int × Int) :=
  match x with
  | (x1, x2) =>
  (Option.bind (rNumber n (x1, ((10 : Int), x2))) fun r3 =>
  some (r3.1, r3.2))
def sp_rDecimal (n : Nat) : Spec := ⟨pre_rDecimal, post_rDecimal, rDecimal n⟩
def env_rDecimal (n : Nat) : List (FuncId × Spec) := [(49, sp_rNumber n)]
theorem run_rDecimal (n : Nat) (x : pre_rDecimal.T) : fnRun Tryd.prog 45 (envG (env_rDecimal n) [] (fun _ => none)) n Tryd.f44 ann_rDecimal pre_rDecimal post_rDecimal x = rDecimal n x := by kernel_rfl
theorem ok_rDecimal (n : Nat) : FnOK Tryd.prog 45 LD 44 (sp_rDecimal n) :=
  fn_run mixed Tryd.func44 (sp_rDecimal n) n ann_rDecimal (env_rDecimal n) (envOf_cons (ok_rNumber n) envOf_nil) [] (fun _ => none) gl_none (run_rDecimal n) (by kernel_rfl)
def pre_step : Shape := ⟨[.a [.dat (.int .i64), .dat .bool, .dat .str, .dat (.int .i64), .dat .bool, .dat (.list .js), .dat (.list .str)], .c (.dat .str)], []⟩
def post_step : List Shape := [⟨[.a [.dat (.int .i64), .dat .bool, .dat .str, .dat (.int .i64), .dat .bool, .dat (.list .js), .dat (.list .str)], .c (.dat .bool)], []⟩]
def ann_step : Ann := (.two .no (.two .no (.two (.join ⟨[1, 2, 4, 6], ⟨[.c (.dat .str), .c (.ptr 500 0), .c (.ptr 501 0), .c (.dat (.int .i64))], [(500, .cells 25 [.dat (.int .i64), .dat .bool, .dat .str, .dat (.int .i64), .dat .bool, .dat (.list .js), .dat (.list .str)]), (501, .cells 25 [.dat (.int .i64), .dat .bool, .dat .str, .dat (.int .i64), .dat .bool, .own 502, .own 503]), (502, .row 25 .js), (503, .row 9 .str)]⟩⟩ .no) .no)))
/-- what turnstile/pick.step comes to. -/
def step (n : Nat) (x : Int × Bool × (List Int) × Int × Bool × (List JV) × (List (List Int)) × List Int) : Option (Int × Bool × (List Int) × Int × Bool × (List JV) × (List (List Int)) × Bool) :=
  match x with
  | (x1, (x2, (x3, (x4, (x5, (x6, (x7, x8))))))) =>
  (Option.bind (α := Out ((List Int) × Int × Int × Bool × (List Int) × Int × Bool × (List JV) × (List (List Int)) × Int × Bool × (List Int) × Int × Bool × (List JV) × List (List Int)) (Int × Bool × (List Int) × Int × Bool × (List JV) × (List (List Int)) × Bool)) ((if (x1 == (6 : Int)) = true then
  (Option.bind (indexstringstring n (x7, x8)) fun r9 =>
  (some (Out.go (x8, (r9, (x1, (x2, (x3, (x4, (x5, (x6, (x7, ((0 : Int), (false, (([] : List Int), ((0 : Int), (false, (([] : List JV), ([] : List (List Int))))))))))))))))))))
  else
  (if (x1 == (5 : Int)) = true then
  (Option.bind (decimal n (x8, (x6.length : Int))) fun r10 =>
  (if (r10.2 == (0 : Int)) = true then
  (Option.bind (charsText n r10.1) fun r11 =>
  (if (r11 == x8) = true then
  (some (Out.go (x8, (r10.1, (x1, (x2, (x3, (x4, (x5, (x6, (x7, ((0 : Int), (false, (([] : List Int), ((0 : Int), (false, (([] : List JV), ([] : List (List Int)))))))))))))))))))
  else
  (some (Out.go (x8, ((-1 : Int), (x1, (x2, (x3, (x4, (x5, (x6, (x7, ((0 : Int), (false, (([] : List Int), ((0 : Int), (false, (([] : List JV), ([] : List (List Int)))))))))))))))))))))
  else
  (some (Out.go (x8, ((-1 : Int), (x1, (x2, (x3, (x4, (x5, (x6, (x7, ((0 : Int), (false, (([] : List Int), ((0 : Int), (false, (([] : List JV), ([] : List (List Int)))))))))))))))))))))
  else
  (some (Out.go (x8, ((-1 : Int), (x1, (x2, (x3, (x4, (x5, (x6, (x7, ((0 : Int), (false, (([] : List Int), ((0 : Int), (false, (([] : List JV), ([] : List (List Int)))))))))))))))))))))) fun o => match o with
  | .go (z13, (z14, (z15, (z16, (z17, (z18, (z19, (z20, (z21, (z22, (z23, (z24, (z25, (z26, (z27, z28))))))))))))))) =>
  (if (z13 == ([] : List Int)) = true then
  some ((0 : Int), (false, (([] : List Int), ((0 : Int), (false, (([] : List JV), (([] : List (List Int)), false)))))))
  else
  (if (decide (z14 < (0 : Int))) = true then
  some ((0 : Int), (false, (([] : List Int), ((0 : Int), (false, (([] : List JV), (([] : List (List Int)), false)))))))
  else
  (if (decide (z14 ≥ (z20.length : Int))) = true then
  some ((0 : Int), (false, (([] : List Int), ((0 : Int), (false, (([] : List JV), (([] : List (List Int)), false)))))))
  else
  (Option.bind (idx z20 z14) fun v29 =>
  some (v29.kind, (v29.b, (v29.text, (v29.n, (v29.whole, (v29.list, (v29.names, true)))))))))))
  | .ret r30 => some r30)
def sp_step (n : Nat) : Spec := ⟨pre_step, post_step, step n⟩
def env_step (n : Nat) : List (FuncId × Spec) := [(21, sp_indexstringstring n), (22, sp_decimal n), (23, sp_charsText n)]
theorem run_step (n : Nat) (x : pre_step.T) : fnRun Tryd.prog 45 (envG (env_step n) [] (fun _ => none)) n Tryd.f15 ann_step pre_step post_step x = step n x := by kernel_rfl
theorem ok_step (n : Nat) : FnOK Tryd.prog 45 LD 15 (sp_step n) :=
  fn_run mixed Tryd.func15 (sp_step n) n ann_step (env_step n) (envOf_cons (ok_indexstringstring n) (envOf_cons (ok_decimal n) (envOf_cons (ok_charsText n) envOf_nil))) [] (fun _ => none) gl_none (run_step n) (by kernel_rfl)
def pre_rStep : Shape := ⟨[.a [.dat (.int .i64), .dat .bool, .dat .str, .dat (.int .i64), .dat .bool, .dat (.list .js), .dat (.list .str)], .c (.dat .str)], []⟩
def post_rStep : List Shape := [⟨[.c (.dat (.int .i64))], []⟩]
def ann_rStep : Ann := (.two .no (.two (.two .no (.one (.two .no (.two (.two .no (.one (.loop ⟨[1, 2, 5], ⟨[.c (.dat .str), .c (.ptr 500 0), .c (.dat (.int .i64))], [(500, .cells 25 [.dat (.int .i64), .dat .bool, .dat .str, .dat (.int .i64), .dat .bool, .dat (.list .js), .dat (.list .str)])]⟩⟩ .no))) .no)))) .no))
/-- what turnstile/turnstileref07.step comes to. -/
def rStep (n : Nat) (x : Int × Bool × (List Int) × Int × Bool × (List JV) × (List (List Int)) × List Int) : Option (Int) :=
  match x with
  | (x1, (x2, (x3, (x4, (x5, (x6, (x7, x8))))))) =>
  (if (x1 == (6 : Int)) = true then
  (loopF (X := (List Int) × Int × Int × Bool × (List Int) × Int × Bool × (List JV) × List (List Int)) (A := Int) (fun rec9 y10 => match y10 with
  | (a11, (a12, (a13, (a14, (a15, (a16, (a17, (a18, a19)))))))) =>
  (if (decide (a12 < (a19.length : Int))) = true then
  (if (decide (a12 < (a18.length : Int))) = true then
  (Option.bind (idx a19 a12) fun v20 =>
  (if (v20 == a11) = true then
  (if (!(a11 == ([] : List Int))) = true then
  some a12
  else
  (let u21 : Int := (IntKind.wrap .i64 (a12 + (1 : Int)))
  rec9 (a11, (u21, (a13, (a14, (a15, (a16, (a17, (a18, a19))))))))))
  else
  (let u22 : Int := (IntKind.wrap .i64 (a12 + (1 : Int)))
  rec9 (a11, (u22, (a13, (a14, (a15, (a16, (a17, (a18, a19)))))))))))
  else
  some (-1 : Int))
  else
  some (-1 : Int))) n (x8, ((0 : Int), (x1, (x2, (x3, (x4, (x5, (x6, x7)))))))))
  else
  (if (x1 == (5 : Int)) = true then
  (Option.bind (rDecimal n (x8, (1099511627776 : Int))) fun r23 =>
  (if (r23.2 == (0 : Int)) = true then
  (Option.bind (rText n r23.1) fun r24 =>
  (if (r24 == x8) = true then
  (if (decide (r23.1 < (x6.length : Int))) = true then
  some r23.1
  else
  some (-1 : Int))
  else
  some (-1 : Int)))
  else
  some (-1 : Int)))
  else
  some (-1 : Int)))
def sp_rStep (n : Nat) : Spec := ⟨pre_rStep, post_rStep, rStep n⟩
def env_rStep (n : Nat) : List (FuncId × Spec) := [(44, sp_rDecimal n), (45, sp_rText n)]
theorem run_rStep (n : Nat) (x : pre_rStep.T) : fnRun Tryd.prog 45 (envG (env_rStep n) [] (fun _ => none)) n Tryd.f38 ann_rStep pre_rStep post_rStep x = rStep n x := by kernel_rfl
theorem ok_rStep (n : Nat) : FnOK Tryd.prog 45 LD 38 (sp_rStep n) :=
  fn_run mixed Tryd.func38 (sp_rStep n) n ann_rStep (env_rStep n) (envOf_cons (ok_rDecimal n) (envOf_cons (ok_rText n) envOf_nil)) [] (fun _ => none) gl_none (run_rStep n) (by kernel_rfl)
def pre_pickAt : Shape := ⟨[.a [.dat (.int .i64), .dat .bool, .dat .str, .dat (.int .i64), .dat .bool, .dat (.list .js), .dat (.list .str)], .c (.dat .str)], []⟩
def post_pickAt : List Shape := [⟨[.a [.dat (.int .i64), .dat .bool, .dat .str, .dat (.int .i64), .dat .bool, .dat (.list .js), .dat (.list .str)], .c (.dat .err)], []⟩]
def ann_pickAt : Ann := (.two .no (.two (.two .no (.one (.loop ⟨[1, 2, 4, 6], ⟨[.c (.dat .str), .c (.ptr 500 0), .c (.ptr 501 0), .c (.dat .bool)], [(500, .cells 25 [.dat (.int .i64), .dat .bool, .dat .str, .dat (.int .i64), .dat .bool, .dat (.list .js), .dat (.list .str)]), (501, .cells 25 [.dat (.int .i64), .dat .bool, .dat .str, .dat (.int .i64), .dat .bool, .own 502, .own 503]), (502, .row 25 .js), (503, .row 9 .str)]⟩⟩ .no))) .no))
/-- what turnstile/pick.At comes to. -/
def pickAt (n : Nat) (x : Int × Bool × (List Int) × Int × Bool × (List JV) × (List (List Int)) × List Int) : Option (Int × Bool × (List Int) × Int × Bool × (List JV) × (List (List Int)) × Int) :=
  match x with
  | (x1, (x2, (x3, (x4, (x5, (x6, (x7, x8))))))) =>
  (loopF (X := (List Int) × Bool × Int × Bool × (List Int) × Int × Bool × (List JV) × (List (List Int)) × Int × Bool × (List Int) × Int × Bool × (List JV) × List (List Int)) (A := Int × Bool × (List Int) × Int × Bool × (List JV) × (List (List Int)) × Int) (fun rec9 y10 => match y10 with
  | (a11, (a12, (a13, (a14, (a15, (a16, (a17, (a18, (a19, (a20, (a21, (a22, (a23, (a24, (a25, a26))))))))))))))) =>
  (if a12 = true then
  (Option.bind (cut n (a11, ([(46 : Int)] : List Int))) fun r27 =>
  (Option.bind (step n (a13, (a14, (a15, (a16, (a17, (a18, (a19, r27.1)))))))) fun r28 =>
  (if (!r28.2.2.2.2.2.2.2) = true then
  some ((0 : Int), (false, (([] : List Int), ((0 : Int), (false, (([] : List JV), (([] : List (List Int)), (8 : Int))))))))
  else
  rec9 (r27.2.1, (r27.2.2, (r28.1, (r28.2.1, (r28.2.2.1, (r28.2.2.2.1, (r28.2.2.2.2.1, (r28.2.2.2.2.2.1, (r28.2.2.2.2.2.2.1, (a20, (a21, (a22, (a23, (a24, (a25, a26))))))))))))))))))
  else
  some (a13, (a14, (a15, (a16, (a17, (a18, (a19, (0 : Int)))))))))) n (x8, ((!(x8 == ([] : List Int))), (x1, (x2, (x3, (x4, (x5, (x6, (x7, ((0 : Int), (false, (([] : List Int), ((0 : Int), (false, (([] : List JV), ([] : List (List Int))))))))))))))))))
def sp_pickAt (n : Nat) : Spec := ⟨pre_pickAt, post_pickAt, pickAt n⟩
def env_pickAt (n : Nat) : List (FuncId × Spec) := [(14, sp_cut n), (15, sp_step n)]
theorem run_pickAt (n : Nat) (x : pre_pickAt.T) : fnRun Tryd.prog 45 (envG (env_pickAt n) [] (fun _ => none)) n Tryd.f7 ann_pickAt pre_pickAt post_pickAt x = pickAt n x := by kernel_rfl
theorem ok_pickAt (n : Nat) : FnOK Tryd.prog 45 LD 7 (sp_pickAt n) :=
  fn_run mixed Tryd.func7 (sp_pickAt n) n ann_pickAt (env_pickAt n) (envOf_cons (ok_cut n) (envOf_cons (ok_step n) envOf_nil)) [] (fun _ => none) gl_none (run_pickAt n) (by kernel_rfl)
def pre_kind : Shape := ⟨[.a [.dat (.int .i64), .dat .bool, .dat .str, .dat (.int .i64), .dat .bool, .dat (.list .js), .dat (.list .str)], .c (.dat .str), .c (.dat (.list (.int .i64)))], []⟩
def post_kind : List Shape := [⟨[.a [.dat (.int .i64), .dat .bool, .dat .str, .dat (.int .i64), .dat .bool, .dat (.list .js), .dat (.list .str)], .c (.dat .err)], []⟩]
def ann_kind : Ann := .no
/-- what turnstile/pick.kind comes to. -/
def kind (n : Nat) (x : Int × Bool × (List Int) × Int × Bool × (List JV) × (List (List Int)) × (List Int) × List Int) : Option (Int × Bool × (List Int) × Int × Bool × (List JV) × (List (List Int)) × Int) :=
  match x with
  | (x1, (x2, (x3, (x4, (x5, (x6, (x7, (x8, x9)))))))) =>
  (Option.bind (pickAt n (x1, (x2, (x3, (x4, (x5, (x6, (x7, x8)))))))) fun r10 =>
  (if (r10.2.2.2.2.2.2.2 == (0 : Int)) = true then
  (Option.bind (containsintint n (x9, r10.1)) fun r11 =>
  (if (!r11) = true then
  some ((0 : Int), (false, (([] : List Int), ((0 : Int), (false, (([] : List JV), (([] : List (List Int)), (7 : Int))))))))
  else
  (if (!(r10.2.2.2.2.2.2.2 == (0 : Int))) = true then
  some ((0 : Int), (false, (([] : List Int), ((0 : Int), (false, (([] : List JV), (([] : List (List Int)), r10.2.2.2.2.2.2.2)))))))
  else
  some (r10.1, (r10.2.1, (r10.2.2.1, (r10.2.2.2.1, (r10.2.2.2.2.1, (r10.2.2.2.2.2.1, (r10.2.2.2.2.2.2.1, (0 : Int)))))))))))
  else
  (if (!(r10.2.2.2.2.2.2.2 == (0 : Int))) = true then
  some ((0 : Int), (false, (([] : List Int), ((0 : Int), (false, (([] : List JV), (([] : List (List Int)), r10.2.2.2.2.2.2.2)))))))
  else
  some (r10.1, (r10.2.1, (r10.2.2.1, (r10.2.2.2.1, (r10.2.2.2.2.1, (r10.2.2.2.2.2.1, (r10.2.2.2.2.2.2.1, (0 : Int)))))))))))
def sp_kind (n : Nat) : Spec := ⟨pre_kind, post_kind, kind n⟩
def env_kind (n : Nat) : List (FuncId × Spec) := [(7, sp_pickAt n), (28, sp_containsintint n)]
theorem run_kind (n : Nat) (x : pre_kind.T) : fnRun Tryd.prog 45 (envG (env_kind n) [] (fun _ => none)) n Tryd.f17 ann_kind pre_kind post_kind x = kind n x := by kernel_rfl
theorem ok_kind (n : Nat) : FnOK Tryd.prog 45 LD 17 (sp_kind n) :=
  fn_run mixed Tryd.func17 (sp_kind n) n ann_kind (env_kind n) (envOf_cons (ok_pickAt n) (envOf_cons (ok_containsintint n) envOf_nil)) [] (fun _ => none) gl_none (run_kind n) (by kernel_rfl)
def pre_rAt : Shape := ⟨[.a [.dat (.int .i64), .dat .bool, .dat .str, .dat (.int .i64), .dat .bool, .dat (.list .js), .dat (.list .str)], .c (.dat .str)], []⟩
def post_rAt : List Shape := [⟨[.a [.dat (.int .i64), .dat .bool, .dat .str, .dat (.int .i64), .dat .bool, .dat (.list .js), .dat (.list .str)], .c (.dat (.int .i64))], []⟩]
def ann_rAt : Ann := (.two .no (.two .no (.two (.two .no (.one (.loop ⟨[2, 4, 6, 7], ⟨[.c (.ptr 500 0), .c (.ptr 501 0), .c (.dat (.list .str)), .c (.dat (.int .i64))], [(500, .cells 25 [.dat (.int .i64), .dat .bool, .dat .str, .dat (.int .i64), .dat .bool, .dat (.list .js), .dat (.list .str)]), (501, .cells 25 [.dat (.int .i64), .dat .bool, .dat .str, .dat (.int .i64), .dat .bool, .own 502, .own 503]), (502, .row 25 .js), (503, .row 9 .str)]⟩⟩ .no))) .no)))
/-- what turnstile/turnstileref07.At comes to. -/
def rAt (n : Nat) (x : Int × Bool × (List Int) × Int × Bool × (List JV) × (List (List Int)) × List Int) : Option (Int × Bool × (List Int) × Int × Bool × (List JV) × (List (List Int)) × Int) :=
  match x with
  | (x1, (x2, (x3, (x4, (x5, (x6, (x7, x8))))))) =>
  (Option.bind (rSteps n x8) fun r9 =>
  (loopF (X := (List (List Int)) × Int × Int × Bool × (List Int) × Int × Bool × (List JV) × (List (List Int)) × Int × Bool × (List Int) × Int × Bool × (List JV) × List (List Int)) (A := Int × Bool × (List Int) × Int × Bool × (List JV) × (List (List Int)) × Int) (fun rec10 y11 => match y11 with
  | (a12, (a13, (a14, (a15, (a16, (a17, (a18, (a19, (a20, (a21, (a22, (a23, (a24, (a25, (a26, a27))))))))))))))) =>
  (if (decide (a13 < (a12.length : Int))) = true then
  (Option.bind (idx a12 a13) fun v28 =>
  (Option.bind (rStep n (a14, (a15, (a16, (a17, (a18, (a19, (a20, v28)))))))) fun r29 =>
  (if (decide (r29 < (0 : Int))) = true then
  some ((0 : Int), (false, (([] : List Int), ((0 : Int), (false, (([] : List JV), (([] : List (List Int)), (8 : Int))))))))
  else
  (Option.bind (idx a19 r29) fun v30 =>
  (let u31 : Int := (IntKind.wrap .i64 (a13 + (1 : Int)))
  rec10 (a12, (u31, (v30.kind, (v30.b, (v30.text, (v30.n, (v30.whole, (v30.list, (v30.names, (a21, (a22, (a23, (a24, (a25, (a26, a27))))))))))))))))))))
  else
  some (a14, (a15, (a16, (a17, (a18, (a19, (a20, (0 : Int)))))))))) n (r9, ((0 : Int), (x1, (x2, (x3, (x4, (x5, (x6, (x7, ((0 : Int), (false, (([] : List Int), ((0 : Int), (false, (([] : List JV), ([] : List (List Int)))))))))))))))))))
def sp_rAt (n : Nat) : Spec := ⟨pre_rAt, post_rAt, rAt n⟩
def env_rAt (n : Nat) : List (FuncId × Spec) := [(37, sp_rSteps n), (38, sp_rStep n)]
theorem run_rAt (n : Nat) (x : pre_rAt.T) : fnRun Tryd.prog 45 (envG (env_rAt n) [] (fun _ => none)) n Tryd.f29 ann_rAt pre_rAt post_rAt x = rAt n x := by kernel_rfl
theorem ok_rAt (n : Nat) : FnOK Tryd.prog 45 LD 29 (sp_rAt n) :=
  fn_run mixed Tryd.func29 (sp_rAt n) n ann_rAt (env_rAt n) (envOf_cons (ok_rSteps n) (envOf_cons (ok_rStep n) envOf_nil)) [] (fun _ => none) gl_none (run_rAt n) (by kernel_rfl)
def pre_only : Shape := ⟨[.a [.dat (.int .i64), .dat .bool, .dat .str, .dat (.int .i64), .dat .bool, .dat (.list .js), .dat (.list .str)], .c (.dat .str), .c (.dat (.list .str))], []⟩
def post_only : List Shape := [⟨[.c (.dat .err)], []⟩]
def ann_only : Ann := (.two .no (.two .no (.two .no (.two (.two .no (.one (.loop ⟨[2, 22, 23, 24], ⟨[.c (.dat (.list .str)), .c (.dat (.list .str)), .c (.dat (.int .i64)), .c (.dat (.int .i64))], []⟩⟩ .no))) .no))))
/-- what turnstile/pick.Only comes to. -/
def only (n : Nat) (x : Int × Bool × (List Int) × Int × Bool × (List JV) × (List (List Int)) × (List Int) × List (List Int)) : Option (Int) :=
  match x with
  | (x1, (x2, (x3, (x4, (x5, (x6, (x7, (x8, x9)))))))) =>
  (Option.bind (kind n (x1, (x2, (x3, (x4, (x5, (x6, (x7, (x8, ([(6 : Int)] : List Int)))))))))) fun r10 =>
  (if (!(r10.2.2.2.2.2.2.2 == (0 : Int))) = true then
  some r10.2.2.2.2.2.2.2
  else
  (loopF (X := (List (List Int)) × (List (List Int)) × Int × Int) (A := Int) (fun rec11 y12 => match y12 with
  | (a13, (a14, (a15, a16))) =>
  (if (decide (a16 < a15)) = true then
  (Option.bind (idx a14 a16) fun v17 =>
  (Option.bind (containsstringstring n (a13, v17)) fun r18 =>
  (if (!r18) = true then
  some (10 : Int)
  else
  (let u19 : Int := (IntKind.wrap .i64 (a16 + (1 : Int)))
  rec11 (a13, (a14, (a15, u19)))))))
  else
  some (0 : Int))) n (x9, (r10.2.2.2.2.2.2.1, ((r10.2.2.2.2.2.2.1.length : Int), (0 : Int)))))))
def sp_only (n : Nat) : Spec := ⟨pre_only, post_only, only n⟩
def env_only (n : Nat) : List (FuncId × Spec) := [(17, sp_kind n), (18, sp_containsstringstring n)]
theorem run_only (n : Nat) (x : pre_only.T) : fnRun Tryd.prog 45 (envG (env_only n) [] (fun _ => none)) n Tryd.f10 ann_only pre_only post_only x = only n x := by kernel_rfl
theorem ok_only (n : Nat) : FnOK Tryd.prog 45 LD 10 (sp_only n) :=
  fn_run mixed Tryd.func10 (sp_only n) n ann_only (env_only n) (envOf_cons (ok_kind n) (envOf_cons (ok_containsstringstring n) envOf_nil)) [] (fun _ => none) gl_none (run_only n) (by kernel_rfl)
def pre_text : Shape := ⟨[.a [.dat (.int .i64), .dat .bool, .dat .str, .dat (.int .i64), .dat .bool, .dat (.list .js), .dat (.list .str)], .c (.dat .str)], []⟩
def post_text : List Shape := [⟨[.c (.dat .str), .c (.dat .err)], []⟩]
def ann_text : Ann := .no
/-- what turnstile/pick.Text comes to. -/
def text (n : Nat) (x : Int × Bool × (List Int) × Int × Bool × (List JV) × (List (List Int)) × List Int) : Option ((List Int) × Int) :=
  match x with
  | (x1, (x2, (x3, (x4, (x5, (x6, (x7, x8))))))) =>
  (Option.bind (kind n (x1, (x2, (x3, (x4, (x5, (x6, (x7, (x8, ([(4 : Int)] : List Int)))))))))) fun r9 =>
  some (r9.2.2.1, r9.2.2.2.2.2.2.2))
def sp_text (n : Nat) : Spec := ⟨pre_text, post_text, text n⟩
def env_text (n : Nat) : List (FuncId × Spec) := [(17, sp_kind n)]
theorem run_text (n : Nat) (x : pre_text.T) : fnRun Tryd.prog 45 (envG (env_text n) [] (fun _ => none)) n Tryd.f13 ann_text pre_text post_text x = text n x := by kernel_rfl
theorem ok_text (n : Nat) : FnOK Tryd.prog 45 LD 13 (sp_text n) :=
  fn_run mixed Tryd.func13 (sp_text n) n ann_text (env_text n) (envOf_cons (ok_kind n) envOf_nil) [] (fun _ => none) gl_none (run_text n) (by kernel_rfl)
def pre_rOf : Shape := ⟨[.a [.dat (.int .i64), .dat .bool, .dat .str, .dat (.int .i64), .dat .bool, .dat (.list .js), .dat (.list .str)], .c (.dat .str), .c (.dat (.int .i64))], []⟩
def post_rOf : List Shape := [⟨[.a [.dat (.int .i64), .dat .bool, .dat .str, .dat (.int .i64), .dat .bool, .dat (.list .js), .dat (.list .str)], .c (.dat (.int .i64))], []⟩]
def ann_rOf : Ann := .no
/-- what turnstile/turnstileref07.of comes to. -/
def rOf (n : Nat) (x : Int × Bool × (List Int) × Int × Bool × (List JV) × (List (List Int)) × (List Int) × Int) : Option (Int × Bool × (List Int) × Int × Bool × (List JV) × (List (List Int)) × Int) :=
  match x with
  | (x1, (x2, (x3, (x4, (x5, (x6, (x7, (x8, x9)))))))) =>
  (Option.bind (rAt n (x1, (x2, (x3, (x4, (x5, (x6, (x7, x8)))))))) fun r10 =>
  (if (r10.2.2.2.2.2.2.2 != (0 : Int)) = true then
  some ((0 : Int), (false, (([] : List Int), ((0 : Int), (false, (([] : List JV), (([] : List (List Int)), r10.2.2.2.2.2.2.2)))))))
  else
  (if (r10.1 != x9) = true then
  some ((0 : Int), (false, (([] : List Int), ((0 : Int), (false, (([] : List JV), (([] : List (List Int)), (7 : Int))))))))
  else
  some (r10.1, (r10.2.1, (r10.2.2.1, (r10.2.2.2.1, (r10.2.2.2.2.1, (r10.2.2.2.2.2.1, (r10.2.2.2.2.2.2.1, (0 : Int)))))))))))
def sp_rOf (n : Nat) : Spec := ⟨pre_rOf, post_rOf, rOf n⟩
def env_rOf (n : Nat) : List (FuncId × Spec) := [(29, sp_rAt n)]
theorem run_rOf (n : Nat) (x : pre_rOf.T) : fnRun Tryd.prog 45 (envG (env_rOf n) [] (fun _ => none)) n Tryd.f19 ann_rOf pre_rOf post_rOf x = rOf n x := by kernel_rfl
theorem ok_rOf (n : Nat) : FnOK Tryd.prog 45 LD 19 (sp_rOf n) :=
  fn_run mixed Tryd.func19 (sp_rOf n) n ann_rOf (env_rOf n) (envOf_cons (ok_rAt n) envOf_nil) [] (fun _ => none) gl_none (run_rOf n) (by kernel_rfl)
def pre_sure : Shape := ⟨[], []⟩
def post_sure : List Shape := [⟨[.c (.dat .bool)], []⟩]
def ann_sure : Ann := .no
/-- what turnstile/turnstilelaw07.sure comes to. -/
def sure (n : Nat) (x : Unit) : Option (Bool) :=
  (Option.bind (text n ((6 : Int), (false, (([] : List Int), ((0 : Int), (false, (([(JV.mk (5 : Int) false ([] : List Int) (0 : Int) false ([(JV.mk (4 : Int) false ([(120 : Int)] : List Int) (0 : Int) false ([] : List JV) ([] : List (List Int)))] : List JV) ([] : List (List Int)))] : List JV), (([([(97 : Int)] : List Int)] : List (List Int)), ([(97 : Int), (46 : Int), (48 : Int)] : List Int))))))))) fun r1 =>
  (if (r1.1 == ([(120 : Int)] : List Int)) = true then
  some (r1.2 == (0 : Int))
  else
  some false))
def sp_sure (n : Nat) : Spec := ⟨pre_sure, post_sure, sure n⟩
def env_sure (n : Nat) : List (FuncId × Spec) := [(13, sp_text n)]
theorem run_sure (n : Nat) (x : pre_sure.T) : fnRun Tryd.prog 45 (envG (env_sure n) [] (fun _ => none)) n Tryd.f6 ann_sure pre_sure post_sure x = sure n x := by kernel_rfl
theorem ok_sure (n : Nat) : FnOK Tryd.prog 45 LD 6 (sp_sure n) :=
  fn_run mixed Tryd.func6 (sp_sure n) n ann_sure (env_sure n) (envOf_cons (ok_text n) envOf_nil) [] (fun _ => none) gl_none (run_sure n) (by kernel_rfl)
def pre_rOnly : Shape := ⟨[.a [.dat (.int .i64), .dat .bool, .dat .str, .dat (.int .i64), .dat .bool, .dat (.list .js), .dat (.list .str)], .c (.dat .str), .c (.dat (.list .str))], []⟩
def post_rOnly : List Shape := [⟨[.c (.dat (.int .i64))], []⟩]
def ann_rOnly : Ann := (.two .no (.two .no (.two .no (.two (.two .no (.one (.loop ⟨[2, 7, 9], ⟨[.c (.dat (.list .str)), .c (.ptr 500 0), .c (.dat (.int .i64))], [(500, .cells 25 [.dat (.int .i64), .dat .bool, .dat .str, .dat (.int .i64), .dat .bool, .dat (.list .js), .dat (.list .str)])]⟩⟩ (.two .no (.two (.one (.two .no (.two (.two .no (.one (.loop ⟨[2, 7, 9, 10, 11], ⟨[.c (.dat (.list .str)), .c (.ptr 500 0), .c (.dat (.int .i64)), .c (.dat .bool), .c (.dat (.int .i64))], [(500, .cells 25 [.dat (.int .i64), .dat .bool, .dat .str, .dat (.int .i64), .dat .bool, .dat (.list .js), .dat (.list .str)])]⟩⟩ .no))) .no))) .no))))) .no))))
/-- what turnstile/turnstileref07.Only comes to. -/
def rOnly (n : Nat) (x : Int × Bool × (List Int) × Int × Bool × (List JV) × (List (List Int)) × (List Int) × List (List Int)) : Option (Int) :=
  match x with
  | (x1, (x2, (x3, (x4, (x5, (x6, (x7, (x8, x9)))))))) =>
  (Option.bind (rOf n (x1, (x2, (x3, (x4, (x5, (x6, (x7, (x8, (6 : Int)))))))))) fun r10 =>
  (if (r10.2.2.2.2.2.2.2 != (0 : Int)) = true then
  some r10.2.2.2.2.2.2.2
  else
  (loopF (X := (List (List Int)) × Int × Int × Bool × (List Int) × Int × Bool × (List JV) × List (List Int)) (A := Int) (fun rec11 y12 => match y12 with
  | (a13, (a14, (a15, (a16, (a17, (a18, (a19, (a20, a21)))))))) =>
  (if (decide (a14 < (a21.length : Int))) = true then
  (loopF (X := (List (List Int)) × Int × Bool × Int × Int × Bool × (List Int) × Int × Bool × (List JV) × List (List Int)) (A := Int) (fun rec22 y23 => match y23 with
  | (a24, (a25, (a26, (a27, (a28, (a29, (a30, (a31, (a32, (a33, a34)))))))))) =>
  (if (decide (a27 < (a24.length : Int))) = true then
  (if a26 = true then
  (let u35 : Int := (IntKind.wrap .i64 (a27 + (1 : Int)))
  rec22 (a24, (a25, (true, (u35, (a28, (a29, (a30, (a31, (a32, (a33, a34)))))))))))
  else
  (Option.bind (idx a24 a27) fun v36 =>
  (Option.bind (idx a34 a25) fun v37 =>
  (let u38 : Int := (IntKind.wrap .i64 (a27 + (1 : Int)))
  rec22 (a24, (a25, ((v36 == v37), (u38, (a28, (a29, (a30, (a31, (a32, (a33, a34))))))))))))))
  else
  (if (!a26) = true then
  some (10 : Int)
  else
  (let u39 : Int := (IntKind.wrap .i64 (a25 + (1 : Int)))
  rec11 (a24, (u39, (a28, (a29, (a30, (a31, (a32, (a33, a34)))))))))))) n (a13, (a14, (false, ((0 : Int), (a15, (a16, (a17, (a18, (a19, (a20, a21)))))))))))
  else
  some (0 : Int))) n (x9, ((0 : Int), (r10.1, (r10.2.1, (r10.2.2.1, (r10.2.2.2.1, (r10.2.2.2.2.1, (r10.2.2.2.2.2.1, r10.2.2.2.2.2.2.1)))))))))))
def sp_rOnly (n : Nat) : Spec := ⟨pre_rOnly, post_rOnly, rOnly n⟩
def env_rOnly (n : Nat) : List (FuncId × Spec) := [(19, sp_rOf n)]
theorem run_rOnly (n : Nat) (x : pre_rOnly.T) : fnRun Tryd.prog 45 (envG (env_rOnly n) [] (fun _ => none)) n Tryd.f11 ann_rOnly pre_rOnly post_rOnly x = rOnly n x := by kernel_rfl
theorem ok_rOnly (n : Nat) : FnOK Tryd.prog 45 LD 11 (sp_rOnly n) :=
  fn_run mixed Tryd.func11 (sp_rOnly n) n ann_rOnly (env_rOnly n) (envOf_cons (ok_rOf n) envOf_nil) [] (fun _ => none) gl_none (run_rOnly n) (by kernel_rfl)
def pre_pickBehind : Shape := ⟨[.a [.dat (.int .i64), .dat .bool, .dat .str, .dat (.int .i64), .dat .bool, .dat (.list .js), .dat (.list .str)], .c (.dat .str), .c (.dat .str)], []⟩
def post_pickBehind : List Shape := [⟨[.c (.dat .bool)], []⟩]
def ann_pickBehind : Ann := .no
/-- what turnstile/turnstilelaw07.PickBehind comes to. -/
def pickBehind (n : Nat) (x : Int × Bool × (List Int) × Int × Bool × (List JV) × (List (List Int)) × (List Int) × List Int) : Option (Bool) :=
  match x with
  | (x1, (x2, (x3, (x4, (x5, (x6, (x7, (x8, x9)))))))) =>
  (Option.bind (few n (x1, (x2, (x3, (x4, (x5, (x6, (x7, ((0 : Int), (3000 : Int)))))))))) fun r10 =>
  (if (decide (r10 ≥ (3000 : Int))) = true then
  (Option.bind (sure n ()) fun r11 =>
  some r11)
  else
  (if (x8 == ([] : List Int)) = true then
  (Option.bind (pickAt n (x1, (x2, (x3, (x4, (x5, (x6, (x7, ([] : List Int))))))))) fun r12 =>
  (if (r12.2.2.2.2.2.2.2 == (0 : Int)) = true then
  (Option.bind (same n (r12.1, (r12.2.1, (r12.2.2.1, (r12.2.2.2.1, (r12.2.2.2.2.1, (r12.2.2.2.2.2.1, (r12.2.2.2.2.2.2.1, (x1, (x2, (x3, (x4, (x5, (x6, (x7, (300 : Int)))))))))))))))) fun r13 =>
  (if r13 = true then
  (Option.bind (sure n ()) fun r14 =>
  some r14)
  else
  some false))
  else
  some false))
  else
  (if (x9 == ([] : List Int)) = true then
  (Option.bind (pickAt n (x1, (x2, (x3, (x4, (x5, (x6, (x7, ([] : List Int))))))))) fun r15 =>
  (if (r15.2.2.2.2.2.2.2 == (0 : Int)) = true then
  (Option.bind (same n (r15.1, (r15.2.1, (r15.2.2.1, (r15.2.2.2.1, (r15.2.2.2.2.1, (r15.2.2.2.2.2.1, (r15.2.2.2.2.2.2.1, (x1, (x2, (x3, (x4, (x5, (x6, (x7, (300 : Int)))))))))))))))) fun r16 =>
  (if r16 = true then
  (Option.bind (sure n ()) fun r17 =>
  some r17)
  else
  some false))
  else
  some false))
  else
  (Option.bind (pickAt n (x1, (x2, (x3, (x4, (x5, (x6, (x7, x8)))))))) fun r18 =>
  (if x8.length + 1 ≤ 140737488355328 then
  (if (x8 ++ ([(46 : Int)] : List Int)).length + x9.length ≤ 140737488355328 then
  (let u19 : List Int := ((x8 ++ ([(46 : Int)] : List Int)) ++ x9)
  (Option.bind (pickAt n (x1, (x2, (x3, (x4, (x5, (x6, (x7, u19)))))))) fun r20 =>
  (if (!(r18.2.2.2.2.2.2.2 == (0 : Int))) = true then
  (if (!(r20.2.2.2.2.2.2.2 == (0 : Int))) = true then
  (Option.bind (num n r20.2.2.2.2.2.2.2) fun r21 =>
  (Option.bind (num n r18.2.2.2.2.2.2.2) fun r22 =>
  (if (r21 == r22) = true then
  (Option.bind (sure n ()) fun r23 =>
  some r23)
  else
  some false)))
  else
  some false)
  else
  (Option.bind (pickAt n (r18.1, (r18.2.1, (r18.2.2.1, (r18.2.2.2.1, (r18.2.2.2.2.1, (r18.2.2.2.2.2.1, (r18.2.2.2.2.2.2.1, x9)))))))) fun r24 =>
  (Option.bind (same n (r20.1, (r20.2.1, (r20.2.2.1, (r20.2.2.2.1, (r20.2.2.2.2.1, (r20.2.2.2.2.2.1, (r20.2.2.2.2.2.2.1, (r24.1, (r24.2.1, (r24.2.2.1, (r24.2.2.2.1, (r24.2.2.2.2.1, (r24.2.2.2.2.2.1, (r24.2.2.2.2.2.2.1, (300 : Int)))))))))))))))) fun r25 =>
  (if r25 = true then
  (Option.bind (num n r20.2.2.2.2.2.2.2) fun r26 =>
  (Option.bind (num n r24.2.2.2.2.2.2.2) fun r27 =>
  (if (r26 == r27) = true then
  (Option.bind (sure n ()) fun r28 =>
  some r28)
  else
  some false)))
  else
  some false))))))
  else none)
  else none))))))
def sp_pickBehind (n : Nat) : Spec := ⟨pre_pickBehind, post_pickBehind, pickBehind n⟩
def env_pickBehind (n : Nat) : List (FuncId × Spec) := [(5, sp_few n), (6, sp_sure n), (7, sp_pickAt n), (8, sp_same n), (9, sp_num n)]
theorem run_pickBehind (n : Nat) (x : pre_pickBehind.T) : fnRun Tryd.prog 45 (envG (env_pickBehind n) [] (fun _ => none)) n Tryd.f3 ann_pickBehind pre_pickBehind post_pickBehind x = pickBehind n x := by kernel_rfl
theorem ok_pickBehind (n : Nat) : FnOK Tryd.prog 45 LD 3 (sp_pickBehind n) :=
  fn_run mixed Tryd.func3 (sp_pickBehind n) n ann_pickBehind (env_pickBehind n) (envOf_cons (ok_few n) (envOf_cons (ok_sure n) (envOf_cons (ok_pickAt n) (envOf_cons (ok_same n) (envOf_cons (ok_num n) envOf_nil))))) [] (fun _ => none) gl_none (run_pickBehind n) (by kernel_rfl)
def pre_pickOnly : Shape := ⟨[.a [.dat (.int .i64), .dat .bool, .dat .str, .dat (.int .i64), .dat .bool, .dat (.list .js), .dat (.list .str)], .c (.dat .str), .c (.dat (.list .str))], []⟩
def post_pickOnly : List Shape := [⟨[.c (.dat .bool)], []⟩]
def ann_pickOnly : Ann := .no
/-- what turnstile/turnstilelaw07.PickOnly comes to. -/
def pickOnly (n : Nat) (x : Int × Bool × (List Int) × Int × Bool × (List JV) × (List (List Int)) × (List Int) × List (List Int)) : Option (Bool) :=
  match x with
  | (x1, (x2, (x3, (x4, (x5, (x6, (x7, (x8, x9)))))))) =>
  (if x9.length * 16 ≤ 140737488355328 then
  (Option.bind (only n (x1, (x2, (x3, (x4, (x5, (x6, (x7, (x8, x9))))))))) fun r10 =>
  (Option.bind (num n r10) fun r11 =>
  (Option.bind (rOnly n (x1, (x2, (x3, (x4, (x5, (x6, (x7, (x8, x9))))))))) fun r12 =>
  (if (r11 == r12) = true then
  (Option.bind (texts n (x9, x9)) fun r13 =>
  (if r13 = true then
  (Option.bind (sure n ()) fun r14 =>
  some r14)
  else
  some false))
  else
  some false))))
  else none)
def sp_pickOnly (n : Nat) : Spec := ⟨pre_pickOnly, post_pickOnly, pickOnly n⟩
def env_pickOnly (n : Nat) : List (FuncId × Spec) := [(10, sp_only n), (9, sp_num n), (11, sp_rOnly n), (12, sp_texts n), (6, sp_sure n)]
theorem run_pickOnly (n : Nat) (x : pre_pickOnly.T) : fnRun Tryd.prog 45 (envG (env_pickOnly n) [] (fun _ => none)) n Tryd.f4 ann_pickOnly pre_pickOnly post_pickOnly x = pickOnly n x := by kernel_rfl
theorem ok_pickOnly (n : Nat) : FnOK Tryd.prog 45 LD 4 (sp_pickOnly n) :=
  fn_run mixed Tryd.func4 (sp_pickOnly n) n ann_pickOnly (env_pickOnly n) (envOf_cons (ok_only n) (envOf_cons (ok_num n) (envOf_cons (ok_rOnly n) (envOf_cons (ok_texts n) (envOf_cons (ok_sure n) envOf_nil))))) [] (fun _ => none) gl_none (run_pickOnly n) (by kernel_rfl)
end Go.Sx.YtdcogkfjnlpidaaDoor
