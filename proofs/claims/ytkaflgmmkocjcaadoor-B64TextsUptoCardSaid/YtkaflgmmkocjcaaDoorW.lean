/- Part of a proof by a small interpreter on plain values; no condition. -/
import Derived.Test.YtkaflgmmkocjcaaDoorC
import Derived.Test.YtkaflgmmkocjcaaDoorProg
/-! written by program: the functions as plain ones, and their contracts. -/
namespace Go.Sx.YtkaflgmmkocjcaaDoor
open Go Go.Sx Go.Proofs
set_option autoImplicit false
set_option maxRecDepth 100000
set_option linter.unusedVariables false
theorem mixed : Tryd.prog.follows .mixedOrders = true := by kernel_rfl
def pre_digit : Shape := ⟨[.c (.dat (.int .u8))], []⟩
def post_digit : List Shape := [⟨[.c (.dat (.int .i64)), .c (.dat .bool)], []⟩]
def ann_digit : Ann := .no
/-- what turnstile/b64.Digit comes to. -/
def digit (n : Nat) (x : Int) : Option (Int × Bool) :=
  (Option.bind (stringsIndexByte n (([(65 : Int), (66 : Int), (67 : Int), (68 : Int), (69 : Int), (70 : Int), (71 : Int), (72 : Int), (73 : Int), (74 : Int), (75 : Int), (76 : Int), (77 : Int), (78 : Int), (79 : Int), (80 : Int), (81 : Int), (82 : Int), (83 : Int), (84 : Int), (85 : Int), (86 : Int), (87 : Int), (88 : Int), (89 : Int), (90 : Int), (97 : Int), (98 : Int), (99 : Int), (100 : Int), (101 : Int), (102 : Int), (103 : Int), (104 : Int), (105 : Int), (106 : Int), (107 : Int), (108 : Int), (109 : Int), (110 : Int), (111 : Int), (112 : Int), (113 : Int), (114 : Int), (115 : Int), (116 : Int), (117 : Int), (118 : Int), (119 : Int), (120 : Int), (121 : Int), (122 : Int), (48 : Int), (49 : Int), (50 : Int), (51 : Int), (52 : Int), (53 : Int), (54 : Int), (55 : Int), (56 : Int), (57 : Int), (45 : Int), (95 : Int)] : List Int), x)) fun r2 =>
  (if (decide (r2 ≥ (0 : Int))) = true then
  some (r2, true)
  else
  some ((0 : Int), false)))
def sp_digit (n : Nat) : Spec := ⟨pre_digit, post_digit, digit n⟩
def env_digit (n : Nat) : List (FuncId × Spec) := [(16, sp_stringsIndexByte n)]
theorem run_digit (n : Nat) (x : pre_digit.T) : fnRun Tryd.prog 41 (envOf (env_digit n)) n Tryd.f9 ann_digit pre_digit post_digit x = digit n x := by kernel_rfl
theorem ok_digit (n : Nat) : FnOK Tryd.prog 41 LD 9 (sp_digit n) :=
  fn_run mixed Tryd.func9 (sp_digit n) n ann_digit (env_digit n) (envOf_cons (ok_stringsIndexByte n) envOf_nil) (run_digit n) (by kernel_rfl)
def pre_rDigit : Shape := ⟨[.c (.dat (.int .u8))], []⟩
def post_rDigit : List Shape := [⟨[.c (.dat (.int .i64)), .c (.dat .bool)], []⟩]
def ann_rDigit : Ann := (.two .no (.two (.two .no (.one (.loop ⟨[0, 4], ⟨[.c (.dat (.int .u8)), .c (.dat (.int .i64))], []⟩⟩ .no))) .no))
/-- what turnstile/turnstileref05.Digit comes to. -/
def rDigit (n : Nat) (x : Int) : Option (Int × Bool) :=
  (loopF (X := Int × Int) (A := Int × Bool) (fun rec2 y3 => match y3 with
  | (a4, a5) =>
  (if (decide (a5 < (64 : Int))) = true then
  (Option.bind (idx ([(65 : Int), (66 : Int), (67 : Int), (68 : Int), (69 : Int), (70 : Int), (71 : Int), (72 : Int), (73 : Int), (74 : Int), (75 : Int), (76 : Int), (77 : Int), (78 : Int), (79 : Int), (80 : Int), (81 : Int), (82 : Int), (83 : Int), (84 : Int), (85 : Int), (86 : Int), (87 : Int), (88 : Int), (89 : Int), (90 : Int), (97 : Int), (98 : Int), (99 : Int), (100 : Int), (101 : Int), (102 : Int), (103 : Int), (104 : Int), (105 : Int), (106 : Int), (107 : Int), (108 : Int), (109 : Int), (110 : Int), (111 : Int), (112 : Int), (113 : Int), (114 : Int), (115 : Int), (116 : Int), (117 : Int), (118 : Int), (119 : Int), (120 : Int), (121 : Int), (122 : Int), (48 : Int), (49 : Int), (50 : Int), (51 : Int), (52 : Int), (53 : Int), (54 : Int), (55 : Int), (56 : Int), (57 : Int), (45 : Int), (95 : Int)] : List Int) a5) fun v6 =>
  (if (v6 == a4) = true then
  some (a5, true)
  else
  rec2 (a4, (IntKind.wrap .i64 (a5 + (1 : Int))))))
  else
  some ((0 : Int), false))) n (x, (0 : Int)))
def sp_rDigit (n : Nat) : Spec := ⟨pre_rDigit, post_rDigit, rDigit n⟩
def env_rDigit (n : Nat) : List (FuncId × Spec) := []
theorem run_rDigit (n : Nat) (x : pre_rDigit.T) : fnRun Tryd.prog 41 (envOf (env_rDigit n)) n Tryd.f10 ann_rDigit pre_rDigit post_rDigit x = rDigit n x := by kernel_rfl
theorem ok_rDigit (n : Nat) : FnOK Tryd.prog 41 LD 10 (sp_rDigit n) :=
  fn_run mixed Tryd.func10 (sp_rDigit n) n ann_rDigit (env_rDigit n) envOf_nil (run_rDigit n) (by kernel_rfl)
def pre_len : Shape := ⟨[.c (.dat (.int .i64))], []⟩
def post_len : List Shape := [⟨[.c (.dat (.int .i64)), .c (.dat .err)], []⟩]
def ann_len : Ann := .no
/-- what turnstile/b64.Len comes to. -/
def len (n : Nat) (x : Int) : Option (Int × Int) :=
  (if (decide (x < (0 : Int))) = true then
  some ((0 : Int), (1 : Int))
  else
  (if (decide (x > (1099511627776 : Int))) = true then
  some ((0 : Int), (1 : Int))
  else
  (let u2 : Int := (IntKind.wrap .i64 ((IntKind.wrap .i64 ((4 : Int) * x)) + (2 : Int)))
  (let u3 : Int := (IntKind.wrap .i64 (Int.tdiv u2 (3 : Int)))
  some (u3, (0 : Int))))))
def sp_len (n : Nat) : Spec := ⟨pre_len, post_len, len n⟩
def env_len (n : Nat) : List (FuncId × Spec) := []
theorem run_len (n : Nat) (x : pre_len.T) : fnRun Tryd.prog 41 (envOf (env_len n)) n Tryd.f11 ann_len pre_len post_len x = len n x := by kernel_rfl
theorem ok_len (n : Nat) : FnOK Tryd.prog 41 LD 11 (sp_len n) :=
  fn_run mixed Tryd.func11 (sp_len n) n ann_len (env_len n) envOf_nil (run_len n) (by kernel_rfl)
def pre_rLen : Shape := ⟨[.c (.dat (.int .i64))], []⟩
def post_rLen : List Shape := [⟨[.c (.dat (.int .i64)), .c (.dat (.int .i64))], []⟩]
def ann_rLen : Ann := .no
/-- what turnstile/turnstileref05.Len comes to. -/
def rLen (n : Nat) (x : Int) : Option (Int × Int) :=
  (if (decide (x < (0 : Int))) = true then
  some ((0 : Int), (1 : Int))
  else
  (if (decide (x > (1099511627776 : Int))) = true then
  some ((0 : Int), (1 : Int))
  else
  (let u2 : Int := (IntKind.wrap .i64 ((IntKind.wrap .i64 ((8 : Int) * x)) + (5 : Int)))
  (let u3 : Int := (IntKind.wrap .i64 (Int.tdiv u2 (6 : Int)))
  some (u3, (0 : Int))))))
def sp_rLen (n : Nat) : Spec := ⟨pre_rLen, post_rLen, rLen n⟩
def env_rLen (n : Nat) : List (FuncId × Spec) := []
theorem run_rLen (n : Nat) (x : pre_rLen.T) : fnRun Tryd.prog 41 (envOf (env_rLen n)) n Tryd.f12 ann_rLen pre_rLen post_rLen x = rLen n x := by kernel_rfl
theorem ok_rLen (n : Nat) : FnOK Tryd.prog 41 LD 12 (sp_rLen n) :=
  fn_run mixed Tryd.func12 (sp_rLen n) n ann_rLen (env_rLen n) envOf_nil (run_rLen n) (by kernel_rfl)
def pre_bldByte : Shape := ⟨[.c (.ptr 0 0), .c (.dat (.int .u8))], [(0, .cells 47 [.slf 0, .own 1]), (1, .row 5 (.int .u8))]⟩
def post_bldByte : List Shape := [⟨[.c (.errc (0))], [(0, .cells 47 [.slf 0, .own 1]), (1, .row 5 (.int .u8))]⟩]
def ann_bldByte : Ann := .no
/-- what (strings.Builder).WriteByte comes to. -/
def bldByte (n : Nat) (x : Int × List Int) : Option (List Int) :=
  match x with
  | (x1, x2) =>
  (Option.bind (bldCheck n x2) fun r3 =>
  (if (r3.length + 1) * 1 ≤ 140737488355328 then
  some (r3 ++ ([x1] : List Int))
  else none))
def sp_bldByte (n : Nat) : Spec := ⟨pre_bldByte, post_bldByte, bldByte n⟩
def env_bldByte (n : Nat) : List (FuncId × Spec) := [(25, sp_bldCheck n)]
theorem run_bldByte (n : Nat) (x : pre_bldByte.T) : fnRun Tryd.prog 41 (envOf (env_bldByte n)) n Tryd.f17 ann_bldByte pre_bldByte post_bldByte x = bldByte n x := by kernel_rfl
theorem ok_bldByte (n : Nat) : FnOK Tryd.prog 41 LD 17 (sp_bldByte n) :=
  fn_run mixed Tryd.func17 (sp_bldByte n) n ann_bldByte (env_bldByte n) (envOf_cons (ok_bldCheck n) envOf_nil) (run_bldByte n) (by kernel_rfl)
def pre_rBit : Shape := ⟨[.c (.dat (.list (.int .u8))), .c (.dat (.int .i64))], []⟩
def post_rBit : List Shape := [⟨[.c (.dat (.int .i64))], []⟩]
def ann_rBit : Ann := .no
/-- what turnstile/turnstileref05.bit comes to. -/
def rBit (n : Nat) (x : (List Int) × Int) : Option (Int) :=
  match x with
  | (x1, x2) =>
  (let u3 : Int := (IntKind.wrap .i64 (Int.tdiv x2 (8 : Int)))
  (if (decide (u3 ≥ (x1.length : Int))) = true then
  some (0 : Int)
  else
  (let u4 : Int := (IntKind.wrap .i64 (Int.tdiv x2 (8 : Int)))
  (Option.bind (idx x1 u4) fun v5 =>
  (let u6 : Int := (IntKind.wrap .i64 ((7 : Int) - (Int.tmod x2 (8 : Int))))
  (if (IntKind.wrap .u64 u6) < 0 then none else (let u7 : Int := (Int.fdiv v5 (2 ^ (min (IntKind.wrap .u64 u6).toNat 8)))
  (let u8 : Int := (bits .and .i64 (IntKind.wrap .i64 u7) (1 : Int))
  some u8))))))))
def sp_rBit (n : Nat) : Spec := ⟨pre_rBit, post_rBit, rBit n⟩
def env_rBit (n : Nat) : List (FuncId × Spec) := []
theorem run_rBit (n : Nat) (x : pre_rBit.T) : fnRun Tryd.prog 41 (envOf (env_rBit n)) n Tryd.f19 ann_rBit pre_rBit post_rBit x = rBit n x := by kernel_rfl
theorem ok_rBit (n : Nat) : FnOK Tryd.prog 41 LD 19 (sp_rBit n) :=
  fn_run mixed Tryd.func19 (sp_rBit n) n ann_rBit (env_rBit n) envOf_nil (run_rBit n) (by kernel_rfl)
def pre_decode : Shape := ⟨[.c (.dat .str)], []⟩
def post_decode : List Shape := [⟨[.c (.dat (.list (.int .u8))), .c (.dat .err)], []⟩]
def ann_decode : Ann := (.two .no (.two .no (.two .no (.two (.two .no (.one (.loop ⟨[0, 4, 5, 6, 7], ⟨[.c (.dat .str), .c (.own 500), .c (.dat (.int .u64)), .c (.dat (.int .i64)), .c (.dat (.int .i64))], [(500, .row 5 (.int .u8))]⟩⟩ .no))) .no))))
/-- what turnstile/b64.Decode comes to. -/
def decode (n : Nat) (x : List Int) : Option ((List Int) × Int) :=
  (loopF (X := (List Int) × Int × Int × Int × List Int) (A := (List Int) × Int) (fun rec2 y3 => match y3 with
  | (a4, (a5, (a6, (a7, a8)))) =>
  (if (decide (a7 < (a4.length : Int))) = true then
  (Option.bind (idx a4 a7) fun v9 =>
  (Option.bind (digit n v9) fun r10 =>
  (if (!r10.2) = true then
  some (([] : List Int), (3 : Int))
  else
  (let u11 : Int := (bits .or .u64 (IntKind.wrap .u64 (a5 * 64)) (IntKind.wrap .u64 r10.1))
  (if (decide ((IntKind.wrap .i64 (a6 + (6 : Int))) ≥ (8 : Int))) = true then
  (let u12 : Int := (IntKind.wrap .i64 ((IntKind.wrap .i64 (a6 + (6 : Int))) - (8 : Int)))
  (if u12 < 0 then none else (let u13 : Int := (Int.fdiv u11 (2 ^ (min u12.toNat 64)))
  (if (a8.length + 1) * 1 ≤ 140737488355328 then
  (let u14 : List Int := (a8 ++ ([(IntKind.wrap .u8 u13)] : List Int))
  (if u12 < 0 then none else (let u15 : Int := (IntKind.wrap .u64 ((1 : Int) * 2 ^ (min u12.toNat 64)))
  (let u16 : Int := (IntKind.wrap .u64 (u15 - (1 : Int)))
  rec2 (a4, ((bits .and .u64 u11 u16), (u12, ((IntKind.wrap .i64 (a7 + (1 : Int))), u14))))))))
  else none))))
  else
  rec2 (a4, (u11, ((IntKind.wrap .i64 (a6 + (6 : Int))), ((IntKind.wrap .i64 (a7 + (1 : Int))), a8)))))))))
  else
  (if (a5 != (0 : Int)) = true then
  some (([] : List Int), (3 : Int))
  else
  (let u17 : Int := (Int.tmod (a4.length : Int) (4 : Int))
  (if (u17 == (1 : Int)) = true then
  some (([] : List Int), (3 : Int))
  else
  some (a8, (0 : Int))))))) n (x, ((0 : Int), ((0 : Int), ((0 : Int), ([] : List Int))))))
def sp_decode (n : Nat) : Spec := ⟨pre_decode, post_decode, decode n⟩
def env_decode (n : Nat) : List (FuncId × Spec) := [(9, sp_digit n)]
theorem run_decode (n : Nat) (x : pre_decode.T) : fnRun Tryd.prog 41 (envOf (env_decode n)) n Tryd.f5 ann_decode pre_decode post_decode x = decode n x := by kernel_rfl
theorem ok_decode (n : Nat) : FnOK Tryd.prog 41 LD 5 (sp_decode n) :=
  fn_run mixed Tryd.func5 (sp_decode n) n ann_decode (env_decode n) (envOf_cons (ok_digit n) envOf_nil) (run_decode n) (by kernel_rfl)
def pre_rDecode : Shape := ⟨[.c (.dat .str)], []⟩
def post_rDecode : List Shape := [⟨[.c (.dat (.list (.int .u8))), .c (.dat (.int .i64))], []⟩]
def ann_rDecode : Ann := (.two .no (.two .no (.two .no (.two .no (.two (.two .no (.one (.loop ⟨[0, 4, 5, 6, 7], ⟨[.c (.dat .str), .c (.own 500), .c (.dat (.int .i64)), .c (.dat (.int .i64)), .c (.dat (.int .i64))], [(500, .row 5 (.int .u8))]⟩⟩ .no))) .no)))))
/-- what turnstile/turnstileref05.Decode comes to. -/
def rDecode (n : Nat) (x : List Int) : Option ((List Int) × Int) :=
  (let u2 : Int := (Int.tmod (x.length : Int) (4 : Int))
  (if (u2 == (1 : Int)) = true then
  some (([] : List Int), (3 : Int))
  else
  (loopF (X := (List Int) × Int × Int × Int × List Int) (A := (List Int) × Int) (fun rec3 y4 => match y4 with
  | (a5, (a6, (a7, (a8, a9)))) =>
  (if (decide (a8 < (a5.length : Int))) = true then
  (Option.bind (idx a5 a8) fun v10 =>
  (Option.bind (rDigit n v10) fun r11 =>
  (if (!r11.2) = true then
  some (([] : List Int), (3 : Int))
  else
  (let u12 : Int := (bits .or .i64 (IntKind.wrap .i64 (a6 * 64)) r11.1)
  (if (decide ((IntKind.wrap .i64 (a7 + (6 : Int))) ≥ (8 : Int))) = true then
  (let u13 : Int := (IntKind.wrap .i64 ((IntKind.wrap .i64 (a7 + (6 : Int))) - (8 : Int)))
  (if (IntKind.wrap .u64 u13) < 0 then none else (let u14 : Int := (Int.fdiv u12 (2 ^ (min (IntKind.wrap .u64 u13).toNat 64)))
  (if (a9.length + 1) * 1 ≤ 140737488355328 then
  (let u15 : List Int := (a9 ++ ([(IntKind.wrap .u8 u14)] : List Int))
  (if (IntKind.wrap .u64 u13) < 0 then none else (let u16 : Int := (IntKind.wrap .i64 ((1 : Int) * 2 ^ (min (IntKind.wrap .u64 u13).toNat 64)))
  (let u17 : Int := (IntKind.wrap .i64 (u16 - (1 : Int)))
  rec3 (a5, ((bits .and .i64 u12 u17), (u13, ((IntKind.wrap .i64 (a8 + (1 : Int))), u15))))))))
  else none))))
  else
  rec3 (a5, (u12, ((IntKind.wrap .i64 (a7 + (6 : Int))), ((IntKind.wrap .i64 (a8 + (1 : Int))), a9)))))))))
  else
  (if (a6 != (0 : Int)) = true then
  some (([] : List Int), (3 : Int))
  else
  some (a9, (0 : Int))))) n (x, ((0 : Int), ((0 : Int), ((0 : Int), ([] : List Int))))))))
def sp_rDecode (n : Nat) : Spec := ⟨pre_rDecode, post_rDecode, rDecode n⟩
def env_rDecode (n : Nat) : List (FuncId × Spec) := [(10, sp_rDigit n)]
theorem run_rDecode (n : Nat) (x : pre_rDecode.T) : fnRun Tryd.prog 41 (envOf (env_rDecode n)) n Tryd.f6 ann_rDecode pre_rDecode post_rDecode x = rDecode n x := by kernel_rfl
theorem ok_rDecode (n : Nat) : FnOK Tryd.prog 41 LD 6 (sp_rDecode n) :=
  fn_run mixed Tryd.func6 (sp_rDecode n) n ann_rDecode (env_rDecode n) (envOf_cons (ok_rDigit n) envOf_nil) (run_rDecode n) (by kernel_rfl)
def pre_encode : Shape := ⟨[.c (.dat (.list (.int .u8)))], []⟩
def post_encode : List Shape := [⟨[.c (.dat .str)], []⟩]
def ann_encode : Ann := (.two .no (.two .no (.two (.two .no (.one (.loop ⟨[0, 3, 4], ⟨[.c (.dat (.list (.int .u8))), .c (.ptr 500 0), .c (.dat (.int .i64))], [(500, .cells 47 [.slf 500, .own 501]), (501, .row 5 (.int .u8))]⟩⟩ (.two .no (.two (.one (.two .no (.two .no (.two (.two .no (.one (.loop ⟨[0, 3, 4, 5, 6, 23], ⟨[.c (.dat (.list (.int .u8))), .c (.ptr 500 0), .c (.dat (.int .i64)), .c (.dat (.list (.int .u8))), .c (.dat (.int .u64)), .c (.dat (.int .i64))], [(500, .cells 47 [.slf 500, .own 501]), (501, .row 5 (.int .u8))]⟩⟩ .no))) (.two .no (.one (.loop ⟨[0, 3, 4, 6, 42, 43], ⟨[.c (.dat (.list (.int .u8))), .c (.ptr 500 0), .c (.dat (.int .i64)), .c (.dat (.int .u64)), .c (.dat (.int .i64)), .c (.dat (.int .i64))], [(500, .cells 47 [.slf 500, .own 501]), (501, .row 5 (.int .u8))]⟩⟩ .no))))))) .no))))) .no)))
/-- what turnstile/b64.Encode comes to. -/
def encode (n : Nat) (x : List Int) : Option (List Int) :=
  (loopF (X := (List Int) × Int × List Int) (A := List Int) (fun rec2 y3 => match y3 with
  | (a4, (a5, a6)) =>
  (if (decide (a5 < (a4.length : Int))) = true then
  (let u7 : Int := (if (a4.length : Int) < (IntKind.wrap .i64 (a5 + (3 : Int))) then (a4.length : Int) else (IntKind.wrap .i64 (a5 + (3 : Int))))
  (if 0 ≤ a5 ∧ a5 ≤ u7 ∧ u7 ≤ (a4.length : Int) then
  (let u8 : List Int := ((a4.drop a5.toNat).take (u7.toNat - a5.toNat))
  (loopF (X := (List Int) × Int × (List Int) × Int × Int × List Int) (A := List Int) (fun rec9 y10 => match y10 with
  | (a11, (a12, (a13, (a14, (a15, a16))))) =>
  (if (decide (a15 < (3 : Int))) = true then
  (if (decide (a15 < (a13.length : Int))) = true then
  (Option.bind (idx a13 a15) fun v17 =>
  (let u18 : Int := (bits .or .u64 (IntKind.wrap .u64 (a14 * 256)) (IntKind.wrap .u64 v17))
  (let u19 : Int := (IntKind.wrap .i64 (a15 + (1 : Int)))
  rec9 (a11, (a12, (a13, (u18, (u19, a16))))))))
  else
  (let u20 : Int := (IntKind.wrap .i64 (a15 + (1 : Int)))
  rec9 (a11, (a12, (a13, ((IntKind.wrap .u64 (a14 * 256)), (u20, a16)))))))
  else
  (let u21 : Int := (IntKind.wrap .i64 ((a13.length : Int) + (1 : Int)))
  (loopF (X := (List Int) × Int × Int × Int × Int × List Int) (A := List Int) (fun rec22 y23 => match y23 with
  | (a24, (a25, (a26, (a27, (a28, a29))))) =>
  (if (decide (a28 < a27)) = true then
  (let u30 : Int := (IntKind.wrap .i64 ((6 : Int) * a28))
  (let u31 : Int := (IntKind.wrap .i64 ((18 : Int) - u30))
  (if u31 < 0 then none else (let u32 : Int := (Int.fdiv a26 (2 ^ (min u31.toNat 64)))
  (Option.bind (idx ([(65 : Int), (66 : Int), (67 : Int), (68 : Int), (69 : Int), (70 : Int), (71 : Int), (72 : Int), (73 : Int), (74 : Int), (75 : Int), (76 : Int), (77 : Int), (78 : Int), (79 : Int), (80 : Int), (81 : Int), (82 : Int), (83 : Int), (84 : Int), (85 : Int), (86 : Int), (87 : Int), (88 : Int), (89 : Int), (90 : Int), (97 : Int), (98 : Int), (99 : Int), (100 : Int), (101 : Int), (102 : Int), (103 : Int), (104 : Int), (105 : Int), (106 : Int), (107 : Int), (108 : Int), (109 : Int), (110 : Int), (111 : Int), (112 : Int), (113 : Int), (114 : Int), (115 : Int), (116 : Int), (117 : Int), (118 : Int), (119 : Int), (120 : Int), (121 : Int), (122 : Int), (48 : Int), (49 : Int), (50 : Int), (51 : Int), (52 : Int), (53 : Int), (54 : Int), (55 : Int), (56 : Int), (57 : Int), (45 : Int), (95 : Int)] : List Int) (bits .and .u64 u32 (63 : Int))) fun v33 =>
  (Option.bind (bldByte n (v33, a29)) fun r34 =>
  (let u35 : Int := (IntKind.wrap .i64 (a28 + (1 : Int)))
  rec22 (a24, (a25, (a26, (a27, (u35, r34))))))))))))
  else
  (let u36 : Int := (IntKind.wrap .i64 (a25 + (3 : Int)))
  rec2 (a24, (u36, a29))))) n (a11, (a12, (a14, (u21, ((0 : Int), a16))))))))) n (a4, (a5, (u8, ((0 : Int), ((0 : Int), a6)))))))
  else none))
  else
  (Option.bind (bldString n a6) fun r37 =>
  some r37))) n (x, ((0 : Int), ([] : List Int))))
def sp_encode (n : Nat) : Spec := ⟨pre_encode, post_encode, encode n⟩
def env_encode (n : Nat) : List (FuncId × Spec) := [(17, sp_bldByte n), (18, sp_bldString n)]
theorem run_encode (n : Nat) (x : pre_encode.T) : fnRun Tryd.prog 41 (envOf (env_encode n)) n Tryd.f13 ann_encode pre_encode post_encode x = encode n x := by kernel_rfl
theorem ok_encode (n : Nat) : FnOK Tryd.prog 41 LD 13 (sp_encode n) :=
  fn_run mixed Tryd.func13 (sp_encode n) n ann_encode (env_encode n) (envOf_cons (ok_bldByte n) (envOf_cons (ok_bldString n) envOf_nil)) (run_encode n) (by kernel_rfl)
def pre_rEncode : Shape := ⟨[.c (.dat (.list (.int .u8)))], []⟩
def post_rEncode : List Shape := [⟨[.c (.dat .str)], []⟩]
def ann_rEncode : Ann := (.two .no (.two .no (.two (.two .no (.one (.loop ⟨[0, 3, 4], ⟨[.c (.dat (.list (.int .u8))), .c (.own 500), .c (.dat (.int .i64))], [(500, .row 5 (.int .u8))]⟩⟩ (.two .no (.two (.one (.two .no (.two (.two .no (.one (.loop ⟨[0, 3, 4, 5, 6], ⟨[.c (.dat (.list (.int .u8))), .c (.own 500), .c (.dat (.int .i64)), .c (.dat (.int .i64)), .c (.dat (.int .i64))], [(500, .row 5 (.int .u8))]⟩⟩ .no))) .no))) .no))))) .no)))
/-- what turnstile/turnstileref05.Encode comes to. -/
def rEncode (n : Nat) (x : List Int) : Option (List Int) :=
  (loopF (X := (List Int) × Int × List Int) (A := List Int) (fun rec2 y3 => match y3 with
  | (a4, (a5, a6)) =>
  (let u7 : Int := (IntKind.wrap .i64 ((8 : Int) * (a4.length : Int)))
  (if (decide (a5 < u7)) = true then
  (loopF (X := (List Int) × Int × Int × Int × List Int) (A := List Int) (fun rec8 y9 => match y9 with
  | (a10, (a11, (a12, (a13, a14)))) =>
  (if (decide (a13 < (6 : Int))) = true then
  (let u15 : Int := (IntKind.wrap .i64 ((2 : Int) * a12))
  (Option.bind (rBit n (a10, (IntKind.wrap .i64 (a11 + a13)))) fun r16 =>
  (let u17 : Int := (IntKind.wrap .i64 (a13 + (1 : Int)))
  rec8 (a10, (a11, ((IntKind.wrap .i64 (u15 + r16)), (u17, a14)))))))
  else
  (Option.bind (idx ([(65 : Int), (66 : Int), (67 : Int), (68 : Int), (69 : Int), (70 : Int), (71 : Int), (72 : Int), (73 : Int), (74 : Int), (75 : Int), (76 : Int), (77 : Int), (78 : Int), (79 : Int), (80 : Int), (81 : Int), (82 : Int), (83 : Int), (84 : Int), (85 : Int), (86 : Int), (87 : Int), (88 : Int), (89 : Int), (90 : Int), (97 : Int), (98 : Int), (99 : Int), (100 : Int), (101 : Int), (102 : Int), (103 : Int), (104 : Int), (105 : Int), (106 : Int), (107 : Int), (108 : Int), (109 : Int), (110 : Int), (111 : Int), (112 : Int), (113 : Int), (114 : Int), (115 : Int), (116 : Int), (117 : Int), (118 : Int), (119 : Int), (120 : Int), (121 : Int), (122 : Int), (48 : Int), (49 : Int), (50 : Int), (51 : Int), (52 : Int), (53 : Int), (54 : Int), (55 : Int), (56 : Int), (57 : Int), (45 : Int), (95 : Int)] : List Int) a12) fun v18 =>
  (if (a14.length + 1) * 1 ≤ 140737488355328 then
  (let u19 : Int := (IntKind.wrap .i64 (a11 + (6 : Int)))
  rec2 (a10, (u19, (a14 ++ ([v18] : List Int)))))
  else none)))) n (a4, (a5, ((0 : Int), ((0 : Int), a6)))))
  else
  some a6))) n (x, ((0 : Int), ([] : List Int))))
def sp_rEncode (n : Nat) : Spec := ⟨pre_rEncode, post_rEncode, rEncode n⟩
def env_rEncode (n : Nat) : List (FuncId × Spec) := [(19, sp_rBit n)]
theorem run_rEncode (n : Nat) (x : pre_rEncode.T) : fnRun Tryd.prog 41 (envOf (env_rEncode n)) n Tryd.f14 ann_rEncode pre_rEncode post_rEncode x = rEncode n x := by kernel_rfl
theorem ok_rEncode (n : Nat) : FnOK Tryd.prog 41 LD 14 (sp_rEncode n) :=
  fn_run mixed Tryd.func14 (sp_rEncode n) n ann_rEncode (env_rEncode n) (envOf_cons (ok_rBit n) envOf_nil) (run_rEncode n) (by kernel_rfl)
def pre_sure : Shape := ⟨[], []⟩
def post_sure : List Shape := [⟨[.c (.dat .bool)], []⟩]
def ann_sure : Ann := .no
/-- what turnstile/turnstilelaw05.sure comes to. -/
def sure (n : Nat) (x : Unit) : Option (Bool) :=
  (Option.bind (decode n ([(81 : Int), (81 : Int)] : List Int)) fun r1 =>
  (Option.bind (encode n ([(108 : Int), (105 : Int), (103 : Int), (104 : Int), (116 : Int), (32 : Int), (119 : Int)] : List Int)) fun r2 =>
  (if (r2 == ([(98 : Int), (71 : Int), (108 : Int), (110 : Int), (97 : Int), (72 : Int), (81 : Int), (103 : Int), (100 : Int), (119 : Int)] : List Int)) = true then
  (if (r1.1 == ([(65 : Int)] : List Int)) = true then
  some (r1.2 == (0 : Int))
  else
  some false)
  else
  some false)))
def sp_sure (n : Nat) : Spec := ⟨pre_sure, post_sure, sure n⟩
def env_sure (n : Nat) : List (FuncId × Spec) := [(5, sp_decode n), (13, sp_encode n)]
theorem run_sure (n : Nat) (x : pre_sure.T) : fnRun Tryd.prog 41 (envOf (env_sure n)) n Tryd.f8 ann_sure pre_sure post_sure x = sure n x := by kernel_rfl
theorem ok_sure (n : Nat) : FnOK Tryd.prog 41 LD 8 (sp_sure n) :=
  fn_run mixed Tryd.func8 (sp_sure n) n ann_sure (env_sure n) (envOf_cons (ok_decode n) (envOf_cons (ok_encode n) envOf_nil)) (run_sure n) (by kernel_rfl)
def pre_b64Reads : Shape := ⟨[.c (.dat .str)], []⟩
def post_b64Reads : List Shape := [⟨[.c (.dat .bool)], []⟩]
def ann_b64Reads : Ann := .no
/-- what turnstile/turnstilelaw05.B64Reads comes to. -/
def b64Reads (n : Nat) (x : List Int) : Option (Bool) :=
  (Option.bind (decode n x) fun r2 =>
  (Option.bind (rDecode n x) fun r3 =>
  (if (r2.1 == r3.1) = true then
  (Option.bind (num n r2.2) fun r4 =>
  (if (r4 == r3.2) = true then
  (Option.bind (sure n ()) fun r5 =>
  some r5)
  else
  some false))
  else
  some false)))
def sp_b64Reads (n : Nat) : Spec := ⟨pre_b64Reads, post_b64Reads, b64Reads n⟩
def env_b64Reads (n : Nat) : List (FuncId × Spec) := [(5, sp_decode n), (6, sp_rDecode n), (7, sp_num n), (8, sp_sure n)]
theorem run_b64Reads (n : Nat) (x : pre_b64Reads.T) : fnRun Tryd.prog 41 (envOf (env_b64Reads n)) n Tryd.f3 ann_b64Reads pre_b64Reads post_b64Reads x = b64Reads n x := by kernel_rfl
theorem ok_b64Reads (n : Nat) : FnOK Tryd.prog 41 LD 3 (sp_b64Reads n) :=
  fn_run mixed Tryd.func3 (sp_b64Reads n) n ann_b64Reads (env_b64Reads n) (envOf_cons (ok_decode n) (envOf_cons (ok_rDecode n) (envOf_cons (ok_num n) (envOf_cons (ok_sure n) envOf_nil)))) (run_b64Reads n) (by kernel_rfl)
def pre_b64Texts : Shape := ⟨[.c (.dat (.list (.int .u8))), .c (.dat (.int .u8)), .c (.dat (.int .i64))], []⟩
def post_b64Texts : List Shape := [⟨[.c (.dat .bool)], []⟩]
def ann_b64Texts : Ann := .no
/-- what turnstile/turnstilelaw05.B64Texts comes to. -/
def b64Texts (n : Nat) (x : (List Int) × Int × Int) : Option (Bool) :=
  match x with
  | (x1, (x2, x3)) =>
  (Option.bind (digit n x2) fun r4 =>
  (Option.bind (rDigit n x2) fun r5 =>
  (Option.bind (len n x3) fun r6 =>
  (Option.bind (rLen n x3) fun r7 =>
  (if x1.length * 1 ≤ 140737488355328 then
  (Option.bind (encode n x1) fun r8 =>
  (Option.bind (rEncode n x1) fun r9 =>
  (if (r8 == r9) = true then
  (if (r4.1 == r5.1) = true then
  (if (r4.2 == r5.2) = true then
  (if (r6.1 == r7.1) = true then
  (Option.bind (num n r6.2) fun r10 =>
  (if (r10 == r7.2) = true then
  (Option.bind (sure n ()) fun r11 =>
  some r11)
  else
  some false))
  else
  some false)
  else
  some false)
  else
  some false)
  else
  some false)))
  else none)))))
def sp_b64Texts (n : Nat) : Spec := ⟨pre_b64Texts, post_b64Texts, b64Texts n⟩
def env_b64Texts (n : Nat) : List (FuncId × Spec) := [(9, sp_digit n), (10, sp_rDigit n), (11, sp_len n), (12, sp_rLen n), (13, sp_encode n), (14, sp_rEncode n), (7, sp_num n), (8, sp_sure n)]
theorem run_b64Texts (n : Nat) (x : pre_b64Texts.T) : fnRun Tryd.prog 41 (envOf (env_b64Texts n)) n Tryd.f4 ann_b64Texts pre_b64Texts post_b64Texts x = b64Texts n x := by kernel_rfl
theorem ok_b64Texts (n : Nat) : FnOK Tryd.prog 41 LD 4 (sp_b64Texts n) :=
  fn_run mixed Tryd.func4 (sp_b64Texts n) n ann_b64Texts (env_b64Texts n) (envOf_cons (ok_digit n) (envOf_cons (ok_rDigit n) (envOf_cons (ok_len n) (envOf_cons (ok_rLen n) (envOf_cons (ok_encode n) (envOf_cons (ok_rEncode n) (envOf_cons (ok_num n) (envOf_cons (ok_sure n) envOf_nil)))))))) (run_b64Texts n) (by kernel_rfl)
end Go.Sx.YtkaflgmmkocjcaaDoor
