/- Part of a proof by a small interpreter on plain values; no condition. -/
import Derived.Test.YtkaflgmmkocjcaaC
import Derived.Test.YtkaflgmmkocjcaaProg
/-! written by program: the functions as plain ones, and their contracts. -/
namespace Go.Sx.Ytkaflgmmkocjcaa
open Go Go.Sx Go.Proofs
set_option autoImplicit false
set_option maxRecDepth 100000
set_option linter.unusedVariables false
theorem mixed : Try.prog.follows .mixedOrders = true := by kernel_rfl
def pre_len : Shape := ⟨[.c (.dat (.int .i64))], []⟩
def post_len : List Shape := [⟨[.c (.dat (.int .i64)), .c (.dat .err)], []⟩]
def ann_len : Ann := .no
/-- what turnstile/b64.Len comes to. -/
def len (n : Nat) (x : Int) : Option (Int × Int) :=
  (if (decide (x < (0 : Int))) = true then
  some ((0 : Int), (1 : Int))
  else
  (if (decide (x > (1099511627776 : Int))) = true then
  some ((0 : Int), (1 : Int))
  else
  (let u2 : Int := (IntKind.wrap .i64 ((IntKind.wrap .i64 ((4 : Int) * x)) + (2 : Int)))
  (let u3 : Int := (IntKind.wrap .i64 (Int.tdiv u2 (3 : Int)))
  some (u3, (0 : Int))))))
def sp_len (n : Nat) : Spec := ⟨pre_len, post_len, len n⟩
def env_len (n : Nat) : List (FuncId × Spec) := []
theorem run_len (n : Nat) (x : pre_len.T) : fnRun Try.prog 40 (envOf (env_len n)) n Try.f6 ann_len pre_len post_len x = len n x := by kernel_rfl
theorem ok_len (n : Nat) : FnOK Try.prog 40 L0 6 (sp_len n) :=
  fn_run mixed Try.func6 (sp_len n) n ann_len (env_len n) envOf_nil (run_len n) (by kernel_rfl)
def pre_bldByte : Shape := ⟨[.c (.ptr 0 0), .c (.dat (.int .u8))], [(0, .cells 34 [.slf 0, .own 1]), (1, .row 5 (.int .u8))]⟩
def post_bldByte : List Shape := [⟨[.c (.errc (0))], [(0, .cells 34 [.slf 0, .own 1]), (1, .row 5 (.int .u8))]⟩]
def ann_bldByte : Ann := .no
/-- what (strings.Builder).WriteByte comes to. -/
def bldByte (n : Nat) (x : Int × List Int) : Option (List Int) :=
  match x with
  | (x1, x2) =>
  (Option.bind (bldCheck n x2) fun r3 =>
  (if (r3.length + 1) * 1 ≤ 140737488355328 then
  some (r3 ++ ([x1] : List Int))
  else none))
def sp_bldByte (n : Nat) : Spec := ⟨pre_bldByte, post_bldByte, bldByte n⟩
def env_bldByte (n : Nat) : List (FuncId × Spec) := [(11, sp_bldCheck n)]
theorem run_bldByte (n : Nat) (x : pre_bldByte.T) : fnRun Try.prog 40 (envOf (env_bldByte n)) n Try.f8 ann_bldByte pre_bldByte post_bldByte x = bldByte n x := by kernel_rfl
theorem ok_bldByte (n : Nat) : FnOK Try.prog 40 L0 8 (sp_bldByte n) :=
  fn_run mixed Try.func8 (sp_bldByte n) n ann_bldByte (env_bldByte n) (envOf_cons (ok_bldCheck n) envOf_nil) (run_bldByte n) (by kernel_rfl)
def pre_digit : Shape := ⟨[.c (.dat (.int .u8))], []⟩
def post_digit : List Shape := [⟨[.c (.dat (.int .i64)), .c (.dat .bool)], []⟩]
def ann_digit : Ann := .no
/-- what turnstile/b64.Digit comes to. -/
def digit (n : Nat) (x : Int) : Option (Int × Bool) :=
  (Option.bind (stringsIndexByte n (([(65 : Int), (66 : Int), (67 : Int), (68 : Int), (69 : Int), (70 : Int), (71 : Int), (72 : Int), (73 : Int), (74 : Int), (75 : Int), (76 : Int), (77 : Int), (78 : Int), (79 : Int), (80 : Int), (81 : Int), (82 : Int), (83 : Int), (84 : Int), (85 : Int), (86 : Int), (87 : Int), (88 : Int), (89 : Int), (90 : Int), (97 : Int), (98 : Int), (99 : Int), (100 : Int), (101 : Int), (102 : Int), (103 : Int), (104 : Int), (105 : Int), (106 : Int), (107 : Int), (108 : Int), (109 : Int), (110 : Int), (111 : Int), (112 : Int), (113 : Int), (114 : Int), (115 : Int), (116 : Int), (117 : Int), (118 : Int), (119 : Int), (120 : Int), (121 : Int), (122 : Int), (48 : Int), (49 : Int), (50 : Int), (51 : Int), (52 : Int), (53 : Int), (54 : Int), (55 : Int), (56 : Int), (57 : Int), (45 : Int), (95 : Int)] : List Int), x)) fun r2 =>
  (if (decide (r2 ≥ (0 : Int))) = true then
  some (r2, true)
  else
  some ((0 : Int), false)))
def sp_digit (n : Nat) : Spec := ⟨pre_digit, post_digit, digit n⟩
def env_digit (n : Nat) : List (FuncId × Spec) := [(12, sp_stringsIndexByte n)]
theorem run_digit (n : Nat) (x : pre_digit.T) : fnRun Try.prog 40 (envOf (env_digit n)) n Try.f10 ann_digit pre_digit post_digit x = digit n x := by kernel_rfl
theorem ok_digit (n : Nat) : FnOK Try.prog 40 L0 10 (sp_digit n) :=
  fn_run mixed Try.func10 (sp_digit n) n ann_digit (env_digit n) (envOf_cons (ok_stringsIndexByte n) envOf_nil) (run_digit n) (by kernel_rfl)
def pre_encode : Shape := ⟨[.c (.dat (.list (.int .u8)))], []⟩
def post_encode : List Shape := [⟨[.c (.dat .str)], []⟩]
def ann_encode : Ann := (.two .no (.two .no (.two (.two .no (.one (.loop ⟨[0, 3, 4], ⟨[.c (.dat (.list (.int .u8))), .c (.ptr 500 0), .c (.dat (.int .i64))], [(500, .cells 34 [.slf 500, .own 501]), (501, .row 5 (.int .u8))]⟩⟩ (.two .no (.two (.one (.two .no (.two .no (.two (.two .no (.one (.loop ⟨[0, 3, 4, 5, 6, 23], ⟨[.c (.dat (.list (.int .u8))), .c (.ptr 500 0), .c (.dat (.int .i64)), .c (.dat (.list (.int .u8))), .c (.dat (.int .u64)), .c (.dat (.int .i64))], [(500, .cells 34 [.slf 500, .own 501]), (501, .row 5 (.int .u8))]⟩⟩ .no))) (.two .no (.one (.loop ⟨[0, 3, 4, 6, 42, 43], ⟨[.c (.dat (.list (.int .u8))), .c (.ptr 500 0), .c (.dat (.int .i64)), .c (.dat (.int .u64)), .c (.dat (.int .i64)), .c (.dat (.int .i64))], [(500, .cells 34 [.slf 500, .own 501]), (501, .row 5 (.int .u8))]⟩⟩ .no))))))) .no))))) .no)))
/-- what turnstile/b64.Encode comes to. -/
def encode (n : Nat) (x : List Int) : Option (List Int) :=
  (loopF (X := (List Int) × Int × List Int) (A := List Int) (fun rec2 y3 => match y3 with
  | (a4, (a5, a6)) =>
  (if (decide (a5 < (a4.length : Int))) = true then
  (let u7 : Int := (if (a4.length : Int) < (IntKind.wrap .i64 (a5 + (3 : Int))) then (a4.length : Int) else (IntKind.wrap .i64 (a5 + (3 : Int))))
  (if 0 ≤ a5 ∧ a5 ≤ u7 ∧ u7 ≤ (a4.length : Int) then
  (let u8 : List Int := ((a4.drop a5.toNat).take (u7.toNat - a5.toNat))
  (loopF (X := (List Int) × Int × (List Int) × Int × Int × List Int) (A := List Int) (fun rec9 y10 => match y10 with
  | (a11, (a12, (a13, (a14, (a15, a16))))) =>
  (if (decide (a15 < (3 : Int))) = true then
  (if (decide (a15 < (a13.length : Int))) = true then
  (Option.bind (idx a13 a15) fun v17 =>
  (let u18 : Int := (bits .or .u64 (IntKind.wrap .u64 (a14 * 256)) (IntKind.wrap .u64 v17))
  (let u19 : Int := (IntKind.wrap .i64 (a15 + (1 : Int)))
  rec9 (a11, (a12, (a13, (u18, (u19, a16))))))))
  else
  (let u20 : Int := (IntKind.wrap .i64 (a15 + (1 : Int)))
  rec9 (a11, (a12, (a13, ((IntKind.wrap .u64 (a14 * 256)), (u20, a16)))))))
  else
  (let u21 : Int := (IntKind.wrap .i64 ((a13.length : Int) + (1 : Int)))
  (loopF (X := (List Int) × Int × Int × Int × Int × List Int) (A := List Int) (fun rec22 y23 => match y23 with
  | (a24, (a25, (a26, (a27, (a28, a29))))) =>
  (if (decide (a28 < a27)) = true then
  (let u30 : Int := (IntKind.wrap .i64 ((6 : Int) * a28))
  (let u31 : Int := (IntKind.wrap .i64 ((18 : Int) - u30))
  (if u31 < 0 then none else (let u32 : Int := (Int.fdiv a26 (2 ^ (min u31.toNat 64)))
  (Option.bind (idx ([(65 : Int), (66 : Int), (67 : Int), (68 : Int), (69 : Int), (70 : Int), (71 : Int), (72 : Int), (73 : Int), (74 : Int), (75 : Int), (76 : Int), (77 : Int), (78 : Int), (79 : Int), (80 : Int), (81 : Int), (82 : Int), (83 : Int), (84 : Int), (85 : Int), (86 : Int), (87 : Int), (88 : Int), (89 : Int), (90 : Int), (97 : Int), (98 : Int), (99 : Int), (100 : Int), (101 : Int), (102 : Int), (103 : Int), (104 : Int), (105 : Int), (106 : Int), (107 : Int), (108 : Int), (109 : Int), (110 : Int), (111 : Int), (112 : Int), (113 : Int), (114 : Int), (115 : Int), (116 : Int), (117 : Int), (118 : Int), (119 : Int), (120 : Int), (121 : Int), (122 : Int), (48 : Int), (49 : Int), (50 : Int), (51 : Int), (52 : Int), (53 : Int), (54 : Int), (55 : Int), (56 : Int), (57 : Int), (45 : Int), (95 : Int)] : List Int) (bits .and .u64 u32 (63 : Int))) fun v33 =>
  (Option.bind (bldByte n (v33, a29)) fun r34 =>
  (let u35 : Int := (IntKind.wrap .i64 (a28 + (1 : Int)))
  rec22 (a24, (a25, (a26, (a27, (u35, r34))))))))))))
  else
  (let u36 : Int := (IntKind.wrap .i64 (a25 + (3 : Int)))
  rec2 (a24, (u36, a29))))) n (a11, (a12, (a14, (u21, ((0 : Int), a16))))))))) n (a4, (a5, (u8, ((0 : Int), ((0 : Int), a6)))))))
  else none))
  else
  (Option.bind (bldString n a6) fun r37 =>
  some r37))) n (x, ((0 : Int), ([] : List Int))))
def sp_encode (n : Nat) : Spec := ⟨pre_encode, post_encode, encode n⟩
def env_encode (n : Nat) : List (FuncId × Spec) := [(8, sp_bldByte n), (9, sp_bldString n)]
theorem run_encode (n : Nat) (x : pre_encode.T) : fnRun Try.prog 40 (envOf (env_encode n)) n Try.f4 ann_encode pre_encode post_encode x = encode n x := by kernel_rfl
theorem ok_encode (n : Nat) : FnOK Try.prog 40 L0 4 (sp_encode n) :=
  fn_run mixed Try.func4 (sp_encode n) n ann_encode (env_encode n) (envOf_cons (ok_bldByte n) (envOf_cons (ok_bldString n) envOf_nil)) (run_encode n) (by kernel_rfl)
def pre_decode : Shape := ⟨[.c (.dat .str)], []⟩
def post_decode : List Shape := [⟨[.c (.dat (.list (.int .u8))), .c (.dat .err)], []⟩]
def ann_decode : Ann := (.two .no (.two .no (.two .no (.two (.two .no (.one (.loop ⟨[0, 4, 5, 6, 7], ⟨[.c (.dat .str), .c (.own 500), .c (.dat (.int .u64)), .c (.dat (.int .i64)), .c (.dat (.int .i64))], [(500, .row 5 (.int .u8))]⟩⟩ .no))) .no))))
/-- what turnstile/b64.Decode comes to. -/
def decode (n : Nat) (x : List Int) : Option ((List Int) × Int) :=
  (loopF (X := (List Int) × Int × Int × Int × List Int) (A := (List Int) × Int) (fun rec2 y3 => match y3 with
  | (a4, (a5, (a6, (a7, a8)))) =>
  (if (decide (a7 < (a4.length : Int))) = true then
  (Option.bind (idx a4 a7) fun v9 =>
  (Option.bind (digit n v9) fun r10 =>
  (if (!r10.2) = true then
  some (([] : List Int), (3 : Int))
  else
  (let u11 : Int := (bits .or .u64 (IntKind.wrap .u64 (a5 * 64)) (IntKind.wrap .u64 r10.1))
  (if (decide ((IntKind.wrap .i64 (a6 + (6 : Int))) ≥ (8 : Int))) = true then
  (let u12 : Int := (IntKind.wrap .i64 ((IntKind.wrap .i64 (a6 + (6 : Int))) - (8 : Int)))
  (if u12 < 0 then none else (let u13 : Int := (Int.fdiv u11 (2 ^ (min u12.toNat 64)))
  (if (a8.length + 1) * 1 ≤ 140737488355328 then
  (let u14 : List Int := (a8 ++ ([(IntKind.wrap .u8 u13)] : List Int))
  (if u12 < 0 then none else (let u15 : Int := (IntKind.wrap .u64 ((1 : Int) * 2 ^ (min u12.toNat 64)))
  (let u16 : Int := (IntKind.wrap .u64 (u15 - (1 : Int)))
  rec2 (a4, ((bits .and .u64 u11 u16), (u12, ((IntKind.wrap .i64 (a7 + (1 : Int))), u14))))))))
  else none))))
  else
  rec2 (a4, (u11, ((IntKind.wrap .i64 (a6 + (6 : Int))), ((IntKind.wrap .i64 (a7 + (1 : Int))), a8)))))))))
  else
  (if (a5 != (0 : Int)) = true then
  some (([] : List Int), (3 : Int))
  else
  (let u17 : Int := (Int.tmod (a4.length : Int) (4 : Int))
  (if (u17 == (1 : Int)) = true then
  some (([] : List Int), (3 : Int))
  else
  some (a8, (0 : Int))))))) n (x, ((0 : Int), ((0 : Int), ((0 : Int), ([] : List Int))))))
def sp_decode (n : Nat) : Spec := ⟨pre_decode, post_decode, decode n⟩
def env_decode (n : Nat) : List (FuncId × Spec) := [(10, sp_digit n)]
theorem run_decode (n : Nat) (x : pre_decode.T) : fnRun Try.prog 40 (envOf (env_decode n)) n Try.f5 ann_decode pre_decode post_decode x = decode n x := by kernel_rfl
theorem ok_decode (n : Nat) : FnOK Try.prog 40 L0 5 (sp_decode n) :=
  fn_run mixed Try.func5 (sp_decode n) n ann_decode (env_decode n) (envOf_cons (ok_digit n) envOf_nil) (run_decode n) (by kernel_rfl)
def pre_sure : Shape := ⟨[], []⟩
def post_sure : List Shape := [⟨[.c (.dat .bool)], []⟩]
def ann_sure : Ann := .no
/-- what turnstile/turnstilelaw05.sure comes to. -/
def sure (n : Nat) (x : Unit) : Option (Bool) :=
  (Option.bind (decode n ([(81 : Int), (81 : Int)] : List Int)) fun r1 =>
  (Option.bind (encode n ([(108 : Int), (105 : Int), (103 : Int), (104 : Int), (116 : Int), (32 : Int), (119 : Int)] : List Int)) fun r2 =>
  (if (r2 == ([(98 : Int), (71 : Int), (108 : Int), (110 : Int), (97 : Int), (72 : Int), (81 : Int), (103 : Int), (100 : Int), (119 : Int)] : List Int)) = true then
  (if (r1.1 == ([(65 : Int)] : List Int)) = true then
  some (r1.2 == (0 : Int))
  else
  some false)
  else
  some false)))
def sp_sure (n : Nat) : Spec := ⟨pre_sure, post_sure, sure n⟩
def env_sure (n : Nat) : List (FuncId × Spec) := [(5, sp_decode n), (4, sp_encode n)]
theorem run_sure (n : Nat) (x : pre_sure.T) : fnRun Try.prog 40 (envOf (env_sure n)) n Try.f7 ann_sure pre_sure post_sure x = sure n x := by kernel_rfl
theorem ok_sure (n : Nat) : FnOK Try.prog 40 L0 7 (sp_sure n) :=
  fn_run mixed Try.func7 (sp_sure n) n ann_sure (env_sure n) (envOf_cons (ok_decode n) (envOf_cons (ok_encode n) envOf_nil)) (run_sure n) (by kernel_rfl)
def pre_b64Back : Shape := ⟨[.c (.dat (.list (.int .u8))), .c (.dat .str)], []⟩
def post_b64Back : List Shape := [⟨[.c (.dat .bool)], []⟩]
def ann_b64Back : Ann := .no
/-- what turnstile/turnstilelaw05.B64Back comes to. -/
def b64Back (n : Nat) (x : (List Int) × List Int) : Option (Bool) :=
  match x with
  | (x1, x2) =>
  (if x1.length * 1 ≤ 140737488355328 then
  (Option.bind (encode n x1) fun r3 =>
  (Option.bind (decode n r3) fun r4 =>
  (Option.bind (len n (x1.length : Int)) fun r5 =>
  (if (!(r4.2 == (0 : Int))) = true then
  some false
  else
  (if (!(r5.2 == (0 : Int))) = true then
  some false
  else
  (if (!(r4.1 == x1)) = true then
  some false
  else
  (if (r5.1 != (r3.length : Int)) = true then
  some false
  else
  (Option.bind (decode n x2) fun r6 =>
  (if (!(r6.2 == (0 : Int))) = true then
  (if ((r6.1.length : Int) == (0 : Int)) = true then
  (Option.bind (sure n ()) fun r7 =>
  some r7)
  else
  (if (r6.2 == (0 : Int)) = true then
  (Option.bind (encode n r6.1) fun r8 =>
  (if (r8 == x2) = true then
  (Option.bind (sure n ()) fun r9 =>
  some r9)
  else
  some false))
  else
  some false))
  else
  (if (r6.2 == (0 : Int)) = true then
  (Option.bind (encode n r6.1) fun r10 =>
  (if (r10 == x2) = true then
  (Option.bind (sure n ()) fun r11 =>
  some r11)
  else
  some false))
  else
  some false))))))))))
  else none)
def sp_b64Back (n : Nat) : Spec := ⟨pre_b64Back, post_b64Back, b64Back n⟩
def env_b64Back (n : Nat) : List (FuncId × Spec) := [(4, sp_encode n), (5, sp_decode n), (6, sp_len n), (7, sp_sure n)]
theorem run_b64Back (n : Nat) (x : pre_b64Back.T) : fnRun Try.prog 40 (envOf (env_b64Back n)) n Try.f3 ann_b64Back pre_b64Back post_b64Back x = b64Back n x := by kernel_rfl
theorem ok_b64Back (n : Nat) : FnOK Try.prog 40 L0 3 (sp_b64Back n) :=
  fn_run mixed Try.func3 (sp_b64Back n) n ann_b64Back (env_b64Back n) (envOf_cons (ok_encode n) (envOf_cons (ok_decode n) (envOf_cons (ok_len n) (envOf_cons (ok_sure n) envOf_nil)))) (run_b64Back n) (by kernel_rfl)
end Go.Sx.Ytkaflgmmkocjcaa
