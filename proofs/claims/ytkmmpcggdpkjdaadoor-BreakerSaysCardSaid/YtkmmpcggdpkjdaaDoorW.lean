/- Part of a proof by a small interpreter on plain values; no condition. -/
import Derived.Test.YtkmmpcggdpkjdaaDoorD
import Derived.Test.YtkmmpcggdpkjdaaDoorProg
/-! written by program: the functions as plain ones, and their contracts. -/
namespace Go.Sx.YtkmmpcggdpkjdaaDoor
open Go Go.Sx Go.Proofs
set_option autoImplicit false
set_option maxRecDepth 100000
set_option linter.unusedVariables false
theorem mixed : Tryd.prog.follows .mixedOrders = true := by kernel_rfl
def pre_valid : Shape := ⟨[.a [.dat (.int .i64), .dat (.int .i64)]], []⟩
def post_valid : List Shape := [⟨[.c (.dat .err)], []⟩]
def ann_valid : Ann := .no
/-- what turnstile/breaker.Valid comes to. -/
def valid (n : Nat) (x : Int × Int) : Option (Int) :=
  match x with
  | (x1, x2) =>
  (if (decide (x1 < (0 : Int))) = true then
  some (4 : Int)
  else
  (if (decide (x1 > (1000 : Int))) = true then
  some (4 : Int)
  else
  (if (x1 == (0 : Int)) = true then
  (if (x2 != (0 : Int)) = true then
  some (4 : Int)
  else
  (if (decide (x1 > (0 : Int))) = true then
  (if (decide (x2 < (1 : Int))) = true then
  some (4 : Int)
  else
  (if (decide (x2 > (1048576 : Int))) = true then
  some (4 : Int)
  else
  some (0 : Int)))
  else
  some (0 : Int)))
  else
  (if (decide (x1 > (0 : Int))) = true then
  (if (decide (x2 < (1 : Int))) = true then
  some (4 : Int)
  else
  (if (decide (x2 > (1048576 : Int))) = true then
  some (4 : Int)
  else
  some (0 : Int)))
  else
  some (0 : Int)))))
def sp_valid (n : Nat) : Spec := ⟨pre_valid, post_valid, valid n⟩
def env_valid (n : Nat) : List (FuncId × Spec) := []
theorem run_valid (n : Nat) (x : pre_valid.T) : fnRun Tryd.prog 46 (envOf (env_valid n)) n Tryd.f7 ann_valid pre_valid post_valid x = valid n x := by kernel_rfl
theorem ok_valid (n : Nat) : FnOK Tryd.prog 46 LD 7 (sp_valid n) :=
  fn_run mixed Tryd.func7 (sp_valid n) n ann_valid (env_valid n) envOf_nil (run_valid n) (by kernel_rfl)
def pre_rValid : Shape := ⟨[.a [.dat (.int .i64), .dat (.int .i64)]], []⟩
def post_rValid : List Shape := [⟨[.c (.dat (.int .i64))], []⟩]
def ann_rValid : Ann := .no
/-- what turnstile/turnstileref23.Valid comes to. -/
def rValid (n : Nat) (x : Int × Int) : Option (Int) :=
  match x with
  | (x1, x2) =>
  (if (decide (x1 < (0 : Int))) = true then
  some (4 : Int)
  else
  (if (decide (x1 > (1000 : Int))) = true then
  some (4 : Int)
  else
  (if (x1 == (0 : Int)) = true then
  (if (x2 != (0 : Int)) = true then
  some (4 : Int)
  else
  (if (decide (x1 > (0 : Int))) = true then
  (if (decide (x2 < (1 : Int))) = true then
  some (4 : Int)
  else
  (if (decide (x2 > (1048576 : Int))) = true then
  some (4 : Int)
  else
  some (0 : Int)))
  else
  some (0 : Int)))
  else
  (if (decide (x1 > (0 : Int))) = true then
  (if (decide (x2 < (1 : Int))) = true then
  some (4 : Int)
  else
  (if (decide (x2 > (1048576 : Int))) = true then
  some (4 : Int)
  else
  some (0 : Int)))
  else
  some (0 : Int)))))
def sp_rValid (n : Nat) : Spec := ⟨pre_rValid, post_rValid, rValid n⟩
def env_rValid (n : Nat) : List (FuncId × Spec) := []
theorem run_rValid (n : Nat) (x : pre_rValid.T) : fnRun Tryd.prog 46 (envOf (env_rValid n)) n Tryd.f8 ann_rValid pre_rValid post_rValid x = rValid n x := by kernel_rfl
theorem ok_rValid (n : Nat) : FnOK Tryd.prog 46 LD 8 (sp_rValid n) :=
  fn_run mixed Tryd.func8 (sp_rValid n) n ann_rValid (env_rValid n) envOf_nil (run_rValid n) (by kernel_rfl)
def pre_checked : Shape := ⟨[.a [.dat (.int .i64), .dat (.int .i64), .dat (.int .i64)], .a [.dat (.int .i64), .dat (.int .i64)], .c (.dat (.int .i64))], []⟩
def post_checked : List Shape := [⟨[.c (.dat .err)], []⟩]
def ann_checked : Ann := .no
/-- what turnstile/breaker.checked comes to. -/
def checked (n : Nat) (x : Int × Int × Int × Int × Int × Int) : Option (Int) :=
  match x with
  | (x1, (x2, (x3, (x4, (x5, x6))))) =>
  (Option.bind (valid n (x4, x5)) fun r7 =>
  (if (!(r7 == (0 : Int))) = true then
  some r7
  else
  (if (decide (x6 ≥ (0 : Int))) = true then
  (if (x1 == (0 : Int)) = true then
  (if (decide (x6 ≤ (1099511627776 : Int))) = true then
  (if (x3 == (0 : Int)) = true then
  (if (decide (x2 ≥ (0 : Int))) = true then
  (if (decide (x2 < x4)) = true then
  some (0 : Int)
  else
  (if (!(x2 == (0 : Int))) = true then
  some (1 : Int)
  else
  some (0 : Int)))
  else
  some (1 : Int))
  else
  some (1 : Int))
  else
  some (1 : Int))
  else
  (if (x1 == (1 : Int)) = true then
  (if (decide (x6 ≤ (1099511627776 : Int))) = true then
  (if (x2 == (0 : Int)) = true then
  (if (decide (x3 ≥ (1 : Int))) = true then
  (if (!(decide (x3 ≤ (2199023255552 : Int)))) = true then
  some (1 : Int)
  else
  some (0 : Int))
  else
  some (1 : Int))
  else
  some (1 : Int))
  else
  some (1 : Int))
  else
  (if (x1 == (2 : Int)) = true then
  (if (decide (x6 ≤ (1099511627776 : Int))) = true then
  (if (x2 == (0 : Int)) = true then
  (if (!(x3 == (0 : Int))) = true then
  some (1 : Int)
  else
  some (0 : Int))
  else
  some (1 : Int))
  else
  some (1 : Int))
  else
  some (1 : Int))))
  else
  (if (x1 == (0 : Int)) = true then
  some (1 : Int)
  else
  (if (x1 == (1 : Int)) = true then
  some (1 : Int)
  else
  (if (x1 == (2 : Int)) = true then
  some (1 : Int)
  else
  some (1 : Int)))))))
def sp_checked (n : Nat) : Spec := ⟨pre_checked, post_checked, checked n⟩
def env_checked (n : Nat) : List (FuncId × Spec) := [(7, sp_valid n)]
theorem run_checked (n : Nat) (x : pre_checked.T) : fnRun Tryd.prog 46 (envOf (env_checked n)) n Tryd.f14 ann_checked pre_checked post_checked x = checked n x := by kernel_rfl
theorem ok_checked (n : Nat) : FnOK Tryd.prog 46 LD 14 (sp_checked n) :=
  fn_run mixed Tryd.func14 (sp_checked n) n ann_checked (env_checked n) (envOf_cons (ok_valid n) envOf_nil) (run_checked n) (by kernel_rfl)
def pre_begin : Shape := ⟨[.a [.dat (.int .i64), .dat (.int .i64), .dat (.int .i64)], .a [.dat (.int .i64), .dat (.int .i64)], .c (.dat (.int .i64))], []⟩
def post_begin : List Shape := [⟨[.a [.dat (.int .i64), .dat (.int .i64), .dat (.int .i64)], .c (.dat .err)], []⟩]
def ann_begin : Ann := .no
/-- what turnstile/breaker.Begin comes to. -/
def begin (n : Nat) (x : Int × Int × Int × Int × Int × Int) : Option (Int × Int × Int × Int) :=
  match x with
  | (x1, (x2, (x3, (x4, (x5, x6))))) =>
  (Option.bind (checked n (x1, (x2, (x3, (x4, (x5, x6)))))) fun r7 =>
  (if (!(r7 == (0 : Int))) = true then
  some ((0 : Int), ((0 : Int), ((0 : Int), r7)))
  else
  (if (x1 == (1 : Int)) = true then
  (if (decide (x6 ≥ x3)) = true then
  some ((2 : Int), ((0 : Int), ((0 : Int), (0 : Int))))
  else
  some (x1, (x2, (x3, (0 : Int)))))
  else
  some (x1, (x2, (x3, (0 : Int)))))))
def sp_begin (n : Nat) : Spec := ⟨pre_begin, post_begin, begin n⟩
def env_begin (n : Nat) : List (FuncId × Spec) := [(14, sp_checked n)]
theorem run_begin (n : Nat) (x : pre_begin.T) : fnRun Tryd.prog 46 (envOf (env_begin n)) n Tryd.f19 ann_begin pre_begin post_begin x = begin n x := by kernel_rfl
theorem ok_begin (n : Nat) : FnOK Tryd.prog 46 LD 19 (sp_begin n) :=
  fn_run mixed Tryd.func19 (sp_begin n) n ann_begin (env_begin n) (envOf_cons (ok_checked n) envOf_nil) (run_begin n) (by kernel_rfl)
def pre_good : Shape := ⟨[.a [.dat (.int .i64), .dat (.int .i64), .dat (.int .i64)], .a [.dat (.int .i64), .dat (.int .i64)], .c (.dat (.int .i64))], []⟩
def post_good : List Shape := [⟨[.a [.dat (.int .i64), .dat (.int .i64), .dat (.int .i64)], .c (.dat .err)], []⟩]
def ann_good : Ann := .no
/-- what turnstile/breaker.Good comes to. -/
def good (n : Nat) (x : Int × Int × Int × Int × Int × Int) : Option (Int × Int × Int × Int) :=
  match x with
  | (x1, (x2, (x3, (x4, (x5, x6))))) =>
  (Option.bind (checked n (x1, (x2, (x3, (x4, (x5, x6)))))) fun r7 =>
  (if (!(r7 == (0 : Int))) = true then
  some ((0 : Int), ((0 : Int), ((0 : Int), r7)))
  else
  (if (x1 == (1 : Int)) = true then
  some (x1, (x2, (x3, (0 : Int))))
  else
  some ((0 : Int), ((0 : Int), ((0 : Int), (0 : Int)))))))
def sp_good (n : Nat) : Spec := ⟨pre_good, post_good, good n⟩
def env_good (n : Nat) : List (FuncId × Spec) := [(14, sp_checked n)]
theorem run_good (n : Nat) (x : pre_good.T) : fnRun Tryd.prog 46 (envOf (env_good n)) n Tryd.f20 ann_good pre_good post_good x = good n x := by kernel_rfl
theorem ok_good (n : Nat) : FnOK Tryd.prog 46 LD 20 (sp_good n) :=
  fn_run mixed Tryd.func20 (sp_good n) n ann_good (env_good n) (envOf_cons (ok_checked n) envOf_nil) (run_good n) (by kernel_rfl)
def pre_rCan : Shape := ⟨[.a [.dat (.int .i64), .dat (.int .i64), .dat (.int .i64)], .a [.dat (.int .i64), .dat (.int .i64)]], []⟩
def post_rCan : List Shape := [⟨[.c (.dat .bool)], []⟩]
def ann_rCan : Ann := .no
/-- what turnstile/turnstileref23.can comes to. -/
def rCan (n : Nat) (x : Int × Int × Int × Int × Int) : Option (Bool) :=
  match x with
  | (x1, (x2, (x3, (x4, x5)))) =>
  (if (x1 == (0 : Int)) = true then
  (if (x3 == (0 : Int)) = true then
  (if (decide (x2 ≥ (0 : Int))) = true then
  (if (x2 == (0 : Int)) = true then
  some true
  else
  some (decide (x2 < x4)))
  else
  some false)
  else
  some false)
  else
  (if (x1 == (1 : Int)) = true then
  (if (x2 == (0 : Int)) = true then
  (if (decide (x3 ≥ (1 : Int))) = true then
  some (decide (x3 ≤ (2199023255552 : Int)))
  else
  some false)
  else
  some false)
  else
  (if (x1 == (2 : Int)) = true then
  (if (x2 == (0 : Int)) = true then
  some (x3 == (0 : Int))
  else
  some false)
  else
  some false)))
def sp_rCan (n : Nat) : Spec := ⟨pre_rCan, post_rCan, rCan n⟩
def env_rCan (n : Nat) : List (FuncId × Spec) := []
theorem run_rCan (n : Nat) (x : pre_rCan.T) : fnRun Tryd.prog 46 (envOf (env_rCan n)) n Tryd.f23 ann_rCan pre_rCan post_rCan x = rCan n x := by kernel_rfl
theorem ok_rCan (n : Nat) : FnOK Tryd.prog 46 LD 23 (sp_rCan n) :=
  fn_run mixed Tryd.func23 (sp_rCan n) n ann_rCan (env_rCan n) envOf_nil (run_rCan n) (by kernel_rfl)
def pre_digits : Shape := ⟨[.c (.dat (.int .u64)), .c (.dat (.int .u64))], []⟩
def post_digits : List Shape := [⟨[.c (.dat .str)], []⟩]
def ann_digits : Ann := (.two .no (.two .no (.two .no (.two (.one (.loop ⟨[0, 1, 5, 6], ⟨[.c (.dat (.int .u64)), .c (.dat (.int .u64)), .c (.arr 500 1), .c (.dat (.int .i64))], [(500, .row 81 (.int .u8))]⟩⟩ (.two (.two (.join ⟨[0, 1, 5, 6, 12], ⟨[.c (.dat (.int .u64)), .c (.dat (.int .u64)), .c (.arr 500 1), .c (.dat (.int .i64)), .c (.dat .bool)], [(500, .row 81 (.int .u8))]⟩⟩ .no) .no) .no))) .no))))
/-- what turnstile/chars.digits comes to. -/
def digits (n : Nat) (x : Int × Int) : Option (List Int) :=
  match x with
  | (x1, x2) =>
  (loopF (X := Int × Int × Int × List Int) (A := List Int) (fun rec3 y4 => match y4 with
  | (a5, (a6, (a7, a8))) =>
  (Option.bind (α := Out (Int × Int × Int × Bool × List Int) (List Int)) ((if (a7 == (20 : Int)) = true then
  (some (Out.go (a5, (a6, (a7, (true, a8))))))
  else
  (some (Out.go (a5, (a6, (a7, ((decide (a5 > (0 : Int))), a8)))))))) fun o => match o with
  | .go (z10, (z11, (z12, (z13, z14)))) =>
  (if z13 = true then
  (let u15 : Int := (IntKind.wrap .i64 (z12 - (1 : Int)))
  (if z11 = 0 then none else
  (Option.bind (idx ([(48 : Int), (49 : Int), (50 : Int), (51 : Int), (52 : Int), (53 : Int), (54 : Int), (55 : Int), (56 : Int), (57 : Int), (97 : Int), (98 : Int), (99 : Int), (100 : Int), (101 : Int), (102 : Int)] : List Int) (Int.tmod z10 z11)) fun v16 =>
  (if 20 = z14.length then
  (if 0 ≤ u15 ∧ u15 < (z14.length : Int) then
  (if z11 = 0 then none else
  (let u17 : Int := (IntKind.wrap .u64 (Int.tdiv z10 z11))
  rec3 (u17, (z11, (u15, (z14.set u15.toNat v16))))))
  else none)
  else none))))
  else
  (if 20 = z14.length then
  (if 0 ≤ z12 ∧ z12 ≤ (20 : Int) ∧ (20 : Int) ≤ (20 : Int) then
  (let u18 : List Int := ((z14.drop z12.toNat).take (20 - z12.toNat))
  some u18)
  else none)
  else none))
  | .ret r19 => some r19)) n (x1, (x2, ((20 : Int), ([(0 : Int), (0 : Int), (0 : Int), (0 : Int), (0 : Int), (0 : Int), (0 : Int), (0 : Int), (0 : Int), (0 : Int), (0 : Int), (0 : Int), (0 : Int), (0 : Int), (0 : Int), (0 : Int), (0 : Int), (0 : Int), (0 : Int), (0 : Int)] : List Int)))))
def sp_digits (n : Nat) : Spec := ⟨pre_digits, post_digits, digits n⟩
def env_digits (n : Nat) : List (FuncId × Spec) := []
theorem run_digits (n : Nat) (x : pre_digits.T) : fnRun Tryd.prog 46 (envOf (env_digits n)) n Tryd.f28 ann_digits pre_digits post_digits x = digits n x := by kernel_rfl
theorem ok_digits (n : Nat) : FnOK Tryd.prog 46 LD 28 (sp_digits n) :=
  fn_run mixed Tryd.func28 (sp_digits n) n ann_digits (env_digits n) envOf_nil (run_digits n) (by kernel_rfl)
def pre_rTold : Shape := ⟨[.c (.dat (.int .u64)), .c (.dat (.int .u64))], []⟩
def post_rTold : List Shape := [⟨[.c (.dat .str)], []⟩]
def ann_rTold : Ann := (.two .no (.two .no (.one (.loop ⟨[0, 1, 5], ⟨[.c (.dat (.int .u64)), .c (.dat (.int .u64)), .c (.dat .str)], []⟩⟩ .no))))
/-- what turnstile/turnstileref01.told comes to. -/
def rTold (n : Nat) (x : Int × Int) : Option (List Int) :=
  match x with
  | (x1, x2) =>
  (loopF (X := Int × Int × List Int) (A := List Int) (fun rec3 y4 => match y4 with
  | (a5, (a6, a7)) =>
  (if a6 = 0 then none else
  (if a6 = 0 then none else
  (let u8 : Int := (IntKind.wrap .u64 ((Int.tmod a5 a6) + (1 : Int)))
  (if 0 ≤ (Int.tmod a5 a6) ∧ (Int.tmod a5 a6) ≤ u8 ∧ u8 ≤ (16 : Int) then
  (let u9 : List Int := ((([(48 : Int), (49 : Int), (50 : Int), (51 : Int), (52 : Int), (53 : Int), (54 : Int), (55 : Int), (56 : Int), (57 : Int), (97 : Int), (98 : Int), (99 : Int), (100 : Int), (101 : Int), (102 : Int)] : List Int).drop (Int.tmod a5 a6).toNat).take (u8.toNat - (Int.tmod a5 a6).toNat))
  (if u9.length + a7.length ≤ 140737488355328 then
  (if a6 = 0 then none else
  (if ((IntKind.wrap .u64 (Int.tdiv a5 a6)) == (0 : Int)) = true then
  some (u9 ++ a7)
  else
  rec3 ((IntKind.wrap .u64 (Int.tdiv a5 a6)), (a6, (u9 ++ a7)))))
  else none))
  else none))))) n (x1, (x2, ([] : List Int))))
def sp_rTold (n : Nat) : Spec := ⟨pre_rTold, post_rTold, rTold n⟩
def env_rTold (n : Nat) : List (FuncId × Spec) := []
theorem run_rTold (n : Nat) (x : pre_rTold.T) : fnRun Tryd.prog 46 (envOf (env_rTold n)) n Tryd.f29 ann_rTold pre_rTold post_rTold x = rTold n x := by kernel_rfl
theorem ok_rTold (n : Nat) : FnOK Tryd.prog 46 LD 29 (sp_rTold n) :=
  fn_run mixed Tryd.func29 (sp_rTold n) n ann_rTold (env_rTold n) envOf_nil (run_rTold n) (by kernel_rfl)
def pre_opened : Shape := ⟨[.c (.dat (.int .i64))], []⟩
def post_opened : List Shape := [⟨[.a [.dat (.int .i64), .dat (.int .i64), .dat (.int .i64)]], []⟩]
def ann_opened : Ann := .no
/-- what turnstile/breaker.opened comes to. -/
def opened (n : Nat) (x : Int) : Option (Int × Int × Int) :=
  (let u2 : Int := (if (1 : Int) > x then (1 : Int) else x)
  some ((1 : Int), ((0 : Int), u2)))
def sp_opened (n : Nat) : Spec := ⟨pre_opened, post_opened, opened n⟩
def env_opened (n : Nat) : List (FuncId × Spec) := []
theorem run_opened (n : Nat) (x : pre_opened.T) : fnRun Tryd.prog 46 (envOf (env_opened n)) n Tryd.f30 ann_opened pre_opened post_opened x = opened n x := by kernel_rfl
theorem ok_opened (n : Nat) : FnOK Tryd.prog 46 LD 30 (sp_opened n) :=
  fn_run mixed Tryd.func30 (sp_opened n) n ann_opened (env_opened n) envOf_nil (run_opened n) (by kernel_rfl)
def pre_ready : Shape := ⟨[.a [.dat (.int .i64), .dat (.int .i64), .dat (.int .i64)], .a [.dat (.int .i64), .dat (.int .i64)], .c (.dat (.int .i64))], []⟩
def post_ready : List Shape := [⟨[.c (.dat .bool), .c (.dat .err)], []⟩]
def ann_ready : Ann := .no
/-- what turnstile/breaker.Ready comes to. -/
def ready (n : Nat) (x : Int × Int × Int × Int × Int × Int) : Option (Bool × Int) :=
  match x with
  | (x1, (x2, (x3, (x4, (x5, x6))))) =>
  (Option.bind (checked n (x1, (x2, (x3, (x4, (x5, x6)))))) fun r7 =>
  (if (!(r7 == (0 : Int))) = true then
  some (false, r7)
  else
  (if (x1 == (0 : Int)) = true then
  some (true, (0 : Int))
  else
  (if (x1 == (1 : Int)) = true then
  some ((decide (x6 ≥ x3)), (0 : Int))
  else
  some (false, (0 : Int))))))
def sp_ready (n : Nat) : Spec := ⟨pre_ready, post_ready, ready n⟩
def env_ready (n : Nat) : List (FuncId × Spec) := [(14, sp_checked n)]
theorem run_ready (n : Nat) (x : pre_ready.T) : fnRun Tryd.prog 46 (envOf (env_ready n)) n Tryd.f4 ann_ready pre_ready post_ready x = ready n x := by kernel_rfl
theorem ok_ready (n : Nat) : FnOK Tryd.prog 46 LD 4 (sp_ready n) :=
  fn_run mixed Tryd.func4 (sp_ready n) n ann_ready (env_ready n) (envOf_cons (ok_checked n) envOf_nil) (run_ready n) (by kernel_rfl)
def pre_rCheck : Shape := ⟨[.a [.dat (.int .i64), .dat (.int .i64), .dat (.int .i64)], .a [.dat (.int .i64), .dat (.int .i64)], .c (.dat (.int .i64))], []⟩
def post_rCheck : List Shape := [⟨[.c (.dat (.int .i64))], []⟩]
def ann_rCheck : Ann := .no
/-- what turnstile/turnstileref23.check comes to. -/
def rCheck (n : Nat) (x : Int × Int × Int × Int × Int × Int) : Option (Int) :=
  match x with
  | (x1, (x2, (x3, (x4, (x5, x6))))) =>
  (Option.bind (rValid n (x4, x5)) fun r7 =>
  (if (r7 != (0 : Int)) = true then
  some (4 : Int)
  else
  (Option.bind (rCan n (x1, (x2, (x3, (x4, x5))))) fun r8 =>
  (if (!r8) = true then
  some (1 : Int)
  else
  (if (decide (x6 < (0 : Int))) = true then
  some (1 : Int)
  else
  (if (decide (x6 > (1099511627776 : Int))) = true then
  some (1 : Int)
  else
  some (0 : Int)))))))
def sp_rCheck (n : Nat) : Spec := ⟨pre_rCheck, post_rCheck, rCheck n⟩
def env_rCheck (n : Nat) : List (FuncId × Spec) := [(8, sp_rValid n), (23, sp_rCan n)]
theorem run_rCheck (n : Nat) (x : pre_rCheck.T) : fnRun Tryd.prog 46 (envOf (env_rCheck n)) n Tryd.f15 ann_rCheck pre_rCheck post_rCheck x = rCheck n x := by kernel_rfl
theorem ok_rCheck (n : Nat) : FnOK Tryd.prog 46 LD 15 (sp_rCheck n) :=
  fn_run mixed Tryd.func15 (sp_rCheck n) n ann_rCheck (env_rCheck n) (envOf_cons (ok_rValid n) (envOf_cons (ok_rCan n) envOf_nil)) (run_rCheck n) (by kernel_rfl)
def pre_charsText : Shape := ⟨[.c (.dat (.int .i64))], []⟩
def post_charsText : List Shape := [⟨[.c (.dat .str)], []⟩]
def ann_charsText : Ann := .no
/-- what turnstile/chars.Text comes to. -/
def charsText (n : Nat) (x : Int) : Option (List Int) :=
  (if (decide (x < (0 : Int))) = true then
  (let u2 : Int := (IntKind.wrap .u64 (0 - (IntKind.wrap .u64 x)))
  (Option.bind (digits n (u2, (10 : Int))) fun r3 =>
  (if 1 + r3.length ≤ 140737488355328 then
  some (([(45 : Int)] : List Int) ++ r3)
  else none)))
  else
  (Option.bind (digits n ((IntKind.wrap .u64 x), (10 : Int))) fun r4 =>
  some r4))
def sp_charsText (n : Nat) : Spec := ⟨pre_charsText, post_charsText, charsText n⟩
def env_charsText (n : Nat) : List (FuncId × Spec) := [(28, sp_digits n)]
theorem run_charsText (n : Nat) (x : pre_charsText.T) : fnRun Tryd.prog 46 (envOf (env_charsText n)) n Tryd.f17 ann_charsText pre_charsText post_charsText x = charsText n x := by kernel_rfl
theorem ok_charsText (n : Nat) : FnOK Tryd.prog 46 LD 17 (sp_charsText n) :=
  fn_run mixed Tryd.func17 (sp_charsText n) n ann_charsText (env_charsText n) (envOf_cons (ok_digits n) envOf_nil) (run_charsText n) (by kernel_rfl)
def pre_turnstileref01RText : Shape := ⟨[.c (.dat (.int .i64))], []⟩
def post_turnstileref01RText : List Shape := [⟨[.c (.dat .str)], []⟩]
def ann_turnstileref01RText : Ann := .no
/-- what turnstile/turnstileref01.Text comes to. -/
def turnstileref01RText (n : Nat) (x : Int) : Option (List Int) :=
  (if (decide (x < (0 : Int))) = true then
  (let u2 : Int := (IntKind.wrap .u64 (0 - (IntKind.wrap .u64 x)))
  (Option.bind (rTold n (u2, (10 : Int))) fun r3 =>
  (if 1 + r3.length ≤ 140737488355328 then
  some (([(45 : Int)] : List Int) ++ r3)
  else none)))
  else
  (Option.bind (rTold n ((IntKind.wrap .u64 x), (10 : Int))) fun r4 =>
  some r4))
def sp_turnstileref01RText (n : Nat) : Spec := ⟨pre_turnstileref01RText, post_turnstileref01RText, turnstileref01RText n⟩
def env_turnstileref01RText (n : Nat) : List (FuncId × Spec) := [(29, sp_rTold n)]
theorem run_turnstileref01RText (n : Nat) (x : pre_turnstileref01RText.T) : fnRun Tryd.prog 46 (envOf (env_turnstileref01RText n)) n Tryd.f18 ann_turnstileref01RText pre_turnstileref01RText post_turnstileref01RText x = turnstileref01RText n x := by kernel_rfl
theorem ok_turnstileref01RText (n : Nat) : FnOK Tryd.prog 46 LD 18 (sp_turnstileref01RText n) :=
  fn_run mixed Tryd.func18 (sp_turnstileref01RText n) n ann_turnstileref01RText (env_turnstileref01RText n) (envOf_cons (ok_rTold n) envOf_nil) (run_turnstileref01RText n) (by kernel_rfl)
def pre_bad : Shape := ⟨[.a [.dat (.int .i64), .dat (.int .i64), .dat (.int .i64)], .a [.dat (.int .i64), .dat (.int .i64)], .c (.dat (.int .i64))], []⟩
def post_bad : List Shape := [⟨[.a [.dat (.int .i64), .dat (.int .i64), .dat (.int .i64)], .c (.dat .err)], []⟩]
def ann_bad : Ann := (.two .no (.two .no (.two (.one (.two (.join ⟨[2, 3, 4, 6, 17], ⟨[.c (.dat (.int .i64)), .c (.ptr 500 0), .c (.ptr 501 0), .c (.ptr 502 0), .c (.dat .bool)], [(500, .cells 26 [.dat (.int .i64), .dat (.int .i64), .dat (.int .i64)]), (501, .cells 25 [.dat (.int .i64), .dat (.int .i64)]), (502, .cells 26 [.dat (.int .i64), .dat (.int .i64), .dat (.int .i64)])]⟩⟩ .no) .no)) .no)))
/-- what turnstile/breaker.Bad comes to. -/
def bad (n : Nat) (x : Int × Int × Int × Int × Int × Int) : Option (Int × Int × Int × Int) :=
  match x with
  | (x1, (x2, (x3, (x4, (x5, x6))))) =>
  (Option.bind (checked n (x1, (x2, (x3, (x4, (x5, x6)))))) fun r7 =>
  (if (!(r7 == (0 : Int))) = true then
  some ((0 : Int), ((0 : Int), ((0 : Int), r7)))
  else
  (Option.bind (α := Out (Int × Bool × Int × Int × Int × Int × Int × Int × Int × Int) (Int × Int × Int × Int)) ((if (x1 == (1 : Int)) = true then
  (some (Out.go (x6, ((x1 == (1 : Int)), (x1, (x2, (x3, (x4, (x5, ((0 : Int), ((0 : Int), (0 : Int))))))))))))
  else
  (if (x1 == (0 : Int)) = true then
  (some (Out.go (x6, ((x4 == (0 : Int)), (x1, (x2, (x3, (x4, (x5, ((0 : Int), ((0 : Int), (0 : Int))))))))))))
  else
  (some (Out.go (x6, (false, (x1, (x2, (x3, (x4, (x5, ((0 : Int), ((0 : Int), (0 : Int))))))))))))))) fun o => match o with
  | .go (z9, (z10, (z11, (z12, (z13, (z14, (z15, (z16, (z17, z18))))))))) =>
  (if z10 = true then
  some (z11, (z12, (z13, (0 : Int))))
  else
  (if (z11 == (0 : Int)) = true then
  (let u19 : Int := (IntKind.wrap .i64 (z12 + (1 : Int)))
  (if (decide (u19 < z14)) = true then
  (let u20 : Int := (IntKind.wrap .i64 (z12 + (1 : Int)))
  some (z11, (u20, (z13, (0 : Int)))))
  else
  (Option.bind (opened n (IntKind.wrap .i64 (z9 + z15))) fun r21 =>
  some (r21.1, (r21.2.1, (r21.2.2, (0 : Int)))))))
  else
  (Option.bind (opened n (IntKind.wrap .i64 (z9 + z15))) fun r22 =>
  some (r22.1, (r22.2.1, (r22.2.2, (0 : Int)))))))
  | .ret r23 => some r23)))
def sp_bad (n : Nat) : Spec := ⟨pre_bad, post_bad, bad n⟩
def env_bad (n : Nat) : List (FuncId × Spec) := [(14, sp_checked n), (30, sp_opened n)]
theorem run_bad (n : Nat) (x : pre_bad.T) : fnRun Tryd.prog 46 (envOf (env_bad n)) n Tryd.f21 ann_bad pre_bad post_bad x = bad n x := by kernel_rfl
theorem ok_bad (n : Nat) : FnOK Tryd.prog 46 LD 21 (sp_bad n) :=
  fn_run mixed Tryd.func21 (sp_bad n) n ann_bad (env_bad n) (envOf_cons (ok_checked n) (envOf_cons (ok_opened n) envOf_nil)) (run_bad n) (by kernel_rfl)
def pre_drop : Shape := ⟨[.a [.dat (.int .i64), .dat (.int .i64), .dat (.int .i64)], .a [.dat (.int .i64), .dat (.int .i64)], .c (.dat (.int .i64))], []⟩
def post_drop : List Shape := [⟨[.a [.dat (.int .i64), .dat (.int .i64), .dat (.int .i64)], .c (.dat .err)], []⟩]
def ann_drop : Ann := .no
/-- what turnstile/breaker.Drop comes to. -/
def drop (n : Nat) (x : Int × Int × Int × Int × Int × Int) : Option (Int × Int × Int × Int) :=
  match x with
  | (x1, (x2, (x3, (x4, (x5, x6))))) =>
  (Option.bind (checked n (x1, (x2, (x3, (x4, (x5, x6)))))) fun r7 =>
  (if (!(r7 == (0 : Int))) = true then
  some ((0 : Int), ((0 : Int), ((0 : Int), r7)))
  else
  (if (x1 == (2 : Int)) = true then
  (Option.bind (opened n x6) fun r8 =>
  some (r8.1, (r8.2.1, (r8.2.2, (0 : Int)))))
  else
  some (x1, (x2, (x3, (0 : Int)))))))
def sp_drop (n : Nat) : Spec := ⟨pre_drop, post_drop, drop n⟩
def env_drop (n : Nat) : List (FuncId × Spec) := [(14, sp_checked n), (30, sp_opened n)]
theorem run_drop (n : Nat) (x : pre_drop.T) : fnRun Tryd.prog 46 (envOf (env_drop n)) n Tryd.f22 ann_drop pre_drop post_drop x = drop n x := by kernel_rfl
theorem ok_drop (n : Nat) : FnOK Tryd.prog 46 LD 22 (sp_drop n) :=
  fn_run mixed Tryd.func22 (sp_drop n) n ann_drop (env_drop n) (envOf_cons (ok_checked n) (envOf_cons (ok_opened n) envOf_nil)) (run_drop n) (by kernel_rfl)
def pre_rReady : Shape := ⟨[.a [.dat (.int .i64), .dat (.int .i64), .dat (.int .i64)], .a [.dat (.int .i64), .dat (.int .i64)], .c (.dat (.int .i64))], []⟩
def post_rReady : List Shape := [⟨[.c (.dat .bool), .c (.dat (.int .i64))], []⟩]
def ann_rReady : Ann := .no
/-- what turnstile/turnstileref23.Ready comes to. -/
def rReady (n : Nat) (x : Int × Int × Int × Int × Int × Int) : Option (Bool × Int) :=
  match x with
  | (x1, (x2, (x3, (x4, (x5, x6))))) =>
  (Option.bind (rCheck n (x1, (x2, (x3, (x4, (x5, x6)))))) fun r7 =>
  (if (r7 == (0 : Int)) = true then
  (if (x1 == (0 : Int)) = true then
  some (true, r7)
  else
  (if (x1 == (1 : Int)) = true then
  some ((decide (x6 ≥ x3)), r7)
  else
  some (false, r7)))
  else
  some (false, r7)))
def sp_rReady (n : Nat) : Spec := ⟨pre_rReady, post_rReady, rReady n⟩
def env_rReady (n : Nat) : List (FuncId × Spec) := [(15, sp_rCheck n)]
theorem run_rReady (n : Nat) (x : pre_rReady.T) : fnRun Tryd.prog 46 (envOf (env_rReady n)) n Tryd.f5 ann_rReady pre_rReady post_rReady x = rReady n x := by kernel_rfl
theorem ok_rReady (n : Nat) : FnOK Tryd.prog 46 LD 5 (sp_rReady n) :=
  fn_run mixed Tryd.func5 (sp_rReady n) n ann_rReady (env_rReady n) (envOf_cons (ok_rCheck n) envOf_nil) (run_rReady n) (by kernel_rfl)
def pre_text : Shape := ⟨[.a [.dat (.int .i64), .dat (.int .i64), .dat (.int .i64)]], []⟩
def post_text : List Shape := [⟨[.c (.dat .str)], []⟩]
def ann_text : Ann := .no
/-- what turnstile/breaker.Text comes to. -/
def text (n : Nat) (x : Int × Int × Int) : Option (List Int) :=
  match x with
  | (x1, (x2, x3)) =>
  (if (x1 == (0 : Int)) = true then
  (Option.bind (charsText n x2) fun r4 =>
  (if 7 + r4.length ≤ 140737488355328 then
  (let u5 : List Int := (([(99 : Int), (108 : Int), (111 : Int), (115 : Int), (101 : Int), (100 : Int), (32 : Int)] : List Int) ++ r4)
  some u5)
  else none))
  else
  (if (x1 == (1 : Int)) = true then
  (Option.bind (charsText n x3) fun r6 =>
  (if 5 + r6.length ≤ 140737488355328 then
  (let u7 : List Int := (([(111 : Int), (112 : Int), (101 : Int), (110 : Int), (32 : Int)] : List Int) ++ r6)
  some u7)
  else none))
  else
  (if (x1 == (2 : Int)) = true then
  some ([(104 : Int), (97 : Int), (108 : Int), (102 : Int)] : List Int)
  else
  some ([] : List Int))))
def sp_text (n : Nat) : Spec := ⟨pre_text, post_text, text n⟩
def env_text (n : Nat) : List (FuncId × Spec) := [(17, sp_charsText n)]
theorem run_text (n : Nat) (x : pre_text.T) : fnRun Tryd.prog 46 (envOf (env_text n)) n Tryd.f9 ann_text pre_text post_text x = text n x := by kernel_rfl
theorem ok_text (n : Nat) : FnOK Tryd.prog 46 LD 9 (sp_text n) :=
  fn_run mixed Tryd.func9 (sp_text n) n ann_text (env_text n) (envOf_cons (ok_charsText n) envOf_nil) (run_text n) (by kernel_rfl)
def pre_rText : Shape := ⟨[.a [.dat (.int .i64), .dat (.int .i64), .dat (.int .i64)]], []⟩
def post_rText : List Shape := [⟨[.c (.dat .str)], []⟩]
def ann_rText : Ann := .no
/-- what turnstile/turnstileref23.Text comes to. -/
def rText (n : Nat) (x : Int × Int × Int) : Option (List Int) :=
  match x with
  | (x1, (x2, x3)) =>
  (if (x1 == (0 : Int)) = true then
  (Option.bind (turnstileref01RText n x2) fun r4 =>
  (if 7 + r4.length ≤ 140737488355328 then
  (let u5 : List Int := (([(99 : Int), (108 : Int), (111 : Int), (115 : Int), (101 : Int), (100 : Int), (32 : Int)] : List Int) ++ r4)
  some u5)
  else none))
  else
  (if (x1 == (1 : Int)) = true then
  (Option.bind (turnstileref01RText n x3) fun r6 =>
  (if 5 + r6.length ≤ 140737488355328 then
  (let u7 : List Int := (([(111 : Int), (112 : Int), (101 : Int), (110 : Int), (32 : Int)] : List Int) ++ r6)
  some u7)
  else none))
  else
  (if (x1 == (2 : Int)) = true then
  some ([(104 : Int), (97 : Int), (108 : Int), (102 : Int)] : List Int)
  else
  some ([] : List Int))))
def sp_rText (n : Nat) : Spec := ⟨pre_rText, post_rText, rText n⟩
def env_rText (n : Nat) : List (FuncId × Spec) := [(18, sp_turnstileref01RText n)]
theorem run_rText (n : Nat) (x : pre_rText.T) : fnRun Tryd.prog 46 (envOf (env_rText n)) n Tryd.f10 ann_rText pre_rText post_rText x = rText n x := by kernel_rfl
theorem ok_rText (n : Nat) : FnOK Tryd.prog 46 LD 10 (sp_rText n) :=
  fn_run mixed Tryd.func10 (sp_rText n) n ann_rText (env_rText n) (envOf_cons (ok_turnstileref01RText n) envOf_nil) (run_rText n) (by kernel_rfl)
def pre_say : Shape := ⟨[.a [.dat (.int .i64), .dat (.int .i64), .dat (.int .i64)], .a [.dat (.int .i64), .dat (.int .i64)], .c (.dat (.int .i64)), .c (.dat (.int .i64))], []⟩
def post_say : List Shape := [⟨[.a [.dat (.int .i64), .dat (.int .i64), .dat (.int .i64)], .c (.dat .err)], []⟩]
def ann_say : Ann := .no
/-- what turnstile/turnstilelaw23.say comes to. -/
def say (n : Nat) (x : Int × Int × Int × Int × Int × Int × Int) : Option (Int × Int × Int × Int) :=
  match x with
  | (x1, (x2, (x3, (x4, (x5, (x6, x7)))))) =>
  (if (x7 == (0 : Int)) = true then
  (Option.bind (begin n (x1, (x2, (x3, (x4, (x5, x6)))))) fun r8 =>
  some (r8.1, (r8.2.1, (r8.2.2.1, r8.2.2.2))))
  else
  (if (x7 == (1 : Int)) = true then
  (Option.bind (good n (x1, (x2, (x3, (x4, (x5, x6)))))) fun r9 =>
  some (r9.1, (r9.2.1, (r9.2.2.1, r9.2.2.2))))
  else
  (if (x7 == (2 : Int)) = true then
  (Option.bind (bad n (x1, (x2, (x3, (x4, (x5, x6)))))) fun r10 =>
  some (r10.1, (r10.2.1, (r10.2.2.1, r10.2.2.2))))
  else
  (Option.bind (drop n (x1, (x2, (x3, (x4, (x5, x6)))))) fun r11 =>
  some (r11.1, (r11.2.1, (r11.2.2.1, r11.2.2.2)))))))
def sp_say (n : Nat) : Spec := ⟨pre_say, post_say, say n⟩
def env_say (n : Nat) : List (FuncId × Spec) := [(19, sp_begin n), (20, sp_good n), (21, sp_bad n), (22, sp_drop n)]
theorem run_say (n : Nat) (x : pre_say.T) : fnRun Tryd.prog 46 (envOf (env_say n)) n Tryd.f11 ann_say pre_say post_say x = say n x := by kernel_rfl
theorem ok_say (n : Nat) : FnOK Tryd.prog 46 LD 11 (sp_say n) :=
  fn_run mixed Tryd.func11 (sp_say n) n ann_say (env_say n) (envOf_cons (ok_begin n) (envOf_cons (ok_good n) (envOf_cons (ok_bad n) (envOf_cons (ok_drop n) envOf_nil)))) (run_say n) (by kernel_rfl)
def pre_rSay : Shape := ⟨[.a [.dat (.int .i64), .dat (.int .i64), .dat (.int .i64)], .a [.dat (.int .i64), .dat (.int .i64)], .c (.dat (.int .i64)), .c (.dat (.int .i64))], []⟩
def post_rSay : List Shape := [⟨[.a [.dat (.int .i64), .dat (.int .i64), .dat (.int .i64)], .c (.dat (.int .i64))], []⟩]
def ann_rSay : Ann := (.two .no (.two .no (.two .no (.two (.one (.two (.join ⟨[2, 3, 4, 5, 8, 19], ⟨[.c (.dat (.int .i64)), .c (.dat (.int .i64)), .c (.ptr 500 0), .c (.ptr 501 0), .c (.ptr 502 0), .c (.dat .bool)], [(500, .cells 23 [.dat (.int .i64), .dat (.int .i64), .dat (.int .i64)]), (501, .cells 25 [.dat (.int .i64), .dat (.int .i64)]), (502, .cells 23 [.dat (.int .i64), .dat (.int .i64), .dat (.int .i64)])]⟩⟩ .no) (.two .no (.two (.join ⟨[2, 3, 4, 5, 8, 34], ⟨[.c (.dat (.int .i64)), .c (.dat (.int .i64)), .c (.ptr 500 0), .c (.ptr 501 0), .c (.ptr 502 0), .c (.dat .bool)], [(500, .cells 23 [.dat (.int .i64), .dat (.int .i64), .dat (.int .i64)]), (501, .cells 25 [.dat (.int .i64), .dat (.int .i64)]), (502, .cells 23 [.dat (.int .i64), .dat (.int .i64), .dat (.int .i64)])]⟩⟩ .no) (.two .no (.two (.join ⟨[2, 3, 4, 5, 8, 43], ⟨[.c (.dat (.int .i64)), .c (.dat (.int .i64)), .c (.ptr 500 0), .c (.ptr 501 0), .c (.ptr 502 0), .c (.dat .bool)], [(500, .cells 23 [.dat (.int .i64), .dat (.int .i64), .dat (.int .i64)]), (501, .cells 25 [.dat (.int .i64), .dat (.int .i64)]), (502, .cells 23 [.dat (.int .i64), .dat (.int .i64), .dat (.int .i64)])]⟩⟩ .no) (.two .no (.two (.join ⟨[2, 3, 4, 5, 8, 57], ⟨[.c (.dat (.int .i64)), .c (.dat (.int .i64)), .c (.ptr 500 0), .c (.ptr 501 0), .c (.ptr 502 0), .c (.dat .bool)], [(500, .cells 23 [.dat (.int .i64), .dat (.int .i64), .dat (.int .i64)]), (501, .cells 25 [.dat (.int .i64), .dat (.int .i64)]), (502, .cells 23 [.dat (.int .i64), .dat (.int .i64), .dat (.int .i64)])]⟩⟩ .no) .no)))))))) .no))))
/-- what turnstile/turnstileref23.Say comes to. -/
def rSay (n : Nat) (x : Int × Int × Int × Int × Int × Int × Int) : Option (Int × Int × Int × Int) :=
  match x with
  | (x1, (x2, (x3, (x4, (x5, (x6, x7)))))) =>
  (Option.bind (rCheck n (x1, (x2, (x3, (x4, (x5, x6)))))) fun r8 =>
  (if (r8 != (0 : Int)) = true then
  some ((0 : Int), ((0 : Int), ((0 : Int), r8)))
  else
  (Option.bind (α := Out (Int × Int × Bool × Int × Int × Int × Int × Int × Int × Int × Int) (Int × Int × Int × Int)) ((if (x7 == (0 : Int)) = true then
  (if (x1 == (1 : Int)) = true then
  (some (Out.go (x6, (x7, ((decide (x6 ≥ x3)), (x1, (x2, (x3, (x4, (x5, ((0 : Int), ((0 : Int), (0 : Int)))))))))))))
  else
  (some (Out.go (x6, (x7, (false, (x1, (x2, (x3, (x4, (x5, ((0 : Int), ((0 : Int), (0 : Int))))))))))))))
  else
  (some (Out.go (x6, (x7, (false, (x1, (x2, (x3, (x4, (x5, ((0 : Int), ((0 : Int), (0 : Int))))))))))))))) fun o => match o with
  | .go (z10, (z11, (z12, (z13, (z14, (z15, (z16, (z17, (z18, (z19, z20)))))))))) =>
  (if z12 = true then
  some ((2 : Int), ((0 : Int), ((0 : Int), (0 : Int))))
  else
  (Option.bind (α := Out (Int × Int × Bool × Int × Int × Int × Int × Int × Int × Int × Int) (Int × Int × Int × Int)) ((if (z11 == (1 : Int)) = true then
  (some (Out.go (z10, (z11, ((z13 != (1 : Int)), (z13, (z14, (z15, (z16, (z17, (z18, (z19, z20))))))))))))
  else
  (some (Out.go (z10, (z11, (false, (z13, (z14, (z15, (z16, (z17, (z18, (z19, z20)))))))))))))) fun o => match o with
  | .go (z22, (z23, (z24, (z25, (z26, (z27, (z28, (z29, (z30, (z31, z32)))))))))) =>
  (if z24 = true then
  some ((0 : Int), ((0 : Int), ((0 : Int), (0 : Int))))
  else
  (Option.bind (α := Out (Int × Int × Bool × Int × Int × Int × Int × Int × Int × Int × Int) (Int × Int × Int × Int)) ((if (z23 == (2 : Int)) = true then
  (some (Out.go (z22, (z23, ((z25 == (2 : Int)), (z25, (z26, (z27, (z28, (z29, (z30, (z31, z32))))))))))))
  else
  (some (Out.go (z22, (z23, (false, (z25, (z26, (z27, (z28, (z29, (z30, (z31, z32)))))))))))))) fun o => match o with
  | .go (z34, (z35, (z36, (z37, (z38, (z39, (z40, (z41, (z42, (z43, z44)))))))))) =>
  (if z36 = true then
  (let u45 : Int := (if (1 : Int) > (IntKind.wrap .i64 (z34 + z41)) then (1 : Int) else (IntKind.wrap .i64 (z34 + z41)))
  some ((1 : Int), ((0 : Int), (u45, (0 : Int)))))
  else
  (Option.bind (α := Out (Int × Int × Bool × Int × Int × Int × Int × Int × Int × Int × Int) (Int × Int × Int × Int)) ((if (z35 == (2 : Int)) = true then
  (if (z37 == (0 : Int)) = true then
  (if (decide (z40 > (0 : Int))) = true then
  (let u46 : Int := (IntKind.wrap .i64 (z38 + (1 : Int)))
  (some (Out.go (z34, (z35, ((u46 == z40), (z37, (z38, (z39, (z40, (z41, (z42, (z43, z44)))))))))))))
  else
  (some (Out.go (z34, (z35, (false, (z37, (z38, (z39, (z40, (z41, (z42, (z43, z44)))))))))))))
  else
  (some (Out.go (z34, (z35, (false, (z37, (z38, (z39, (z40, (z41, (z42, (z43, z44)))))))))))))
  else
  (some (Out.go (z34, (z35, (false, (z37, (z38, (z39, (z40, (z41, (z42, (z43, z44)))))))))))))) fun o => match o with
  | .go (z48, (z49, (z50, (z51, (z52, (z53, (z54, (z55, (z56, (z57, z58)))))))))) =>
  (if z50 = true then
  some ((1 : Int), ((0 : Int), ((IntKind.wrap .i64 (z48 + z55)), (0 : Int))))
  else
  (if (z49 == (2 : Int)) = true then
  (if (z51 == (0 : Int)) = true then
  (if (decide (z54 > (0 : Int))) = true then
  (let u59 : Int := (IntKind.wrap .i64 (z52 + (1 : Int)))
  some ((0 : Int), (u59, ((0 : Int), (0 : Int)))))
  else
  (if (z49 == (3 : Int)) = true then
  (if (z51 == (2 : Int)) = true then
  (let u60 : Int := (if (1 : Int) > z48 then (1 : Int) else z48)
  some ((1 : Int), ((0 : Int), (u60, (0 : Int)))))
  else
  some (z51, (z52, (z53, (0 : Int)))))
  else
  some (z51, (z52, (z53, (0 : Int))))))
  else
  (if (z49 == (3 : Int)) = true then
  (if (z51 == (2 : Int)) = true then
  (let u61 : Int := (if (1 : Int) > z48 then (1 : Int) else z48)
  some ((1 : Int), ((0 : Int), (u61, (0 : Int)))))
  else
  some (z51, (z52, (z53, (0 : Int)))))
  else
  some (z51, (z52, (z53, (0 : Int))))))
  else
  (if (z49 == (3 : Int)) = true then
  (if (z51 == (2 : Int)) = true then
  (let u62 : Int := (if (1 : Int) > z48 then (1 : Int) else z48)
  some ((1 : Int), ((0 : Int), (u62, (0 : Int)))))
  else
  some (z51, (z52, (z53, (0 : Int)))))
  else
  some (z51, (z52, (z53, (0 : Int)))))))
  | .ret r63 => some r63))
  | .ret r64 => some r64))
  | .ret r65 => some r65))
  | .ret r66 => some r66)))
def sp_rSay (n : Nat) : Spec := ⟨pre_rSay, post_rSay, rSay n⟩
def env_rSay (n : Nat) : List (FuncId × Spec) := [(15, sp_rCheck n)]
theorem run_rSay (n : Nat) (x : pre_rSay.T) : fnRun Tryd.prog 46 (envOf (env_rSay n)) n Tryd.f12 ann_rSay pre_rSay post_rSay x = rSay n x := by kernel_rfl
theorem ok_rSay (n : Nat) : FnOK Tryd.prog 46 LD 12 (sp_rSay n) :=
  fn_run mixed Tryd.func12 (sp_rSay n) n ann_rSay (env_rSay n) (envOf_cons (ok_rCheck n) envOf_nil) (run_rSay n) (by kernel_rfl)
def pre_sure : Shape := ⟨[], []⟩
def post_sure : List Shape := [⟨[.c (.dat .bool)], []⟩]
def ann_sure : Ann := .no
/-- what turnstile/turnstilelaw23.sure comes to. -/
def sure (n : Nat) (x : Unit) : Option (Bool) :=
  (Option.bind (bad n ((0 : Int), ((0 : Int), ((0 : Int), ((1 : Int), ((5 : Int), (2 : Int))))))) fun r1 =>
  (Option.bind (ready n (r1.1, (r1.2.1, (r1.2.2.1, ((1 : Int), ((5 : Int), (7 : Int))))))) fun r2 =>
  (if ((r1.1 == (1 : Int)) && ((r1.2.1 == (0 : Int)) && ((r1.2.2.1 == (7 : Int)) && true))) = true then
  (if (r1.2.2.2 == (0 : Int)) = true then
  (if r2.1 = true then
  some (r2.2 == (0 : Int))
  else
  some false)
  else
  some false)
  else
  some false)))
def sp_sure (n : Nat) : Spec := ⟨pre_sure, post_sure, sure n⟩
def env_sure (n : Nat) : List (FuncId × Spec) := [(21, sp_bad n), (4, sp_ready n)]
theorem run_sure (n : Nat) (x : pre_sure.T) : fnRun Tryd.prog 46 (envOf (env_sure n)) n Tryd.f13 ann_sure pre_sure post_sure x = sure n x := by kernel_rfl
theorem ok_sure (n : Nat) : FnOK Tryd.prog 46 LD 13 (sp_sure n) :=
  fn_run mixed Tryd.func13 (sp_sure n) n ann_sure (env_sure n) (envOf_cons (ok_bad n) (envOf_cons (ok_ready n) envOf_nil)) (run_sure n) (by kernel_rfl)
def pre_breakerSays : Shape := ⟨[.a [.dat (.int .i64), .dat (.int .i64), .dat (.int .i64)], .a [.dat (.int .i64), .dat (.int .i64)], .c (.dat (.int .i64))], []⟩
def post_breakerSays : List Shape := [⟨[.c (.dat .bool)], []⟩]
def ann_breakerSays : Ann := (.two .no (.two .no (.two .no (.two .no (.two .no (.two (.two .no (.one (.loop ⟨[2, 3, 4, 7, 12], ⟨[.c (.dat (.int .i64)), .c (.ptr 500 0), .c (.ptr 501 0), .c (.ptr 502 0), .c (.dat (.int .i64))], [(500, .cells 23 [.dat (.int .i64), .dat (.int .i64), .dat (.int .i64)]), (501, .cells 25 [.dat (.int .i64), .dat (.int .i64)]), (502, .cells 26 [.dat (.int .i64), .dat (.int .i64), .dat (.int .i64)])]⟩⟩ .no))) .no))))))
/-- what turnstile/turnstilelaw23.BreakerSays comes to. -/
def breakerSays (n : Nat) (x : Int × Int × Int × Int × Int × Int) : Option (Bool) :=
  match x with
  | (x1, (x2, (x3, (x4, (x5, x6))))) =>
  (Option.bind (ready n (x1, (x2, (x3, (x4, (x5, x6)))))) fun r7 =>
  (Option.bind (rReady n (x1, (x2, (x3, (x4, (x5, x6)))))) fun r8 =>
  (if (!(r7.1 == r8.1)) = true then
  some false
  else
  (Option.bind (num n r7.2) fun r9 =>
  (if (r9 != r8.2) = true then
  some false
  else
  (Option.bind (valid n (x4, x5)) fun r10 =>
  (Option.bind (num n r10) fun r11 =>
  (Option.bind (rValid n (x4, x5)) fun r12 =>
  (if (r11 != r12) = true then
  some false
  else
  (Option.bind (text n (x1, (x2, x3))) fun r13 =>
  (Option.bind (rText n (x1, (x2, x3))) fun r14 =>
  (if (!(r13 == r14)) = true then
  some false
  else
  (loopF (X := Int × Int × Int × Int × Int × Int × Int × Int × Int × Int) (A := Bool) (fun rec15 y16 => match y16 with
  | (a17, (a18, (a19, (a20, (a21, (a22, (a23, (a24, (a25, a26))))))))) =>
  (if (decide (a18 < (4 : Int))) = true then
  (Option.bind (say n (a24, (a25, (a26, (a22, (a23, (a17, a18))))))) fun r27 =>
  (Option.bind (rSay n (a19, (a20, (a21, (a22, (a23, (a17, a18))))))) fun r28 =>
  (if (!((r27.1 == r28.1) && ((r27.2.1 == r28.2.1) && ((r27.2.2.1 == r28.2.2.1) && true)))) = true then
  some false
  else
  (Option.bind (num n r27.2.2.2) fun r29 =>
  (if (r29 != r28.2.2.2) = true then
  some false
  else
  (let u30 : Int := (IntKind.wrap .i64 (a18 + (1 : Int)))
  rec15 (a17, (u30, (a19, (a20, (a21, (a22, (a23, (a24, (a25, a26)))))))))))))))
  else
  (Option.bind (sure n ()) fun r31 =>
  some r31))) n (x6, ((0 : Int), (x1, (x2, (x3, (x4, (x5, (x1, (x2, x3))))))))))))))))))))))
def sp_breakerSays (n : Nat) : Spec := ⟨pre_breakerSays, post_breakerSays, breakerSays n⟩
def env_breakerSays (n : Nat) : List (FuncId × Spec) := [(4, sp_ready n), (5, sp_rReady n), (6, sp_num n), (7, sp_valid n), (8, sp_rValid n), (9, sp_text n), (10, sp_rText n), (11, sp_say n), (12, sp_rSay n), (13, sp_sure n)]
theorem run_breakerSays (n : Nat) (x : pre_breakerSays.T) : fnRun Tryd.prog 46 (envOf (env_breakerSays n)) n Tryd.f3 ann_breakerSays pre_breakerSays post_breakerSays x = breakerSays n x := by kernel_rfl
theorem ok_breakerSays (n : Nat) : FnOK Tryd.prog 46 LD 3 (sp_breakerSays n) :=
  fn_run mixed Tryd.func3 (sp_breakerSays n) n ann_breakerSays (env_breakerSays n) (envOf_cons (ok_ready n) (envOf_cons (ok_rReady n) (envOf_cons (ok_num n) (envOf_cons (ok_valid n) (envOf_cons (ok_rValid n) (envOf_cons (ok_text n) (envOf_cons (ok_rText n) (envOf_cons (ok_say n) (envOf_cons (ok_rSay n) (envOf_cons (ok_sure n) envOf_nil)))))))))) (run_breakerSays n) (by kernel_rfl)
end Go.Sx.YtkmmpcggdpkjdaaDoor
