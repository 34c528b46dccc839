/- Part of a proof by a small interpreter on plain values; no condition. -/
import Derived.Test.YtkmmpcggdpkjdaaSx19
import Derived.Test.YtkmmpcggdpkjdaaProg
/-! written by program: the functions as plain ones, and their contracts. -/
namespace Go.Sx.Ytkmmpcggdpkjdaa
open Go Go.Sx Go.Proofs
set_option autoImplicit false
set_option maxRecDepth 100000
set_option linter.unusedVariables false
theorem mixed : Try.prog.follows .mixedOrders = true := by kernel_rfl
def pre_valid : Shape := ⟨[.a [.dat (.int .i64), .dat (.int .i64)]], []⟩
def post_valid : List Shape := [⟨[.c (.dat .err)], []⟩]
def ann_valid : Ann := .no
/-- what turnstile/breaker.Valid comes to. -/
def valid (n : Nat) (x : Int × Int) : Option (Int) :=
  match x with
  | (x1, x2) =>
  (if (decide (x1 < (0 : Int))) = true then
  some (4 : Int)
  else
  (if (decide (x1 > (1000 : Int))) = true then
  some (4 : Int)
  else
  (if (x1 == (0 : Int)) = true then
  (if (x2 != (0 : Int)) = true then
  some (4 : Int)
  else
  (if (decide (x1 > (0 : Int))) = true then
  (if (decide (x2 < (1 : Int))) = true then
  some (4 : Int)
  else
  (if (decide (x2 > (1048576 : Int))) = true then
  some (4 : Int)
  else
  some (0 : Int)))
  else
  some (0 : Int)))
  else
  (if (decide (x1 > (0 : Int))) = true then
  (if (decide (x2 < (1 : Int))) = true then
  some (4 : Int)
  else
  (if (decide (x2 > (1048576 : Int))) = true then
  some (4 : Int)
  else
  some (0 : Int)))
  else
  some (0 : Int)))))
def sp_valid (n : Nat) : Spec := ⟨pre_valid, post_valid, valid n⟩
def env_valid (n : Nat) : List (FuncId × Spec) := []
theorem run_valid (n : Nat) (x : pre_valid.T) : fnRun Try.prog 41 (envOf (env_valid n)) n Try.f12 ann_valid pre_valid post_valid x = valid n x := by kernel_rfl
theorem ok_valid (n : Nat) : FnOK Try.prog 41 L0 12 (sp_valid n) :=
  fn_run mixed Try.func12 (sp_valid n) n ann_valid (env_valid n) envOf_nil (run_valid n) (by kernel_rfl)
def pre_opened : Shape := ⟨[.c (.dat (.int .i64))], []⟩
def post_opened : List Shape := [⟨[.a [.dat (.int .i64), .dat (.int .i64), .dat (.int .i64)]], []⟩]
def ann_opened : Ann := .no
/-- what turnstile/breaker.opened comes to. -/
def opened (n : Nat) (x : Int) : Option (Int × Int × Int) :=
  (let u2 : Int := (if (1 : Int) > x then (1 : Int) else x)
  some ((1 : Int), ((0 : Int), u2)))
def sp_opened (n : Nat) : Spec := ⟨pre_opened, post_opened, opened n⟩
def env_opened (n : Nat) : List (FuncId × Spec) := []
theorem run_opened (n : Nat) (x : pre_opened.T) : fnRun Try.prog 41 (envOf (env_opened n)) n Try.f13 ann_opened pre_opened post_opened x = opened n x := by kernel_rfl
theorem ok_opened (n : Nat) : FnOK Try.prog 41 L0 13 (sp_opened n) :=
  fn_run mixed Try.func13 (sp_opened n) n ann_opened (env_opened n) envOf_nil (run_opened n) (by kernel_rfl)
def pre_checked : Shape := ⟨[.a [.dat (.int .i64), .dat (.int .i64), .dat (.int .i64)], .a [.dat (.int .i64), .dat (.int .i64)], .c (.dat (.int .i64))], []⟩
def post_checked : List Shape := [⟨[.c (.dat .err)], []⟩]
def ann_checked : Ann := .no
/-- what turnstile/breaker.checked comes to. -/
def checked (n : Nat) (x : Int × Int × Int × Int × Int × Int) : Option (Int) :=
  match x with
  | (x1, (x2, (x3, (x4, (x5, x6))))) =>
  (Option.bind (valid n (x4, x5)) fun r7 =>
  (if (!(r7 == (0 : Int))) = true then
  some r7
  else
  (if (decide (x6 ≥ (0 : Int))) = true then
  (if (x1 == (0 : Int)) = true then
  (if (decide (x6 ≤ (1099511627776 : Int))) = true then
  (if (x3 == (0 : Int)) = true then
  (if (decide (x2 ≥ (0 : Int))) = true then
  (if (decide (x2 < x4)) = true then
  some (0 : Int)
  else
  (if (!(x2 == (0 : Int))) = true then
  some (1 : Int)
  else
  some (0 : Int)))
  else
  some (1 : Int))
  else
  some (1 : Int))
  else
  some (1 : Int))
  else
  (if (x1 == (1 : Int)) = true then
  (if (decide (x6 ≤ (1099511627776 : Int))) = true then
  (if (x2 == (0 : Int)) = true then
  (if (decide (x3 ≥ (1 : Int))) = true then
  (if (!(decide (x3 ≤ (2199023255552 : Int)))) = true then
  some (1 : Int)
  else
  some (0 : Int))
  else
  some (1 : Int))
  else
  some (1 : Int))
  else
  some (1 : Int))
  else
  (if (x1 == (2 : Int)) = true then
  (if (decide (x6 ≤ (1099511627776 : Int))) = true then
  (if (x2 == (0 : Int)) = true then
  (if (!(x3 == (0 : Int))) = true then
  some (1 : Int)
  else
  some (0 : Int))
  else
  some (1 : Int))
  else
  some (1 : Int))
  else
  some (1 : Int))))
  else
  (if (x1 == (0 : Int)) = true then
  some (1 : Int)
  else
  (if (x1 == (1 : Int)) = true then
  some (1 : Int)
  else
  (if (x1 == (2 : Int)) = true then
  some (1 : Int)
  else
  some (1 : Int)))))))
def sp_checked (n : Nat) : Spec := ⟨pre_checked, post_checked, checked n⟩
def env_checked (n : Nat) : List (FuncId × Spec) := [(12, sp_valid n)]
theorem run_checked (n : Nat) (x : pre_checked.T) : fnRun Try.prog 41 (envOf (env_checked n)) n Try.f7 ann_checked pre_checked post_checked x = checked n x := by kernel_rfl
theorem ok_checked (n : Nat) : FnOK Try.prog 41 L0 7 (sp_checked n) :=
  fn_run mixed Try.func7 (sp_checked n) n ann_checked (env_checked n) (envOf_cons (ok_valid n) envOf_nil) (run_checked n) (by kernel_rfl)
def pre_begin : Shape := ⟨[.a [.dat (.int .i64), .dat (.int .i64), .dat (.int .i64)], .a [.dat (.int .i64), .dat (.int .i64)], .c (.dat (.int .i64))], []⟩
def post_begin : List Shape := [⟨[.a [.dat (.int .i64), .dat (.int .i64), .dat (.int .i64)], .c (.dat .err)], []⟩]
def ann_begin : Ann := .no
/-- what turnstile/breaker.Begin comes to. -/
def begin (n : Nat) (x : Int × Int × Int × Int × Int × Int) : Option (Int × Int × Int × Int) :=
  match x with
  | (x1, (x2, (x3, (x4, (x5, x6))))) =>
  (Option.bind (checked n (x1, (x2, (x3, (x4, (x5, x6)))))) fun r7 =>
  (if (!(r7 == (0 : Int))) = true then
  some ((0 : Int), ((0 : Int), ((0 : Int), r7)))
  else
  (if (x1 == (1 : Int)) = true then
  (if (decide (x6 ≥ x3)) = true then
  some ((2 : Int), ((0 : Int), ((0 : Int), (0 : Int))))
  else
  some (x1, (x2, (x3, (0 : Int)))))
  else
  some (x1, (x2, (x3, (0 : Int)))))))
def sp_begin (n : Nat) : Spec := ⟨pre_begin, post_begin, begin n⟩
def env_begin (n : Nat) : List (FuncId × Spec) := [(7, sp_checked n)]
theorem run_begin (n : Nat) (x : pre_begin.T) : fnRun Try.prog 41 (envOf (env_begin n)) n Try.f8 ann_begin pre_begin post_begin x = begin n x := by kernel_rfl
theorem ok_begin (n : Nat) : FnOK Try.prog 41 L0 8 (sp_begin n) :=
  fn_run mixed Try.func8 (sp_begin n) n ann_begin (env_begin n) (envOf_cons (ok_checked n) envOf_nil) (run_begin n) (by kernel_rfl)
def pre_good : Shape := ⟨[.a [.dat (.int .i64), .dat (.int .i64), .dat (.int .i64)], .a [.dat (.int .i64), .dat (.int .i64)], .c (.dat (.int .i64))], []⟩
def post_good : List Shape := [⟨[.a [.dat (.int .i64), .dat (.int .i64), .dat (.int .i64)], .c (.dat .err)], []⟩]
def ann_good : Ann := .no
/-- what turnstile/breaker.Good comes to. -/
def good (n : Nat) (x : Int × Int × Int × Int × Int × Int) : Option (Int × Int × Int × Int) :=
  match x with
  | (x1, (x2, (x3, (x4, (x5, x6))))) =>
  (Option.bind (checked n (x1, (x2, (x3, (x4, (x5, x6)))))) fun r7 =>
  (if (!(r7 == (0 : Int))) = true then
  some ((0 : Int), ((0 : Int), ((0 : Int), r7)))
  else
  (if (x1 == (1 : Int)) = true then
  some (x1, (x2, (x3, (0 : Int))))
  else
  some ((0 : Int), ((0 : Int), ((0 : Int), (0 : Int)))))))
def sp_good (n : Nat) : Spec := ⟨pre_good, post_good, good n⟩
def env_good (n : Nat) : List (FuncId × Spec) := [(7, sp_checked n)]
theorem run_good (n : Nat) (x : pre_good.T) : fnRun Try.prog 41 (envOf (env_good n)) n Try.f9 ann_good pre_good post_good x = good n x := by kernel_rfl
theorem ok_good (n : Nat) : FnOK Try.prog 41 L0 9 (sp_good n) :=
  fn_run mixed Try.func9 (sp_good n) n ann_good (env_good n) (envOf_cons (ok_checked n) envOf_nil) (run_good n) (by kernel_rfl)
def pre_bad : Shape := ⟨[.a [.dat (.int .i64), .dat (.int .i64), .dat (.int .i64)], .a [.dat (.int .i64), .dat (.int .i64)], .c (.dat (.int .i64))], []⟩
def post_bad : List Shape := [⟨[.a [.dat (.int .i64), .dat (.int .i64), .dat (.int .i64)], .c (.dat .err)], []⟩]
def ann_bad : Ann := (.two .no (.two .no (.two (.one (.two (.join ⟨[2, 3, 4, 6, 17], ⟨[.c (.dat (.int .i64)), .c (.ptr 500 0), .c (.ptr 501 0), .c (.ptr 502 0), .c (.dat .bool)], [(500, .cells 27 [.dat (.int .i64), .dat (.int .i64), .dat (.int .i64)]), (501, .cells 23 [.dat (.int .i64), .dat (.int .i64)]), (502, .cells 27 [.dat (.int .i64), .dat (.int .i64), .dat (.int .i64)])]⟩⟩ .no) .no)) .no)))
/-- what turnstile/breaker.Bad comes to. -/
def bad (n : Nat) (x : Int × Int × Int × Int × Int × Int) : Option (Int × Int × Int × Int) :=
  match x with
  | (x1, (x2, (x3, (x4, (x5, x6))))) =>
  (Option.bind (checked n (x1, (x2, (x3, (x4, (x5, x6)))))) fun r7 =>
  (if (!(r7 == (0 : Int))) = true then
  some ((0 : Int), ((0 : Int), ((0 : Int), r7)))
  else
  (Option.bind (α := Out (Int × Bool × Int × Int × Int × Int × Int × Int × Int × Int) (Int × Int × Int × Int)) ((if (x1 == (1 : Int)) = true then
  (some (Out.go (x6, ((x1 == (1 : Int)), (x1, (x2, (x3, (x4, (x5, ((0 : Int), ((0 : Int), (0 : Int))))))))))))
  else
  (if (x1 == (0 : Int)) = true then
  (some (Out.go (x6, ((x4 == (0 : Int)), (x1, (x2, (x3, (x4, (x5, ((0 : Int), ((0 : Int), (0 : Int))))))))))))
  else
  (some (Out.go (x6, (false, (x1, (x2, (x3, (x4, (x5, ((0 : Int), ((0 : Int), (0 : Int))))))))))))))) fun o => match o with
  | .go (z9, (z10, (z11, (z12, (z13, (z14, (z15, (z16, (z17, z18))))))))) =>
  (if z10 = true then
  some (z11, (z12, (z13, (0 : Int))))
  else
  (if (z11 == (0 : Int)) = true then
  (let u19 : Int := (IntKind.wrap .i64 (z12 + (1 : Int)))
  (if (decide (u19 < z14)) = true then
  (let u20 : Int := (IntKind.wrap .i64 (z12 + (1 : Int)))
  some (z11, (u20, (z13, (0 : Int)))))
  else
  (Option.bind (opened n (IntKind.wrap .i64 (z9 + z15))) fun r21 =>
  some (r21.1, (r21.2.1, (r21.2.2, (0 : Int)))))))
  else
  (Option.bind (opened n (IntKind.wrap .i64 (z9 + z15))) fun r22 =>
  some (r22.1, (r22.2.1, (r22.2.2, (0 : Int)))))))
  | .ret r23 => some r23)))
def sp_bad (n : Nat) : Spec := ⟨pre_bad, post_bad, bad n⟩
def env_bad (n : Nat) : List (FuncId × Spec) := [(7, sp_checked n), (13, sp_opened n)]
theorem run_bad (n : Nat) (x : pre_bad.T) : fnRun Try.prog 41 (envOf (env_bad n)) n Try.f10 ann_bad pre_bad post_bad x = bad n x := by kernel_rfl
theorem ok_bad (n : Nat) : FnOK Try.prog 41 L0 10 (sp_bad n) :=
  fn_run mixed Try.func10 (sp_bad n) n ann_bad (env_bad n) (envOf_cons (ok_checked n) (envOf_cons (ok_opened n) envOf_nil)) (run_bad n) (by kernel_rfl)
def pre_drop : Shape := ⟨[.a [.dat (.int .i64), .dat (.int .i64), .dat (.int .i64)], .a [.dat (.int .i64), .dat (.int .i64)], .c (.dat (.int .i64))], []⟩
def post_drop : List Shape := [⟨[.a [.dat (.int .i64), .dat (.int .i64), .dat (.int .i64)], .c (.dat .err)], []⟩]
def ann_drop : Ann := .no
/-- what turnstile/breaker.Drop comes to. -/
def drop (n : Nat) (x : Int × Int × Int × Int × Int × Int) : Option (Int × Int × Int × Int) :=
  match x with
  | (x1, (x2, (x3, (x4, (x5, x6))))) =>
  (Option.bind (checked n (x1, (x2, (x3, (x4, (x5, x6)))))) fun r7 =>
  (if (!(r7 == (0 : Int))) = true then
  some ((0 : Int), ((0 : Int), ((0 : Int), r7)))
  else
  (if (x1 == (2 : Int)) = true then
  (Option.bind (opened n x6) fun r8 =>
  some (r8.1, (r8.2.1, (r8.2.2, (0 : Int)))))
  else
  some (x1, (x2, (x3, (0 : Int)))))))
def sp_drop (n : Nat) : Spec := ⟨pre_drop, post_drop, drop n⟩
def env_drop (n : Nat) : List (FuncId × Spec) := [(7, sp_checked n), (13, sp_opened n)]
theorem run_drop (n : Nat) (x : pre_drop.T) : fnRun Try.prog 41 (envOf (env_drop n)) n Try.f11 ann_drop pre_drop post_drop x = drop n x := by kernel_rfl
theorem ok_drop (n : Nat) : FnOK Try.prog 41 L0 11 (sp_drop n) :=
  fn_run mixed Try.func11 (sp_drop n) n ann_drop (env_drop n) (envOf_cons (ok_checked n) (envOf_cons (ok_opened n) envOf_nil)) (run_drop n) (by kernel_rfl)
def pre_ready : Shape := ⟨[.a [.dat (.int .i64), .dat (.int .i64), .dat (.int .i64)], .a [.dat (.int .i64), .dat (.int .i64)], .c (.dat (.int .i64))], []⟩
def post_ready : List Shape := [⟨[.c (.dat .bool), .c (.dat .err)], []⟩]
def ann_ready : Ann := .no
/-- what turnstile/breaker.Ready comes to. -/
def ready (n : Nat) (x : Int × Int × Int × Int × Int × Int) : Option (Bool × Int) :=
  match x with
  | (x1, (x2, (x3, (x4, (x5, x6))))) =>
  (Option.bind (checked n (x1, (x2, (x3, (x4, (x5, x6)))))) fun r7 =>
  (if (!(r7 == (0 : Int))) = true then
  some (false, r7)
  else
  (if (x1 == (0 : Int)) = true then
  some (true, (0 : Int))
  else
  (if (x1 == (1 : Int)) = true then
  some ((decide (x6 ≥ x3)), (0 : Int))
  else
  some (false, (0 : Int))))))
def sp_ready (n : Nat) : Spec := ⟨pre_ready, post_ready, ready n⟩
def env_ready (n : Nat) : List (FuncId × Spec) := [(7, sp_checked n)]
theorem run_ready (n : Nat) (x : pre_ready.T) : fnRun Try.prog 41 (envOf (env_ready n)) n Try.f4 ann_ready pre_ready post_ready x = ready n x := by kernel_rfl
theorem ok_ready (n : Nat) : FnOK Try.prog 41 L0 4 (sp_ready n) :=
  fn_run mixed Try.func4 (sp_ready n) n ann_ready (env_ready n) (envOf_cons (ok_checked n) envOf_nil) (run_ready n) (by kernel_rfl)
def pre_say : Shape := ⟨[.a [.dat (.int .i64), .dat (.int .i64), .dat (.int .i64)], .a [.dat (.int .i64), .dat (.int .i64)], .c (.dat (.int .i64)), .c (.dat (.int .i64))], []⟩
def post_say : List Shape := [⟨[.a [.dat (.int .i64), .dat (.int .i64), .dat (.int .i64)], .c (.dat .err)], []⟩]
def ann_say : Ann := .no
/-- what turnstile/turnstilelaw23.say comes to. -/
def say (n : Nat) (x : Int × Int × Int × Int × Int × Int × Int) : Option (Int × Int × Int × Int) :=
  match x with
  | (x1, (x2, (x3, (x4, (x5, (x6, x7)))))) =>
  (if (x7 == (0 : Int)) = true then
  (Option.bind (begin n (x1, (x2, (x3, (x4, (x5, x6)))))) fun r8 =>
  some (r8.1, (r8.2.1, (r8.2.2.1, r8.2.2.2))))
  else
  (if (x7 == (1 : Int)) = true then
  (Option.bind (good n (x1, (x2, (x3, (x4, (x5, x6)))))) fun r9 =>
  some (r9.1, (r9.2.1, (r9.2.2.1, r9.2.2.2))))
  else
  (if (x7 == (2 : Int)) = true then
  (Option.bind (bad n (x1, (x2, (x3, (x4, (x5, x6)))))) fun r10 =>
  some (r10.1, (r10.2.1, (r10.2.2.1, r10.2.2.2))))
  else
  (Option.bind (drop n (x1, (x2, (x3, (x4, (x5, x6)))))) fun r11 =>
  some (r11.1, (r11.2.1, (r11.2.2.1, r11.2.2.2)))))))
def sp_say (n : Nat) : Spec := ⟨pre_say, post_say, say n⟩
def env_say (n : Nat) : List (FuncId × Spec) := [(8, sp_begin n), (9, sp_good n), (10, sp_bad n), (11, sp_drop n)]
theorem run_say (n : Nat) (x : pre_say.T) : fnRun Try.prog 41 (envOf (env_say n)) n Try.f5 ann_say pre_say post_say x = say n x := by kernel_rfl
theorem ok_say (n : Nat) : FnOK Try.prog 41 L0 5 (sp_say n) :=
  fn_run mixed Try.func5 (sp_say n) n ann_say (env_say n) (envOf_cons (ok_begin n) (envOf_cons (ok_good n) (envOf_cons (ok_bad n) (envOf_cons (ok_drop n) envOf_nil)))) (run_say n) (by kernel_rfl)
def pre_sure : Shape := ⟨[], []⟩
def post_sure : List Shape := [⟨[.c (.dat .bool)], []⟩]
def ann_sure : Ann := .no
/-- what turnstile/turnstilelaw23.sure comes to. -/
def sure (n : Nat) (x : Unit) : Option (Bool) :=
  (Option.bind (bad n ((0 : Int), ((0 : Int), ((0 : Int), ((1 : Int), ((5 : Int), (2 : Int))))))) fun r1 =>
  (Option.bind (ready n (r1.1, (r1.2.1, (r1.2.2.1, ((1 : Int), ((5 : Int), (7 : Int))))))) fun r2 =>
  (if ((r1.1 == (1 : Int)) && ((r1.2.1 == (0 : Int)) && ((r1.2.2.1 == (7 : Int)) && true))) = true then
  (if (r1.2.2.2 == (0 : Int)) = true then
  (if r2.1 = true then
  some (r2.2 == (0 : Int))
  else
  some false)
  else
  some false)
  else
  some false)))
def sp_sure (n : Nat) : Spec := ⟨pre_sure, post_sure, sure n⟩
def env_sure (n : Nat) : List (FuncId × Spec) := [(10, sp_bad n), (4, sp_ready n)]
theorem run_sure (n : Nat) (x : pre_sure.T) : fnRun Try.prog 41 (envOf (env_sure n)) n Try.f6 ann_sure pre_sure post_sure x = sure n x := by kernel_rfl
theorem ok_sure (n : Nat) : FnOK Try.prog 41 L0 6 (sp_sure n) :=
  fn_run mixed Try.func6 (sp_sure n) n ann_sure (env_sure n) (envOf_cons (ok_bad n) (envOf_cons (ok_ready n) envOf_nil)) (run_sure n) (by kernel_rfl)
def pre_breakerRuns : Shape := ⟨[.a [.dat (.int .i64), .dat (.int .i64)], .c (.dat (.list (.pair (.int .i64) (.pair (.int .i64) .unit))))], []⟩
def post_breakerRuns : List Shape := [⟨[.c (.dat .bool)], []⟩]
def ann_breakerRuns : Ann := (.two .no (.two .no (.two .no (.two .no (.two .no (.two (.two .no (.one (.loop ⟨[1, 2, 5, 6, 7, 8, 9, 10], ⟨[.c (.dat (.list (.pair (.int .i64) (.pair (.int .i64) .unit)))), .c (.ptr 500 0), .c (.ptr 501 0), .c (.dat (.int .i64)), .c (.dat (.int .i64)), .c (.dat (.int .i64)), .c (.dat .str), .c (.dat (.int .i64))], [(500, .cells 23 [.dat (.int .i64), .dat (.int .i64)]), (501, .cells 27 [.dat (.int .i64), .dat (.int .i64), .dat (.int .i64)])]⟩⟩ (.two .no (.two (.join ⟨[1, 2, 5, 6, 7, 8, 9, 10], ⟨[.c (.dat (.list (.pair (.int .i64) (.pair (.int .i64) .unit)))), .c (.ptr 500 0), .c (.ptr 501 0), .c (.dat (.int .i64)), .c (.dat (.int .i64)), .c (.dat (.int .i64)), .c (.dat .str), .c (.dat (.int .i64))], [(500, .cells 23 [.dat (.int .i64), .dat (.int .i64)]), (501, .cells 27 [.dat (.int .i64), .dat (.int .i64), .dat (.int .i64)])]⟩⟩ (.one (.two .no (.two .no (.two (.join ⟨[1, 2, 5, 6, 7, 8, 9, 10, 11, 12, 13], ⟨[.c (.dat (.list (.pair (.int .i64) (.pair (.int .i64) .unit)))), .c (.ptr 500 0), .c (.ptr 501 0), .c (.dat (.int .i64)), .c (.dat (.int .i64)), .c (.dat (.int .i64)), .c (.dat .str), .c (.dat (.int .i64)), .c (.dat .bool), .c (.dat .err), .c (.dat .bool)], [(500, .cells 23 [.dat (.int .i64), .dat (.int .i64)]), (501, .cells 27 [.dat (.int .i64), .dat (.int .i64), .dat (.int .i64)])]⟩⟩ .no) (.two .no (.two .no (.two (.two (.join ⟨[1, 2, 5, 6, 7, 8, 9, 10, 14, 90], ⟨[.c (.dat (.list (.pair (.int .i64) (.pair (.int .i64) .unit)))), .c (.ptr 500 0), .c (.ptr 501 0), .c (.dat (.int .i64)), .c (.dat (.int .i64)), .c (.dat (.int .i64)), .c (.dat .str), .c (.dat (.int .i64)), .c (.dat (.int .i64)), .c (.dat .bool)], [(500, .cells 23 [.dat (.int .i64), .dat (.int .i64)]), (501, .cells 27 [.dat (.int .i64), .dat (.int .i64), .dat (.int .i64)])]⟩⟩ .no) .no) (.two .no (.two .no (.two .no (.one (.two (.join ⟨[1, 2, 5, 6, 7, 8, 9, 10, 14, 102], ⟨[.c (.dat (.list (.pair (.int .i64) (.pair (.int .i64) .unit)))), .c (.ptr 500 0), .c (.ptr 501 0), .c (.dat (.int .i64)), .c (.dat (.int .i64)), .c (.dat (.int .i64)), .c (.dat .str), .c (.dat (.int .i64)), .c (.dat (.int .i64)), .c (.dat .bool)], [(500, .cells 23 [.dat (.int .i64), .dat (.int .i64)]), (501, .cells 27 [.dat (.int .i64), .dat (.int .i64), .dat (.int .i64)])]⟩⟩ .no) (.two .no (.two (.join ⟨[1, 2, 5, 6, 7, 8, 9, 10, 14, 109], ⟨[.c (.dat (.list (.pair (.int .i64) (.pair (.int .i64) .unit)))), .c (.ptr 500 0), .c (.ptr 501 0), .c (.dat (.int .i64)), .c (.dat (.int .i64)), .c (.dat (.int .i64)), .c (.dat .str), .c (.dat (.int .i64)), .c (.dat (.int .i64)), .c (.dat .bool)], [(500, .cells 23 [.dat (.int .i64), .dat (.int .i64)]), (501, .cells 27 [.dat (.int .i64), .dat (.int .i64), .dat (.int .i64)])]⟩⟩ .no) (.two .no (.two (.join ⟨[1, 2, 5, 6, 7, 8, 9, 10, 14, 116], ⟨[.c (.dat (.list (.pair (.int .i64) (.pair (.int .i64) .unit)))), .c (.ptr 500 0), .c (.ptr 501 0), .c (.dat (.int .i64)), .c (.dat (.int .i64)), .c (.dat (.int .i64)), .c (.dat .str), .c (.dat (.int .i64)), .c (.dat (.int .i64)), .c (.dat .bool)], [(500, .cells 23 [.dat (.int .i64), .dat (.int .i64)]), (501, .cells 27 [.dat (.int .i64), .dat (.int .i64), .dat (.int .i64)])]⟩⟩ .no) .no))))))))))))))))) .no))))) .no))))))
/-- what turnstile/turnstilelaw23.BreakerRuns comes to. -/
def breakerRuns (n : Nat) (x : Int × Int × List (Int × (Int × Unit))) : Option (Bool) :=
  match x with
  | (x1, (x2, x3)) =>
  (let u4 : Int := (Int.tmod (IntKind.wrap .u64 x1) (4 : Int))
  (let u5 : Int := (IntKind.wrap .i64 ((1 : Int) + (IntKind.wrap .i64 u4)))
  (let u6 : Int := (Int.tmod (IntKind.wrap .u64 x2) (9 : Int))
  (let u7 : Int := (IntKind.wrap .i64 ((1 : Int) + (IntKind.wrap .i64 u6)))
  (loopF (X := (List (Int × (Int × Unit))) × Int × Int × Int × (List Int) × Int × Int × Int × Int × Int × Int) (A := Bool) (fun rec8 y9 => match y9 with
  | (a10, (a11, (a12, (a13, (a14, (a15, (a16, (a17, (a18, (a19, a20)))))))))) =>
  (if (decide (a15 < (a10.length : Int))) = true then
  (if (decide (a15 < (200 : Int))) = true then
  (Option.bind (α := Out ((List (Int × (Int × Unit))) × Int × Int × Int × (List Int) × Int × Int × Int × Int × Int × Int) (Bool)) ((Option.bind (idx a10 a15) fun v21 =>
  (let u22 : Int := (Int.tmod (IntKind.wrap .u64 v21.2.1) (4 : Int))
  (let u23 : Int := (IntKind.wrap .i64 (a11 + (IntKind.wrap .i64 u22)))
  (Option.bind (ready n (a18, (a19, (a20, (a16, (a17, u23)))))) fun r24 =>
  (Option.bind (α := Out ((List (Int × (Int × Unit))) × Int × Int × Int × (List Int) × Int × Bool × Int × Bool × Int × Int × Int × Int × Int) (Out ((List (Int × (Int × Unit))) × Int × Int × Int × (List Int) × Int × Int × Int × Int × Int × Int) (Bool))) ((if (a14 == ([(99 : Int), (108 : Int), (111 : Int), (115 : Int), (101 : Int), (100 : Int)] : List Int)) = true then
  (some (Out.go (a10, (u23, (a12, (a13, (a14, (a15, (r24.1, (r24.2, (true, (a16, (a17, (a18, (a19, a20)))))))))))))))
  else
  (if (a14 == ([(111 : Int), (112 : Int), (101 : Int), (110 : Int)] : List Int)) = true then
  (some (Out.go (a10, (u23, (a12, (a13, (a14, (a15, (r24.1, (r24.2, ((decide (u23 ≥ a13)), (a16, (a17, (a18, (a19, a20)))))))))))))))
  else
  (some (Out.go (a10, (u23, (a12, (a13, (a14, (a15, (r24.1, (r24.2, (false, (a16, (a17, (a18, (a19, a20)))))))))))))))))) fun o => match o with
  | .go (z26, (z27, (z28, (z29, (z30, (z31, (z32, (z33, (z34, (z35, (z36, (z37, (z38, z39))))))))))))) =>
  (if (!(z33 == (0 : Int))) = true then
  (Option.map Out.ret (some false))
  else
  (if (!(z32 == z34)) = true then
  (Option.map Out.ret (some false))
  else
  (Option.bind (idx z26 z31) fun v40 =>
  (let u41 : Int := (Int.tmod (IntKind.wrap .u64 v40.1) (3 : Int))
  (Option.bind (α := Out ((List (Int × (Int × Unit))) × Int × Int × Int × (List Int) × Int × Int × Bool × Int × Int × Int × Int × Int) (Out ((List (Int × (Int × Unit))) × Int × Int × Int × (List Int) × Int × Int × Int × Int × Int × Int) (Bool))) ((if ((IntKind.wrap .i64 u41) == (0 : Int)) = true then
  (some (Out.go (z26, (z27, (z28, (z29, (z30, (z31, ((IntKind.wrap .i64 u41), ((!z32), (z35, (z36, (z37, (z38, z39))))))))))))))
  else
  (some (Out.go (z26, (z27, (z28, (z29, (z30, (z31, ((IntKind.wrap .i64 u41), (false, (z35, (z36, (z37, (z38, z39)))))))))))))))) fun o => match o with
  | .go (z43, (z44, (z45, (z46, (z47, (z48, (z49, (z50, (z51, (z52, (z53, (z54, z55)))))))))))) =>
  (if z50 = true then
  (some (Out.go (z43, (z44, (z45, (z46, (z47, (z48, (z51, (z52, (z53, (z54, z55))))))))))))
  else
  (Option.bind (say n (z53, (z54, (z55, (z51, (z52, (z44, z49))))))) fun r56 =>
  (if (!(r56.2.2.2 == (0 : Int))) = true then
  (Option.map Out.ret (some false))
  else
  (Option.bind (α := Out ((List (Int × (Int × Unit))) × Int × Int × Int × (List Int) × Int × Int × Bool × Int × Int × Int × Int × Int) (Out ((List (Int × (Int × Unit))) × Int × Int × Int × (List Int) × Int × Int × Int × Int × Int × Int) (Bool))) ((if (z49 == (0 : Int)) = true then
  (some (Out.go (z43, (z44, (z45, (z46, (z47, (z48, (z49, ((z47 == ([(111 : Int), (112 : Int), (101 : Int), (110 : Int)] : List Int)), (z51, (z52, (r56.1, (r56.2.1, r56.2.2.1))))))))))))))
  else
  (some (Out.go (z43, (z44, (z45, (z46, (z47, (z48, (z49, (false, (z51, (z52, (r56.1, (r56.2.1, r56.2.2.1)))))))))))))))) fun o => match o with
  | .go (z58, (z59, (z60, (z61, (z62, (z63, (z64, (z65, (z66, (z67, (z68, (z69, z70)))))))))))) =>
  (if z65 = true then
  (some (Out.go (z58, (z59, (z60, (z61, (([(104 : Int), (97 : Int), (108 : Int), (102 : Int)] : List Int), (z63, (z66, (z67, (z68, (z69, z70))))))))))))
  else
  (Option.bind (α := Out ((List (Int × (Int × Unit))) × Int × Int × Int × (List Int) × Int × Int × Bool × Int × Int × Int × Int × Int) (Out ((List (Int × (Int × Unit))) × Int × Int × Int × (List Int) × Int × Int × Int × Int × Int × Int) (Bool))) ((if (z64 == (1 : Int)) = true then
  (some (Out.go (z58, (z59, (z60, (z61, (z62, (z63, (z64, ((!(z62 == ([(111 : Int), (112 : Int), (101 : Int), (110 : Int)] : List Int))), (z66, (z67, (z68, (z69, z70))))))))))))))
  else
  (some (Out.go (z58, (z59, (z60, (z61, (z62, (z63, (z64, (false, (z66, (z67, (z68, (z69, z70)))))))))))))))) fun o => match o with
  | .go (z72, (z73, (z74, (z75, (z76, (z77, (z78, (z79, (z80, (z81, (z82, (z83, z84)))))))))))) =>
  (if z79 = true then
  (some (Out.go (z72, (z73, ((0 : Int), (z75, (([(99 : Int), (108 : Int), (111 : Int), (115 : Int), (101 : Int), (100 : Int)] : List Int), (z77, (z80, (z81, (z82, (z83, z84))))))))))))
  else
  (Option.bind (α := Out ((List (Int × (Int × Unit))) × Int × Int × Int × (List Int) × Int × Int × Bool × Int × Int × Int × Int × Int) (Out ((List (Int × (Int × Unit))) × Int × Int × Int × (List Int) × Int × Int × Int × Int × Int × Int) (Bool))) ((if (z78 == (2 : Int)) = true then
  (some (Out.go (z72, (z73, (z74, (z75, (z76, (z77, (z78, ((z76 == ([(104 : Int), (97 : Int), (108 : Int), (102 : Int)] : List Int)), (z80, (z81, (z82, (z83, z84))))))))))))))
  else
  (some (Out.go (z72, (z73, (z74, (z75, (z76, (z77, (z78, (false, (z80, (z81, (z82, (z83, z84)))))))))))))))) fun o => match o with
  | .go (z86, (z87, (z88, (z89, (z90, (z91, (z92, (z93, (z94, (z95, (z96, (z97, z98)))))))))))) =>
  (if z93 = true then
  (some (Out.go (z86, (z87, (z88, ((IntKind.wrap .i64 (z87 + z95)), (([(111 : Int), (112 : Int), (101 : Int), (110 : Int)] : List Int), (z91, (z94, (z95, (z96, (z97, z98))))))))))))
  else
  (if (z92 == (2 : Int)) = true then
  (if (z90 == ([(99 : Int), (108 : Int), (111 : Int), (115 : Int), (101 : Int), (100 : Int)] : List Int)) = true then
  (let u99 : Int := (IntKind.wrap .i64 (z88 + (1 : Int)))
  (if (u99 == z94) = true then
  (some (Out.go (z86, (z87, ((0 : Int), ((IntKind.wrap .i64 (z87 + z95)), (([(111 : Int), (112 : Int), (101 : Int), (110 : Int)] : List Int), (z91, (z94, (z95, (z96, (z97, z98))))))))))))
  else
  (some (Out.go (z86, (z87, (u99, (z89, (z90, (z91, (z94, (z95, (z96, (z97, z98))))))))))))))
  else
  (some (Out.go (z86, (z87, (z88, (z89, (z90, (z91, (z94, (z95, (z96, (z97, z98)))))))))))))
  else
  (some (Out.go (z86, (z87, (z88, (z89, (z90, (z91, (z94, (z95, (z96, (z97, z98))))))))))))))
  | .ret r100 => some r100))
  | .ret r101 => some r101))
  | .ret r102 => some r102))))
  | .ret r103 => some r103)))))
  | .ret r104 => some r104)))))) fun o => match o with
  | .go (z106, (z107, (z108, (z109, (z110, (z111, (z112, (z113, (z114, (z115, z116)))))))))) =>
  (let u117 : Int := (IntKind.wrap .i64 (z111 + (1 : Int)))
  rec8 (z106, (z107, (z108, (z109, (z110, (u117, (z112, (z113, (z114, (z115, z116)))))))))))
  | .ret r118 => some r118)
  else
  (Option.bind (sure n ()) fun r119 =>
  some r119))
  else
  (Option.bind (sure n ()) fun r120 =>
  some r120))) n (x3, ((0 : Int), ((0 : Int), ((0 : Int), (([(99 : Int), (108 : Int), (111 : Int), (115 : Int), (101 : Int), (100 : Int)] : List Int), ((0 : Int), (u5, (u7, ((0 : Int), ((0 : Int), (0 : Int))))))))))))))))
def sp_breakerRuns (n : Nat) : Spec := ⟨pre_breakerRuns, post_breakerRuns, breakerRuns n⟩
def env_breakerRuns (n : Nat) : List (FuncId × Spec) := [(4, sp_ready n), (5, sp_say n), (6, sp_sure n)]
theorem run_breakerRuns (n : Nat) (x : pre_breakerRuns.T) : fnRun Try.prog 41 (envOf (env_breakerRuns n)) n Try.f3 ann_breakerRuns pre_breakerRuns post_breakerRuns x = breakerRuns n x := by kernel_rfl
theorem ok_breakerRuns (n : Nat) : FnOK Try.prog 41 L0 3 (sp_breakerRuns n) :=
  fn_run mixed Try.func3 (sp_breakerRuns n) n ann_breakerRuns (env_breakerRuns n) (envOf_cons (ok_ready n) (envOf_cons (ok_say n) (envOf_cons (ok_sure n) envOf_nil))) (run_breakerRuns n) (by kernel_rfl)
end Go.Sx.Ytkmmpcggdpkjdaa
