/- Part of a proof by a small interpreter on plain values; no condition. -/
import Derived.Test.YtacelemieinhcaaDoorD
import Derived.Test.YtacelemieinhcaaDoorProg
/-! written by program: the functions as plain ones, and their contracts. -/
namespace Go.Sx.YtacelemieinhcaaDoor
open Go Go.Sx Go.Proofs
set_option autoImplicit false
set_option maxRecDepth 100000
set_option linter.unusedVariables false
theorem mixed : Tryd.prog.follows .mixedOrders = true := by kernel_rfl
def pre_valid : Shape := ⟨[.a [.dat (.int .i64), .dat (.int .i64), .dat (.int .i64), .dat (.int .i64)]], []⟩
def post_valid : List Shape := [⟨[.c (.dat .err)], []⟩]
def ann_valid : Ann := (.two .no (.two (.two .no (.one (.loop ⟨[11, 12], ⟨[.a [.dat (.int .i64), .dat (.int .i64), .dat (.int .i64)], .c (.dat (.int .i64))], []⟩⟩ .no))) .no))
/-- what turnstile/bucket.Valid comes to. -/
def valid (n : Nat) (x : Int × Int × Int × Int) : Option (Int) :=
  match x with
  | (x1, (x2, (x3, x4))) =>
  (loopF (X := Int × Int × Int × Int) (A := Int) (fun rec5 y6 => match y6 with
  | (a7, (a8, (a9, a10))) =>
  (if (decide (a10 < (3 : Int))) = true then
  (Option.bind (idx ([a7, a8, a9] : List Int) a10) fun v11 =>
  (if (decide (v11 < (1 : Int))) = true then
  some (4 : Int)
  else
  (if (decide (v11 > (1048576 : Int))) = true then
  some (4 : Int)
  else
  (let u12 : Int := (IntKind.wrap .i64 (a10 + (1 : Int)))
  rec5 (a7, (a8, (a9, u12)))))))
  else
  some (0 : Int))) n (x2, (x3, (x4, (0 : Int)))))
def sp_valid (n : Nat) : Spec := ⟨pre_valid, post_valid, valid n⟩
def env_valid (n : Nat) : List (FuncId × Spec) := []
theorem run_valid (n : Nat) (x : pre_valid.T) : fnRun Tryd.prog 52 (envOf (env_valid n)) n Tryd.f10 ann_valid pre_valid post_valid x = valid n x := by kernel_rfl
theorem ok_valid (n : Nat) : FnOK Tryd.prog 52 LD 10 (sp_valid n) :=
  fn_run mixed Tryd.func10 (sp_valid n) n ann_valid (env_valid n) envOf_nil (run_valid n) (by kernel_rfl)
def pre_tick : Shape := ⟨[.c (.dat (.int .i64))], []⟩
def post_tick : List Shape := [⟨[.c (.dat .bool)], []⟩]
def ann_tick : Ann := .no
/-- what turnstile/bucket.tick comes to. -/
def tick (n : Nat) (x : Int) : Option (Bool) :=
  (if (decide (x ≥ (0 : Int))) = true then
  some (decide (x ≤ (1099511627776 : Int)))
  else
  some false)
def sp_tick (n : Nat) : Spec := ⟨pre_tick, post_tick, tick n⟩
def env_tick (n : Nat) : List (FuncId × Spec) := []
theorem run_tick (n : Nat) (x : pre_tick.T) : fnRun Tryd.prog 52 (envOf (env_tick n)) n Tryd.f21 ann_tick pre_tick post_tick x = tick n x := by kernel_rfl
theorem ok_tick (n : Nat) : FnOK Tryd.prog 52 LD 21 (sp_tick n) :=
  fn_run mixed Tryd.func21 (sp_tick n) n ann_tick (env_tick n) envOf_nil (run_tick n) (by kernel_rfl)
def pre_rTime : Shape := ⟨[.c (.dat (.int .i64))], []⟩
def post_rTime : List Shape := [⟨[.c (.dat .bool)], []⟩]
def ann_rTime : Ann := .no
/-- what turnstile/turnstileref21.time comes to. -/
def rTime (n : Nat) (x : Int) : Option (Bool) :=
  (if (decide (x ≥ (0 : Int))) = true then
  some (decide (x ≤ (1099511627776 : Int)))
  else
  some false)
def sp_rTime (n : Nat) : Spec := ⟨pre_rTime, post_rTime, rTime n⟩
def env_rTime (n : Nat) : List (FuncId × Spec) := []
theorem run_rTime (n : Nat) (x : pre_rTime.T) : fnRun Tryd.prog 52 (envOf (env_rTime n)) n Tryd.f23 ann_rTime pre_rTime post_rTime x = rTime n x := by kernel_rfl
theorem ok_rTime (n : Nat) : FnOK Tryd.prog 52 LD 23 (sp_rTime n) :=
  fn_run mixed Tryd.func23 (sp_rTime n) n ann_rTime (env_rTime n) envOf_nil (run_rTime n) (by kernel_rfl)
def pre_rSmall : Shape := ⟨[.c (.dat (.int .i64))], []⟩
def post_rSmall : List Shape := [⟨[.c (.dat .bool)], []⟩]
def ann_rSmall : Ann := .no
/-- what turnstile/turnstileref21.small comes to. -/
def rSmall (n : Nat) (x : Int) : Option (Bool) :=
  (if (decide (x ≥ (1 : Int))) = true then
  some (decide (x ≤ (1048576 : Int)))
  else
  some false)
def sp_rSmall (n : Nat) : Spec := ⟨pre_rSmall, post_rSmall, rSmall n⟩
def env_rSmall (n : Nat) : List (FuncId × Spec) := []
theorem run_rSmall (n : Nat) (x : pre_rSmall.T) : fnRun Tryd.prog 52 (envOf (env_rSmall n)) n Tryd.f25 ann_rSmall pre_rSmall post_rSmall x = rSmall n x := by kernel_rfl
theorem ok_rSmall (n : Nat) : FnOK Tryd.prog 52 LD 25 (sp_rSmall n) :=
  fn_run mixed Tryd.func25 (sp_rSmall n) n ann_rSmall (env_rSmall n) envOf_nil (run_rSmall n) (by kernel_rfl)
def pre_full : Shape := ⟨[.a [.dat (.int .i64), .dat (.int .i64), .dat (.int .i64), .dat (.int .i64)], .c (.dat (.int .i64))], []⟩
def post_full : List Shape := [⟨[.a [.dat (.int .i64), .dat (.int .i64)], .c (.dat .err)], []⟩]
def ann_full : Ann := .no
/-- what turnstile/bucket.Full comes to. -/
def full (n : Nat) (x : Int × Int × Int × Int × Int) : Option (Int × Int × Int) :=
  match x with
  | (x1, (x2, (x3, (x4, x5)))) =>
  (Option.bind (valid n (x1, (x2, (x3, x4)))) fun r6 =>
  (if (!(r6 == (0 : Int))) = true then
  some ((0 : Int), ((0 : Int), r6))
  else
  (Option.bind (tick n x5) fun r7 =>
  (if (!r7) = true then
  some ((0 : Int), ((0 : Int), (1 : Int)))
  else
  some ((IntKind.wrap .i64 (x4 * x3)), (x5, (0 : Int)))))))
def sp_full (n : Nat) : Spec := ⟨pre_full, post_full, full n⟩
def env_full (n : Nat) : List (FuncId × Spec) := [(10, sp_valid n), (21, sp_tick n)]
theorem run_full (n : Nat) (x : pre_full.T) : fnRun Tryd.prog 52 (envOf (env_full n)) n Tryd.f5 ann_full pre_full post_full x = full n x := by kernel_rfl
theorem ok_full (n : Nat) : FnOK Tryd.prog 52 LD 5 (sp_full n) :=
  fn_run mixed Tryd.func5 (sp_full n) n ann_full (env_full n) (envOf_cons (ok_valid n) (envOf_cons (ok_tick n) envOf_nil)) (run_full n) (by kernel_rfl)
def pre_most : Shape := ⟨[.a [.dat (.int .i64), .dat (.int .i64), .dat (.int .i64), .dat (.int .i64)], .c (.dat (.int .i64))], []⟩
def post_most : List Shape := [⟨[.c (.dat (.int .i64)), .c (.dat .err)], []⟩]
def ann_most : Ann := .no
/-- what turnstile/bucket.Most comes to. -/
def most (n : Nat) (x : Int × Int × Int × Int × Int) : Option (Int × Int) :=
  match x with
  | (x1, (x2, (x3, (x4, x5)))) =>
  (Option.bind (valid n (x1, (x2, (x3, x4)))) fun r6 =>
  (if (!(r6 == (0 : Int))) = true then
  some ((0 : Int), r6)
  else
  (Option.bind (tick n x5) fun r7 =>
  (if (!r7) = true then
  some ((0 : Int), (1 : Int))
  else
  (if x3 = 0 then none else
  (let u8 : Int := (IntKind.wrap .i64 (Int.tdiv (IntKind.wrap .i64 (x2 * x5)) x3))
  some ((IntKind.wrap .i64 (x4 + u8)), (0 : Int))))))))
def sp_most (n : Nat) : Spec := ⟨pre_most, post_most, most n⟩
def env_most (n : Nat) : List (FuncId × Spec) := [(10, sp_valid n), (21, sp_tick n)]
theorem run_most (n : Nat) (x : pre_most.T) : fnRun Tryd.prog 52 (envOf (env_most n)) n Tryd.f7 ann_most pre_most post_most x = most n x := by kernel_rfl
theorem ok_most (n : Nat) : FnOK Tryd.prog 52 LD 7 (sp_most n) :=
  fn_run mixed Tryd.func7 (sp_most n) n ann_most (env_most n) (envOf_cons (ok_valid n) (envOf_cons (ok_tick n) envOf_nil)) (run_most n) (by kernel_rfl)
def pre_rValid : Shape := ⟨[.a [.dat (.int .i64), .dat (.int .i64), .dat (.int .i64), .dat (.int .i64)]], []⟩
def post_rValid : List Shape := [⟨[.c (.dat (.int .i64))], []⟩]
def ann_rValid : Ann := .no
/-- what turnstile/turnstileref21.Valid comes to. -/
def rValid (n : Nat) (x : Int × Int × Int × Int) : Option (Int) :=
  match x with
  | (x1, (x2, (x3, x4))) =>
  (Option.bind (rSmall n x2) fun r5 =>
  (if (!r5) = true then
  some (4 : Int)
  else
  (Option.bind (rSmall n x3) fun r6 =>
  (if (!r6) = true then
  some (4 : Int)
  else
  (Option.bind (rSmall n x4) fun r7 =>
  (if (!r7) = true then
  some (4 : Int)
  else
  some (0 : Int)))))))
def sp_rValid (n : Nat) : Spec := ⟨pre_rValid, post_rValid, rValid n⟩
def env_rValid (n : Nat) : List (FuncId × Spec) := [(25, sp_rSmall n)]
theorem run_rValid (n : Nat) (x : pre_rValid.T) : fnRun Tryd.prog 52 (envOf (env_rValid n)) n Tryd.f11 ann_rValid pre_rValid post_rValid x = rValid n x := by kernel_rfl
theorem ok_rValid (n : Nat) : FnOK Tryd.prog 52 LD 11 (sp_rValid n) :=
  fn_run mixed Tryd.func11 (sp_rValid n) n ann_rValid (env_rValid n) (envOf_cons (ok_rSmall n) envOf_nil) (run_rValid n) (by kernel_rfl)
def pre_fill : Shape := ⟨[.a [.dat (.int .i64), .dat (.int .i64)], .a [.dat (.int .i64), .dat (.int .i64), .dat (.int .i64), .dat (.int .i64)], .c (.dat (.int .i64))], []⟩
def post_fill : List Shape := [⟨[.a [.dat (.int .i64), .dat (.int .i64)], .c (.dat .err)], []⟩]
def ann_fill : Ann := .no
/-- what turnstile/bucket.Fill comes to. -/
def fill (n : Nat) (x : Int × Int × Int × Int × Int × Int × Int) : Option (Int × Int × Int) :=
  match x with
  | (x1, (x2, (x3, (x4, (x5, (x6, x7)))))) =>
  (Option.bind (full n (x3, (x4, (x5, (x6, x7))))) fun r8 =>
  (if (!(r8.2.2 == (0 : Int))) = true then
  some ((0 : Int), ((0 : Int), r8.2.2))
  else
  (if (decide (x1 < (0 : Int))) = true then
  some ((0 : Int), ((0 : Int), (1 : Int)))
  else
  (if (decide (x1 > r8.1)) = true then
  some ((0 : Int), ((0 : Int), (1 : Int)))
  else
  (Option.bind (tick n x2) fun r9 =>
  (if (!r9) = true then
  some ((0 : Int), ((0 : Int), (1 : Int)))
  else
  (if (decide (x7 ≤ x2)) = true then
  some (x1, (x2, (0 : Int)))
  else
  (if (decide ((IntKind.wrap .i64 (x7 - x2)) < (IntKind.wrap .i64 (r8.1 - x1)))) = true then
  (let u10 : Int := (IntKind.wrap .i64 ((IntKind.wrap .i64 (x7 - x2)) * x4))
  (if (decide (u10 < (IntKind.wrap .i64 (r8.1 - x1)))) = true then
  (let u11 : Int := (IntKind.wrap .i64 ((IntKind.wrap .i64 (x7 - x2)) * x4))
  some ((IntKind.wrap .i64 (x1 + u11)), (x7, (0 : Int))))
  else
  some (r8.1, (r8.2.1, (0 : Int)))))
  else
  some (r8.1, (r8.2.1, (0 : Int)))))))))))
def sp_fill (n : Nat) : Spec := ⟨pre_fill, post_fill, fill n⟩
def env_fill (n : Nat) : List (FuncId × Spec) := [(5, sp_full n), (21, sp_tick n)]
theorem run_fill (n : Nat) (x : pre_fill.T) : fnRun Tryd.prog 52 (envOf (env_fill n)) n Tryd.f13 ann_fill pre_fill post_fill x = fill n x := by kernel_rfl
theorem ok_fill (n : Nat) : FnOK Tryd.prog 52 LD 13 (sp_fill n) :=
  fn_run mixed Tryd.func13 (sp_fill n) n ann_fill (env_fill n) (envOf_cons (ok_full n) (envOf_cons (ok_tick n) envOf_nil)) (run_fill n) (by kernel_rfl)
def pre_take : Shape := ⟨[.a [.dat (.int .i64), .dat (.int .i64)], .a [.dat (.int .i64), .dat (.int .i64), .dat (.int .i64), .dat (.int .i64)], .c (.dat (.int .i64))], []⟩
def post_take : List Shape := [⟨[.a [.dat (.int .i64), .dat (.int .i64)], .c (.dat .bool), .c (.dat .err)], []⟩]
def ann_take : Ann := .no
/-- what turnstile/bucket.Take comes to. -/
def take (n : Nat) (x : Int × Int × Int × Int × Int × Int × Int) : Option (Int × Int × Bool × Int) :=
  match x with
  | (x1, (x2, (x3, (x4, (x5, (x6, x7)))))) =>
  (Option.bind (fill n (x1, (x2, (x3, (x4, (x5, (x6, x7))))))) fun r8 =>
  (if (!(r8.2.2 == (0 : Int))) = true then
  some ((0 : Int), ((0 : Int), (false, r8.2.2)))
  else
  (if (decide (r8.1 < x5)) = true then
  some (r8.1, (r8.2.1, (false, (0 : Int))))
  else
  some ((IntKind.wrap .i64 (r8.1 - x5)), (r8.2.1, (true, (0 : Int)))))))
def sp_take (n : Nat) : Spec := ⟨pre_take, post_take, take n⟩
def env_take (n : Nat) : List (FuncId × Spec) := [(13, sp_fill n)]
theorem run_take (n : Nat) (x : pre_take.T) : fnRun Tryd.prog 52 (envOf (env_take n)) n Tryd.f15 ann_take pre_take post_take x = take n x := by kernel_rfl
theorem ok_take (n : Nat) : FnOK Tryd.prog 52 LD 15 (sp_take n) :=
  fn_run mixed Tryd.func15 (sp_take n) n ann_take (env_take n) (envOf_cons (ok_fill n) envOf_nil) (run_take n) (by kernel_rfl)
def pre_left : Shape := ⟨[.a [.dat (.int .i64), .dat (.int .i64)], .a [.dat (.int .i64), .dat (.int .i64), .dat (.int .i64), .dat (.int .i64)], .c (.dat (.int .i64))], []⟩
def post_left : List Shape := [⟨[.c (.dat (.int .i64)), .c (.dat .err)], []⟩]
def ann_left : Ann := .no
/-- what turnstile/bucket.Left comes to. -/
def left (n : Nat) (x : Int × Int × Int × Int × Int × Int × Int) : Option (Int × Int) :=
  match x with
  | (x1, (x2, (x3, (x4, (x5, (x6, x7)))))) =>
  (Option.bind (fill n (x1, (x2, (x3, (x4, (x5, (x6, x7))))))) fun r8 =>
  (if (!(r8.2.2 == (0 : Int))) = true then
  some ((0 : Int), r8.2.2)
  else
  (if x5 = 0 then none else
  (let u9 : Int := (IntKind.wrap .i64 (Int.tdiv r8.1 x5))
  some (u9, (0 : Int))))))
def sp_left (n : Nat) : Spec := ⟨pre_left, post_left, left n⟩
def env_left (n : Nat) : List (FuncId × Spec) := [(13, sp_fill n)]
theorem run_left (n : Nat) (x : pre_left.T) : fnRun Tryd.prog 52 (envOf (env_left n)) n Tryd.f17 ann_left pre_left post_left x = left n x := by kernel_rfl
theorem ok_left (n : Nat) : FnOK Tryd.prog 52 LD 17 (sp_left n) :=
  fn_run mixed Tryd.func17 (sp_left n) n ann_left (env_left n) (envOf_cons (ok_fill n) envOf_nil) (run_left n) (by kernel_rfl)
def pre_wait : Shape := ⟨[.a [.dat (.int .i64), .dat (.int .i64)], .a [.dat (.int .i64), .dat (.int .i64), .dat (.int .i64), .dat (.int .i64)], .c (.dat (.int .i64))], []⟩
def post_wait : List Shape := [⟨[.c (.dat (.int .i64)), .c (.dat .err)], []⟩]
def ann_wait : Ann := .no
/-- what turnstile/bucket.Wait comes to. -/
def wait (n : Nat) (x : Int × Int × Int × Int × Int × Int × Int) : Option (Int × Int) :=
  match x with
  | (x1, (x2, (x3, (x4, (x5, (x6, x7)))))) =>
  (Option.bind (fill n (x1, (x2, (x3, (x4, (x5, (x6, x7))))))) fun r8 =>
  (if (!(r8.2.2 == (0 : Int))) = true then
  some ((0 : Int), r8.2.2)
  else
  (if (decide (r8.1 ≥ x5)) = true then
  some ((0 : Int), r8.2.2)
  else
  (let u9 : Int := (IntKind.wrap .i64 ((IntKind.wrap .i64 (x5 - r8.1)) + x4))
  (if x4 = 0 then none else
  (let u10 : Int := (IntKind.wrap .i64 (Int.tdiv (IntKind.wrap .i64 (u9 - (1 : Int))) x4))
  some (u10, (0 : Int))))))))
def sp_wait (n : Nat) : Spec := ⟨pre_wait, post_wait, wait n⟩
def env_wait (n : Nat) : List (FuncId × Spec) := [(13, sp_fill n)]
theorem run_wait (n : Nat) (x : pre_wait.T) : fnRun Tryd.prog 52 (envOf (env_wait n)) n Tryd.f19 ann_wait pre_wait post_wait x = wait n x := by kernel_rfl
theorem ok_wait (n : Nat) : FnOK Tryd.prog 52 LD 19 (sp_wait n) :=
  fn_run mixed Tryd.func19 (sp_wait n) n ann_wait (env_wait n) (envOf_cons (ok_fill n) envOf_nil) (run_wait n) (by kernel_rfl)
def pre_rCheck : Shape := ⟨[.a [.dat (.int .i64), .dat (.int .i64)], .a [.dat (.int .i64), .dat (.int .i64), .dat (.int .i64), .dat (.int .i64)], .c (.dat (.int .i64))], []⟩
def post_rCheck : List Shape := [⟨[.c (.dat (.int .i64))], []⟩]
def ann_rCheck : Ann := .no
/-- what turnstile/turnstileref21.check comes to. -/
def rCheck (n : Nat) (x : Int × Int × Int × Int × Int × Int × Int) : Option (Int) :=
  match x with
  | (x1, (x2, (x3, (x4, (x5, (x6, x7)))))) =>
  (Option.bind (rValid n (x3, (x4, (x5, x6)))) fun r8 =>
  (if (r8 != (0 : Int)) = true then
  some (4 : Int)
  else
  (if (decide (x1 < (0 : Int))) = true then
  some (1 : Int)
  else
  (if (decide (x1 > (IntKind.wrap .i64 (x6 * x5)))) = true then
  some (1 : Int)
  else
  (Option.bind (rTime n x2) fun r9 =>
  (if (!r9) = true then
  some (1 : Int)
  else
  (Option.bind (rTime n x7) fun r10 =>
  (if (!r10) = true then
  some (1 : Int)
  else
  some (0 : Int)))))))))
def sp_rCheck (n : Nat) : Spec := ⟨pre_rCheck, post_rCheck, rCheck n⟩
def env_rCheck (n : Nat) : List (FuncId × Spec) := [(11, sp_rValid n), (23, sp_rTime n)]
theorem run_rCheck (n : Nat) (x : pre_rCheck.T) : fnRun Tryd.prog 52 (envOf (env_rCheck n)) n Tryd.f22 ann_rCheck pre_rCheck post_rCheck x = rCheck n x := by kernel_rfl
theorem ok_rCheck (n : Nat) : FnOK Tryd.prog 52 LD 22 (sp_rCheck n) :=
  fn_run mixed Tryd.func22 (sp_rCheck n) n ann_rCheck (env_rCheck n) (envOf_cons (ok_rValid n) (envOf_cons (ok_rTime n) envOf_nil)) (run_rCheck n) (by kernel_rfl)
def pre_rFull : Shape := ⟨[.a [.dat (.int .i64), .dat (.int .i64), .dat (.int .i64), .dat (.int .i64)], .c (.dat (.int .i64))], []⟩
def post_rFull : List Shape := [⟨[.a [.dat (.int .i64), .dat (.int .i64)], .c (.dat (.int .i64))], []⟩]
def ann_rFull : Ann := .no
/-- what turnstile/turnstileref21.Full comes to. -/
def rFull (n : Nat) (x : Int × Int × Int × Int × Int) : Option (Int × Int × Int) :=
  match x with
  | (x1, (x2, (x3, (x4, x5)))) =>
  (Option.bind (rCheck n ((0 : Int), ((0 : Int), (x1, (x2, (x3, (x4, x5))))))) fun r6 =>
  (if (r6 != (0 : Int)) = true then
  some ((0 : Int), ((0 : Int), r6))
  else
  some ((IntKind.wrap .i64 (x4 * x3)), (x5, (0 : Int)))))
def sp_rFull (n : Nat) : Spec := ⟨pre_rFull, post_rFull, rFull n⟩
def env_rFull (n : Nat) : List (FuncId × Spec) := [(22, sp_rCheck n)]
theorem run_rFull (n : Nat) (x : pre_rFull.T) : fnRun Tryd.prog 52 (envOf (env_rFull n)) n Tryd.f6 ann_rFull pre_rFull post_rFull x = rFull n x := by kernel_rfl
theorem ok_rFull (n : Nat) : FnOK Tryd.prog 52 LD 6 (sp_rFull n) :=
  fn_run mixed Tryd.func6 (sp_rFull n) n ann_rFull (env_rFull n) (envOf_cons (ok_rCheck n) envOf_nil) (run_rFull n) (by kernel_rfl)
def pre_rMost : Shape := ⟨[.a [.dat (.int .i64), .dat (.int .i64), .dat (.int .i64), .dat (.int .i64)], .c (.dat (.int .i64))], []⟩
def post_rMost : List Shape := [⟨[.c (.dat (.int .i64)), .c (.dat (.int .i64))], []⟩]
def ann_rMost : Ann := .no
/-- what turnstile/turnstileref21.Most comes to. -/
def rMost (n : Nat) (x : Int × Int × Int × Int × Int) : Option (Int × Int) :=
  match x with
  | (x1, (x2, (x3, (x4, x5)))) =>
  (Option.bind (rValid n (x1, (x2, (x3, x4)))) fun r6 =>
  (if (r6 != (0 : Int)) = true then
  some ((0 : Int), (4 : Int))
  else
  (Option.bind (rTime n x5) fun r7 =>
  (if (!r7) = true then
  some ((0 : Int), (1 : Int))
  else
  (if x3 = 0 then none else
  (let u8 : Int := (IntKind.wrap .i64 (Int.tdiv (IntKind.wrap .i64 (x2 * x5)) x3))
  some ((IntKind.wrap .i64 (x4 + u8)), (0 : Int))))))))
def sp_rMost (n : Nat) : Spec := ⟨pre_rMost, post_rMost, rMost n⟩
def env_rMost (n : Nat) : List (FuncId × Spec) := [(11, sp_rValid n), (23, sp_rTime n)]
theorem run_rMost (n : Nat) (x : pre_rMost.T) : fnRun Tryd.prog 52 (envOf (env_rMost n)) n Tryd.f8 ann_rMost pre_rMost post_rMost x = rMost n x := by kernel_rfl
theorem ok_rMost (n : Nat) : FnOK Tryd.prog 52 LD 8 (sp_rMost n) :=
  fn_run mixed Tryd.func8 (sp_rMost n) n ann_rMost (env_rMost n) (envOf_cons (ok_rValid n) (envOf_cons (ok_rTime n) envOf_nil)) (run_rMost n) (by kernel_rfl)
def pre_sure : Shape := ⟨[], []⟩
def post_sure : List Shape := [⟨[.c (.dat .bool)], []⟩]
def ann_sure : Ann := .no
/-- what turnstile/turnstilelaw21.sure comes to. -/
def sure (n : Nat) (x : Unit) : Option (Bool) :=
  (Option.bind (full n ((0 : Int), ((1 : Int), ((3 : Int), ((2 : Int), (0 : Int)))))) fun r1 =>
  (Option.bind (take n (r1.1, (r1.2.1, ((0 : Int), ((1 : Int), ((3 : Int), ((2 : Int), (0 : Int)))))))) fun r2 =>
  (if (r1.1 == (6 : Int)) = true then
  (if (r1.2.2 == (0 : Int)) = true then
  (if r2.2.2.1 = true then
  some (r2.2.2.2 == (0 : Int))
  else
  some false)
  else
  some false)
  else
  some false)))
def sp_sure (n : Nat) : Spec := ⟨pre_sure, post_sure, sure n⟩
def env_sure (n : Nat) : List (FuncId × Spec) := [(5, sp_full n), (15, sp_take n)]
theorem run_sure (n : Nat) (x : pre_sure.T) : fnRun Tryd.prog 52 (envOf (env_sure n)) n Tryd.f12 ann_sure pre_sure post_sure x = sure n x := by kernel_rfl
theorem ok_sure (n : Nat) : FnOK Tryd.prog 52 LD 12 (sp_sure n) :=
  fn_run mixed Tryd.func12 (sp_sure n) n ann_sure (env_sure n) (envOf_cons (ok_full n) (envOf_cons (ok_take n) envOf_nil)) (run_sure n) (by kernel_rfl)
def pre_rFill : Shape := ⟨[.a [.dat (.int .i64), .dat (.int .i64)], .a [.dat (.int .i64), .dat (.int .i64), .dat (.int .i64), .dat (.int .i64)], .c (.dat (.int .i64))], []⟩
def post_rFill : List Shape := [⟨[.a [.dat (.int .i64), .dat (.int .i64)], .c (.dat (.int .i64))], []⟩]
def ann_rFill : Ann := .no
/-- what turnstile/turnstileref21.Fill comes to. -/
def rFill (n : Nat) (x : Int × Int × Int × Int × Int × Int × Int) : Option (Int × Int × Int) :=
  match x with
  | (x1, (x2, (x3, (x4, (x5, (x6, x7)))))) =>
  (Option.bind (rCheck n (x1, (x2, (x3, (x4, (x5, (x6, x7))))))) fun r8 =>
  (if (r8 != (0 : Int)) = true then
  some ((0 : Int), ((0 : Int), r8))
  else
  (if (decide (x7 > x2)) = true then
  (let u9 : Int := (IntKind.wrap .i64 ((IntKind.wrap .i64 (x7 - x2)) * x4))
  (let u10 : Int := (if (IntKind.wrap .i64 (x6 * x5)) < (IntKind.wrap .i64 (x1 + u9)) then (IntKind.wrap .i64 (x6 * x5)) else (IntKind.wrap .i64 (x1 + u9)))
  some (u10, (x7, (0 : Int)))))
  else
  some (x1, (x2, (0 : Int))))))
def sp_rFill (n : Nat) : Spec := ⟨pre_rFill, post_rFill, rFill n⟩
def env_rFill (n : Nat) : List (FuncId × Spec) := [(22, sp_rCheck n)]
theorem run_rFill (n : Nat) (x : pre_rFill.T) : fnRun Tryd.prog 52 (envOf (env_rFill n)) n Tryd.f14 ann_rFill pre_rFill post_rFill x = rFill n x := by kernel_rfl
theorem ok_rFill (n : Nat) : FnOK Tryd.prog 52 LD 14 (sp_rFill n) :=
  fn_run mixed Tryd.func14 (sp_rFill n) n ann_rFill (env_rFill n) (envOf_cons (ok_rCheck n) envOf_nil) (run_rFill n) (by kernel_rfl)
def pre_rTake : Shape := ⟨[.a [.dat (.int .i64), .dat (.int .i64)], .a [.dat (.int .i64), .dat (.int .i64), .dat (.int .i64), .dat (.int .i64)], .c (.dat (.int .i64))], []⟩
def post_rTake : List Shape := [⟨[.a [.dat (.int .i64), .dat (.int .i64)], .c (.dat .bool), .c (.dat (.int .i64))], []⟩]
def ann_rTake : Ann := .no
/-- what turnstile/turnstileref21.Take comes to. -/
def rTake (n : Nat) (x : Int × Int × Int × Int × Int × Int × Int) : Option (Int × Int × Bool × Int) :=
  match x with
  | (x1, (x2, (x3, (x4, (x5, (x6, x7)))))) =>
  (Option.bind (rFill n (x1, (x2, (x3, (x4, (x5, (x6, x7))))))) fun r8 =>
  (if (r8.2.2 != (0 : Int)) = true then
  some ((0 : Int), ((0 : Int), (false, r8.2.2)))
  else
  (if (decide (r8.1 < x5)) = true then
  some (r8.1, (r8.2.1, (false, (0 : Int))))
  else
  some ((IntKind.wrap .i64 (r8.1 - x5)), (r8.2.1, (true, (0 : Int)))))))
def sp_rTake (n : Nat) : Spec := ⟨pre_rTake, post_rTake, rTake n⟩
def env_rTake (n : Nat) : List (FuncId × Spec) := [(14, sp_rFill n)]
theorem run_rTake (n : Nat) (x : pre_rTake.T) : fnRun Tryd.prog 52 (envOf (env_rTake n)) n Tryd.f16 ann_rTake pre_rTake post_rTake x = rTake n x := by kernel_rfl
theorem ok_rTake (n : Nat) : FnOK Tryd.prog 52 LD 16 (sp_rTake n) :=
  fn_run mixed Tryd.func16 (sp_rTake n) n ann_rTake (env_rTake n) (envOf_cons (ok_rFill n) envOf_nil) (run_rTake n) (by kernel_rfl)
def pre_rLeft : Shape := ⟨[.a [.dat (.int .i64), .dat (.int .i64)], .a [.dat (.int .i64), .dat (.int .i64), .dat (.int .i64), .dat (.int .i64)], .c (.dat (.int .i64))], []⟩
def post_rLeft : List Shape := [⟨[.c (.dat (.int .i64)), .c (.dat (.int .i64))], []⟩]
def ann_rLeft : Ann := .no
/-- what turnstile/turnstileref21.Left comes to. -/
def rLeft (n : Nat) (x : Int × Int × Int × Int × Int × Int × Int) : Option (Int × Int) :=
  match x with
  | (x1, (x2, (x3, (x4, (x5, (x6, x7)))))) =>
  (Option.bind (rFill n (x1, (x2, (x3, (x4, (x5, (x6, x7))))))) fun r8 =>
  (if (r8.2.2 != (0 : Int)) = true then
  some ((0 : Int), r8.2.2)
  else
  (if x5 = 0 then none else
  (let u9 : Int := (IntKind.wrap .i64 (Int.tdiv r8.1 x5))
  some (u9, (0 : Int))))))
def sp_rLeft (n : Nat) : Spec := ⟨pre_rLeft, post_rLeft, rLeft n⟩
def env_rLeft (n : Nat) : List (FuncId × Spec) := [(14, sp_rFill n)]
theorem run_rLeft (n : Nat) (x : pre_rLeft.T) : fnRun Tryd.prog 52 (envOf (env_rLeft n)) n Tryd.f18 ann_rLeft pre_rLeft post_rLeft x = rLeft n x := by kernel_rfl
theorem ok_rLeft (n : Nat) : FnOK Tryd.prog 52 LD 18 (sp_rLeft n) :=
  fn_run mixed Tryd.func18 (sp_rLeft n) n ann_rLeft (env_rLeft n) (envOf_cons (ok_rFill n) envOf_nil) (run_rLeft n) (by kernel_rfl)
def pre_rWait : Shape := ⟨[.a [.dat (.int .i64), .dat (.int .i64)], .a [.dat (.int .i64), .dat (.int .i64), .dat (.int .i64), .dat (.int .i64)], .c (.dat (.int .i64))], []⟩
def post_rWait : List Shape := [⟨[.c (.dat (.int .i64)), .c (.dat (.int .i64))], []⟩]
def ann_rWait : Ann := .no
/-- what turnstile/turnstileref21.Wait comes to. -/
def rWait (n : Nat) (x : Int × Int × Int × Int × Int × Int × Int) : Option (Int × Int) :=
  match x with
  | (x1, (x2, (x3, (x4, (x5, (x6, x7)))))) =>
  (Option.bind (rFill n (x1, (x2, (x3, (x4, (x5, (x6, x7))))))) fun r8 =>
  (if (r8.2.2 != (0 : Int)) = true then
  some ((0 : Int), r8.2.2)
  else
  (let u9 : Int := (if (0 : Int) > (IntKind.wrap .i64 (x5 - r8.1)) then (0 : Int) else (IntKind.wrap .i64 (x5 - r8.1)))
  (let u10 : Int := (IntKind.wrap .i64 ((IntKind.wrap .i64 (u9 + x4)) - (1 : Int)))
  (if x4 = 0 then none else
  (let u11 : Int := (IntKind.wrap .i64 (Int.tdiv u10 x4))
  some (u11, (0 : Int))))))))
def sp_rWait (n : Nat) : Spec := ⟨pre_rWait, post_rWait, rWait n⟩
def env_rWait (n : Nat) : List (FuncId × Spec) := [(14, sp_rFill n)]
theorem run_rWait (n : Nat) (x : pre_rWait.T) : fnRun Tryd.prog 52 (envOf (env_rWait n)) n Tryd.f20 ann_rWait pre_rWait post_rWait x = rWait n x := by kernel_rfl
theorem ok_rWait (n : Nat) : FnOK Tryd.prog 52 LD 20 (sp_rWait n) :=
  fn_run mixed Tryd.func20 (sp_rWait n) n ann_rWait (env_rWait n) (envOf_cons (ok_rFill n) envOf_nil) (run_rWait n) (by kernel_rfl)
def pre_bucketMost : Shape := ⟨[.a [.dat (.int .i64), .dat (.int .i64), .dat (.int .i64), .dat (.int .i64)], .c (.dat (.int .i64))], []⟩
def post_bucketMost : List Shape := [⟨[.c (.dat .bool)], []⟩]
def ann_bucketMost : Ann := .no
/-- what turnstile/turnstilelaw21.BucketMost comes to. -/
def bucketMost (n : Nat) (x : Int × Int × Int × Int × Int) : Option (Bool) :=
  match x with
  | (x1, (x2, (x3, (x4, x5)))) =>
  (Option.bind (full n (x1, (x2, (x3, (x4, x5))))) fun r6 =>
  (Option.bind (rFull n (x1, (x2, (x3, (x4, x5))))) fun r7 =>
  (Option.bind (most n (x1, (x2, (x3, (x4, x5))))) fun r8 =>
  (Option.bind (rMost n (x1, (x2, (x3, (x4, x5))))) fun r9 =>
  (if ((r6.1 == r7.1) && ((r6.2.1 == r7.2.1) && true)) = true then
  (Option.bind (num n r6.2.2) fun r10 =>
  (if (r10 == r7.2.2) = true then
  (if (r8.1 == r9.1) = true then
  (Option.bind (num n r8.2) fun r11 =>
  (if (r11 == r9.2) = true then
  (Option.bind (valid n (x1, (x2, (x3, x4)))) fun r12 =>
  (Option.bind (num n r12) fun r13 =>
  (Option.bind (rValid n (x1, (x2, (x3, x4)))) fun r14 =>
  (if (r13 == r14) = true then
  (Option.bind (sure n ()) fun r15 =>
  some r15)
  else
  some false))))
  else
  some false))
  else
  some false)
  else
  some false))
  else
  some false)))))
def sp_bucketMost (n : Nat) : Spec := ⟨pre_bucketMost, post_bucketMost, bucketMost n⟩
def env_bucketMost (n : Nat) : List (FuncId × Spec) := [(5, sp_full n), (6, sp_rFull n), (7, sp_most n), (8, sp_rMost n), (9, sp_num n), (10, sp_valid n), (11, sp_rValid n), (12, sp_sure n)]
theorem run_bucketMost (n : Nat) (x : pre_bucketMost.T) : fnRun Tryd.prog 52 (envOf (env_bucketMost n)) n Tryd.f3 ann_bucketMost pre_bucketMost post_bucketMost x = bucketMost n x := by kernel_rfl
theorem ok_bucketMost (n : Nat) : FnOK Tryd.prog 52 LD 3 (sp_bucketMost n) :=
  fn_run mixed Tryd.func3 (sp_bucketMost n) n ann_bucketMost (env_bucketMost n) (envOf_cons (ok_full n) (envOf_cons (ok_rFull n) (envOf_cons (ok_most n) (envOf_cons (ok_rMost n) (envOf_cons (ok_num n) (envOf_cons (ok_valid n) (envOf_cons (ok_rValid n) (envOf_cons (ok_sure n) envOf_nil)))))))) (run_bucketMost n) (by kernel_rfl)
def pre_bucketFills : Shape := ⟨[.a [.dat (.int .i64), .dat (.int .i64)], .a [.dat (.int .i64), .dat (.int .i64), .dat (.int .i64), .dat (.int .i64)], .c (.dat (.int .i64))], []⟩
def post_bucketFills : List Shape := [⟨[.c (.dat .bool)], []⟩]
def ann_bucketFills : Ann := .no
/-- what turnstile/turnstilelaw21.BucketFills comes to. -/
def bucketFills (n : Nat) (x : Int × Int × Int × Int × Int × Int × Int) : Option (Bool) :=
  match x with
  | (x1, (x2, (x3, (x4, (x5, (x6, x7)))))) =>
  (Option.bind (fill n (x1, (x2, (x3, (x4, (x5, (x6, x7))))))) fun r8 =>
  (Option.bind (rFill n (x1, (x2, (x3, (x4, (x5, (x6, x7))))))) fun r9 =>
  (Option.bind (take n (x1, (x2, (x3, (x4, (x5, (x6, x7))))))) fun r10 =>
  (Option.bind (rTake n (x1, (x2, (x3, (x4, (x5, (x6, x7))))))) fun r11 =>
  (Option.bind (left n (x1, (x2, (x3, (x4, (x5, (x6, x7))))))) fun r12 =>
  (Option.bind (rLeft n (x1, (x2, (x3, (x4, (x5, (x6, x7))))))) fun r13 =>
  (Option.bind (wait n (x1, (x2, (x3, (x4, (x5, (x6, x7))))))) fun r14 =>
  (Option.bind (rWait n (x1, (x2, (x3, (x4, (x5, (x6, x7))))))) fun r15 =>
  (if ((r8.1 == r9.1) && ((r8.2.1 == r9.2.1) && true)) = true then
  (Option.bind (num n r8.2.2) fun r16 =>
  (if (r16 == r9.2.2) = true then
  (if ((r10.1 == r11.1) && ((r10.2.1 == r11.2.1) && true)) = true then
  (if (r10.2.2.1 == r11.2.2.1) = true then
  (Option.bind (num n r10.2.2.2) fun r17 =>
  (if (r17 == r11.2.2.2) = true then
  (if (r12.1 == r13.1) = true then
  (Option.bind (num n r12.2) fun r18 =>
  (if (r18 == r13.2) = true then
  (if (r14.1 == r15.1) = true then
  (Option.bind (num n r14.2) fun r19 =>
  (if (r19 == r15.2) = true then
  (Option.bind (sure n ()) fun r20 =>
  some r20)
  else
  some false))
  else
  some false)
  else
  some false))
  else
  some false)
  else
  some false))
  else
  some false)
  else
  some false)
  else
  some false))
  else
  some false)))))))))
def sp_bucketFills (n : Nat) : Spec := ⟨pre_bucketFills, post_bucketFills, bucketFills n⟩
def env_bucketFills (n : Nat) : List (FuncId × Spec) := [(13, sp_fill n), (14, sp_rFill n), (15, sp_take n), (16, sp_rTake n), (17, sp_left n), (18, sp_rLeft n), (19, sp_wait n), (20, sp_rWait n), (9, sp_num n), (12, sp_sure n)]
theorem run_bucketFills (n : Nat) (x : pre_bucketFills.T) : fnRun Tryd.prog 52 (envOf (env_bucketFills n)) n Tryd.f4 ann_bucketFills pre_bucketFills post_bucketFills x = bucketFills n x := by kernel_rfl
theorem ok_bucketFills (n : Nat) : FnOK Tryd.prog 52 LD 4 (sp_bucketFills n) :=
  fn_run mixed Tryd.func4 (sp_bucketFills n) n ann_bucketFills (env_bucketFills n) (envOf_cons (ok_fill n) (envOf_cons (ok_rFill n) (envOf_cons (ok_take n) (envOf_cons (ok_rTake n) (envOf_cons (ok_left n) (envOf_cons (ok_rLeft n) (envOf_cons (ok_wait n) (envOf_cons (ok_rWait n) (envOf_cons (ok_num n) (envOf_cons (ok_sure n) envOf_nil)))))))))) (run_bucketFills n) (by kernel_rfl)
end Go.Sx.YtacelemieinhcaaDoor
