/- Part of a proof by a small interpreter on plain values; no condition. -/
import Derived.Test.YtacelemieinhcaaSx19
import Derived.Test.YtacelemieinhcaaProg
/-! written by program: the functions as plain ones, and their contracts. -/
namespace Go.Sx.Ytacelemieinhcaa
open Go Go.Sx Go.Proofs
set_option autoImplicit false
set_option maxRecDepth 100000
set_option linter.unusedVariables false
theorem mixed : Try.prog.follows .mixedOrders = true := by kernel_rfl
def pre_tick : Shape := ⟨[.c (.dat (.int .i64))], []⟩
def post_tick : List Shape := [⟨[.c (.dat .bool)], []⟩]
def ann_tick : Ann := .no
/-- what turnstile/bucket.tick comes to. -/
def tick (n : Nat) (x : Int) : Option (Bool) :=
  (if (decide (x ≥ (0 : Int))) = true then
  some (decide (x ≤ (1099511627776 : Int)))
  else
  some false)
def sp_tick (n : Nat) : Spec := ⟨pre_tick, post_tick, tick n⟩
def env_tick (n : Nat) : List (FuncId × Spec) := []
theorem run_tick (n : Nat) (x : pre_tick.T) : fnRun Try.prog 42 (envOf (env_tick n)) n Try.f12 ann_tick pre_tick post_tick x = tick n x := by kernel_rfl
theorem ok_tick (n : Nat) : FnOK Try.prog 42 L0 12 (sp_tick n) :=
  fn_run mixed Try.func12 (sp_tick n) n ann_tick (env_tick n) envOf_nil (run_tick n) (by kernel_rfl)
def pre_valid : Shape := ⟨[.a [.dat (.int .i64), .dat (.int .i64), .dat (.int .i64), .dat (.int .i64)]], []⟩
def post_valid : List Shape := [⟨[.c (.dat .err)], []⟩]
def ann_valid : Ann := (.two .no (.two (.two .no (.one (.loop ⟨[11, 12], ⟨[.a [.dat (.int .i64), .dat (.int .i64), .dat (.int .i64)], .c (.dat (.int .i64))], []⟩⟩ .no))) .no))
/-- what turnstile/bucket.Valid comes to. -/
def valid (n : Nat) (x : Int × Int × Int × Int) : Option (Int) :=
  match x with
  | (x1, (x2, (x3, x4))) =>
  (loopF (X := Int × Int × Int × Int) (A := Int) (fun rec5 y6 => match y6 with
  | (a7, (a8, (a9, a10))) =>
  (if (decide (a10 < (3 : Int))) = true then
  (Option.bind (idx ([a7, a8, a9] : List Int) a10) fun v11 =>
  (if (decide (v11 < (1 : Int))) = true then
  some (4 : Int)
  else
  (if (decide (v11 > (1048576 : Int))) = true then
  some (4 : Int)
  else
  (let u12 : Int := (IntKind.wrap .i64 (a10 + (1 : Int)))
  rec5 (a7, (a8, (a9, u12)))))))
  else
  some (0 : Int))) n (x2, (x3, (x4, (0 : Int)))))
def sp_valid (n : Nat) : Spec := ⟨pre_valid, post_valid, valid n⟩
def env_valid (n : Nat) : List (FuncId × Spec) := []
theorem run_valid (n : Nat) (x : pre_valid.T) : fnRun Try.prog 42 (envOf (env_valid n)) n Try.f11 ann_valid pre_valid post_valid x = valid n x := by kernel_rfl
theorem ok_valid (n : Nat) : FnOK Try.prog 42 L0 11 (sp_valid n) :=
  fn_run mixed Try.func11 (sp_valid n) n ann_valid (env_valid n) envOf_nil (run_valid n) (by kernel_rfl)
def pre_full : Shape := ⟨[.a [.dat (.int .i64), .dat (.int .i64), .dat (.int .i64), .dat (.int .i64)], .c (.dat (.int .i64))], []⟩
def post_full : List Shape := [⟨[.a [.dat (.int .i64), .dat (.int .i64)], .c (.dat .err)], []⟩]
def ann_full : Ann := .no
/-- what turnstile/bucket.Full comes to. -/
def full (n : Nat) (x : Int × Int × Int × Int × Int) : Option (Int × Int × Int) :=
  match x with
  | (x1, (x2, (x3, (x4, x5)))) =>
  (Option.bind (valid n (x1, (x2, (x3, x4)))) fun r6 =>
  (if (!(r6 == (0 : Int))) = true then
  some ((0 : Int), ((0 : Int), r6))
  else
  (Option.bind (tick n x5) fun r7 =>
  (if (!r7) = true then
  some ((0 : Int), ((0 : Int), (1 : Int)))
  else
  some ((IntKind.wrap .i64 (x4 * x3)), (x5, (0 : Int)))))))
def sp_full (n : Nat) : Spec := ⟨pre_full, post_full, full n⟩
def env_full (n : Nat) : List (FuncId × Spec) := [(11, sp_valid n), (12, sp_tick n)]
theorem run_full (n : Nat) (x : pre_full.T) : fnRun Try.prog 42 (envOf (env_full n)) n Try.f4 ann_full pre_full post_full x = full n x := by kernel_rfl
theorem ok_full (n : Nat) : FnOK Try.prog 42 L0 4 (sp_full n) :=
  fn_run mixed Try.func4 (sp_full n) n ann_full (env_full n) (envOf_cons (ok_valid n) (envOf_cons (ok_tick n) envOf_nil)) (run_full n) (by kernel_rfl)
def pre_bfill : Shape := ⟨[.a [.dat (.int .i64), .dat (.int .i64)], .a [.dat (.int .i64), .dat (.int .i64), .dat (.int .i64), .dat (.int .i64)], .c (.dat (.int .i64))], []⟩
def post_bfill : List Shape := [⟨[.a [.dat (.int .i64), .dat (.int .i64)], .c (.dat .err)], []⟩]
def ann_bfill : Ann := .no
/-- what turnstile/bucket.Fill comes to. -/
def bfill (n : Nat) (x : Int × Int × Int × Int × Int × Int × Int) : Option (Int × Int × Int) :=
  match x with
  | (x1, (x2, (x3, (x4, (x5, (x6, x7)))))) =>
  (Option.bind (full n (x3, (x4, (x5, (x6, x7))))) fun r8 =>
  (if (!(r8.2.2 == (0 : Int))) = true then
  some ((0 : Int), ((0 : Int), r8.2.2))
  else
  (if (decide (x1 < (0 : Int))) = true then
  some ((0 : Int), ((0 : Int), (1 : Int)))
  else
  (if (decide (x1 > r8.1)) = true then
  some ((0 : Int), ((0 : Int), (1 : Int)))
  else
  (Option.bind (tick n x2) fun r9 =>
  (if (!r9) = true then
  some ((0 : Int), ((0 : Int), (1 : Int)))
  else
  (if (decide (x7 ≤ x2)) = true then
  some (x1, (x2, (0 : Int)))
  else
  (if (decide ((IntKind.wrap .i64 (x7 - x2)) < (IntKind.wrap .i64 (r8.1 - x1)))) = true then
  (let u10 : Int := (IntKind.wrap .i64 ((IntKind.wrap .i64 (x7 - x2)) * x4))
  (if (decide (u10 < (IntKind.wrap .i64 (r8.1 - x1)))) = true then
  (let u11 : Int := (IntKind.wrap .i64 ((IntKind.wrap .i64 (x7 - x2)) * x4))
  some ((IntKind.wrap .i64 (x1 + u11)), (x7, (0 : Int))))
  else
  some (r8.1, (r8.2.1, (0 : Int)))))
  else
  some (r8.1, (r8.2.1, (0 : Int)))))))))))
def sp_bfill (n : Nat) : Spec := ⟨pre_bfill, post_bfill, bfill n⟩
def env_bfill (n : Nat) : List (FuncId × Spec) := [(4, sp_full n), (12, sp_tick n)]
theorem run_bfill (n : Nat) (x : pre_bfill.T) : fnRun Try.prog 42 (envOf (env_bfill n)) n Try.f5 ann_bfill pre_bfill post_bfill x = bfill n x := by kernel_rfl
theorem ok_bfill (n : Nat) : FnOK Try.prog 42 L0 5 (sp_bfill n) :=
  fn_run mixed Try.func5 (sp_bfill n) n ann_bfill (env_bfill n) (envOf_cons (ok_full n) (envOf_cons (ok_tick n) envOf_nil)) (run_bfill n) (by kernel_rfl)
def pre_left : Shape := ⟨[.a [.dat (.int .i64), .dat (.int .i64)], .a [.dat (.int .i64), .dat (.int .i64), .dat (.int .i64), .dat (.int .i64)], .c (.dat (.int .i64))], []⟩
def post_left : List Shape := [⟨[.c (.dat (.int .i64)), .c (.dat .err)], []⟩]
def ann_left : Ann := .no
/-- what turnstile/bucket.Left comes to. -/
def left (n : Nat) (x : Int × Int × Int × Int × Int × Int × Int) : Option (Int × Int) :=
  match x with
  | (x1, (x2, (x3, (x4, (x5, (x6, x7)))))) =>
  (Option.bind (bfill n (x1, (x2, (x3, (x4, (x5, (x6, x7))))))) fun r8 =>
  (if (!(r8.2.2 == (0 : Int))) = true then
  some ((0 : Int), r8.2.2)
  else
  (if x5 = 0 then none else
  (let u9 : Int := (IntKind.wrap .i64 (Int.tdiv r8.1 x5))
  some (u9, (0 : Int))))))
def sp_left (n : Nat) : Spec := ⟨pre_left, post_left, left n⟩
def env_left (n : Nat) : List (FuncId × Spec) := [(5, sp_bfill n)]
theorem run_left (n : Nat) (x : pre_left.T) : fnRun Try.prog 42 (envOf (env_left n)) n Try.f8 ann_left pre_left post_left x = left n x := by kernel_rfl
theorem ok_left (n : Nat) : FnOK Try.prog 42 L0 8 (sp_left n) :=
  fn_run mixed Try.func8 (sp_left n) n ann_left (env_left n) (envOf_cons (ok_bfill n) envOf_nil) (run_left n) (by kernel_rfl)
def pre_take : Shape := ⟨[.a [.dat (.int .i64), .dat (.int .i64)], .a [.dat (.int .i64), .dat (.int .i64), .dat (.int .i64), .dat (.int .i64)], .c (.dat (.int .i64))], []⟩
def post_take : List Shape := [⟨[.a [.dat (.int .i64), .dat (.int .i64)], .c (.dat .bool), .c (.dat .err)], []⟩]
def ann_take : Ann := .no
/-- what turnstile/bucket.Take comes to. -/
def take (n : Nat) (x : Int × Int × Int × Int × Int × Int × Int) : Option (Int × Int × Bool × Int) :=
  match x with
  | (x1, (x2, (x3, (x4, (x5, (x6, x7)))))) =>
  (Option.bind (bfill n (x1, (x2, (x3, (x4, (x5, (x6, x7))))))) fun r8 =>
  (if (!(r8.2.2 == (0 : Int))) = true then
  some ((0 : Int), ((0 : Int), (false, r8.2.2)))
  else
  (if (decide (r8.1 < x5)) = true then
  some (r8.1, (r8.2.1, (false, (0 : Int))))
  else
  some ((IntKind.wrap .i64 (r8.1 - x5)), (r8.2.1, (true, (0 : Int)))))))
def sp_take (n : Nat) : Spec := ⟨pre_take, post_take, take n⟩
def env_take (n : Nat) : List (FuncId × Spec) := [(5, sp_bfill n)]
theorem run_take (n : Nat) (x : pre_take.T) : fnRun Try.prog 42 (envOf (env_take n)) n Try.f7 ann_take pre_take post_take x = take n x := by kernel_rfl
theorem ok_take (n : Nat) : FnOK Try.prog 42 L0 7 (sp_take n) :=
  fn_run mixed Try.func7 (sp_take n) n ann_take (env_take n) (envOf_cons (ok_bfill n) envOf_nil) (run_take n) (by kernel_rfl)
def pre_wait : Shape := ⟨[.a [.dat (.int .i64), .dat (.int .i64)], .a [.dat (.int .i64), .dat (.int .i64), .dat (.int .i64), .dat (.int .i64)], .c (.dat (.int .i64))], []⟩
def post_wait : List Shape := [⟨[.c (.dat (.int .i64)), .c (.dat .err)], []⟩]
def ann_wait : Ann := .no
/-- what turnstile/bucket.Wait comes to. -/
def wait (n : Nat) (x : Int × Int × Int × Int × Int × Int × Int) : Option (Int × Int) :=
  match x with
  | (x1, (x2, (x3, (x4, (x5, (x6, x7)))))) =>
  (Option.bind (bfill n (x1, (x2, (x3, (x4, (x5, (x6, x7))))))) fun r8 =>
  (if (!(r8.2.2 == (0 : Int))) = true then
  some ((0 : Int), r8.2.2)
  else
  (if (decide (r8.1 ≥ x5)) = true then
  some ((0 : Int), r8.2.2)
  else
  (let u9 : Int := (IntKind.wrap .i64 ((IntKind.wrap .i64 (x5 - r8.1)) + x4))
  (if x4 = 0 then none else
  (let u10 : Int := (IntKind.wrap .i64 (Int.tdiv (IntKind.wrap .i64 (u9 - (1 : Int))) x4))
  some (u10, (0 : Int))))))))
def sp_wait (n : Nat) : Spec := ⟨pre_wait, post_wait, wait n⟩
def env_wait (n : Nat) : List (FuncId × Spec) := [(5, sp_bfill n)]
theorem run_wait (n : Nat) (x : pre_wait.T) : fnRun Try.prog 42 (envOf (env_wait n)) n Try.f6 ann_wait pre_wait post_wait x = wait n x := by kernel_rfl
theorem ok_wait (n : Nat) : FnOK Try.prog 42 L0 6 (sp_wait n) :=
  fn_run mixed Try.func6 (sp_wait n) n ann_wait (env_wait n) (envOf_cons (ok_bfill n) envOf_nil) (run_wait n) (by kernel_rfl)
def pre_most : Shape := ⟨[.a [.dat (.int .i64), .dat (.int .i64), .dat (.int .i64), .dat (.int .i64)], .c (.dat (.int .i64))], []⟩
def post_most : List Shape := [⟨[.c (.dat (.int .i64)), .c (.dat .err)], []⟩]
def ann_most : Ann := .no
/-- what turnstile/bucket.Most comes to. -/
def most (n : Nat) (x : Int × Int × Int × Int × Int) : Option (Int × Int) :=
  match x with
  | (x1, (x2, (x3, (x4, x5)))) =>
  (Option.bind (valid n (x1, (x2, (x3, x4)))) fun r6 =>
  (if (!(r6 == (0 : Int))) = true then
  some ((0 : Int), r6)
  else
  (Option.bind (tick n x5) fun r7 =>
  (if (!r7) = true then
  some ((0 : Int), (1 : Int))
  else
  (if x3 = 0 then none else
  (let u8 : Int := (IntKind.wrap .i64 (Int.tdiv (IntKind.wrap .i64 (x2 * x5)) x3))
  some ((IntKind.wrap .i64 (x4 + u8)), (0 : Int))))))))
def sp_most (n : Nat) : Spec := ⟨pre_most, post_most, most n⟩
def env_most (n : Nat) : List (FuncId × Spec) := [(11, sp_valid n), (12, sp_tick n)]
theorem run_most (n : Nat) (x : pre_most.T) : fnRun Try.prog 42 (envOf (env_most n)) n Try.f9 ann_most pre_most post_most x = most n x := by kernel_rfl
theorem ok_most (n : Nat) : FnOK Try.prog 42 L0 9 (sp_most n) :=
  fn_run mixed Try.func9 (sp_most n) n ann_most (env_most n) (envOf_cons (ok_valid n) (envOf_cons (ok_tick n) envOf_nil)) (run_most n) (by kernel_rfl)
def pre_sure : Shape := ⟨[], []⟩
def post_sure : List Shape := [⟨[.c (.dat .bool)], []⟩]
def ann_sure : Ann := .no
/-- what turnstile/turnstilelaw21.sure comes to. -/
def sure (n : Nat) (x : Unit) : Option (Bool) :=
  (Option.bind (full n ((0 : Int), ((1 : Int), ((3 : Int), ((2 : Int), (0 : Int)))))) fun r1 =>
  (Option.bind (take n (r1.1, (r1.2.1, ((0 : Int), ((1 : Int), ((3 : Int), ((2 : Int), (0 : Int)))))))) fun r2 =>
  (if (r1.1 == (6 : Int)) = true then
  (if (r1.2.2 == (0 : Int)) = true then
  (if r2.2.2.1 = true then
  some (r2.2.2.2 == (0 : Int))
  else
  some false)
  else
  some false)
  else
  some false)))
def sp_sure (n : Nat) : Spec := ⟨pre_sure, post_sure, sure n⟩
def env_sure (n : Nat) : List (FuncId × Spec) := [(4, sp_full n), (7, sp_take n)]
theorem run_sure (n : Nat) (x : pre_sure.T) : fnRun Try.prog 42 (envOf (env_sure n)) n Try.f10 ann_sure pre_sure post_sure x = sure n x := by kernel_rfl
theorem ok_sure (n : Nat) : FnOK Try.prog 42 L0 10 (sp_sure n) :=
  fn_run mixed Try.func10 (sp_sure n) n ann_sure (env_sure n) (envOf_cons (ok_full n) (envOf_cons (ok_take n) envOf_nil)) (run_sure n) (by kernel_rfl)
def pre_bucketBound : Shape := ⟨[.a [.dat (.int .i64), .dat (.int .i64), .dat (.int .i64), .dat (.int .i64)], .c (.dat (.list (.int .i64)))], []⟩
def post_bucketBound : List Shape := [⟨[.c (.dat .bool)], []⟩]
def ann_bucketBound : Ann := (.two .no (.two .no (.two .no (.two .no (.two .no (.two .no (.two (.two .no (.one (.loop ⟨[1, 2, 5, 7, 8, 9], ⟨[.c (.dat (.list (.int .i64))), .c (.ptr 500 0), .c (.ptr 501 0), .c (.own 502), .c (.dat (.int .i64)), .c (.dat (.int .i64))], [(500, .cells 23 [.dat (.int .i64), .dat (.int .i64), .dat (.int .i64), .dat (.int .i64)]), (501, .cells 27 [.dat (.int .i64), .dat (.int .i64)]), (502, .row 3 (.int .i64))]⟩⟩ (.two (.two (.join ⟨[1, 2, 5, 7, 8, 9, 65], ⟨[.c (.dat (.list (.int .i64))), .c (.ptr 500 0), .c (.ptr 501 0), .c (.own 502), .c (.dat (.int .i64)), .c (.dat (.int .i64)), .c (.dat .bool)], [(500, .cells 23 [.dat (.int .i64), .dat (.int .i64), .dat (.int .i64), .dat (.int .i64)]), (501, .cells 27 [.dat (.int .i64), .dat (.int .i64)]), (502, .row 3 (.int .i64))]⟩⟩ .no) .no) .no)))) (.two (.two .no (.one (.loop ⟨[2, 7, 26], ⟨[.c (.ptr 500 0), .c (.own 501), .c (.dat (.int .i64))], [(500, .cells 23 [.dat (.int .i64), .dat (.int .i64), .dat (.int .i64), .dat (.int .i64)]), (501, .row 3 (.int .i64))]⟩⟩ (.two .no (.two (.one (.two .no (.one (.loop ⟨[2, 7, 26, 27], ⟨[.c (.ptr 500 0), .c (.own 501), .c (.dat (.int .i64)), .c (.dat (.int .i64))], [(500, .cells 23 [.dat (.int .i64), .dat (.int .i64), .dat (.int .i64), .dat (.int .i64)]), (501, .row 3 (.int .i64))]⟩⟩ .no)))) .no))))) .no))))))))
/-- what turnstile/turnstilelaw21.BucketBound comes to. -/
def bucketBound (n : Nat) (x : Int × Int × Int × Int × List Int) : Option (Bool) :=
  match x with
  | (x1, (x2, (x3, (x4, x5)))) =>
  (let u6 : Int := (Int.tmod (IntKind.wrap .u64 x2) (20 : Int))
  (let u7 : Int := (IntKind.wrap .i64 ((1 : Int) + (IntKind.wrap .i64 u6)))
  (let u8 : Int := (Int.tmod (IntKind.wrap .u64 x3) (20 : Int))
  (let u9 : Int := (IntKind.wrap .i64 ((1 : Int) + (IntKind.wrap .i64 u8)))
  (let u10 : Int := (Int.tmod (IntKind.wrap .u64 x4) (20 : Int))
  (let u11 : Int := (IntKind.wrap .i64 ((1 : Int) + (IntKind.wrap .i64 u10)))
  (Option.bind (full n (x1, (u7, (u9, (u11, (0 : Int)))))) fun r12 =>
  (if (!(r12.2.2 == (0 : Int))) = true then
  some false
  else
  (loopF (X := (List Int) × Int × Int × Int × Int × Int × Int × Int × Int × List Int) (A := Bool) (fun rec13 y14 => match y14 with
  | (a15, (a16, (a17, (a18, (a19, (a20, (a21, (a22, (a23, a24))))))))) =>
  (Option.bind (α := Out ((List Int) × Int × Int × Bool × Int × Int × Int × Int × Int × Int × List Int) (Bool)) ((if (decide (a17 < (a15.length : Int))) = true then
  (some (Out.go (a15, (a16, (a17, ((decide (a17 < (100 : Int))), (a18, (a19, (a20, (a21, (a22, (a23, a24))))))))))))
  else
  (some (Out.go (a15, (a16, (a17, (false, (a18, (a19, (a20, (a21, (a22, (a23, a24)))))))))))))) fun o => match o with
  | .go (z26, (z27, (z28, (z29, (z30, (z31, (z32, (z33, (z34, (z35, z36)))))))))) =>
  (if z29 = true then
  (Option.bind (idx z26 z28) fun v37 =>
  (let u38 : Int := (Int.tmod (IntKind.wrap .u64 v37) (7 : Int))
  (let u39 : Int := (IntKind.wrap .i64 (z27 + (IntKind.wrap .i64 u38)))
  (Option.bind (idx z26 z28) fun v40 =>
  (let u41 : Int := (Int.tmod (IntKind.wrap .u64 v40) (3 : Int))
  (let u42 : Int := (IntKind.wrap .i64 (u39 + (IntKind.wrap .i64 u41)))
  (Option.bind (bfill n (z34, (z35, (z30, (z31, (z32, (z33, u39))))))) fun r43 =>
  (Option.bind (bfill n (r43.1, (r43.2.1, (z30, (z31, (z32, (z33, u42))))))) fun r44 =>
  (Option.bind (bfill n (z34, (z35, (z30, (z31, (z32, (z33, u42))))))) fun r45 =>
  (if (!(r43.2.2 == (0 : Int))) = true then
  some false
  else
  (if (!(r44.2.2 == (0 : Int))) = true then
  some false
  else
  (if (!(r45.2.2 == (0 : Int))) = true then
  some false
  else
  (if (!((r44.1 == r45.1) && ((r44.2.1 == r45.2.1) && true))) = true then
  some false
  else
  (Option.bind (wait n (z34, (z35, (z30, (z31, (z32, (z33, u42))))))) fun r46 =>
  (Option.bind (take n (z34, (z35, (z30, (z31, (z32, (z33, u42))))))) fun r47 =>
  (if (!(r46.2 == (0 : Int))) = true then
  some false
  else
  (if (!(r47.2.2.2 == (0 : Int))) = true then
  some false
  else
  (if (!(r47.2.2.1 == (r46.1 == (0 : Int)))) = true then
  some false
  else
  (if (decide (r46.1 < (0 : Int))) = true then
  some false
  else
  (if r47.2.2.1 = true then
  (if (z36.length + 1) * 8 ≤ 140737488355328 then
  (let u48 : Int := (IntKind.wrap .i64 (z28 + (1 : Int)))
  rec13 (z26, (u42, (u48, (z30, (z31, (z32, (z33, (r47.1, (r47.2.1, (z36 ++ ([u42] : List Int))))))))))))
  else none)
  else
  (Option.bind (left n (z34, (z35, (z30, (z31, (z32, (z33, (IntKind.wrap .i64 (u42 + r46.1))))))))) fun r49 =>
  (let u50 : Int := (IntKind.wrap .i64 ((IntKind.wrap .i64 (u42 + r46.1)) - (1 : Int)))
  (Option.bind (left n (z34, (z35, (z30, (z31, (z32, (z33, u50))))))) fun r51 =>
  (if (!(r49.2 == (0 : Int))) = true then
  some false
  else
  (if (!(r51.2 == (0 : Int))) = true then
  some false
  else
  (if (decide (r49.1 < (1 : Int))) = true then
  some false
  else
  (if (r51.1 != (0 : Int)) = true then
  some false
  else
  (let u52 : Int := (IntKind.wrap .i64 (z28 + (1 : Int)))
  rec13 (z26, (u42, (u52, (z30, (z31, (z32, (z33, (r47.1, (r47.2.1, z36)))))))))))))))))))))))))))))))))))))
  else
  (loopF (X := Int × Int × Int × Int × Int × List Int) (A := Bool) (fun rec53 y54 => match y54 with
  | (a55, (a56, (a57, (a58, (a59, a60))))) =>
  (if (decide (a55 < (a60.length : Int))) = true then
  (loopF (X := Int × Int × Int × Int × Int × Int × List Int) (A := Bool) (fun rec61 y62 => match y62 with
  | (a63, (a64, (a65, (a66, (a67, (a68, a69)))))) =>
  (if (decide (a64 < (a69.length : Int))) = true then
  (if 0 ≤ a64 ∧ a64 < (a69.length : Int) then
  (if 0 ≤ a63 ∧ a63 < (a69.length : Int) then
  (let u70 : Int := (IntKind.wrap .i64 ((a69.getD a64.toNat (0 : Int)) - (a69.getD a63.toNat (0 : Int))))
  (Option.bind (most n (a65, (a66, (a67, (a68, u70))))) fun r71 =>
  (if (!(r71.2 == (0 : Int))) = true then
  some false
  else
  (let u72 : Int := (IntKind.wrap .i64 ((IntKind.wrap .i64 (a64 - a63)) + (1 : Int)))
  (if (decide (u72 > r71.1)) = true then
  some false
  else
  (let u73 : Int := (IntKind.wrap .i64 (a64 + (1 : Int)))
  rec61 (a63, (u73, (a65, (a66, (a67, (a68, a69))))))))))))
  else none)
  else none)
  else
  (let u74 : Int := (IntKind.wrap .i64 (a63 + (1 : Int)))
  rec53 (u74, (a65, (a66, (a67, (a68, a69)))))))) n (a55, (a55, (a56, (a57, (a58, (a59, a60)))))))
  else
  (Option.bind (sure n ()) fun r75 =>
  some r75))) n ((0 : Int), (z30, (z31, (z32, (z33, z36)))))))
  | .ret r76 => some r76)) n (x5, ((0 : Int), ((0 : Int), (x1, (u7, (u9, (u11, (r12.1, (r12.2.1, ([] : List Int)))))))))))))))))))
def sp_bucketBound (n : Nat) : Spec := ⟨pre_bucketBound, post_bucketBound, bucketBound n⟩
def env_bucketBound (n : Nat) : List (FuncId × Spec) := [(4, sp_full n), (5, sp_bfill n), (6, sp_wait n), (7, sp_take n), (8, sp_left n), (9, sp_most n), (10, sp_sure n)]
theorem run_bucketBound (n : Nat) (x : pre_bucketBound.T) : fnRun Try.prog 42 (envOf (env_bucketBound n)) n Try.f3 ann_bucketBound pre_bucketBound post_bucketBound x = bucketBound n x := by kernel_rfl
theorem ok_bucketBound (n : Nat) : FnOK Try.prog 42 L0 3 (sp_bucketBound n) :=
  fn_run mixed Try.func3 (sp_bucketBound n) n ann_bucketBound (env_bucketBound n) (envOf_cons (ok_full n) (envOf_cons (ok_bfill n) (envOf_cons (ok_wait n) (envOf_cons (ok_take n) (envOf_cons (ok_left n) (envOf_cons (ok_most n) (envOf_cons (ok_sure n) envOf_nil))))))) (run_bucketBound n) (by kernel_rfl)
end Go.Sx.Ytacelemieinhcaa
