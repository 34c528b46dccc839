/- Part of a proof by a small interpreter on plain values; no condition. -/
import Derived.Test.YtobhaaegjffaaaaSx19
import Derived.Test.YtobhaaegjffaaaaProg
/-! written by program: the functions as plain ones, and their contracts. -/
namespace Go.Sx.Ytobhaaegjffaaaa
open Go Go.Sx Go.Proofs
set_option autoImplicit false
set_option maxRecDepth 100000
set_option linter.unusedVariables false
theorem mixed : Try.prog.follows .mixedOrders = true := by kernel_rfl
def pre_numbers : Shape := ⟨[.c (.dat (.list (.int .i64))), .c (.dat (.list (.int .i64)))], []⟩
def post_numbers : List Shape := [⟨[.c (.dat .bool)], []⟩]
def ann_numbers : Ann := (.two .no (.two .no (.two (.two .no (.one (.loop ⟨[0, 1, 5], ⟨[.c (.dat (.list (.int .i64))), .c (.dat (.list (.int .i64))), .c (.dat (.int .i64))], []⟩⟩ .no))) .no)))
/-- what turnstile/turnstilelaw25.numbers comes to. -/
def numbers (n : Nat) (x : (List Int) × List Int) : Option (Bool) :=
  (if ((x.1.length : Int) != (x.2.length : Int)) = true then
  some false
  else
  (loopF (X := (List Int) × (List Int) × Int) (A := Bool) (fun rec1 y2 => match y2 with
  | (a3, (a4, a5)) =>
  (if (decide (a5 < (a3.length : Int))) = true then
  (Option.bind (idx a3 a5) fun v6 =>
  (Option.bind (idx a4 a5) fun v7 =>
  (if (v6 != v7) = true then
  some false
  else
  rec1 (a3, (a4, (IntKind.wrap .i64 (a5 + (1 : Int))))))))
  else
  some true)) n (x.1, (x.2, (0 : Int)))))
def sp_numbers (n : Nat) : Spec := ⟨pre_numbers, post_numbers, numbers n⟩
def env_numbers (n : Nat) : List (FuncId × Spec) := []
theorem run_numbers (n : Nat) (x : pre_numbers.T) : fnRun Try.prog 36 (envOf (env_numbers n)) n Try.f8 ann_numbers pre_numbers post_numbers x = numbers n x := by kernel_rfl
theorem ok_numbers (n : Nat) : FnOK Try.prog 36 8 (sp_numbers n) :=
  fn_run mixed Try.func8 (sp_numbers n) n ann_numbers (env_numbers n) envOf_nil (run_numbers n) (by kernel_rfl)
def pre_wnew : Shape := ⟨[.c (.dat (.list (.int .i64)))], []⟩
def post_wnew : List Shape := [⟨[.c (.nilp), .c (.errc (1))], []⟩, ⟨[.c (.ptr 0 0), .c (.errc (0))], [(0, .cells 38 [.own 1, .own 2]), (1, .row 3 (.int .i64)), (2, .row 3 (.int .i64))]⟩]
def ann_wnew : Ann := (.two .no (.two .no (.two (.two .no (.one (.loop ⟨[0, 15, 16, 17], ⟨[.c (.dat (.list (.int .i64))), .c (.dat (.list (.int .i64))), .c (.dat (.int .i64)), .c (.dat (.int .i64))], []⟩⟩ .no))) .no)))
/-- what turnstile/wrr.New comes to. -/
def wnew (n : Nat) (x : List Int) : Option (Unit ⊕ ((List Int) × List Int)) :=
  (if (decide ((x.length : Int) < (1 : Int))) = true then
  some (Sum.inl ())
  else
  (if (decide ((x.length : Int) > (64 : Int))) = true then
  some (Sum.inl ())
  else
  (loopF (X := (List Int) × (List Int) × Int × Int) (A := Unit ⊕ ((List Int) × List Int)) (fun rec1 y2 => match y2 with
  | (a3, (a4, (a5, a6))) =>
  (if (decide (a6 < a5)) = true then
  (Option.bind (idx a4 a6) fun v7 =>
  (if (decide (v7 < (1 : Int))) = true then
  some (Sum.inl ())
  else
  (if (decide (v7 > (1048576 : Int))) = true then
  some (Sum.inl ())
  else
  rec1 (a3, (a4, (a5, (IntKind.wrap .i64 (a6 + (1 : Int)))))))))
  else
  (if a3.length * 8 ≤ 140737488355328 then
  (if 0 ≤ (a3.length : Int) ∧ (a3.length : Int) ≤ (a3.length : Int) ∧ (8 : Int) * (a3.length : Int) ≤ 140737488355328 then
  (let u8 : List Int := (List.replicate (a3.length : Int).toNat (0 : Int))
  some (Sum.inr (a3, u8)))
  else none)
  else none))) n (x, (x, ((x.length : Int), (0 : Int)))))))
def sp_wnew (n : Nat) : Spec := ⟨pre_wnew, post_wnew, wnew n⟩
def env_wnew (n : Nat) : List (FuncId × Spec) := []
theorem run_wnew (n : Nat) (x : pre_wnew.T) : fnRun Try.prog 36 (envOf (env_wnew n)) n Try.f4 ann_wnew pre_wnew post_wnew x = wnew n x := by kernel_rfl
theorem ok_wnew (n : Nat) : FnOK Try.prog 36 4 (sp_wnew n) :=
  fn_run mixed Try.func4 (sp_wnew n) n ann_wnew (env_wnew n) envOf_nil (run_wnew n) (by kernel_rfl)
def pre_pick : Shape := ⟨[.c (.ptr 0 0), .c (.dat (.list .bool))], [(0, .cells 38 [.own 1, .own 2]), (1, .row 3 (.int .i64)), (2, .row 3 (.int .i64))]⟩
def post_pick : List Shape := [⟨[.c (.dat (.int .i64)), .c (.dat .err)], [(0, .cells 38 [.own 1, .own 2]), (1, .row 3 (.int .i64)), (2, .row 3 (.int .i64))]⟩]
def ann_pick : Ann := (.two .no (.two .no (.two .no (.two (.two .no (.one (.loop ⟨[0, 6, 7, 23, 24, 25], ⟨[.c (.ptr 0 0), .c (.dat (.int .i64)), .c (.dat (.int .i64)), .c (.dat (.list .bool)), .c (.dat (.int .i64)), .c (.dat (.int .i64))], [(0, .cells 38 [.own 500, .own 501]), (500, .row 3 (.int .i64)), (501, .row 3 (.int .i64))]⟩⟩ .no))) .no))))
/-- what (turnstile/wrr.Turns).Pick comes to. -/
def pick (n : Nat) (x : (List Bool) × (List Int) × List Int) : Option (Int × Int × (List Int) × List Int) :=
  (if ((x.1.length : Int) != (x.2.1.length : Int)) = true then
  some ((0 : Int), ((1 : Int), (x.2.1, x.2.2)))
  else
  (loopF (X := Int × Int × (List Bool) × Int × Int × (List Int) × List Int) (A := Int × Int × (List Int) × List Int) (fun rec1 y2 => match y2 with
  | (a3, (a4, (a5, (a6, (a7, (a8, a9)))))) =>
  (if (decide (a7 < a6)) = true then
  (Option.bind (idx a5 a7) fun v10 =>
  (if (!v10) = true then
  rec1 (a3, (a4, (a5, (a6, ((IntKind.wrap .i64 (a7 + (1 : Int))), (a8, a9))))))
  else
  (if 0 ≤ a7 ∧ a7 < (a8.length : Int) then
  (let u11 : Int := (IntKind.wrap .i64 (a4 + (a8.getD a7.toNat (0 : Int))))
  (if 0 ≤ a7 ∧ a7 < (a9.length : Int) then
  (if 0 ≤ a7 ∧ a7 < (a8.length : Int) then
  (let u12 : Int := (IntKind.wrap .i64 ((a9.getD a7.toNat (0 : Int)) + (a8.getD a7.toNat (0 : Int))))
  (if 0 ≤ a7 ∧ a7 < (a9.length : Int) then
  (if (decide (a3 < (0 : Int))) = true then
  rec1 (a7, (u11, (a5, (a6, ((IntKind.wrap .i64 (a7 + (1 : Int))), (a8, (a9.set a7.toNat u12)))))))
  else
  (if 0 ≤ a7 ∧ a7 < ((a9.set a7.toNat u12).length : Int) then
  (let u13 : Int := ((a9.set a7.toNat u12).getD a7.toNat (0 : Int))
  (if 0 ≤ a3 ∧ a3 < ((a9.set a7.toNat u12).length : Int) then
  (let u14 : Int := ((a9.set a7.toNat u12).getD a3.toNat (0 : Int))
  (if (decide (u13 > u14)) = true then
  rec1 (a7, (u11, (a5, (a6, ((IntKind.wrap .i64 (a7 + (1 : Int))), (a8, (a9.set a7.toNat u12)))))))
  else
  rec1 (a3, (u11, (a5, (a6, ((IntKind.wrap .i64 (a7 + (1 : Int))), (a8, (a9.set a7.toNat u12)))))))))
  else none))
  else none))
  else none))
  else none)
  else none))
  else none)))
  else
  (if (decide (a3 < (0 : Int))) = true then
  some ((0 : Int), ((8 : Int), (a8, a9)))
  else
  (if 0 ≤ a3 ∧ a3 < (a9.length : Int) then
  (let u15 : Int := (IntKind.wrap .i64 ((a9.getD a3.toNat (0 : Int)) - a4))
  (if 0 ≤ a3 ∧ a3 < (a9.length : Int) then
  some (a3, ((0 : Int), (a8, (a9.set a3.toNat u15))))
  else none))
  else none)))) n ((-1 : Int), ((0 : Int), (x.1, ((x.1.length : Int), ((0 : Int), (x.2.1, x.2.2))))))))
def sp_pick (n : Nat) : Spec := ⟨pre_pick, post_pick, pick n⟩
def env_pick (n : Nat) : List (FuncId × Spec) := []
theorem run_pick (n : Nat) (x : pre_pick.T) : fnRun Try.prog 36 (envOf (env_pick n)) n Try.f6 ann_pick pre_pick post_pick x = pick n x := by kernel_rfl
theorem ok_pick (n : Nat) : FnOK Try.prog 36 6 (sp_pick n) :=
  fn_run mixed Try.func6 (sp_pick n) n ann_pick (env_pick n) envOf_nil (run_pick n) (by kernel_rfl)
def pre_pick0 : Shape := ⟨[.c (.nilp), .c (.dat (.list .bool))], []⟩
def post_pick0 : List Shape := [⟨[.c (.dat (.int .i64)), .c (.dat .err)], []⟩]
def ann_pick0 : Ann := .no
/-- what (turnstile/wrr.Turns).Pick comes to. -/
def pick0 (n : Nat) (x : List Bool) : Option (Int × Int) :=
  some ((0 : Int), (1 : Int))
def sp_pick0 (n : Nat) : Spec := ⟨pre_pick0, post_pick0, pick0 n⟩
def env_pick0 (n : Nat) : List (FuncId × Spec) := []
theorem run_pick0 (n : Nat) (x : pre_pick0.T) : fnRun Try.prog 36 (envOf (env_pick0 n)) n Try.f6 ann_pick0 pre_pick0 post_pick0 x = pick0 n x := by kernel_rfl
theorem ok_pick0 (n : Nat) : FnOK Try.prog 36 6 (sp_pick0 n) :=
  fn_run mixed Try.func6 (sp_pick0 n) n ann_pick0 (env_pick0 n) envOf_nil (run_pick0 n) (by kernel_rfl)
def pre_state : Shape := ⟨[.c (.ptr 0 0)], [(0, .cells 38 [.own 1, .own 2]), (1, .row 3 (.int .i64)), (2, .row 3 (.int .i64))]⟩
def post_state : List Shape := [⟨[.c (.dat (.list (.int .i64)))], [(0, .cells 38 [.own 1, .own 2]), (1, .row 3 (.int .i64)), (2, .row 3 (.int .i64))]⟩]
def ann_state : Ann := .no
/-- what (turnstile/wrr.Turns).State comes to. -/
def state (n : Nat) (x : (List Int) × List Int) : Option ((List Int) × (List Int) × List Int) :=
  (if x.2.length * 8 ≤ 140737488355328 then
  some (x.2, (x.1, x.2))
  else none)
def sp_state (n : Nat) : Spec := ⟨pre_state, post_state, state n⟩
def env_state (n : Nat) : List (FuncId × Spec) := []
theorem run_state (n : Nat) (x : pre_state.T) : fnRun Try.prog 36 (envOf (env_state n)) n Try.f7 ann_state pre_state post_state x = state n x := by kernel_rfl
theorem ok_state (n : Nat) : FnOK Try.prog 36 7 (sp_state n) :=
  fn_run mixed Try.func7 (sp_state n) n ann_state (env_state n) envOf_nil (run_state n) (by kernel_rfl)
def pre_sequence : Shape := ⟨[.c (.dat (.list (.int .i64))), .c (.dat (.int .i64))], []⟩
def post_sequence : List Shape := [⟨[.c (.dat (.list (.int .i64))), .c (.dat .err)], []⟩]
def ann_sequence : Ann := (.two .no (.two .no (.two .no (.two .no (.two .no (.two (.two .no (.one (.loop ⟨[1, 6, 8, 32, 33], ⟨[.c (.dat (.int .i64)), .c (.ptr 500 0), .c (.own 503), .c (.dat (.int .i64)), .c (.dat (.int .i64))], [(500, .cells 38 [.own 501, .own 502]), (501, .row 3 (.int .i64)), (502, .row 3 (.int .i64)), (503, .row 4 .bool)]⟩⟩ .no))) (.two .no (.two (.two .no (.one (.loop ⟨[6, 8, 10, 40, 41], ⟨[.c (.ptr 500 0), .c (.dat (.list .bool)), .c (.own 503), .c (.dat (.int .i64)), .c (.dat (.int .i64))], [(500, .cells 38 [.own 501, .own 502]), (501, .row 3 (.int .i64)), (502, .row 3 (.int .i64)), (503, .row 3 (.int .i64))]⟩⟩ .no))) .no))))))))
/-- what turnstile/wrr.Sequence comes to. -/
def sequence (n : Nat) (x : (List Int) × Int) : Option ((List Int) × Int) :=
  (Option.bind (wnew n x.1) fun r1 =>
  (match r1 with
  | Sum.inl a2 =>
  some (([] : List Int), (1 : Int))
  | Sum.inr b3 =>
  (if (decide (x.2 < (0 : Int))) = true then
  some (([] : List Int), (1 : Int))
  else
  (if (decide (x.2 > (65536 : Int))) = true then
  some (([] : List Int), (1 : Int))
  else
  (if 0 ≤ (x.1.length : Int) ∧ (x.1.length : Int) ≤ (x.1.length : Int) ∧ (1 : Int) * (x.1.length : Int) ≤ 140737488355328 then
  (let u4 : List Bool := (List.replicate (x.1.length : Int).toNat false)
  (loopF (X := Int × Int × Int × (List Int) × (List Int) × List Bool) (A := (List Int) × Int) (fun rec5 y6 => match y6 with
  | (a7, (a8, (a9, (a10, (a11, a12))))) =>
  (if (decide (a9 < a8)) = true then
  (if 0 ≤ a9 ∧ a9 < (a12.length : Int) then
  rec5 (a7, (a8, ((IntKind.wrap .i64 (a9 + (1 : Int))), (a10, (a11, (a12.set a9.toNat true))))))
  else none)
  else
  (loopF (X := (List Bool) × Int × Int × (List Int) × (List Int) × List Int) (A := (List Int) × Int) (fun rec13 y14 => match y14 with
  | (a15, (a16, (a17, (a18, (a19, a20))))) =>
  (if (decide (a17 < a16)) = true then
  (Option.bind (pick n (a15, (a18, a19))) fun r21 =>
  (if (a20.length + 1) * 8 ≤ 140737488355328 then
  (let u22 : Int := (IntKind.wrap .i64 (a17 + (1 : Int)))
  rec13 (a15, (a16, (u22, (r21.2.2.1, (r21.2.2.2, (a20 ++ ([r21.1] : List Int))))))))
  else none))
  else
  some (a20, (0 : Int)))) n (a12, (a7, ((0 : Int), (a10, (a11, ([] : List Int))))))))) n (x.2, ((u4.length : Int), ((0 : Int), (b3.1, (b3.2, u4)))))))
  else none)))))
def sp_sequence (n : Nat) : Spec := ⟨pre_sequence, post_sequence, sequence n⟩
def env_sequence (n : Nat) : List (FuncId × Spec) := [(4, sp_wnew n), (6, sp_pick n), (6, sp_pick0 n)]
theorem run_sequence (n : Nat) (x : pre_sequence.T) : fnRun Try.prog 36 (envOf (env_sequence n)) n Try.f9 ann_sequence pre_sequence post_sequence x = sequence n x := by kernel_rfl
theorem ok_sequence (n : Nat) : FnOK Try.prog 36 9 (sp_sequence n) :=
  fn_run mixed Try.func9 (sp_sequence n) n ann_sequence (env_sequence n) (envOf_cons (ok_wnew n) (envOf_cons (ok_pick n) (envOf_cons (ok_pick0 n) envOf_nil))) (run_sequence n) (by kernel_rfl)
def pre_sure : Shape := ⟨[], []⟩
def post_sure : List Shape := [⟨[.c (.dat .bool)], []⟩]
def ann_sure : Ann := .no
/-- what turnstile/turnstilelaw25.sure comes to. -/
def sure (n : Nat) (x : Unit) : Option (Bool) :=
  (Option.bind (sequence n (([(5 : Int), (1 : Int), (1 : Int)] : List Int), (7 : Int))) fun r1 =>
  (if (r1.2 == (0 : Int)) = true then
  (Option.bind (numbers n (r1.1, ([(0 : Int), (0 : Int), (1 : Int), (0 : Int), (2 : Int), (0 : Int), (0 : Int)] : List Int))) fun r2 =>
  some r2)
  else
  some false))
def sp_sure (n : Nat) : Spec := ⟨pre_sure, post_sure, sure n⟩
def env_sure (n : Nat) : List (FuncId × Spec) := [(9, sp_sequence n), (8, sp_numbers n)]
theorem run_sure (n : Nat) (x : pre_sure.T) : fnRun Try.prog 36 (envOf (env_sure n)) n Try.f5 ann_sure pre_sure post_sure x = sure n x := by kernel_rfl
theorem ok_sure (n : Nat) : FnOK Try.prog 36 5 (sp_sure n) :=
  fn_run mixed Try.func5 (sp_sure n) n ann_sure (env_sure n) (envOf_cons (ok_sequence n) (envOf_cons (ok_numbers n) envOf_nil)) (run_sure n) (by kernel_rfl)
def pre_wrrFair : Shape := ⟨[.c (.dat (.list (.int .i64))), .c (.dat (.int .i64))], []⟩
def post_wrrFair : List Shape := [⟨[.c (.dat .bool)], []⟩]
def ann_wrrFair : Ann := (.two .no (.two .no (.two .no (.two (.two .no (.one (.loop ⟨[0, 1, 5, 6, 7], ⟨[.c (.dat (.list (.int .i64))), .c (.dat (.int .i64)), .c (.own 500), .c (.dat (.int .i64)), .c (.dat (.int .i64))], [(500, .row 3 (.int .i64))]⟩⟩ (.two (.two (.join ⟨[0, 1, 5, 6, 7, 29], ⟨[.c (.dat (.list (.int .i64))), .c (.dat (.int .i64)), .c (.own 500), .c (.dat (.int .i64)), .c (.dat (.int .i64)), .c (.dat .bool)], [(500, .row 3 (.int .i64))]⟩⟩ .no) .no) .no)))) (.two .no (.two .no (.two .no (.two .no (.two (.two .no (.one (.loop ⟨[1, 5, 6, 10, 12, 13], ⟨[.c (.dat (.int .i64)), .c (.dat (.list (.int .i64))), .c (.dat (.int .i64)), .c (.ptr 500 0), .c (.own 503), .c (.dat (.int .i64))], [(500, .cells 38 [.own 501, .own 502]), (501, .row 3 (.int .i64)), (502, .row 3 (.int .i64)), (503, .row 4 .bool)]⟩⟩ .no))) (.two (.two .no (.one (.loop ⟨[1, 5, 6, 10, 12, 14], ⟨[.c (.dat (.int .i64)), .c (.dat (.list (.int .i64))), .c (.dat (.int .i64)), .c (.ptr 500 0), .c (.dat (.list .bool)), .c (.dat (.int .i64))], [(500, .cells 38 [.own 501, .own 502]), (501, .row 3 (.int .i64)), (502, .row 3 (.int .i64))]⟩⟩ (.two .no (.two (.one (.two .no (.two (.two .no (.one (.loop ⟨[1, 5, 6, 10, 12, 14, 15, 16], ⟨[.c (.dat (.int .i64)), .c (.dat (.list (.int .i64))), .c (.dat (.int .i64)), .c (.ptr 500 0), .c (.dat (.list .bool)), .c (.dat (.int .i64)), .c (.own 503), .c (.dat (.int .i64))], [(500, .cells 38 [.own 501, .own 502]), (501, .row 3 (.int .i64)), (502, .row 3 (.int .i64)), (503, .row 3 (.int .i64))]⟩⟩ (.two .no (.two (.one (.two .no (.two .no (.two .no (.two .no (.two .no (.two .no (.two (.two .no (.one (.loop ⟨[1, 5, 6, 10, 12, 14, 15, 16, 19, 20, 21], ⟨[.c (.dat (.int .i64)), .c (.dat (.list (.int .i64))), .c (.dat (.int .i64)), .c (.ptr 500 0), .c (.dat (.list .bool)), .c (.dat (.int .i64)), .c (.own 503), .c (.dat (.int .i64)), .c (.dat (.list (.int .i64))), .c (.dat (.int .i64)), .c (.dat (.int .i64))], [(500, .cells 38 [.own 501, .own 502]), (501, .row 3 (.int .i64)), (502, .row 3 (.int .i64)), (503, .row 3 (.int .i64))]⟩⟩ .no))) .no)))))))) .no))))) .no))) .no))))) .no))))))))))
/-- what turnstile/turnstilelaw25.WrrFair comes to. -/
def wrrFair (n : Nat) (x : (List Int) × Int) : Option (Bool) :=
  (loopF (X := (List Int) × Int × Int × Int × List Int) (A := Bool) (fun rec1 y2 => match y2 with
  | (a3, (a4, (a5, (a6, a7)))) =>
  (Option.bind (α := Out ((List Int) × Int × Int × Int × Bool × List Int) (Bool)) ((if (decide (a6 < (a3.length : Int))) = true then
  (some (Out.go (a3, (a4, (a5, (a6, ((decide (a6 < (8 : Int))), a7)))))))
  else
  (some (Out.go (a3, (a4, (a5, (a6, (false, a7))))))))) fun o => match o with
  | .go (z9, (z10, (z11, (z12, (z13, z14))))) =>
  (if z13 = true then
  (Option.bind (idx z9 z12) fun v15 =>
  (let u16 : Int := (Int.tmod (IntKind.wrap .u64 v15) (9 : Int))
  (let u17 : Int := (IntKind.wrap .i64 ((1 : Int) + (IntKind.wrap .i64 u16)))
  (if (z14.length + 1) * 8 ≤ 140737488355328 then
  (if 0 ≤ z12 ∧ z12 < ((z14 ++ ([u17] : List Int)).length : Int) then
  (let u18 : Int := ((z14 ++ ([u17] : List Int)).getD z12.toNat (0 : Int))
  (let u19 : Int := (IntKind.wrap .i64 (z12 + (1 : Int)))
  rec1 (z9, (z10, ((IntKind.wrap .i64 (z11 + u18)), (u19, (z14 ++ ([u17] : List Int))))))))
  else none)
  else none))))
  else
  (if ((z14.length : Int) == (0 : Int)) = true then
  (Option.bind (wnew n ([] : List Int)) fun r20 =>
  (match r20 with
  | Sum.inl a21 =>
  (Option.bind (sure n ()) fun r23 =>
  some r23)
  | Sum.inr b22 =>
  some false))
  else
  (Option.bind (wnew n z14) fun r24 =>
  (match r24 with
  | Sum.inl a25 =>
  some false
  | Sum.inr b26 =>
  (if 0 ≤ (z14.length : Int) ∧ (z14.length : Int) ≤ (z14.length : Int) ∧ (1 : Int) * (z14.length : Int) ≤ 140737488355328 then
  (let u27 : List Bool := (List.replicate (z14.length : Int).toNat false)
  (loopF (X := Int × (List Int) × Int × Int × (List Int) × (List Int) × List Bool) (A := Bool) (fun rec28 y29 => match y29 with
  | (a30, (a31, (a32, (a33, (a34, (a35, a36)))))) =>
  (if (decide (a33 < (a36.length : Int))) = true then
  (if 0 ≤ a33 ∧ a33 < (a36.length : Int) then
  (let u37 : Int := (IntKind.wrap .i64 (a33 + (1 : Int)))
  rec28 (a30, (a31, (a32, (u37, (a34, (a35, (a36.set a33.toNat true))))))))
  else none)
  else
  (loopF (X := Int × (List Int) × Int × (List Bool) × Int × (List Int) × List Int) (A := Bool) (fun rec38 y39 => match y39 with
  | (a40, (a41, (a42, (a43, (a44, (a45, a46)))))) =>
  (let u47 : Int := (Int.tmod (IntKind.wrap .u64 a40) (3 : Int))
  (let u48 : Int := (IntKind.wrap .i64 ((1 : Int) + (IntKind.wrap .i64 u47)))
  (if (decide (a44 < u48)) = true then
  (if 0 ≤ (a41.length : Int) ∧ (a41.length : Int) ≤ (a41.length : Int) ∧ (8 : Int) * (a41.length : Int) ≤ 140737488355328 then
  (let u49 : List Int := (List.replicate (a41.length : Int).toNat (0 : Int))
  (loopF (X := Int × (List Int) × Int × (List Bool) × Int × Int × (List Int) × (List Int) × List Int) (A := Bool) (fun rec50 y51 => match y51 with
  | (a52, (a53, (a54, (a55, (a56, (a57, (a58, (a59, a60)))))))) =>
  (if (decide (a57 ≤ a54)) = true then
  (Option.bind (pick n (a55, (a58, a59))) fun r61 =>
  (if (!(r61.2.1 == (0 : Int))) = true then
  some false
  else
  (if (decide (r61.1 < (0 : Int))) = true then
  some false
  else
  (if (decide (r61.1 ≥ (a53.length : Int))) = true then
  some false
  else
  (if 0 ≤ r61.1 ∧ r61.1 < (a60.length : Int) then
  (let u62 : Int := (IntKind.wrap .i64 ((a60.getD r61.1.toNat (0 : Int)) + (1 : Int)))
  (if 0 ≤ r61.1 ∧ r61.1 < (a60.length : Int) then
  (Option.bind (state n (r61.2.2.1, r61.2.2.2)) fun r63 =>
  (if ((r63.1.length : Int) != (a53.length : Int)) = true then
  some false
  else
  (loopF (X := Int × (List Int) × Int × (List Bool) × Int × Int × (List Int) × Int × Int × (List Int) × (List Int) × List Int) (A := Bool) (fun rec64 y65 => match y65 with
  | (a66, (a67, (a68, (a69, (a70, (a71, (a72, (a73, (a74, (a75, (a76, a77))))))))))) =>
  (if (decide (a74 < (a72.length : Int))) = true then
  (Option.bind (idx a72 a74) fun v78 =>
  (Option.bind (idx a72 a74) fun v79 =>
  (Option.bind (idx a67 a74) fun v80 =>
  (if 0 ≤ a74 ∧ a74 < (a77.length : Int) then
  (let u81 : Int := (IntKind.wrap .i64 ((a77.getD a74.toNat (0 : Int)) * a68))
  (let u82 : Int := (IntKind.wrap .i64 ((IntKind.wrap .i64 (a71 * v80)) - u81))
  (if (v79 != u82) = true then
  some false
  else
  (let u83 : Int := (IntKind.wrap .i64 (a74 + (1 : Int)))
  rec64 (a66, (a67, (a68, (a69, (a70, (a71, (a72, ((IntKind.wrap .i64 (a73 + v78)), (u83, (a75, (a76, a77)))))))))))))))
  else none))))
  else
  (if (a73 != (0 : Int)) = true then
  some false
  else
  (let u84 : Int := (IntKind.wrap .i64 (a71 + (1 : Int)))
  rec50 (a66, (a67, (a68, (a69, (a70, (u84, (a75, (a76, a77)))))))))))) n (a52, (a53, (a54, (a55, (a56, (a57, (r63.1, ((0 : Int), ((0 : Int), (r63.2.1, (r63.2.2, (a60.set r61.1.toNat u62)))))))))))))))
  else none))
  else none)))))
  else
  (Option.bind (numbers n (a60, a53)) fun r85 =>
  (if (!r85) = true then
  some false
  else
  (let u86 : Int := (IntKind.wrap .i64 (a56 + (1 : Int)))
  rec38 (a52, (a53, (a54, (a55, (u86, (a58, a59))))))))))) n (a40, (a41, (a42, (a43, (a44, ((1 : Int), (a45, (a46, u49))))))))))
  else none)
  else
  (Option.bind (sure n ()) fun r87 =>
  some r87))))) n (a30, (a31, (a32, (a36, ((0 : Int), (a34, a35))))))))) n (z10, (z14, (z11, ((0 : Int), (b26.1, (b26.2, u27))))))))
  else none)))))
  | .ret r88 => some r88)) n (x.1, (x.2, ((0 : Int), ((0 : Int), ([] : List Int))))))
def sp_wrrFair (n : Nat) : Spec := ⟨pre_wrrFair, post_wrrFair, wrrFair n⟩
def env_wrrFair (n : Nat) : List (FuncId × Spec) := [(4, sp_wnew n), (5, sp_sure n), (6, sp_pick n), (6, sp_pick0 n), (7, sp_state n), (8, sp_numbers n)]
theorem run_wrrFair (n : Nat) (x : pre_wrrFair.T) : fnRun Try.prog 36 (envOf (env_wrrFair n)) n Try.f3 ann_wrrFair pre_wrrFair post_wrrFair x = wrrFair n x := by kernel_rfl
theorem ok_wrrFair (n : Nat) : FnOK Try.prog 36 3 (sp_wrrFair n) :=
  fn_run mixed Try.func3 (sp_wrrFair n) n ann_wrrFair (env_wrrFair n) (envOf_cons (ok_wnew n) (envOf_cons (ok_sure n) (envOf_cons (ok_pick n) (envOf_cons (ok_pick0 n) (envOf_cons (ok_state n) (envOf_cons (ok_numbers n) envOf_nil)))))) (run_wrrFair n) (by kernel_rfl)
end Go.Sx.Ytobhaaegjffaaaa
