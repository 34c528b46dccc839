/- Part of a proof by a small interpreter on plain values; no condition. -/
import Derived.Test.YtobhaaegjffaaaaDoorD
import Derived.Test.YtobhaaegjffaaaaDoorProg
/-! written by program: the functions as plain ones, and their contracts. -/
namespace Go.Sx.YtobhaaegjffaaaaDoor
open Go Go.Sx Go.Proofs
set_option autoImplicit false
set_option maxRecDepth 100000
set_option linter.unusedVariables false
theorem mixed : Tryd.prog.follows .mixedOrders = true := by kernel_rfl
def pre_numbers : Shape := ⟨[.c (.dat (.list (.int .i64))), .c (.dat (.list (.int .i64)))], []⟩
def post_numbers : List Shape := [⟨[.c (.dat .bool)], []⟩]
def ann_numbers : Ann := (.two .no (.two .no (.two (.two .no (.one (.loop ⟨[0, 1, 5], ⟨[.c (.dat (.list (.int .i64))), .c (.dat (.list (.int .i64))), .c (.dat (.int .i64))], []⟩⟩ .no))) .no)))
/-- what turnstile/turnstilelaw25.numbers comes to. -/
def numbers (n : Nat) (x : (List Int) × List Int) : Option (Bool) :=
  match x with
  | (x1, x2) =>
  (if ((x1.length : Int) != (x2.length : Int)) = true then
  some false
  else
  (loopF (X := (List Int) × (List Int) × Int) (A := Bool) (fun rec3 y4 => match y4 with
  | (a5, (a6, a7)) =>
  (if (decide (a7 < (a5.length : Int))) = true then
  (Option.bind (idx a5 a7) fun v8 =>
  (Option.bind (idx a6 a7) fun v9 =>
  (if (v8 != v9) = true then
  some false
  else
  rec3 (a5, (a6, (IntKind.wrap .i64 (a7 + (1 : Int))))))))
  else
  some true)) n (x1, (x2, (0 : Int)))))
def sp_numbers (n : Nat) : Spec := ⟨pre_numbers, post_numbers, numbers n⟩
def env_numbers (n : Nat) : List (FuncId × Spec) := []
theorem run_numbers (n : Nat) (x : pre_numbers.T) : fnRun Tryd.prog 49 (envOf (env_numbers n)) n Tryd.f8 ann_numbers pre_numbers post_numbers x = numbers n x := by kernel_rfl
theorem ok_numbers (n : Nat) : FnOK Tryd.prog 49 LD 8 (sp_numbers n) :=
  fn_run mixed Tryd.func8 (sp_numbers n) n ann_numbers (env_numbers n) envOf_nil (run_numbers n) (by kernel_rfl)
def pre_wnew : Shape := ⟨[.c (.dat (.list (.int .i64)))], []⟩
def post_wnew : List Shape := [⟨[.c (.nilp), .c (.errc (1))], []⟩, ⟨[.c (.ptr 0 0), .c (.errc (0))], [(0, .cells 53 [.own 1, .own 2]), (1, .row 3 (.int .i64)), (2, .row 3 (.int .i64))]⟩]
def ann_wnew : Ann := (.two .no (.two .no (.two (.two .no (.one (.loop ⟨[0, 15, 16, 17], ⟨[.c (.dat (.list (.int .i64))), .c (.dat (.list (.int .i64))), .c (.dat (.int .i64)), .c (.dat (.int .i64))], []⟩⟩ .no))) .no)))
/-- what turnstile/wrr.New comes to. -/
def wnew (n : Nat) (x : List Int) : Option (Unit ⊕ ((List Int) × List Int)) :=
  (if (decide ((x.length : Int) < (1 : Int))) = true then
  some (Sum.inl ())
  else
  (if (decide ((x.length : Int) > (64 : Int))) = true then
  some (Sum.inl ())
  else
  (loopF (X := (List Int) × (List Int) × Int × Int) (A := Unit ⊕ ((List Int) × List Int)) (fun rec2 y3 => match y3 with
  | (a4, (a5, (a6, a7))) =>
  (if (decide (a7 < a6)) = true then
  (Option.bind (idx a5 a7) fun v8 =>
  (if (decide (v8 < (1 : Int))) = true then
  some (Sum.inl ())
  else
  (if (decide (v8 > (1048576 : Int))) = true then
  some (Sum.inl ())
  else
  rec2 (a4, (a5, (a6, (IntKind.wrap .i64 (a7 + (1 : Int)))))))))
  else
  (if a4.length * 8 ≤ 140737488355328 then
  (if 0 ≤ (a4.length : Int) ∧ (a4.length : Int) ≤ (a4.length : Int) ∧ (8 : Int) * (a4.length : Int) ≤ 140737488355328 then
  (let u9 : List Int := (List.replicate (a4.length : Int).toNat (0 : Int))
  some (Sum.inr (a4, u9)))
  else none)
  else none))) n (x, (x, ((x.length : Int), (0 : Int)))))))
def sp_wnew (n : Nat) : Spec := ⟨pre_wnew, post_wnew, wnew n⟩
def env_wnew (n : Nat) : List (FuncId × Spec) := []
theorem run_wnew (n : Nat) (x : pre_wnew.T) : fnRun Tryd.prog 49 (envOf (env_wnew n)) n Tryd.f11 ann_wnew pre_wnew post_wnew x = wnew n x := by kernel_rfl
theorem ok_wnew (n : Nat) : FnOK Tryd.prog 49 LD 11 (sp_wnew n) :=
  fn_run mixed Tryd.func11 (sp_wnew n) n ann_wnew (env_wnew n) envOf_nil (run_wnew n) (by kernel_rfl)
def pre_rNew : Shape := ⟨[.c (.dat (.list (.int .i64)))], []⟩
def post_rNew : List Shape := [⟨[.a [.dat (.list (.int .i64)), .dat (.list (.int .i64))], .c (.dat (.int .i64))], []⟩]
def ann_rNew : Ann := (.two .no (.two .no (.two .no (.two (.two .no (.one (.loop ⟨[0, 2, 4, 5], ⟨[.c (.dat (.list (.int .i64))), .c (.ptr 500 0), .c (.ptr 501 0), .c (.dat (.int .i64))], [(500, .cells 38 [.own 502, .own 503]), (501, .cells 38 [.own 504, .own 505]), (502, .row 3 (.int .i64)), (503, .row 3 (.int .i64)), (504, .row 3 (.int .i64)), (505, .row 3 (.int .i64))]⟩⟩ .no))) .no))))
/-- what turnstile/turnstileref25.New comes to. -/
def rNew (n : Nat) (x : List Int) : Option ((List Int) × (List Int) × Int) :=
  (if (decide ((x.length : Int) < (1 : Int))) = true then
  some (([] : List Int), (([] : List Int), (1 : Int)))
  else
  (if (decide ((x.length : Int) > (64 : Int))) = true then
  some (([] : List Int), (([] : List Int), (1 : Int)))
  else
  (loopF (X := (List Int) × Int × (List Int) × (List Int) × (List Int) × List Int) (A := (List Int) × (List Int) × Int) (fun rec2 y3 => match y3 with
  | (a4, (a5, (a6, (a7, (a8, a9))))) =>
  (if (decide (a5 < (a4.length : Int))) = true then
  (Option.bind (idx a4 a5) fun v10 =>
  (if (decide (v10 < (1 : Int))) = true then
  some (([] : List Int), (([] : List Int), (1 : Int)))
  else
  (Option.bind (idx a4 a5) fun v11 =>
  (if (decide (v11 > (1048576 : Int))) = true then
  some (([] : List Int), (([] : List Int), (1 : Int)))
  else
  (Option.bind (idx a4 a5) fun v12 =>
  (if (a8.length + 1) * 8 ≤ 140737488355328 then
  (if (a9.length + 1) * 8 ≤ 140737488355328 then
  rec2 (a4, ((IntKind.wrap .i64 (a5 + (1 : Int))), (a6, (a7, ((a8 ++ ([v12] : List Int)), (a9 ++ ([(0 : Int)] : List Int)))))))
  else none)
  else none))))))
  else
  some (a8, (a9, (0 : Int))))) n (x, ((0 : Int), (([] : List Int), (([] : List Int), (([] : List Int), ([] : List Int)))))))))
def sp_rNew (n : Nat) : Spec := ⟨pre_rNew, post_rNew, rNew n⟩
def env_rNew (n : Nat) : List (FuncId × Spec) := []
theorem run_rNew (n : Nat) (x : pre_rNew.T) : fnRun Tryd.prog 49 (envOf (env_rNew n)) n Tryd.f12 ann_rNew pre_rNew post_rNew x = rNew n x := by kernel_rfl
theorem ok_rNew (n : Nat) : FnOK Tryd.prog 49 LD 12 (sp_rNew n) :=
  fn_run mixed Tryd.func12 (sp_rNew n) n ann_rNew (env_rNew n) envOf_nil (run_rNew n) (by kernel_rfl)
def pre_pick : Shape := ⟨[.c (.ptr 0 0), .c (.dat (.list .bool))], [(0, .cells 53 [.own 1, .own 2]), (1, .row 3 (.int .i64)), (2, .row 3 (.int .i64))]⟩
def post_pick : List Shape := [⟨[.c (.dat (.int .i64)), .c (.dat .err)], [(0, .cells 53 [.own 1, .own 2]), (1, .row 3 (.int .i64)), (2, .row 3 (.int .i64))]⟩]
def ann_pick : Ann := (.two .no (.two .no (.two .no (.two (.two .no (.one (.loop ⟨[0, 6, 7, 23, 24, 25], ⟨[.c (.ptr 0 0), .c (.dat (.int .i64)), .c (.dat (.int .i64)), .c (.dat (.list .bool)), .c (.dat (.int .i64)), .c (.dat (.int .i64))], [(0, .cells 53 [.own 500, .own 501]), (500, .row 3 (.int .i64)), (501, .row 3 (.int .i64))]⟩⟩ .no))) .no))))
/-- what (turnstile/wrr.Turns).Pick comes to. -/
def pick (n : Nat) (x : (List Bool) × (List Int) × List Int) : Option (Int × Int × (List Int) × List Int) :=
  match x with
  | (x1, (x2, x3)) =>
  (if ((x1.length : Int) != (x2.length : Int)) = true then
  some ((0 : Int), ((1 : Int), (x2, x3)))
  else
  (loopF (X := Int × Int × (List Bool) × Int × Int × (List Int) × List Int) (A := Int × Int × (List Int) × List Int) (fun rec4 y5 => match y5 with
  | (a6, (a7, (a8, (a9, (a10, (a11, a12)))))) =>
  (if (decide (a10 < a9)) = true then
  (Option.bind (idx a8 a10) fun v13 =>
  (if (!v13) = true then
  (let u14 : Int := (IntKind.wrap .i64 (a10 + (1 : Int)))
  rec4 (a6, (a7, (a8, (a9, (u14, (a11, a12)))))))
  else
  (if 0 ≤ a10 ∧ a10 < (a11.length : Int) then
  (let u15 : Int := (IntKind.wrap .i64 (a7 + (a11.getD a10.toNat (0 : Int))))
  (if 0 ≤ a10 ∧ a10 < (a12.length : Int) then
  (if 0 ≤ a10 ∧ a10 < (a11.length : Int) then
  (let u16 : Int := (IntKind.wrap .i64 ((a12.getD a10.toNat (0 : Int)) + (a11.getD a10.toNat (0 : Int))))
  (if 0 ≤ a10 ∧ a10 < (a12.length : Int) then
  (if (decide (a6 < (0 : Int))) = true then
  (let u17 : Int := (IntKind.wrap .i64 (a10 + (1 : Int)))
  rec4 (a10, (u15, (a8, (a9, (u17, (a11, (a12.set a10.toNat u16))))))))
  else
  (if 0 ≤ a10 ∧ a10 < ((a12.set a10.toNat u16).length : Int) then
  (let u18 : Int := ((a12.set a10.toNat u16).getD a10.toNat (0 : Int))
  (if 0 ≤ a6 ∧ a6 < ((a12.set a10.toNat u16).length : Int) then
  (let u19 : Int := ((a12.set a10.toNat u16).getD a6.toNat (0 : Int))
  (if (decide (u18 > u19)) = true then
  (let u20 : Int := (IntKind.wrap .i64 (a10 + (1 : Int)))
  rec4 (a10, (u15, (a8, (a9, (u20, (a11, (a12.set a10.toNat u16))))))))
  else
  (let u21 : Int := (IntKind.wrap .i64 (a10 + (1 : Int)))
  rec4 (a6, (u15, (a8, (a9, (u21, (a11, (a12.set a10.toNat u16))))))))))
  else none))
  else none))
  else none))
  else none)
  else none))
  else none)))
  else
  (if (decide (a6 < (0 : Int))) = true then
  some ((0 : Int), ((8 : Int), (a11, a12)))
  else
  (if 0 ≤ a6 ∧ a6 < (a12.length : Int) then
  (let u22 : Int := (IntKind.wrap .i64 ((a12.getD a6.toNat (0 : Int)) - a7))
  (if 0 ≤ a6 ∧ a6 < (a12.length : Int) then
  some (a6, ((0 : Int), (a11, (a12.set a6.toNat u22))))
  else none))
  else none)))) n ((-1 : Int), ((0 : Int), (x1, ((x1.length : Int), ((0 : Int), (x2, x3))))))))
def sp_pick (n : Nat) : Spec := ⟨pre_pick, post_pick, pick n⟩
def env_pick (n : Nat) : List (FuncId × Spec) := []
theorem run_pick (n : Nat) (x : pre_pick.T) : fnRun Tryd.prog 49 (envOf (env_pick n)) n Tryd.f13 ann_pick pre_pick post_pick x = pick n x := by kernel_rfl
theorem ok_pick (n : Nat) : FnOK Tryd.prog 49 LD 13 (sp_pick n) :=
  fn_run mixed Tryd.func13 (sp_pick n) n ann_pick (env_pick n) envOf_nil (run_pick n) (by kernel_rfl)
def pre_rPick : Shape := ⟨[.a [.dat (.list (.int .i64)), .dat (.list (.int .i64))], .c (.dat (.list .bool))], []⟩
def post_rPick : List Shape := [⟨[.a [.dat (.list (.int .i64)), .dat (.list (.int .i64))], .c (.dat (.int .i64)), .c (.dat (.int .i64))], []⟩]
def ann_rPick : Ann := (.two .no (.two .no (.two .no (.two .no (.two .no (.two (.two .no (.one (.loop ⟨[1, 2, 4, 7, 8, 9, 10], ⟨[.c (.dat (.list .bool)), .c (.ptr 500 0), .c (.ptr 501 0), .c (.own 502), .c (.dat (.int .i64)), .c (.dat (.int .i64)), .c (.dat (.int .i64))], [(500, .cells 38 [.dat (.list (.int .i64)), .dat (.list (.int .i64))]), (501, .cells 38 [.own 503, .own 504]), (502, .row 3 (.int .i64)), (503, .row 3 (.int .i64)), (504, .row 3 (.int .i64))]⟩⟩ .no))) .no))))))
/-- what turnstile/turnstileref25.Pick comes to. -/
def rPick (n : Nat) (x : (List Int) × (List Int) × List Bool) : Option ((List Int) × (List Int) × Int × Int) :=
  match x with
  | (x1, (x2, x3)) =>
  (if ((x3.length : Int) != (x1.length : Int)) = true then
  some (x1, (x2, ((0 : Int), (1 : Int))))
  else
  (if x2.length * 8 ≤ 140737488355328 then
  (loopF (X := (List Bool) × Int × Int × Int × (List Int) × (List Int) × (List Int) × (List Int) × List Int) (A := (List Int) × (List Int) × Int × Int) (fun rec4 y5 => match y5 with
  | (a6, (a7, (a8, (a9, (a10, (a11, (a12, (a13, a14)))))))) =>
  (if (decide (a9 < (a6.length : Int))) = true then
  (Option.bind (idx a6 a9) fun v15 =>
  (if (!v15) = true then
  rec4 (a6, (a7, (a8, ((IntKind.wrap .i64 (a9 + (1 : Int))), (a10, (a11, (a12, (a13, a14))))))))
  else
  (if 0 ≤ a9 ∧ a9 < (a12.length : Int) then
  (Option.bind (idx a10 a9) fun v16 =>
  (let u17 : Int := (IntKind.wrap .i64 ((a12.getD a9.toNat (0 : Int)) + v16))
  (if 0 ≤ a9 ∧ a9 < (a12.length : Int) then
  (Option.bind (idx a10 a9) fun v18 =>
  (if (decide (a7 < (0 : Int))) = true then
  rec4 (a6, (a9, ((IntKind.wrap .i64 (a8 + v18)), ((IntKind.wrap .i64 (a9 + (1 : Int))), (a10, (a11, ((a12.set a9.toNat u17), (a13, a14))))))))
  else
  (if 0 ≤ a9 ∧ a9 < ((a12.set a9.toNat u17).length : Int) then
  (let u19 : Int := ((a12.set a9.toNat u17).getD a9.toNat (0 : Int))
  (if 0 ≤ a7 ∧ a7 < ((a12.set a9.toNat u17).length : Int) then
  (let u20 : Int := ((a12.set a9.toNat u17).getD a7.toNat (0 : Int))
  (if (decide (u19 > u20)) = true then
  rec4 (a6, (a9, ((IntKind.wrap .i64 (a8 + v18)), ((IntKind.wrap .i64 (a9 + (1 : Int))), (a10, (a11, ((a12.set a9.toNat u17), (a13, a14))))))))
  else
  rec4 (a6, (a7, ((IntKind.wrap .i64 (a8 + v18)), ((IntKind.wrap .i64 (a9 + (1 : Int))), (a10, (a11, ((a12.set a9.toNat u17), (a13, a14))))))))))
  else none))
  else none)))
  else none)))
  else none)))
  else
  (if (decide (a7 < (0 : Int))) = true then
  some (a10, (a11, ((0 : Int), (8 : Int))))
  else
  (if 0 ≤ a7 ∧ a7 < (a12.length : Int) then
  (let u21 : Int := (IntKind.wrap .i64 ((a12.getD a7.toNat (0 : Int)) - a8))
  (if 0 ≤ a7 ∧ a7 < (a12.length : Int) then
  some (a10, ((a12.set a7.toNat u21), (a7, (0 : Int))))
  else none))
  else none)))) n (x3, ((-1 : Int), ((0 : Int), ((0 : Int), (x1, (x2, (x2, (([] : List Int), ([] : List Int))))))))))
  else none))
def sp_rPick (n : Nat) : Spec := ⟨pre_rPick, post_rPick, rPick n⟩
def env_rPick (n : Nat) : List (FuncId × Spec) := []
theorem run_rPick (n : Nat) (x : pre_rPick.T) : fnRun Tryd.prog 49 (envOf (env_rPick n)) n Tryd.f14 ann_rPick pre_rPick post_rPick x = rPick n x := by kernel_rfl
theorem ok_rPick (n : Nat) : FnOK Tryd.prog 49 LD 14 (sp_rPick n) :=
  fn_run mixed Tryd.func14 (sp_rPick n) n ann_rPick (env_rPick n) envOf_nil (run_rPick n) (by kernel_rfl)
def pre_state : Shape := ⟨[.c (.ptr 0 0)], [(0, .cells 53 [.own 1, .own 2]), (1, .row 3 (.int .i64)), (2, .row 3 (.int .i64))]⟩
def post_state : List Shape := [⟨[.c (.own 3)], [(0, .cells 53 [.own 1, .own 2]), (1, .row 3 (.int .i64)), (2, .row 3 (.int .i64)), (3, .row 3 (.int .i64))]⟩]
def ann_state : Ann := .no
/-- what (turnstile/wrr.Turns).State comes to. -/
def state (n : Nat) (x : (List Int) × List Int) : Option ((List Int) × (List Int) × List Int) :=
  match x with
  | (x1, x2) =>
  (if x2.length * 8 ≤ 140737488355328 then
  some (x1, (x2, x2))
  else none)
def sp_state (n : Nat) : Spec := ⟨pre_state, post_state, state n⟩
def env_state (n : Nat) : List (FuncId × Spec) := []
theorem run_state (n : Nat) (x : pre_state.T) : fnRun Tryd.prog 49 (envOf (env_state n)) n Tryd.f15 ann_state pre_state post_state x = state n x := by kernel_rfl
theorem ok_state (n : Nat) : FnOK Tryd.prog 49 LD 15 (sp_state n) :=
  fn_run mixed Tryd.func15 (sp_state n) n ann_state (env_state n) envOf_nil (run_state n) (by kernel_rfl)
def pre_clone : Shape := ⟨[.c (.ptr 0 0)], [(0, .cells 53 [.own 1, .own 2]), (1, .row 3 (.int .i64)), (2, .row 3 (.int .i64))]⟩
def post_clone : List Shape := [⟨[.c (.ptr 3 0)], [(0, .cells 53 [.own 1, .own 2]), (1, .row 3 (.int .i64)), (2, .row 3 (.int .i64)), (3, .cells 53 [.own 4, .own 5]), (4, .row 3 (.int .i64)), (5, .row 3 (.int .i64))]⟩]
def ann_clone : Ann := .no
/-- what (turnstile/wrr.Turns).Clone comes to. -/
def clone (n : Nat) (x : (List Int) × List Int) : Option ((List Int) × (List Int) × (List Int) × List Int) :=
  match x with
  | (x1, x2) =>
  (if x1.length * 8 ≤ 140737488355328 then
  (Option.bind (state n (x1, x2)) fun r3 =>
  some (r3.1, (r3.2.1, (x1, r3.2.2))))
  else none)
def sp_clone (n : Nat) : Spec := ⟨pre_clone, post_clone, clone n⟩
def env_clone (n : Nat) : List (FuncId × Spec) := [(15, sp_state n)]
theorem run_clone (n : Nat) (x : pre_clone.T) : fnRun Tryd.prog 49 (envOf (env_clone n)) n Tryd.f16 ann_clone pre_clone post_clone x = clone n x := by kernel_rfl
theorem ok_clone (n : Nat) : FnOK Tryd.prog 49 LD 16 (sp_clone n) :=
  fn_run mixed Tryd.func16 (sp_clone n) n ann_clone (env_clone n) (envOf_cons (ok_state n) envOf_nil) (run_clone n) (by kernel_rfl)
def pre_sequence : Shape := ⟨[.c (.dat (.list (.int .i64))), .c (.dat (.int .i64))], []⟩
def post_sequence : List Shape := [⟨[.c (.dat (.list (.int .i64))), .c (.dat .err)], []⟩]
def ann_sequence : Ann := (.two .no (.two .no (.two .no (.two .no (.two .no (.two (.two .no (.one (.loop ⟨[1, 6, 8, 32, 33], ⟨[.c (.dat (.int .i64)), .c (.ptr 500 0), .c (.own 503), .c (.dat (.int .i64)), .c (.dat (.int .i64))], [(500, .cells 53 [.own 501, .own 502]), (501, .row 3 (.int .i64)), (502, .row 3 (.int .i64)), (503, .row 4 .bool)]⟩⟩ .no))) (.two .no (.two (.two .no (.one (.loop ⟨[6, 8, 10, 40, 41], ⟨[.c (.ptr 500 0), .c (.dat (.list .bool)), .c (.own 503), .c (.dat (.int .i64)), .c (.dat (.int .i64))], [(500, .cells 53 [.own 501, .own 502]), (501, .row 3 (.int .i64)), (502, .row 3 (.int .i64)), (503, .row 3 (.int .i64))]⟩⟩ .no))) .no))))))))
/-- what turnstile/wrr.Sequence comes to. -/
def sequence (n : Nat) (x : (List Int) × Int) : Option ((List Int) × Int) :=
  match x with
  | (x1, x2) =>
  (Option.bind (wnew n x1) fun r3 =>
  (match r3 with
  | Sum.inl a4 =>
  some (([] : List Int), (1 : Int))
  | Sum.inr b5 =>
  (if (decide (x2 < (0 : Int))) = true then
  some (([] : List Int), (1 : Int))
  else
  (if (decide (x2 > (65536 : Int))) = true then
  some (([] : List Int), (1 : Int))
  else
  (if 0 ≤ (x1.length : Int) ∧ (x1.length : Int) ≤ (x1.length : Int) ∧ (1 : Int) * (x1.length : Int) ≤ 140737488355328 then
  (let u6 : List Bool := (List.replicate (x1.length : Int).toNat false)
  (loopF (X := Int × Int × Int × (List Int) × (List Int) × List Bool) (A := (List Int) × Int) (fun rec7 y8 => match y8 with
  | (a9, (a10, (a11, (a12, (a13, a14))))) =>
  (if (decide (a11 < a10)) = true then
  (if 0 ≤ a11 ∧ a11 < (a14.length : Int) then
  (let u15 : Int := (IntKind.wrap .i64 (a11 + (1 : Int)))
  rec7 (a9, (a10, (u15, (a12, (a13, (a14.set a11.toNat true)))))))
  else none)
  else
  (loopF (X := (List Bool) × Int × Int × (List Int) × (List Int) × List Int) (A := (List Int) × Int) (fun rec16 y17 => match y17 with
  | (a18, (a19, (a20, (a21, (a22, a23))))) =>
  (if (decide (a20 < a19)) = true then
  (Option.bind (pick n (a18, (a21, a22))) fun r24 =>
  (if (a23.length + 1) * 8 ≤ 140737488355328 then
  (let u25 : Int := (IntKind.wrap .i64 (a20 + (1 : Int)))
  rec16 (a18, (a19, (u25, (r24.2.2.1, (r24.2.2.2, (a23 ++ ([r24.1] : List Int))))))))
  else none))
  else
  some (a23, (0 : Int)))) n (a14, (a9, ((0 : Int), (a12, (a13, ([] : List Int))))))))) n (x2, ((u6.length : Int), ((0 : Int), (b5.1, (b5.2, u6)))))))
  else none)))))
def sp_sequence (n : Nat) : Spec := ⟨pre_sequence, post_sequence, sequence n⟩
def env_sequence (n : Nat) : List (FuncId × Spec) := [(11, sp_wnew n), (13, sp_pick n)]
theorem run_sequence (n : Nat) (x : pre_sequence.T) : fnRun Tryd.prog 49 (envOf (env_sequence n)) n Tryd.f6 ann_sequence pre_sequence post_sequence x = sequence n x := by kernel_rfl
theorem ok_sequence (n : Nat) : FnOK Tryd.prog 49 LD 6 (sp_sequence n) :=
  fn_run mixed Tryd.func6 (sp_sequence n) n ann_sequence (env_sequence n) (envOf_cons (ok_wnew n) (envOf_cons (ok_pick n) envOf_nil)) (run_sequence n) (by kernel_rfl)
def pre_rSequence : Shape := ⟨[.c (.dat (.list (.int .i64))), .c (.dat (.int .i64))], []⟩
def post_rSequence : List Shape := [⟨[.c (.dat (.list (.int .i64))), .c (.dat (.int .i64))], []⟩]
def ann_rSequence : Ann := (.two .no (.two .no (.two .no (.two .no (.two .no (.two (.two .no (.one (.loop ⟨[1, 6, 8, 9], ⟨[.c (.dat (.int .i64)), .c (.ptr 500 0), .c (.own 501), .c (.dat (.int .i64))], [(500, .cells 38 [.dat (.list (.int .i64)), .dat (.list (.int .i64))]), (501, .row 4 .bool)]⟩⟩ .no))) (.two .no (.two (.two .no (.one (.loop ⟨[1, 6, 8, 10, 11], ⟨[.c (.dat (.int .i64)), .c (.ptr 500 0), .c (.dat (.list .bool)), .c (.own 501), .c (.dat (.int .i64))], [(500, .cells 38 [.dat (.list (.int .i64)), .dat (.list (.int .i64))]), (501, .row 3 (.int .i64))]⟩⟩ .no))) .no))))))))
/-- what turnstile/turnstileref25.Sequence comes to. -/
def rSequence (n : Nat) (x : (List Int) × Int) : Option ((List Int) × Int) :=
  match x with
  | (x1, x2) =>
  (Option.bind (rNew n x1) fun r3 =>
  (if (r3.2.2 != (0 : Int)) = true then
  some (([] : List Int), r3.2.2)
  else
  (if (decide (x2 < (0 : Int))) = true then
  some (([] : List Int), (1 : Int))
  else
  (if (decide (x2 > (65536 : Int))) = true then
  some (([] : List Int), (1 : Int))
  else
  (if 0 ≤ (x1.length : Int) ∧ (x1.length : Int) ≤ (x1.length : Int) ∧ (1 : Int) * (x1.length : Int) ≤ 140737488355328 then
  (let u4 : List Bool := (List.replicate (x1.length : Int).toNat false)
  (loopF (X := Int × Int × (List Int) × (List Int) × List Bool) (A := (List Int) × Int) (fun rec5 y6 => match y6 with
  | (a7, (a8, (a9, (a10, a11)))) =>
  (if (decide (a8 < (a11.length : Int))) = true then
  (if 0 ≤ a8 ∧ a8 < (a11.length : Int) then
  rec5 (a7, ((IntKind.wrap .i64 (a8 + (1 : Int))), (a9, (a10, (a11.set a8.toNat true)))))
  else none)
  else
  (loopF (X := Int × (List Bool) × Int × (List Int) × (List Int) × List Int) (A := (List Int) × Int) (fun rec12 y13 => match y13 with
  | (a14, (a15, (a16, (a17, (a18, a19))))) =>
  (if (decide (a16 < a14)) = true then
  (Option.bind (rPick n (a17, (a18, a15))) fun r20 =>
  (if (a19.length + 1) * 8 ≤ 140737488355328 then
  (let u21 : Int := (IntKind.wrap .i64 (a16 + (1 : Int)))
  rec12 (a14, (a15, (u21, (r20.1, (r20.2.1, (a19 ++ ([r20.2.2.1] : List Int))))))))
  else none))
  else
  some (a19, (0 : Int)))) n (a7, (a11, ((0 : Int), (a9, (a10, ([] : List Int))))))))) n (x2, ((0 : Int), (r3.1, (r3.2.1, u4))))))
  else none)))))
def sp_rSequence (n : Nat) : Spec := ⟨pre_rSequence, post_rSequence, rSequence n⟩
def env_rSequence (n : Nat) : List (FuncId × Spec) := [(12, sp_rNew n), (14, sp_rPick n)]
theorem run_rSequence (n : Nat) (x : pre_rSequence.T) : fnRun Tryd.prog 49 (envOf (env_rSequence n)) n Tryd.f7 ann_rSequence pre_rSequence post_rSequence x = rSequence n x := by kernel_rfl
theorem ok_rSequence (n : Nat) : FnOK Tryd.prog 49 LD 7 (sp_rSequence n) :=
  fn_run mixed Tryd.func7 (sp_rSequence n) n ann_rSequence (env_rSequence n) (envOf_cons (ok_rNew n) (envOf_cons (ok_rPick n) envOf_nil)) (run_rSequence n) (by kernel_rfl)
def pre_sure : Shape := ⟨[], []⟩
def post_sure : List Shape := [⟨[.c (.dat .bool)], []⟩]
def ann_sure : Ann := .no
/-- what turnstile/turnstilelaw25.sure comes to. -/
def sure (n : Nat) (x : Unit) : Option (Bool) :=
  (Option.bind (sequence n (([(5 : Int), (1 : Int), (1 : Int)] : List Int), (7 : Int))) fun r1 =>
  (if (r1.2 == (0 : Int)) = true then
  (Option.bind (numbers n (r1.1, ([(0 : Int), (0 : Int), (1 : Int), (0 : Int), (2 : Int), (0 : Int), (0 : Int)] : List Int))) fun r2 =>
  some r2)
  else
  some false))
def sp_sure (n : Nat) : Spec := ⟨pre_sure, post_sure, sure n⟩
def env_sure (n : Nat) : List (FuncId × Spec) := [(6, sp_sequence n), (8, sp_numbers n)]
theorem run_sure (n : Nat) (x : pre_sure.T) : fnRun Tryd.prog 49 (envOf (env_sure n)) n Tryd.f10 ann_sure pre_sure post_sure x = sure n x := by kernel_rfl
theorem ok_sure (n : Nat) : FnOK Tryd.prog 49 LD 10 (sp_sure n) :=
  fn_run mixed Tryd.func10 (sp_sure n) n ann_sure (env_sure n) (envOf_cons (ok_sequence n) (envOf_cons (ok_numbers n) envOf_nil)) (run_sure n) (by kernel_rfl)
def pre_wrrSequences : Shape := ⟨[.c (.dat (.list (.int .i64))), .c (.dat (.int .i64))], []⟩
def post_wrrSequences : List Shape := [⟨[.c (.dat .bool)], []⟩]
def ann_wrrSequences : Ann := .no
/-- what turnstile/turnstilelaw25.WrrSequences comes to. -/
def wrrSequences (n : Nat) (x : (List Int) × Int) : Option (Bool) :=
  match x with
  | (x1, x2) =>
  (if x1.length * 8 ≤ 140737488355328 then
  (Option.bind (sequence n (x1, x2)) fun r3 =>
  (Option.bind (rSequence n (x1, x2)) fun r4 =>
  (Option.bind (numbers n (r3.1, r4.1)) fun r5 =>
  (if r5 = true then
  (Option.bind (num n r3.2) fun r6 =>
  (if (r6 == r4.2) = true then
  (Option.bind (sure n ()) fun r7 =>
  some r7)
  else
  some false))
  else
  some false))))
  else none)
def sp_wrrSequences (n : Nat) : Spec := ⟨pre_wrrSequences, post_wrrSequences, wrrSequences n⟩
def env_wrrSequences (n : Nat) : List (FuncId × Spec) := [(6, sp_sequence n), (7, sp_rSequence n), (8, sp_numbers n), (9, sp_num n), (10, sp_sure n)]
theorem run_wrrSequences (n : Nat) (x : pre_wrrSequences.T) : fnRun Tryd.prog 49 (envOf (env_wrrSequences n)) n Tryd.f3 ann_wrrSequences pre_wrrSequences post_wrrSequences x = wrrSequences n x := by kernel_rfl
theorem ok_wrrSequences (n : Nat) : FnOK Tryd.prog 49 LD 3 (sp_wrrSequences n) :=
  fn_run mixed Tryd.func3 (sp_wrrSequences n) n ann_wrrSequences (env_wrrSequences n) (envOf_cons (ok_sequence n) (envOf_cons (ok_rSequence n) (envOf_cons (ok_numbers n) (envOf_cons (ok_num n) (envOf_cons (ok_sure n) envOf_nil))))) (run_wrrSequences n) (by kernel_rfl)
def pre_wrrPicks : Shape := ⟨[.c (.dat (.list (.int .i64))), .c (.dat (.list (.list .bool)))], []⟩
def post_wrrPicks : List Shape := [⟨[.c (.dat .bool)], []⟩]
def ann_wrrPicks : Ann := (.two .no (.two .no (.two .no (.two .no (.two .no (.two .no (.two (.two .no (.one (.loop ⟨[0, 1, 5, 6, 8, 10], ⟨[.c (.dat (.list (.int .i64))), .c (.dat (.list (.list .bool))), .c (.dat (.list (.int .i64))), .c (.ptr 500 0), .c (.ptr 503 0), .c (.dat (.int .i64))], [(500, .cells 53 [.own 501, .own 502]), (501, .row 3 (.int .i64)), (502, .row 3 (.int .i64)), (503, .cells 38 [.dat (.list (.int .i64)), .dat (.list (.int .i64))])]⟩⟩ (.two (.two (.join ⟨[0, 1, 5, 6, 8, 10, 61], ⟨[.c (.dat (.list (.int .i64))), .c (.dat (.list (.list .bool))), .c (.dat (.list (.int .i64))), .c (.ptr 500 0), .c (.ptr 503 0), .c (.dat (.int .i64)), .c (.dat .bool)], [(500, .cells 53 [.own 501, .own 502]), (501, .row 3 (.int .i64)), (502, .row 3 (.int .i64)), (503, .cells 38 [.dat (.list (.int .i64)), .dat (.list (.int .i64))])]⟩⟩ .no) .no) .no)))) (.two .no (.two .no (.two (.two .no (.one (.loop ⟨[0, 5, 6, 8, 17, 18, 19], ⟨[.c (.dat (.list (.int .i64))), .c (.dat (.list (.int .i64))), .c (.ptr 500 0), .c (.ptr 503 0), .c (.ptr 504 0), .c (.own 507), .c (.dat (.int .i64))], [(500, .cells 53 [.own 501, .own 502]), (501, .row 3 (.int .i64)), (502, .row 3 (.int .i64)), (503, .cells 38 [.dat (.list (.int .i64)), .dat (.list (.int .i64))]), (504, .cells 53 [.own 505, .own 506]), (505, .row 3 (.int .i64)), (506, .row 3 (.int .i64)), (507, .row 3 (.int .i64))]⟩⟩ .no))) .no))))))))))
/-- what turnstile/turnstilelaw25.WrrPicks comes to. -/
def wrrPicks (n : Nat) (x : (List Int) × List (List Bool)) : Option (Bool) :=
  match x with
  | (x1, x2) =>
  (if x1.length * 8 ≤ 140737488355328 then
  (Option.bind (wnew n x1) fun r3 =>
  (match r3 with
  | Sum.inl a4 =>
  (Option.bind (rNew n x1) fun r6 =>
  (if (r6.2.2 != (0 : Int)) = true then
  (Option.bind (num n (1 : Int)) fun r7 =>
  (if (r7 == r6.2.2) = true then
  (Option.bind (sure n ()) fun r8 =>
  some r8)
  else
  some false))
  else
  (Option.bind (num n (1 : Int)) fun r9 =>
  (if (r9 == r6.2.2) = true then
  (Option.bind (sure n ()) fun r10 =>
  some r10)
  else
  some false))))
  | Sum.inr b5 =>
  (Option.bind (rNew n x1) fun r11 =>
  (if (r11.2.2 != (0 : Int)) = true then
  (Option.bind (num n (0 : Int)) fun r12 =>
  (if (r12 == r11.2.2) = true then
  some false
  else
  some false))
  else
  (loopF (X := (List Int) × (List (List Bool)) × (List Int) × Int × (List Int) × (List Int) × (List Int) × List Int) (A := Bool) (fun rec13 y14 => match y14 with
  | (a15, (a16, (a17, (a18, (a19, (a20, (a21, a22))))))) =>
  (Option.bind (α := Out ((List Int) × (List (List Bool)) × (List Int) × Int × Bool × (List Int) × (List Int) × (List Int) × List Int) (Bool)) ((if (decide (a18 < (a16.length : Int))) = true then
  (some (Out.go (a15, (a16, (a17, (a18, ((decide (a18 < (100 : Int))), (a19, (a20, (a21, a22))))))))))
  else
  (some (Out.go (a15, (a16, (a17, (a18, (false, (a19, (a20, (a21, a22)))))))))))) fun o => match o with
  | .go (z24, (z25, (z26, (z27, (z28, (z29, (z30, (z31, z32)))))))) =>
  (if z28 = true then
  (Option.bind (idx z25 z27) fun v33 =>
  (if v33.length * 1 ≤ 140737488355328 then
  (Option.bind (pick n (v33, (z29, z30))) fun r34 =>
  (Option.bind (idx z25 z27) fun v35 =>
  (Option.bind (rPick n (z31, (z32, v35))) fun r36 =>
  (if (r34.1 != r36.2.2.1) = true then
  some false
  else
  (Option.bind (num n r34.2.1) fun r37 =>
  (if (r37 != r36.2.2.2) = true then
  some false
  else
  (Option.bind (state n (r34.2.2.1, r34.2.2.2)) fun r38 =>
  (Option.bind (numbers n (r38.2.2, r36.2.1)) fun r39 =>
  (if (!r39) = true then
  some false
  else
  (let u40 : Int := (IntKind.wrap .i64 (z27 + (1 : Int)))
  rec13 (z24, (z25, (z26, (u40, (r38.1, (r38.2.1, (r36.1, r36.2.1)))))))))))))))))
  else none))
  else
  (Option.bind (clone n (z29, z30)) fun r41 =>
  (Option.bind (state n (r41.1, r41.2.1)) fun r42 =>
  (loopF (X := (List Int) × (List Int) × Int × (List Int) × (List Int) × (List Int) × (List Int) × (List Int) × (List Int) × List Int) (A := Bool) (fun rec43 y44 => match y44 with
  | (a45, (a46, (a47, (a48, (a49, (a50, (a51, (a52, (a53, a54))))))))) =>
  (if (decide (a47 < (a54.length : Int))) = true then
  (if 0 ≤ a47 ∧ a47 < (a54.length : Int) then
  (let u55 : Int := (IntKind.wrap .i64 (a47 + (1 : Int)))
  rec43 (a45, (a46, (u55, (a48, (a49, (a50, (a51, (a52, (a53, (a54.set a47.toNat (4321 : Int))))))))))))
  else none)
  else
  (Option.bind (state n (a52, a53)) fun r56 =>
  (Option.bind (numbers n (r56.2.2, a51)) fun r57 =>
  (if r57 = true then
  (Option.bind (state n (a48, a49)) fun r58 =>
  (Option.bind (numbers n (r58.2.2, a51)) fun r59 =>
  (if r59 = true then
  (Option.bind (numbers n (a46, a45)) fun r60 =>
  (if r60 = true then
  (Option.bind (sure n ()) fun r61 =>
  some r61)
  else
  some false))
  else
  some false)))
  else
  some false))))) n (z24, (z26, ((0 : Int), (r42.1, (r42.2.1, (z31, (z32, (r41.2.2.1, (r41.2.2.2, r42.2.2)))))))))))))
  | .ret r62 => some r62)) n (x1, (x2, (x1, ((0 : Int), (b5.1, (b5.2, (r11.1, r11.2.1))))))))))))
  else none)
def sp_wrrPicks (n : Nat) : Spec := ⟨pre_wrrPicks, post_wrrPicks, wrrPicks n⟩
def env_wrrPicks (n : Nat) : List (FuncId × Spec) := [(11, sp_wnew n), (12, sp_rNew n), (9, sp_num n), (10, sp_sure n), (13, sp_pick n), (14, sp_rPick n), (15, sp_state n), (8, sp_numbers n), (16, sp_clone n)]
theorem run_wrrPicks (n : Nat) (x : pre_wrrPicks.T) : fnRun Tryd.prog 49 (envOf (env_wrrPicks n)) n Tryd.f4 ann_wrrPicks pre_wrrPicks post_wrrPicks x = wrrPicks n x := by kernel_rfl
theorem ok_wrrPicks (n : Nat) : FnOK Tryd.prog 49 LD 4 (sp_wrrPicks n) :=
  fn_run mixed Tryd.func4 (sp_wrrPicks n) n ann_wrrPicks (env_wrrPicks n) (envOf_cons (ok_wnew n) (envOf_cons (ok_rNew n) (envOf_cons (ok_num n) (envOf_cons (ok_sure n) (envOf_cons (ok_pick n) (envOf_cons (ok_rPick n) (envOf_cons (ok_state n) (envOf_cons (ok_numbers n) (envOf_cons (ok_clone n) envOf_nil))))))))) (run_wrrPicks n) (by kernel_rfl)
def pre_wrrLawful : Shape := ⟨[.c (.dat (.list (.int .i64))), .c (.dat (.list (.list .bool)))], []⟩
def post_wrrLawful : List Shape := [⟨[.c (.dat .bool)], []⟩]
def ann_wrrLawful : Ann := (.two .no (.two .no (.two .no (.two .no (.two .no (.two .no (.two (.two .no (.one (.loop ⟨[0, 1, 6, 8, 9], ⟨[.c (.dat (.list (.int .i64))), .c (.dat (.list (.list .bool))), .c (.ptr 500 0), .c (.ptr 503 0), .c (.dat (.int .i64))], [(500, .cells 53 [.own 501, .own 502]), (501, .row 3 (.int .i64)), (502, .row 3 (.int .i64)), (503, .cells 53 [.own 504, .own 505]), (504, .row 3 (.int .i64)), (505, .row 3 (.int .i64))]⟩⟩ (.two .no (.two (.one (.two .no (.two .no (.two .no (.two (.two .no (.one (.loop ⟨[0, 1, 6, 8, 9, 10, 11, 12, 13], ⟨[.c (.dat (.list (.int .i64))), .c (.dat (.list (.list .bool))), .c (.ptr 500 0), .c (.ptr 503 0), .c (.dat (.int .i64)), .c (.own 506), .c (.own 507), .c (.dat .bool), .c (.dat (.int .i64))], [(500, .cells 53 [.own 501, .own 502]), (501, .row 3 (.int .i64)), (502, .row 3 (.int .i64)), (503, .cells 53 [.own 504, .own 505]), (504, .row 3 (.int .i64)), (505, .row 3 (.int .i64)), (506, .row 4 .bool), (507, .row 4 .bool)]⟩⟩ .no))) .no))))) .no))))) .no)))))))
/-- what turnstile/turnstilelaw25.WrrLawful comes to. -/
def wrrLawful (n : Nat) (x : (List Int) × List (List Bool)) : Option (Bool) :=
  match x with
  | (x1, x2) =>
  (if x1.length * 8 ≤ 140737488355328 then
  (Option.bind (wnew n x1) fun r3 =>
  (match r3 with
  | Sum.inl a4 =>
  (Option.bind (sure n ()) fun r6 =>
  some r6)
  | Sum.inr b5 =>
  (Option.bind (clone n (b5.1, b5.2)) fun r7 =>
  (loopF (X := (List Int) × (List (List Bool)) × Int × (List Int) × (List Int) × (List Int) × List Int) (A := Bool) (fun rec8 y9 => match y9 with
  | (a10, (a11, (a12, (a13, (a14, (a15, a16)))))) =>
  (if (decide (a12 < (a11.length : Int))) = true then
  (if (decide (a12 < (100 : Int))) = true then
  (Option.bind (idx a11 a12) fun v17 =>
  (if v17.length * 1 ≤ 140737488355328 then
  (Option.bind (idx a11 a12) fun v18 =>
  (if v18.length * 1 ≤ 140737488355328 then
  (loopF (X := (List Int) × (List (List Bool)) × Int × Bool × Int × (List Int) × (List Int) × (List Int) × (List Int) × (List Bool) × List Bool) (A := Bool) (fun rec19 y20 => match y20 with
  | (a21, (a22, (a23, (a24, (a25, (a26, (a27, (a28, (a29, (a30, a31)))))))))) =>
  (if (decide (a25 < (a30.length : Int))) = true then
  (if a24 = true then
  (let u32 : Int := (IntKind.wrap .i64 (a25 + (1 : Int)))
  rec19 (a21, (a22, (a23, (true, (u32, (a26, (a27, (a28, (a29, (a30, a31)))))))))))
  else
  (if 0 ≤ a25 ∧ a25 < (a30.length : Int) then
  (let u33 : Int := (IntKind.wrap .i64 (a25 + (1 : Int)))
  rec19 (a21, (a22, (a23, ((a30.getD a25.toNat false), (u33, (a26, (a27, (a28, (a29, (a30, a31)))))))))))
  else none))
  else
  (Option.bind (pick n (a30, (a26, a27))) fun r34 =>
  (Option.bind (pick n (a31, (a28, a29))) fun r35 =>
  (if (r34.1 != r35.1) = true then
  some false
  else
  (Option.bind (num n r34.2.1) fun r36 =>
  (Option.bind (num n r35.2.1) fun r37 =>
  (if (r36 != r37) = true then
  some false
  else
  (Option.bind (idx a22 a23) fun v38 =>
  (if ((v38.length : Int) != (a21.length : Int)) = true then
  (Option.bind (num n r34.2.1) fun r39 =>
  (if (r39 != (1 : Int)) = true then
  some false
  else
  (let u40 : Int := (IntKind.wrap .i64 (a23 + (1 : Int)))
  rec8 (a21, (a22, (u40, (r34.2.2.1, (r34.2.2.2, (r35.2.2.1, r35.2.2.2)))))))))
  else
  (if (!(a24 == (r34.2.1 == (0 : Int)))) = true then
  some false
  else
  (if a24 = true then
  (if (decide (r34.1 < (0 : Int))) = true then
  some false
  else
  (Option.bind (idx a22 a23) fun v41 =>
  (if (decide (r34.1 ≥ (v41.length : Int))) = true then
  some false
  else
  (Option.bind (idx a22 a23) fun v42 =>
  (Option.bind (idx v42 r34.1) fun v43 =>
  (if (!v43) = true then
  some false
  else
  (let u44 : Int := (IntKind.wrap .i64 (a23 + (1 : Int)))
  rec8 (a21, (a22, (u44, (r34.2.2.1, (r34.2.2.2, (r35.2.2.1, r35.2.2.2)))))))))))))
  else
  (let u45 : Int := (IntKind.wrap .i64 (a23 + (1 : Int)))
  rec8 (a21, (a22, (u45, (r34.2.2.1, (r34.2.2.2, (r35.2.2.1, r35.2.2.2))))))))))))))))))) n (a10, (a11, (a12, (false, ((0 : Int), (a13, (a14, (a15, (a16, (v17, v18)))))))))))
  else none))
  else none))
  else
  (Option.bind (state n (a13, a14)) fun r46 =>
  (Option.bind (state n (a15, a16)) fun r47 =>
  (Option.bind (numbers n (r46.2.2, r47.2.2)) fun r48 =>
  (if r48 = true then
  (Option.bind (sure n ()) fun r49 =>
  some r49)
  else
  some false)))))
  else
  (Option.bind (state n (a13, a14)) fun r50 =>
  (Option.bind (state n (a15, a16)) fun r51 =>
  (Option.bind (numbers n (r50.2.2, r51.2.2)) fun r52 =>
  (if r52 = true then
  (Option.bind (sure n ()) fun r53 =>
  some r53)
  else
  some false)))))) n (x1, (x2, ((0 : Int), (r7.1, (r7.2.1, (r7.2.2.1, r7.2.2.2))))))))))
  else none)
def sp_wrrLawful (n : Nat) : Spec := ⟨pre_wrrLawful, post_wrrLawful, wrrLawful n⟩
def env_wrrLawful (n : Nat) : List (FuncId × Spec) := [(11, sp_wnew n), (10, sp_sure n), (16, sp_clone n), (13, sp_pick n), (9, sp_num n), (15, sp_state n), (8, sp_numbers n)]
theorem run_wrrLawful (n : Nat) (x : pre_wrrLawful.T) : fnRun Tryd.prog 49 (envOf (env_wrrLawful n)) n Tryd.f5 ann_wrrLawful pre_wrrLawful post_wrrLawful x = wrrLawful n x := by kernel_rfl
theorem ok_wrrLawful (n : Nat) : FnOK Tryd.prog 49 LD 5 (sp_wrrLawful n) :=
  fn_run mixed Tryd.func5 (sp_wrrLawful n) n ann_wrrLawful (env_wrrLawful n) (envOf_cons (ok_wnew n) (envOf_cons (ok_sure n) (envOf_cons (ok_clone n) (envOf_cons (ok_pick n) (envOf_cons (ok_num n) (envOf_cons (ok_state n) (envOf_cons (ok_numbers n) envOf_nil))))))) (run_wrrLawful n) (by kernel_rfl)
end Go.Sx.YtobhaaegjffaaaaDoor
