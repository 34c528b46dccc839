/- Part of a proof by a small interpreter on plain values; no condition. -/
import Derived.Test.YtppiiahjnglcnaaSx35
import Derived.Test.YtppiiahjnglcnaaProg
/-! written by program: the functions as plain ones, and their contracts. -/
namespace Go.Sx.Ytppiiahjnglcnaa
open Go Go.Sx Go.Proofs
set_option autoImplicit false
set_option maxRecDepth 100000
set_option linter.unusedVariables false
theorem mixed : Try.prog.follows .mixedOrders = true := by kernel_rfl
def pre_tNew : Shape := ⟨[.c (.dat (.int .i64))], [(200, .pool 81 (.pair (.pair (.int .i64) (.pair (.int .i64) (.pair .str .unit))) (.pair (.pair (.int .i64) (.pair (.int .i64) .unit)) (.pair (.nd 200) (.pair (.nd 200) .unit)))))]⟩
def post_tNew : List Shape := [⟨[.c (.nilp), .c (.errc (1))], [(200, .pool 81 (.pair (.pair (.int .i64) (.pair (.int .i64) (.pair .str .unit))) (.pair (.pair (.int .i64) (.pair (.int .i64) .unit)) (.pair (.nd 200) (.pair (.nd 200) .unit)))))]⟩, ⟨[.c (.ptr 0 0), .c (.errc (0))], [(0, .cells 72 [.dat (.int .i64), .own 1, .dat (.nd 200), .dat (.nd 200)]), (1, .mp (.pair (.int .i64) (.pair (.int .i64) (.pair .str .unit))) (.nd 200)), (200, .pool 81 (.pair (.pair (.int .i64) (.pair (.int .i64) (.pair .str .unit))) (.pair (.pair (.int .i64) (.pair (.int .i64) .unit)) (.pair (.nd 200) (.pair (.nd 200) .unit)))))]⟩]
def ann_tNew : Ann := .no
/-- what turnstile/table.New comes to. -/
def tNew (n : Nat) (x : Int × List ((Int × (Int × (List Int × Unit))) × ((Int × (Int × Unit)) × (Int × (Int × Unit))))) : Option ((List ((Int × (Int × (List Int × Unit))) × ((Int × (Int × Unit)) × (Int × (Int × Unit))))) ⊕ (Int × Int × Int × (List ((Int × (Int × (List Int × Unit))) × Int)) × List ((Int × (Int × (List Int × Unit))) × ((Int × (Int × Unit)) × (Int × (Int × Unit)))))) :=
  match x with
  | (x1, x2) =>
  (if (decide (x1 < (1 : Int))) = true then
  some (Sum.inl x2)
  else
  (if (decide (x1 > (1024 : Int))) = true then
  some (Sum.inl x2)
  else
  (let u3 : List ((Int × (Int × (List Int × Unit))) × Int) := ([] : List ((Int × (Int × (List Int × Unit))) × Int))
  some (Sum.inr (x1, ((-1 : Int), ((-1 : Int), (u3, x2))))))))
def sp_tNew (n : Nat) : Spec := ⟨pre_tNew, post_tNew, tNew n⟩
def env_tNew (n : Nat) : List (FuncId × Spec) := []
theorem run_tNew (n : Nat) (x : pre_tNew.T) : fnRun Try.prog 68 (envG (env_tNew n) [] (fun _ => none)) n Try.f7 ann_tNew pre_tNew post_tNew x = tNew n x := by kernel_rfl
theorem ok_tNew (n : Nat) : FnOK Try.prog 68 L0 7 (sp_tNew n) :=
  fn_run mixed Try.func7 (sp_tNew n) n ann_tNew (env_tNew n) envOf_nil [] (fun _ => none) gl_none (run_tNew n) (by kernel_rfl)
def pre_turnstilelaw22Num : Shape := ⟨[.c (.dat .err)], []⟩
def post_turnstilelaw22Num : List Shape := [⟨[.c (.dat (.int .i64))], []⟩]
def ann_turnstilelaw22Num : Ann := .no
/-- what turnstile/turnstilelaw22.num comes to. -/
def turnstilelaw22Num (n : Nat) (x : Int) : Option (Int) :=
  (if (x == (0 : Int)) = true then
  some (0 : Int)
  else
  (if (!(x != 0)) = true then
  some (-1 : Int)
  else
  some x))
def sp_turnstilelaw22Num (n : Nat) : Spec := ⟨pre_turnstilelaw22Num, post_turnstilelaw22Num, turnstilelaw22Num n⟩
def env_turnstilelaw22Num (n : Nat) : List (FuncId × Spec) := []
theorem run_turnstilelaw22Num (n : Nat) (x : pre_turnstilelaw22Num.T) : fnRun Try.prog 68 (envG (env_turnstilelaw22Num n) [] (fun _ => none)) n Try.f13 ann_turnstilelaw22Num pre_turnstilelaw22Num post_turnstilelaw22Num x = turnstilelaw22Num n x := by kernel_rfl
theorem ok_turnstilelaw22Num (n : Nat) : FnOK Try.prog 68 L0 13 (sp_turnstilelaw22Num n) :=
  fn_run mixed Try.func13 (sp_turnstilelaw22Num n) n ann_turnstilelaw22Num (env_turnstilelaw22Num n) envOf_nil [] (fun _ => none) gl_none (run_turnstilelaw22Num n) (by kernel_rfl)
def pre_tLen : Shape := ⟨[.c (.ptr 0 0)], [(0, .cells 72 [.dat (.int .i64), .own 1, .dat (.nd 200), .dat (.nd 200)]), (1, .mp (.pair (.int .i64) (.pair (.int .i64) (.pair .str .unit))) (.nd 200)), (200, .pool 81 (.pair (.pair (.int .i64) (.pair (.int .i64) (.pair .str .unit))) (.pair (.pair (.int .i64) (.pair (.int .i64) .unit)) (.pair (.nd 200) (.pair (.nd 200) .unit)))))]⟩
def post_tLen : List Shape := [⟨[.c (.dat (.int .i64))], [(0, .cells 72 [.dat (.int .i64), .own 1, .dat (.nd 200), .dat (.nd 200)]), (1, .mp (.pair (.int .i64) (.pair (.int .i64) (.pair .str .unit))) (.nd 200)), (200, .pool 81 (.pair (.pair (.int .i64) (.pair (.int .i64) (.pair .str .unit))) (.pair (.pair (.int .i64) (.pair (.int .i64) .unit)) (.pair (.nd 200) (.pair (.nd 200) .unit)))))]⟩]
def ann_tLen : Ann := .no
/-- what (turnstile/table.Table).Len comes to. -/
def tLen (n : Nat) (x : Int × Int × Int × (List ((Int × (Int × (List Int × Unit))) × Int)) × List ((Int × (Int × (List Int × Unit))) × ((Int × (Int × Unit)) × (Int × (Int × Unit))))) : Option (Int × Int × Int × Int × (List ((Int × (Int × (List Int × Unit))) × Int)) × List ((Int × (Int × (List Int × Unit))) × ((Int × (Int × Unit)) × (Int × (Int × Unit))))) :=
  match x with
  | (x1, (x2, (x3, (x4, x5)))) =>
  (if List.length x4 ≤ lim then
  some ((List.length x4 : Int), (x1, (x2, (x3, (x4, x5)))))
  else none)
def sp_tLen (n : Nat) : Spec := ⟨pre_tLen, post_tLen, tLen n⟩
def env_tLen (n : Nat) : List (FuncId × Spec) := []
theorem run_tLen (n : Nat) (x : pre_tLen.T) : fnRun Try.prog 68 (envG (env_tLen n) [] (fun _ => none)) n Try.f15 ann_tLen pre_tLen post_tLen x = tLen n x := by kernel_rfl
theorem ok_tLen (n : Nat) : FnOK Try.prog 68 L0 15 (sp_tLen n) :=
  fn_run mixed Try.func15 (sp_tLen n) n ann_tLen (env_tLen n) envOf_nil [] (fun _ => none) gl_none (run_tLen n) (by kernel_rfl)
def pre_tLenN : Shape := ⟨[.c (.nilp)], []⟩
def post_tLenN : List Shape := [⟨[.c (.dat (.int .i64))], []⟩]
def ann_tLenN : Ann := .no
/-- what (turnstile/table.Table).Len comes to. -/
def tLenN (n : Nat) (x : Unit) : Option (Int) :=
  some (0 : Int)
def sp_tLenN (n : Nat) : Spec := ⟨pre_tLenN, post_tLenN, tLenN n⟩
def env_tLenN (n : Nat) : List (FuncId × Spec) := []
theorem run_tLenN (n : Nat) (x : pre_tLenN.T) : fnRun Try.prog 68 (envG (env_tLenN n) [] (fun _ => none)) n Try.f15 ann_tLenN pre_tLenN post_tLenN x = tLenN n x := by kernel_rfl
theorem ok_tLenN (n : Nat) : FnOK Try.prog 68 L0 15 (sp_tLenN n) :=
  fn_run mixed Try.func15 (sp_tLenN n) n ann_tLenN (env_tLenN n) envOf_nil [] (fun _ => none) gl_none (run_tLenN n) (by kernel_rfl)
def pre_rNew : Shape := ⟨[.c (.dat (.int .i64))], []⟩
def post_rNew : List Shape := [⟨[.a [.dat (.int .i64), .dat (.list (.pair (.pair (.int .i64) (.pair (.int .i64) (.pair .str .unit))) (.pair (.pair (.int .i64) (.pair (.int .i64) .unit)) .unit)))], .c (.dat (.int .i64))], []⟩]
def ann_rNew : Ann := .no
/-- what turnstile/turnstileref22.New comes to. -/
def rNew (n : Nat) (x : Int) : Option (Int × (List ((Int × (Int × (List Int × Unit))) × ((Int × (Int × Unit)) × Unit))) × Int) :=
  (if (decide (x < (1 : Int))) = true then
  some ((0 : Int), (([] : List ((Int × (Int × (List Int × Unit))) × ((Int × (Int × Unit)) × Unit))), (1 : Int)))
  else
  (if (decide (x > (1024 : Int))) = true then
  some ((0 : Int), (([] : List ((Int × (Int × (List Int × Unit))) × ((Int × (Int × Unit)) × Unit))), (1 : Int)))
  else
  some (x, (([] : List ((Int × (Int × (List Int × Unit))) × ((Int × (Int × Unit)) × Unit))), (0 : Int)))))
def sp_rNew (n : Nat) : Spec := ⟨pre_rNew, post_rNew, rNew n⟩
def env_rNew (n : Nat) : List (FuncId × Spec) := []
theorem run_rNew (n : Nat) (x : pre_rNew.T) : fnRun Try.prog 68 (envG (env_rNew n) [] (fun _ => none)) n Try.f17 ann_rNew pre_rNew post_rNew x = rNew n x := by kernel_rfl
theorem ok_rNew (n : Nat) : FnOK Try.prog 68 L0 17 (sp_rNew n) :=
  fn_run mixed Try.func17 (sp_rNew n) n ann_rNew (env_rNew n) envOf_nil [] (fun _ => none) gl_none (run_rNew n) (by kernel_rfl)
def pre_of : Shape := ⟨[.c (.dat (.int .i64)), .a [.dat (.int .i64), .dat (.int .i64), .dat (.int .i64), .dat (.int .i64)], .c (.dat .str), .c (.dat .str)], []⟩
def post_of : List Shape := [⟨[.a [.dat (.int .i64), .dat (.int .i64), .dat .str], .c (.dat .bool)], []⟩]
def ann_of : Ann := .no
/-- what turnstile/table.Of comes to. -/
def of (n : Nat) (x : Int × Int × Int × Int × Int × (List Int) × List Int) : Option (Int × Int × (List Int) × Bool) :=
  match x with
  | (x1, (x2, (x3, (x4, (x5, (x6, x7)))))) =>
  (if (x2 == (1 : Int)) = true then
  some (x1, ((1 : Int), (x6, true)))
  else
  (if (x2 == (2 : Int)) = true then
  some (x1, ((2 : Int), (x7, true)))
  else
  some ((0 : Int), ((0 : Int), (([] : List Int), false)))))
def sp_of (n : Nat) : Spec := ⟨pre_of, post_of, of n⟩
def env_of (n : Nat) : List (FuncId × Spec) := []
theorem run_of (n : Nat) (x : pre_of.T) : fnRun Try.prog 68 (envG (env_of n) [] (fun _ => none)) n Try.f20 ann_of pre_of post_of x = of n x := by kernel_rfl
theorem ok_of (n : Nat) : FnOK Try.prog 68 L0 20 (sp_of n) :=
  fn_run mixed Try.func20 (sp_of n) n ann_of (env_of n) envOf_nil [] (fun _ => none) gl_none (run_of n) (by kernel_rfl)
def pre_rOf : Shape := ⟨[.c (.dat (.int .i64)), .a [.dat (.int .i64), .dat (.int .i64), .dat (.int .i64), .dat (.int .i64)], .c (.dat .str), .c (.dat .str)], []⟩
def post_rOf : List Shape := [⟨[.a [.dat (.int .i64), .dat (.int .i64), .dat .str], .c (.dat .bool)], []⟩]
def ann_rOf : Ann := .no
/-- what turnstile/turnstileref22.Of comes to. -/
def rOf (n : Nat) (x : Int × Int × Int × Int × Int × (List Int) × List Int) : Option (Int × Int × (List Int) × Bool) :=
  match x with
  | (x1, (x2, (x3, (x4, (x5, (x6, x7)))))) =>
  (if (x2 == (1 : Int)) = true then
  some (x1, (x2, (x6, true)))
  else
  (if (x2 == (2 : Int)) = true then
  some (x1, (x2, (x7, true)))
  else
  some ((0 : Int), ((0 : Int), (([] : List Int), false)))))
def sp_rOf (n : Nat) : Spec := ⟨pre_rOf, post_rOf, rOf n⟩
def env_rOf (n : Nat) : List (FuncId × Spec) := []
theorem run_rOf (n : Nat) (x : pre_rOf.T) : fnRun Try.prog 68 (envG (env_rOf n) [] (fun _ => none)) n Try.f21 ann_rOf pre_rOf post_rOf x = rOf n x := by kernel_rfl
theorem ok_rOf (n : Nat) : FnOK Try.prog 68 L0 21 (sp_rOf n) :=
  fn_run mixed Try.func21 (sp_rOf n) n ann_rOf (env_rOf n) envOf_nil [] (fun _ => none) gl_none (run_rOf n) (by kernel_rfl)
def pre_tWho : Shape := ⟨[.c (.ptr 0 0)], [(0, .cells 72 [.dat (.int .i64), .own 1, .dat (.nd 200), .dat (.nd 200)]), (1, .mp (.pair (.int .i64) (.pair (.int .i64) (.pair .str .unit))) (.nd 200)), (200, .pool 81 (.pair (.pair (.int .i64) (.pair (.int .i64) (.pair .str .unit))) (.pair (.pair (.int .i64) (.pair (.int .i64) .unit)) (.pair (.nd 200) (.pair (.nd 200) .unit)))))]⟩
def post_tWho : List Shape := [⟨[.c (.dat (.list (.pair (.int .i64) (.pair (.int .i64) (.pair .str .unit)))))], [(0, .cells 72 [.dat (.int .i64), .own 1, .dat (.nd 200), .dat (.nd 200)]), (1, .mp (.pair (.int .i64) (.pair (.int .i64) (.pair .str .unit))) (.nd 200)), (200, .pool 81 (.pair (.pair (.int .i64) (.pair (.int .i64) (.pair .str .unit))) (.pair (.pair (.int .i64) (.pair (.int .i64) .unit)) (.pair (.nd 200) (.pair (.nd 200) .unit)))))]⟩]
def ann_tWho : Ann := (.two .no (.two .no (.two .no (.two (.two .no (.one (.loop ⟨[3, 4], ⟨[.c (.own 500), .c (.dat (.nd 200))], [(0, .cells 72 [.dat (.int .i64), .own 1, .dat (.nd 200), .dat (.nd 200)]), (1, .mp (.pair (.int .i64) (.pair (.int .i64) (.pair .str .unit))) (.nd 200)), (200, .pool 81 (.pair (.pair (.int .i64) (.pair (.int .i64) (.pair .str .unit))) (.pair (.pair (.int .i64) (.pair (.int .i64) .unit)) (.pair (.nd 200) (.pair (.nd 200) .unit))))), (500, .row 35 (.pair (.int .i64) (.pair (.int .i64) (.pair .str .unit))))]⟩⟩ .no))) .no))))
/-- what (turnstile/table.Table).Who comes to. -/
def tWho (n : Nat) (x : Int × Int × Int × (List ((Int × (Int × (List Int × Unit))) × Int)) × List ((Int × (Int × (List Int × Unit))) × ((Int × (Int × Unit)) × (Int × (Int × Unit))))) : Option ((List (Int × (Int × (List Int × Unit)))) × Int × Int × Int × (List ((Int × (Int × (List Int × Unit))) × Int)) × List ((Int × (Int × (List Int × Unit))) × ((Int × (Int × Unit)) × (Int × (Int × Unit))))) :=
  match x with
  | (x1, (x2, (x3, (x4, x5)))) =>
  (loopF (X := Int × Int × Int × Int × (List ((Int × (Int × (List Int × Unit))) × Int)) × (List ((Int × (Int × (List Int × Unit))) × ((Int × (Int × Unit)) × (Int × (Int × Unit))))) × List (Int × (Int × (List Int × Unit)))) (A := (List (Int × (Int × (List Int × Unit)))) × Int × Int × Int × (List ((Int × (Int × (List Int × Unit))) × Int)) × List ((Int × (Int × (List Int × Unit))) × ((Int × (Int × Unit)) × (Int × (Int × Unit))))) (fun rec6 y7 => match y7 with
  | (a8, (a9, (a10, (a11, (a12, (a13, a14)))))) =>
  (if (!(decide (a8 < 0))) = true then
  (if a8 < 0 then none else
  (Option.bind (a13[a8.toNat]?) fun d15 =>
  (if (a14.length + 1) * 32 ≤ 140737488355328 then
  (let u16 : List (Int × (Int × (List Int × Unit))) := (a14 ++ ([(d15.1.1, (d15.1.2.1, (d15.1.2.2.1, ())))] : List (Int × (Int × (List Int × Unit)))))
  (if a8 < 0 then none else
  (Option.bind (a13[a8.toNat]?) fun d17 =>
  rec6 (d17.2.2.2.1, (a9, (a10, (a11, (a12, (a13, u16)))))))))
  else none)))
  else
  some (a14, (a9, (a10, (a11, (a12, a13))))))) n (x2, (x1, (x2, (x3, (x4, (x5, ([] : List (Int × (Int × (List Int × Unit)))))))))))
def sp_tWho (n : Nat) : Spec := ⟨pre_tWho, post_tWho, tWho n⟩
def env_tWho (n : Nat) : List (FuncId × Spec) := []
theorem run_tWho (n : Nat) (x : pre_tWho.T) : fnRun Try.prog 68 (envG (env_tWho n) [] (fun _ => none)) n Try.f24 ann_tWho pre_tWho post_tWho x = tWho n x := by kernel_rfl
theorem ok_tWho (n : Nat) : FnOK Try.prog 68 L0 24 (sp_tWho n) :=
  fn_run mixed Try.func24 (sp_tWho n) n ann_tWho (env_tWho n) envOf_nil [] (fun _ => none) gl_none (run_tWho n) (by kernel_rfl)
def pre_tWhoN : Shape := ⟨[.c (.nilp)], []⟩
def post_tWhoN : List Shape := [⟨[.c (.dat (.list (.pair (.int .i64) (.pair (.int .i64) (.pair .str .unit)))))], []⟩]
def ann_tWhoN : Ann := .no
/-- what (turnstile/table.Table).Who comes to. -/
def tWhoN (n : Nat) (x : Unit) : Option (List (Int × (Int × (List Int × Unit)))) :=
  some ([] : List (Int × (Int × (List Int × Unit))))
def sp_tWhoN (n : Nat) : Spec := ⟨pre_tWhoN, post_tWhoN, tWhoN n⟩
def env_tWhoN (n : Nat) : List (FuncId × Spec) := []
theorem run_tWhoN (n : Nat) (x : pre_tWhoN.T) : fnRun Try.prog 68 (envG (env_tWhoN n) [] (fun _ => none)) n Try.f24 ann_tWhoN pre_tWhoN post_tWhoN x = tWhoN n x := by kernel_rfl
theorem ok_tWhoN (n : Nat) : FnOK Try.prog 68 L0 24 (sp_tWhoN n) :=
  fn_run mixed Try.func24 (sp_tWhoN n) n ann_tWhoN (env_tWhoN n) envOf_nil [] (fun _ => none) gl_none (run_tWhoN n) (by kernel_rfl)
def pre_rSmall : Shape := ⟨[.c (.dat (.int .i64))], []⟩
def post_rSmall : List Shape := [⟨[.c (.dat .bool)], []⟩]
def ann_rSmall : Ann := .no
/-- what turnstile/turnstileref21.small comes to. -/
def rSmall (n : Nat) (x : Int) : Option (Bool) :=
  (if (decide (x ≥ (1 : Int))) = true then
  some (decide (x ≤ (1048576 : Int)))
  else
  some false)
def sp_rSmall (n : Nat) : Spec := ⟨pre_rSmall, post_rSmall, rSmall n⟩
def env_rSmall (n : Nat) : List (FuncId × Spec) := []
theorem run_rSmall (n : Nat) (x : pre_rSmall.T) : fnRun Try.prog 68 (envG (env_rSmall n) [] (fun _ => none)) n Try.f25 ann_rSmall pre_rSmall post_rSmall x = rSmall n x := by kernel_rfl
theorem ok_rSmall (n : Nat) : FnOK Try.prog 68 L0 25 (sp_rSmall n) :=
  fn_run mixed Try.func25 (sp_rSmall n) n ann_rSmall (env_rSmall n) envOf_nil [] (fun _ => none) gl_none (run_rSmall n) (by kernel_rfl)
def pre_tUnlink : Shape := ⟨[.c (.ptr 0 0), .c (.dat (.nd 200))], [(0, .cells 72 [.dat (.int .i64), .own 1, .dat (.nd 200), .dat (.nd 200)]), (1, .mp (.pair (.int .i64) (.pair (.int .i64) (.pair .str .unit))) (.nd 200)), (200, .pool 81 (.pair (.pair (.int .i64) (.pair (.int .i64) (.pair .str .unit))) (.pair (.pair (.int .i64) (.pair (.int .i64) .unit)) (.pair (.nd 200) (.pair (.nd 200) .unit)))))]⟩
def post_tUnlink : List Shape := [⟨[], [(0, .cells 72 [.dat (.int .i64), .own 1, .dat (.nd 200), .dat (.nd 200)]), (1, .mp (.pair (.int .i64) (.pair (.int .i64) (.pair .str .unit))) (.nd 200)), (200, .pool 81 (.pair (.pair (.int .i64) (.pair (.int .i64) (.pair .str .unit))) (.pair (.pair (.int .i64) (.pair (.int .i64) .unit)) (.pair (.nd 200) (.pair (.nd 200) .unit)))))]⟩]
def ann_tUnlink : Ann := (.two (.join ⟨[0, 1], ⟨[.c (.ptr 0 0), .c (.dat (.nd 200))], [(0, .cells 72 [.dat (.int .i64), .own 1, .dat (.nd 200), .dat (.nd 200)]), (1, .mp (.pair (.int .i64) (.pair (.int .i64) (.pair .str .unit))) (.nd 200)), (200, .pool 81 (.pair (.pair (.int .i64) (.pair (.int .i64) (.pair .str .unit))) (.pair (.pair (.int .i64) (.pair (.int .i64) .unit)) (.pair (.nd 200) (.pair (.nd 200) .unit)))))]⟩⟩ .no) (.two (.join ⟨[1], ⟨[.c (.dat (.nd 200))], [(0, .cells 72 [.dat (.int .i64), .own 1, .dat (.nd 200), .dat (.nd 200)]), (1, .mp (.pair (.int .i64) (.pair (.int .i64) (.pair .str .unit))) (.nd 200)), (200, .pool 81 (.pair (.pair (.int .i64) (.pair (.int .i64) (.pair .str .unit))) (.pair (.pair (.int .i64) (.pair (.int .i64) .unit)) (.pair (.nd 200) (.pair (.nd 200) .unit)))))]⟩⟩ .no) .no))
/-- what (turnstile/table.Table).unlink comes to. -/
def tUnlink (n : Nat) (x : Int × Int × Int × Int × (List ((Int × (Int × (List Int × Unit))) × Int)) × List ((Int × (Int × (List Int × Unit))) × ((Int × (Int × Unit)) × (Int × (Int × Unit))))) : Option (Int × Int × Int × (List ((Int × (Int × (List Int × Unit))) × Int)) × List ((Int × (Int × (List Int × Unit))) × ((Int × (Int × Unit)) × (Int × (Int × Unit))))) :=
  match x with
  | (x1, (x2, (x3, (x4, (x5, x6))))) =>
  (Option.bind (α := Out (Int × Int × Int × Int × (List ((Int × (Int × (List Int × Unit))) × Int)) × List ((Int × (Int × (List Int × Unit))) × ((Int × (Int × Unit)) × (Int × (Int × Unit))))) (Int × Int × Int × (List ((Int × (Int × (List Int × Unit))) × Int)) × List ((Int × (Int × (List Int × Unit))) × ((Int × (Int × Unit)) × (Int × (Int × Unit)))))) ((if x1 < 0 then none else
  (Option.bind (x6[x1.toNat]?) fun d7 =>
  (if (decide (d7.2.2.1 < 0)) = true then
  (if x1 < 0 then none else
  (Option.bind (x6[x1.toNat]?) fun d8 =>
  (some (Out.go (x1, (x2, (d8.2.2.2.1, (x4, (x5, x6)))))))))
  else
  (if x1 < 0 then none else
  (Option.bind (x6[x1.toNat]?) fun d9 =>
  (if x1 < 0 then none else
  (Option.bind (x6[x1.toNat]?) fun d10 =>
  (if d9.2.2.1 < 0 then none else
  (Option.bind (x6[d9.2.2.1.toNat]?) fun d11 =>
  (let u12 : List ((Int × (Int × (List Int × Unit))) × ((Int × (Int × Unit)) × (Int × (Int × Unit)))) := (x6.set d9.2.2.1.toNat ((d11.1.1, (d11.1.2.1, (d11.1.2.2.1, ()))), ((d11.2.1.1, (d11.2.1.2.1, ())), (d11.2.2.1, (d10.2.2.2.1, ())))))
  (some (Out.go (x1, (x2, (x3, (x4, (x5, u12)))))))))))))))))) fun o => match o with
  | .go (z14, (z15, (z16, (z17, (z18, z19))))) =>
  (Option.bind (α := Out (Int × Int × Int × Int × (List ((Int × (Int × (List Int × Unit))) × Int)) × List ((Int × (Int × (List Int × Unit))) × ((Int × (Int × Unit)) × (Int × (Int × Unit))))) (Int × Int × Int × (List ((Int × (Int × (List Int × Unit))) × Int)) × List ((Int × (Int × (List Int × Unit))) × ((Int × (Int × Unit)) × (Int × (Int × Unit)))))) ((if z14 < 0 then none else
  (Option.bind (z19[z14.toNat]?) fun d20 =>
  (if (decide (d20.2.2.2.1 < 0)) = true then
  (if z14 < 0 then none else
  (Option.bind (z19[z14.toNat]?) fun d21 =>
  (some (Out.go (z14, (z15, (z16, (d21.2.2.1, (z18, z19)))))))))
  else
  (if z14 < 0 then none else
  (Option.bind (z19[z14.toNat]?) fun d22 =>
  (if z14 < 0 then none else
  (Option.bind (z19[z14.toNat]?) fun d23 =>
  (if d22.2.2.2.1 < 0 then none else
  (Option.bind (z19[d22.2.2.2.1.toNat]?) fun d24 =>
  (let u25 : List ((Int × (Int × (List Int × Unit))) × ((Int × (Int × Unit)) × (Int × (Int × Unit)))) := (z19.set d22.2.2.2.1.toNat ((d24.1.1, (d24.1.2.1, (d24.1.2.2.1, ()))), ((d24.2.1.1, (d24.2.1.2.1, ())), (d23.2.2.1, (d24.2.2.2.1, ())))))
  (some (Out.go (z14, (z15, (z16, (z17, (z18, u25)))))))))))))))))) fun o => match o with
  | .go (z27, (z28, (z29, (z30, (z31, z32))))) =>
  (if z27 < 0 then none else
  (Option.bind (z32[z27.toNat]?) fun d33 =>
  (let u34 : List ((Int × (Int × (List Int × Unit))) × ((Int × (Int × Unit)) × (Int × (Int × Unit)))) := (z32.set z27.toNat ((d33.1.1, (d33.1.2.1, (d33.1.2.2.1, ()))), ((d33.2.1.1, (d33.2.1.2.1, ())), ((-1 : Int), (d33.2.2.2.1, ())))))
  (if z27 < 0 then none else
  (Option.bind (u34[z27.toNat]?) fun d35 =>
  (let u36 : List ((Int × (Int × (List Int × Unit))) × ((Int × (Int × Unit)) × (Int × (Int × Unit)))) := (u34.set z27.toNat ((d35.1.1, (d35.1.2.1, (d35.1.2.2.1, ()))), ((d35.2.1.1, (d35.2.1.2.1, ())), (d35.2.2.1, ((-1 : Int), ())))))
  some (z28, (z29, (z30, (z31, u36))))))))))
  | .ret r37 => some r37)
  | .ret r38 => some r38)
def sp_tUnlink (n : Nat) : Spec := ⟨pre_tUnlink, post_tUnlink, tUnlink n⟩
def env_tUnlink (n : Nat) : List (FuncId × Spec) := []
theorem run_tUnlink (n : Nat) (x : pre_tUnlink.T) : fnRun Try.prog 68 (envG (env_tUnlink n) [] (fun _ => none)) n Try.f29 ann_tUnlink pre_tUnlink post_tUnlink x = tUnlink n x := by kernel_rfl
theorem ok_tUnlink (n : Nat) : FnOK Try.prog 68 L0 29 (sp_tUnlink n) :=
  fn_run mixed Try.func29 (sp_tUnlink n) n ann_tUnlink (env_tUnlink n) envOf_nil [] (fun _ => none) gl_none (run_tUnlink n) (by kernel_rfl)
def pre_tBehind : Shape := ⟨[.c (.ptr 0 0), .c (.dat (.nd 200))], [(0, .cells 72 [.dat (.int .i64), .own 1, .dat (.nd 200), .dat (.nd 200)]), (1, .mp (.pair (.int .i64) (.pair (.int .i64) (.pair .str .unit))) (.nd 200)), (200, .pool 81 (.pair (.pair (.int .i64) (.pair (.int .i64) (.pair .str .unit))) (.pair (.pair (.int .i64) (.pair (.int .i64) .unit)) (.pair (.nd 200) (.pair (.nd 200) .unit)))))]⟩
def post_tBehind : List Shape := [⟨[], [(0, .cells 72 [.dat (.int .i64), .own 1, .dat (.nd 200), .dat (.nd 200)]), (1, .mp (.pair (.int .i64) (.pair (.int .i64) (.pair .str .unit))) (.nd 200)), (200, .pool 81 (.pair (.pair (.int .i64) (.pair (.int .i64) (.pair .str .unit))) (.pair (.pair (.int .i64) (.pair (.int .i64) .unit)) (.pair (.nd 200) (.pair (.nd 200) .unit)))))]⟩]
def ann_tBehind : Ann := .no
/-- what (turnstile/table.Table).behind comes to. -/
def tBehind (n : Nat) (x : Int × Int × Int × Int × (List ((Int × (Int × (List Int × Unit))) × Int)) × List ((Int × (Int × (List Int × Unit))) × ((Int × (Int × Unit)) × (Int × (Int × Unit))))) : Option (Int × Int × Int × (List ((Int × (Int × (List Int × Unit))) × Int)) × List ((Int × (Int × (List Int × Unit))) × ((Int × (Int × Unit)) × (Int × (Int × Unit))))) :=
  match x with
  | (x1, (x2, (x3, (x4, (x5, x6))))) =>
  (if x1 < 0 then none else
  (Option.bind (x6[x1.toNat]?) fun d7 =>
  (let u8 : List ((Int × (Int × (List Int × Unit))) × ((Int × (Int × Unit)) × (Int × (Int × Unit)))) := (x6.set x1.toNat ((d7.1.1, (d7.1.2.1, (d7.1.2.2.1, ()))), ((d7.2.1.1, (d7.2.1.2.1, ())), (x4, (d7.2.2.2.1, ())))))
  (if (decide (x4 < 0)) = true then
  some (x2, (x1, (x1, (x5, u8))))
  else
  (if x4 < 0 then none else
  (Option.bind (u8[x4.toNat]?) fun d9 =>
  (let u10 : List ((Int × (Int × (List Int × Unit))) × ((Int × (Int × Unit)) × (Int × (Int × Unit)))) := (u8.set x4.toNat ((d9.1.1, (d9.1.2.1, (d9.1.2.2.1, ()))), ((d9.2.1.1, (d9.2.1.2.1, ())), (d9.2.2.1, (x1, ())))))
  some (x2, (x3, (x1, (x5, u10)))))))))))
def sp_tBehind (n : Nat) : Spec := ⟨pre_tBehind, post_tBehind, tBehind n⟩
def env_tBehind (n : Nat) : List (FuncId × Spec) := []
theorem run_tBehind (n : Nat) (x : pre_tBehind.T) : fnRun Try.prog 68 (envG (env_tBehind n) [] (fun _ => none)) n Try.f30 ann_tBehind pre_tBehind post_tBehind x = tBehind n x := by kernel_rfl
theorem ok_tBehind (n : Nat) : FnOK Try.prog 68 L0 30 (sp_tBehind n) :=
  fn_run mixed Try.func30 (sp_tBehind n) n ann_tBehind (env_tBehind n) envOf_nil [] (fun _ => none) gl_none (run_tBehind n) (by kernel_rfl)
def pre_rDrop : Shape := ⟨[.a [.dat (.int .i64), .dat (.list (.pair (.pair (.int .i64) (.pair (.int .i64) (.pair .str .unit))) (.pair (.pair (.int .i64) (.pair (.int .i64) .unit)) .unit)))], .c (.dat (.int .i64))], []⟩
def post_rDrop : List Shape := [⟨[.a [.dat (.int .i64), .dat (.list (.pair (.pair (.int .i64) (.pair (.int .i64) (.pair .str .unit))) (.pair (.pair (.int .i64) (.pair (.int .i64) .unit)) .unit)))], .c (.dat (.int .i64))], []⟩]
def ann_rDrop : Ann := (.two .no (.two .no (.two (.two .no (.one (.loop ⟨[1, 2, 4, 6, 7], ⟨[.c (.dat (.int .i64)), .c (.ptr 500 0), .c (.ptr 501 0), .c (.own 502), .c (.dat (.int .i64))], [(500, .cells 55 [.dat (.int .i64), .dat (.list (.pair (.pair (.int .i64) (.pair (.int .i64) (.pair .str .unit))) (.pair (.pair (.int .i64) (.pair (.int .i64) .unit)) .unit)))]), (501, .cells 55 [.dat (.int .i64), .own 503]), (502, .row 91 (.pair (.pair (.int .i64) (.pair (.int .i64) (.pair .str .unit))) (.pair (.pair (.int .i64) (.pair (.int .i64) .unit)) .unit))), (503, .row 91 (.pair (.pair (.int .i64) (.pair (.int .i64) (.pair .str .unit))) (.pair (.pair (.int .i64) (.pair (.int .i64) .unit)) .unit)))]⟩⟩ .no))) .no)))
/-- what turnstile/turnstileref22.Drop comes to. -/
def rDrop (n : Nat) (x : Int × (List ((Int × (Int × (List Int × Unit))) × ((Int × (Int × Unit)) × Unit))) × Int) : Option (Int × (List ((Int × (Int × (List Int × Unit))) × ((Int × (Int × Unit)) × Unit))) × Int) :=
  match x with
  | (x1, (x2, x3)) =>
  (loopF (X := Int × Int × Int × (List ((Int × (Int × (List Int × Unit))) × ((Int × (Int × Unit)) × Unit))) × Int × (List ((Int × (Int × (List Int × Unit))) × ((Int × (Int × Unit)) × Unit))) × List ((Int × (Int × (List Int × Unit))) × ((Int × (Int × Unit)) × Unit))) (A := Int × (List ((Int × (Int × (List Int × Unit))) × ((Int × (Int × Unit)) × Unit))) × Int) (fun rec4 y5 => match y5 with
  | (a6, (a7, (a8, (a9, (a10, (a11, a12)))))) =>
  (if (decide (a7 < (a9.length : Int))) = true then
  (Option.bind (idx a9 a7) fun v13 =>
  (if (v13.1.1 != a6) = true then
  (Option.bind (idx a9 a7) fun v14 =>
  (if (a11.length + 1) * 48 ≤ 140737488355328 then
  (let u15 : List ((Int × (Int × (List Int × Unit))) × ((Int × (Int × Unit)) × Unit)) := (a11 ++ ([((v14.1.1, (v14.1.2.1, (v14.1.2.2.1, ()))), ((v14.2.1.1, (v14.2.1.2.1, ())), ()))] : List ((Int × (Int × (List Int × Unit))) × ((Int × (Int × Unit)) × Unit))))
  rec4 (a6, ((IntKind.wrap .i64 (a7 + (1 : Int))), (a8, (a9, (a10, (u15, a12)))))))
  else none))
  else
  rec4 (a6, ((IntKind.wrap .i64 (a7 + (1 : Int))), (a8, (a9, (a10, (a11, a12))))))))
  else
  (let u16 : Int := (IntKind.wrap .i64 ((a9.length : Int) - (a11.length : Int)))
  some (a8, (a11, u16))))) n (x3, ((0 : Int), (x1, (x2, ((0 : Int), (([] : List ((Int × (Int × (List Int × Unit))) × ((Int × (Int × Unit)) × Unit))), ([] : List ((Int × (Int × (List Int × Unit))) × ((Int × (Int × Unit)) × Unit))))))))))
def sp_rDrop (n : Nat) : Spec := ⟨pre_rDrop, post_rDrop, rDrop n⟩
def env_rDrop (n : Nat) : List (FuncId × Spec) := []
theorem run_rDrop (n : Nat) (x : pre_rDrop.T) : fnRun Try.prog 68 (envG (env_rDrop n) [] (fun _ => none)) n Try.f35 ann_rDrop pre_rDrop post_rDrop x = rDrop n x := by kernel_rfl
theorem ok_rDrop (n : Nat) : FnOK Try.prog 68 L0 35 (sp_rDrop n) :=
  fn_run mixed Try.func35 (sp_rDrop n) n ann_rDrop (env_rDrop n) envOf_nil [] (fun _ => none) gl_none (run_rDrop n) (by kernel_rfl)
def pre_rTime : Shape := ⟨[.c (.dat (.int .i64))], []⟩
def post_rTime : List Shape := [⟨[.c (.dat .bool)], []⟩]
def ann_rTime : Ann := .no
/-- what turnstile/turnstileref21.time comes to. -/
def rTime (n : Nat) (x : Int) : Option (Bool) :=
  (if (decide (x ≥ (0 : Int))) = true then
  some (decide (x ≤ (1099511627776 : Int)))
  else
  some false)
def sp_rTime (n : Nat) : Spec := ⟨pre_rTime, post_rTime, rTime n⟩
def env_rTime (n : Nat) : List (FuncId × Spec) := []
theorem run_rTime (n : Nat) (x : pre_rTime.T) : fnRun Try.prog 68 (envG (env_rTime n) [] (fun _ => none)) n Try.f41 ann_rTime pre_rTime post_rTime x = rTime n x := by kernel_rfl
theorem ok_rTime (n : Nat) : FnOK Try.prog 68 L0 41 (sp_rTime n) :=
  fn_run mixed Try.func41 (sp_rTime n) n ann_rTime (env_rTime n) envOf_nil [] (fun _ => none) gl_none (run_rTime n) (by kernel_rfl)
def pre_rPlace : Shape := ⟨[.a [.dat (.int .i64), .dat (.list (.pair (.pair (.int .i64) (.pair (.int .i64) (.pair .str .unit))) (.pair (.pair (.int .i64) (.pair (.int .i64) .unit)) .unit)))], .a [.dat (.int .i64), .dat (.int .i64), .dat .str]], []⟩
def post_rPlace : List Shape := [⟨[.c (.dat (.int .i64))], []⟩]
def ann_rPlace : Ann := (.two .no (.two (.two .no (.one (.loop ⟨[2, 3, 5], ⟨[.c (.ptr 500 0), .c (.ptr 501 0), .c (.dat (.int .i64))], [(500, .cells 55 [.dat (.int .i64), .dat (.list (.pair (.pair (.int .i64) (.pair (.int .i64) (.pair .str .unit))) (.pair (.pair (.int .i64) (.pair (.int .i64) .unit)) .unit)))]), (501, .cells 35 [.dat (.int .i64), .dat (.int .i64), .dat .str])]⟩⟩ .no))) .no))
/-- what turnstile/turnstileref22.place comes to. -/
def rPlace (n : Nat) (x : Int × (List ((Int × (Int × (List Int × Unit))) × ((Int × (Int × Unit)) × Unit))) × Int × Int × List Int) : Option (Int) :=
  match x with
  | (x1, (x2, (x3, (x4, x5)))) =>
  (loopF (X := Int × Int × (List ((Int × (Int × (List Int × Unit))) × ((Int × (Int × Unit)) × Unit))) × Int × Int × List Int) (A := Int) (fun rec6 y7 => match y7 with
  | (a8, (a9, (a10, (a11, (a12, a13))))) =>
  (if (decide (a8 < (a10.length : Int))) = true then
  (Option.bind (idx a10 a8) fun v14 =>
  (if ((v14.1.1 == a11) && ((v14.1.2.1 == a12) && ((v14.1.2.2.1 == a13) && true))) = true then
  some a8
  else
  rec6 ((IntKind.wrap .i64 (a8 + (1 : Int))), (a9, (a10, (a11, (a12, a13)))))))
  else
  some (-1 : Int))) n ((0 : Int), (x1, (x2, (x3, (x4, x5))))))
def sp_rPlace (n : Nat) : Spec := ⟨pre_rPlace, post_rPlace, rPlace n⟩
def env_rPlace (n : Nat) : List (FuncId × Spec) := []
theorem run_rPlace (n : Nat) (x : pre_rPlace.T) : fnRun Try.prog 68 (envG (env_rPlace n) [] (fun _ => none)) n Try.f45 ann_rPlace pre_rPlace post_rPlace x = rPlace n x := by kernel_rfl
theorem ok_rPlace (n : Nat) : FnOK Try.prog 68 L0 45 (sp_rPlace n) :=
  fn_run mixed Try.func45 (sp_rPlace n) n ann_rPlace (env_rPlace n) envOf_nil [] (fun _ => none) gl_none (run_rPlace n) (by kernel_rfl)
def pre_valid : Shape := ⟨[.a [.dat (.int .i64), .dat (.int .i64), .dat (.int .i64), .dat (.int .i64)]], []⟩
def post_valid : List Shape := [⟨[.c (.dat .err)], []⟩]
def ann_valid : Ann := (.two .no (.two (.two .no (.one (.loop ⟨[11, 12], ⟨[.sg [.blk (.arr 3 (.int .i64))], .c (.dat (.int .i64))], []⟩⟩ .no))) .no))
/-- what turnstile/bucket.Valid comes to. -/
def valid (n : Nat) (x : Int × Int × Int × Int) : Option (Int) :=
  match x with
  | (x1, (x2, (x3, x4))) =>
  (loopF (X := (List Int) × Int) (A := Int) (fun rec5 y6 => match y6 with
  | (a7, a8) =>
  (if (decide (a8 < (3 : Int))) = true then
  (Option.bind (idx a7 a8) fun v9 =>
  (if (decide (v9 < (1 : Int))) = true then
  some (4 : Int)
  else
  (if (decide (v9 > (1048576 : Int))) = true then
  some (4 : Int)
  else
  rec5 (a7, (IntKind.wrap .i64 (a8 + (1 : Int)))))))
  else
  some (0 : Int))) n (([x2, x3, x4] : List Int), (0 : Int)))
def sp_valid (n : Nat) : Spec := ⟨pre_valid, post_valid, valid n⟩
def env_valid (n : Nat) : List (FuncId × Spec) := []
theorem run_valid (n : Nat) (x : pre_valid.T) : fnRun Try.prog 68 (envG (env_valid n) [] (fun _ => none)) n Try.f46 ann_valid pre_valid post_valid x = valid n x := by kernel_rfl
theorem ok_valid (n : Nat) : FnOK Try.prog 68 L0 46 (sp_valid n) :=
  fn_run mixed Try.func46 (sp_valid n) n ann_valid (env_valid n) envOf_nil [] (fun _ => none) gl_none (run_valid n) (by kernel_rfl)
def pre_tick : Shape := ⟨[.c (.dat (.int .i64))], []⟩
def post_tick : List Shape := [⟨[.c (.dat .bool)], []⟩]
def ann_tick : Ann := .no
/-- what turnstile/bucket.tick comes to. -/
def tick (n : Nat) (x : Int) : Option (Bool) :=
  (if (decide (x ≥ (0 : Int))) = true then
  some (decide (x ≤ (1099511627776 : Int)))
  else
  some false)
def sp_tick (n : Nat) : Spec := ⟨pre_tick, post_tick, tick n⟩
def env_tick (n : Nat) : List (FuncId × Spec) := []
theorem run_tick (n : Nat) (x : pre_tick.T) : fnRun Try.prog 68 (envG (env_tick n) [] (fun _ => none)) n Try.f47 ann_tick pre_tick post_tick x = tick n x := by kernel_rfl
theorem ok_tick (n : Nat) : FnOK Try.prog 68 L0 47 (sp_tick n) :=
  fn_run mixed Try.func47 (sp_tick n) n ann_tick (env_tick n) envOf_nil [] (fun _ => none) gl_none (run_tick n) (by kernel_rfl)
def pre_rValid : Shape := ⟨[.a [.dat (.int .i64), .dat (.int .i64), .dat (.int .i64), .dat (.int .i64)]], []⟩
def post_rValid : List Shape := [⟨[.c (.dat (.int .i64))], []⟩]
def ann_rValid : Ann := .no
/-- what turnstile/turnstileref21.Valid comes to. -/
def rValid (n : Nat) (x : Int × Int × Int × Int) : Option (Int) :=
  match x with
  | (x1, (x2, (x3, x4))) =>
  (Option.bind (rSmall n x2) fun r5 =>
  (if (!r5) = true then
  some (4 : Int)
  else
  (Option.bind (rSmall n x3) fun r6 =>
  (if (!r6) = true then
  some (4 : Int)
  else
  (Option.bind (rSmall n x4) fun r7 =>
  (if (!r7) = true then
  some (4 : Int)
  else
  some (0 : Int)))))))
def sp_rValid (n : Nat) : Spec := ⟨pre_rValid, post_rValid, rValid n⟩
def env_rValid (n : Nat) : List (FuncId × Spec) := [(25, sp_rSmall n)]
theorem run_rValid (n : Nat) (x : pre_rValid.T) : fnRun Try.prog 68 (envG (env_rValid n) [] (fun _ => none)) n Try.f8 ann_rValid pre_rValid post_rValid x = rValid n x := by kernel_rfl
theorem ok_rValid (n : Nat) : FnOK Try.prog 68 L0 8 (sp_rValid n) :=
  fn_run mixed Try.func8 (sp_rValid n) n ann_rValid (env_rValid n) (envOf_cons (ok_rSmall n) envOf_nil) [] (fun _ => none) gl_none (run_rValid n) (by kernel_rfl)
def pre_tClone : Shape := ⟨[.c (.ptr 0 0)], [(0, .cells 72 [.dat (.int .i64), .own 1, .dat (.nd 200), .dat (.nd 200)]), (1, .mp (.pair (.int .i64) (.pair (.int .i64) (.pair .str .unit))) (.nd 200)), (200, .pool 81 (.pair (.pair (.int .i64) (.pair (.int .i64) (.pair .str .unit))) (.pair (.pair (.int .i64) (.pair (.int .i64) .unit)) (.pair (.nd 200) (.pair (.nd 200) .unit)))))]⟩
def post_tClone : List Shape := [⟨[.c (.ptr 2 0)], [(0, .cells 72 [.dat (.int .i64), .own 1, .dat (.nd 200), .dat (.nd 200)]), (1, .mp (.pair (.int .i64) (.pair (.int .i64) (.pair .str .unit))) (.nd 200)), (200, .pool 81 (.pair (.pair (.int .i64) (.pair (.int .i64) (.pair .str .unit))) (.pair (.pair (.int .i64) (.pair (.int .i64) .unit)) (.pair (.nd 200) (.pair (.nd 200) .unit))))), (2, .cells 72 [.dat (.int .i64), .own 3, .dat (.nd 200), .dat (.nd 200)]), (3, .mp (.pair (.int .i64) (.pair (.int .i64) (.pair .str .unit))) (.nd 200))]⟩]
def ann_tClone : Ann := (.two .no (.two .no (.two .no (.two (.two .no (.one (.loop ⟨[3, 4], ⟨[.c (.ptr 500 0), .c (.dat (.nd 200))], [(500, .cells 72 [.dat (.int .i64), .own 501, .dat (.nd 200), .dat (.nd 200)]), (501, .mp (.pair (.int .i64) (.pair (.int .i64) (.pair .str .unit))) (.nd 200)), (0, .cells 72 [.dat (.int .i64), .own 1, .dat (.nd 200), .dat (.nd 200)]), (1, .mp (.pair (.int .i64) (.pair (.int .i64) (.pair .str .unit))) (.nd 200)), (200, .pool 81 (.pair (.pair (.int .i64) (.pair (.int .i64) (.pair .str .unit))) (.pair (.pair (.int .i64) (.pair (.int .i64) .unit)) (.pair (.nd 200) (.pair (.nd 200) .unit)))))]⟩⟩ .no))) .no))))
/-- what (turnstile/table.Table).Clone comes to. -/
def tClone (n : Nat) (x : Int × Int × Int × (List ((Int × (Int × (List Int × Unit))) × Int)) × List ((Int × (Int × (List Int × Unit))) × ((Int × (Int × Unit)) × (Int × (Int × Unit))))) : Option (Int × Int × Int × (List ((Int × (Int × (List Int × Unit))) × Int)) × (List ((Int × (Int × (List Int × Unit))) × ((Int × (Int × Unit)) × (Int × (Int × Unit))))) × Int × Int × Int × List ((Int × (Int × (List Int × Unit))) × Int)) :=
  match x with
  | (x1, (x2, (x3, (x4, x5)))) =>
  (let u6 : List ((Int × (Int × (List Int × Unit))) × Int) := ([] : List ((Int × (Int × (List Int × Unit))) × Int))
  (loopF (X := Int × Int × Int × Int × (List ((Int × (Int × (List Int × Unit))) × Int)) × Int × Int × Int × (List ((Int × (Int × (List Int × Unit))) × Int)) × List ((Int × (Int × (List Int × Unit))) × ((Int × (Int × Unit)) × (Int × (Int × Unit))))) (A := Int × Int × Int × (List ((Int × (Int × (List Int × Unit))) × Int)) × (List ((Int × (Int × (List Int × Unit))) × ((Int × (Int × Unit)) × (Int × (Int × Unit))))) × Int × Int × Int × List ((Int × (Int × (List Int × Unit))) × Int)) (fun rec7 y8 => match y8 with
  | (a9, (a10, (a11, (a12, (a13, (a14, (a15, (a16, (a17, a18))))))))) =>
  (if (!(decide (a9 < 0))) = true then
  (if a9 < 0 then none else
  (Option.bind (a18[a9.toNat]?) fun d19 =>
  (if a9 < 0 then none else
  (Option.bind (a18[a9.toNat]?) fun d20 =>
  (let u21 : List ((Int × (Int × (List Int × Unit))) × ((Int × (Int × Unit)) × (Int × (Int × Unit)))) := (a18 ++ [((d19.1.1, (d19.1.2.1, (d19.1.2.2.1, ()))), ((d20.2.1.1, (d20.2.1.2.1, ())), ((-1 : Int), ((-1 : Int), ()))))])
  (if (a18.length : Int) < 0 then none else
  (Option.bind (u21[(a18.length : Int).toNat]?) fun d22 =>
  (let u23 : List ((Int × (Int × (List Int × Unit))) × Int) := (mput (K.eqb (.pair (.int .i64) (.pair (.int .i64) (.pair .str .unit)))) (d22.1.1, (d22.1.2.1, (d22.1.2.2.1, ()))) (a18.length : Int) a13)
  (Option.bind (tBehind n ((a18.length : Int), (a10, (a11, (a12, (u23, u21)))))) fun r24 =>
  (if a9 < 0 then none else
  (Option.bind (r24.2.2.2.2[a9.toNat]?) fun d25 =>
  rec7 (d25.2.2.2.1, (r24.1, (r24.2.1, (r24.2.2.1, (r24.2.2.2.1, (a14, (a15, (a16, (a17, r24.2.2.2.2))))))))))))))))))))
  else
  some (a14, (a15, (a16, (a17, (a18, (a10, (a11, (a12, a13)))))))))) n (x2, (x1, ((-1 : Int), ((-1 : Int), (u6, (x1, (x2, (x3, (x4, x5)))))))))))
def sp_tClone (n : Nat) : Spec := ⟨pre_tClone, post_tClone, tClone n⟩
def env_tClone (n : Nat) : List (FuncId × Spec) := [(30, sp_tBehind n)]
theorem run_tClone (n : Nat) (x : pre_tClone.T) : fnRun Try.prog 68 (envG (env_tClone n) [] (fun _ => none)) n Try.f14 ann_tClone pre_tClone post_tClone x = tClone n x := by kernel_rfl
theorem ok_tClone (n : Nat) : FnOK Try.prog 68 L0 14 (sp_tClone n) :=
  fn_run mixed Try.func14 (sp_tClone n) n ann_tClone (env_tClone n) (envOf_cons (ok_tBehind n) envOf_nil) [] (fun _ => none) gl_none (run_tClone n) (by kernel_rfl)
def pre_tCloneN : Shape := ⟨[.c (.nilp)], []⟩
def post_tCloneN : List Shape := [⟨[.c (.nilp)], []⟩]
def ann_tCloneN : Ann := .no
/-- what (turnstile/table.Table).Clone comes to. -/
def tCloneN (n : Nat) (x : Unit) : Option (Unit) :=
  some ()
def sp_tCloneN (n : Nat) : Spec := ⟨pre_tCloneN, post_tCloneN, tCloneN n⟩
def env_tCloneN (n : Nat) : List (FuncId × Spec) := [(30, sp_tBehind n)]
theorem run_tCloneN (n : Nat) (x : pre_tCloneN.T) : fnRun Try.prog 68 (envG (env_tCloneN n) [] (fun _ => none)) n Try.f14 ann_tCloneN pre_tCloneN post_tCloneN x = tCloneN n x := by kernel_rfl
theorem ok_tCloneN (n : Nat) : FnOK Try.prog 68 L0 14 (sp_tCloneN n) :=
  fn_run mixed Try.func14 (sp_tCloneN n) n ann_tCloneN (env_tCloneN n) (envOf_cons (ok_tBehind n) envOf_nil) [] (fun _ => none) gl_none (run_tCloneN n) (by kernel_rfl)
def pre_same : Shape := ⟨[.c (.ptr 0 0), .a [.dat (.int .i64), .dat (.list (.pair (.pair (.int .i64) (.pair (.int .i64) (.pair .str .unit))) (.pair (.pair (.int .i64) (.pair (.int .i64) .unit)) .unit)))]], [(0, .cells 72 [.dat (.int .i64), .own 1, .dat (.nd 200), .dat (.nd 200)]), (1, .mp (.pair (.int .i64) (.pair (.int .i64) (.pair .str .unit))) (.nd 200)), (200, .pool 81 (.pair (.pair (.int .i64) (.pair (.int .i64) (.pair .str .unit))) (.pair (.pair (.int .i64) (.pair (.int .i64) .unit)) (.pair (.nd 200) (.pair (.nd 200) .unit)))))]⟩
def post_same : List Shape := [⟨[.c (.dat .bool)], [(0, .cells 72 [.dat (.int .i64), .own 1, .dat (.nd 200), .dat (.nd 200)]), (1, .mp (.pair (.int .i64) (.pair (.int .i64) (.pair .str .unit))) (.nd 200)), (200, .pool 81 (.pair (.pair (.int .i64) (.pair (.int .i64) (.pair .str .unit))) (.pair (.pair (.int .i64) (.pair (.int .i64) .unit)) (.pair (.nd 200) (.pair (.nd 200) .unit)))))]⟩]
def ann_same : Ann := (.two .no (.two .no (.two .no (.two (.two .no (.one (.loop ⟨[3, 5, 6], ⟨[.c (.ptr 500 0), .c (.dat (.list (.pair (.int .i64) (.pair (.int .i64) (.pair .str .unit))))), .c (.dat (.int .i64))], [(500, .cells 55 [.dat (.int .i64), .dat (.list (.pair (.pair (.int .i64) (.pair (.int .i64) (.pair .str .unit))) (.pair (.pair (.int .i64) (.pair (.int .i64) .unit)) .unit)))]), (0, .cells 72 [.dat (.int .i64), .own 1, .dat (.nd 200), .dat (.nd 200)]), (1, .mp (.pair (.int .i64) (.pair (.int .i64) (.pair .str .unit))) (.nd 200)), (200, .pool 81 (.pair (.pair (.int .i64) (.pair (.int .i64) (.pair .str .unit))) (.pair (.pair (.int .i64) (.pair (.int .i64) .unit)) (.pair (.nd 200) (.pair (.nd 200) .unit)))))]⟩⟩ .no))) .no))))
/-- what turnstile/turnstilelaw22.same comes to. -/
def same (n : Nat) (x : Int × (List ((Int × (Int × (List Int × Unit))) × ((Int × (Int × Unit)) × Unit))) × Int × Int × Int × (List ((Int × (Int × (List Int × Unit))) × Int)) × List ((Int × (Int × (List Int × Unit))) × ((Int × (Int × Unit)) × (Int × (Int × Unit))))) : Option (Bool × Int × Int × Int × (List ((Int × (Int × (List Int × Unit))) × Int)) × List ((Int × (Int × (List Int × Unit))) × ((Int × (Int × Unit)) × (Int × (Int × Unit))))) :=
  match x with
  | (x1, (x2, (x3, (x4, (x5, (x6, x7)))))) =>
  (Option.bind (tWho n (x3, (x4, (x5, (x6, x7))))) fun r8 =>
  (Option.bind (tLen n (r8.2.1, (r8.2.2.1, (r8.2.2.2.1, (r8.2.2.2.2.1, r8.2.2.2.2.2))))) fun r9 =>
  (if (r9.1 != (x2.length : Int)) = true then
  some (false, (r9.2.1, (r9.2.2.1, (r9.2.2.2.1, (r9.2.2.2.2.1, r9.2.2.2.2.2)))))
  else
  (if ((r8.1.length : Int) != (x2.length : Int)) = true then
  some (false, (r9.2.1, (r9.2.2.1, (r9.2.2.2.1, (r9.2.2.2.2.1, r9.2.2.2.2.2)))))
  else
  (loopF (X := (List (Int × (Int × (List Int × Unit)))) × Int × Int × (List ((Int × (Int × (List Int × Unit))) × ((Int × (Int × Unit)) × Unit))) × Int × Int × Int × (List ((Int × (Int × (List Int × Unit))) × Int)) × List ((Int × (Int × (List Int × Unit))) × ((Int × (Int × Unit)) × (Int × (Int × Unit))))) (A := Bool × Int × Int × Int × (List ((Int × (Int × (List Int × Unit))) × Int)) × List ((Int × (Int × (List Int × Unit))) × ((Int × (Int × Unit)) × (Int × (Int × Unit))))) (fun rec10 y11 => match y11 with
  | (a12, (a13, (a14, (a15, (a16, (a17, (a18, (a19, a20)))))))) =>
  (if (decide (a13 < (a12.length : Int))) = true then
  (Option.bind (idx a12 a13) fun v21 =>
  (Option.bind (idx a15 a13) fun v22 =>
  (if (!((v21.1 == v22.1.1) && ((v21.2.1 == v22.1.2.1) && ((v21.2.2.1 == v22.1.2.2.1) && true)))) = true then
  some (false, (a16, (a17, (a18, (a19, a20)))))
  else
  (let u23 : Int := (IntKind.wrap .i64 (a13 + (1 : Int)))
  rec10 (a12, (u23, (a14, (a15, (a16, (a17, (a18, (a19, a20))))))))))))
  else
  some (true, (a16, (a17, (a18, (a19, a20))))))) n (r8.1, ((0 : Int), (x1, (x2, (r9.2.1, (r9.2.2.1, (r9.2.2.2.1, (r9.2.2.2.2.1, r9.2.2.2.2.2)))))))))))))
def sp_same (n : Nat) : Spec := ⟨pre_same, post_same, same n⟩
def env_same (n : Nat) : List (FuncId × Spec) := [(24, sp_tWho n), (24, sp_tWhoN n), (15, sp_tLen n), (15, sp_tLenN n)]
theorem run_same (n : Nat) (x : pre_same.T) : fnRun Try.prog 68 (envG (env_same n) [] (fun _ => none)) n Try.f19 ann_same pre_same post_same x = same n x := by kernel_rfl
theorem ok_same (n : Nat) : FnOK Try.prog 68 L0 19 (sp_same n) :=
  fn_run mixed Try.func19 (sp_same n) n ann_same (env_same n) (envOf_cons (ok_tWho n) (envOf_cons (ok_tWhoN n) (envOf_cons (ok_tLen n) (envOf_cons (ok_tLenN n) envOf_nil)))) [] (fun _ => none) gl_none (run_same n) (by kernel_rfl)
def pre_tRemove : Shape := ⟨[.c (.ptr 0 0), .c (.dat (.nd 200))], [(0, .cells 72 [.dat (.int .i64), .own 1, .dat (.nd 200), .dat (.nd 200)]), (1, .mp (.pair (.int .i64) (.pair (.int .i64) (.pair .str .unit))) (.nd 200)), (200, .pool 81 (.pair (.pair (.int .i64) (.pair (.int .i64) (.pair .str .unit))) (.pair (.pair (.int .i64) (.pair (.int .i64) .unit)) (.pair (.nd 200) (.pair (.nd 200) .unit)))))]⟩
def post_tRemove : List Shape := [⟨[], [(0, .cells 72 [.dat (.int .i64), .own 1, .dat (.nd 200), .dat (.nd 200)]), (1, .mp (.pair (.int .i64) (.pair (.int .i64) (.pair .str .unit))) (.nd 200)), (200, .pool 81 (.pair (.pair (.int .i64) (.pair (.int .i64) (.pair .str .unit))) (.pair (.pair (.int .i64) (.pair (.int .i64) .unit)) (.pair (.nd 200) (.pair (.nd 200) .unit)))))]⟩]
def ann_tRemove : Ann := .no
/-- what (turnstile/table.Table).remove comes to. -/
def tRemove (n : Nat) (x : Int × Int × Int × Int × (List ((Int × (Int × (List Int × Unit))) × Int)) × List ((Int × (Int × (List Int × Unit))) × ((Int × (Int × Unit)) × (Int × (Int × Unit))))) : Option (Int × Int × Int × (List ((Int × (Int × (List Int × Unit))) × Int)) × List ((Int × (Int × (List Int × Unit))) × ((Int × (Int × Unit)) × (Int × (Int × Unit))))) :=
  match x with
  | (x1, (x2, (x3, (x4, (x5, x6))))) =>
  (Option.bind (tUnlink n (x1, (x2, (x3, (x4, (x5, x6)))))) fun r7 =>
  (if x1 < 0 then none else
  (Option.bind (r7.2.2.2.2[x1.toNat]?) fun d8 =>
  (let u9 : List ((Int × (Int × (List Int × Unit))) × Int) := (mdel (K.eqb (.pair (.int .i64) (.pair (.int .i64) (.pair .str .unit)))) (d8.1.1, (d8.1.2.1, (d8.1.2.2.1, ()))) r7.2.2.2.1)
  some (r7.1, (r7.2.1, (r7.2.2.1, (u9, r7.2.2.2.2))))))))
def sp_tRemove (n : Nat) : Spec := ⟨pre_tRemove, post_tRemove, tRemove n⟩
def env_tRemove (n : Nat) : List (FuncId × Spec) := [(29, sp_tUnlink n)]
theorem run_tRemove (n : Nat) (x : pre_tRemove.T) : fnRun Try.prog 68 (envG (env_tRemove n) [] (fun _ => none)) n Try.f28 ann_tRemove pre_tRemove post_tRemove x = tRemove n x := by kernel_rfl
theorem ok_tRemove (n : Nat) : FnOK Try.prog 68 L0 28 (sp_tRemove n) :=
  fn_run mixed Try.func28 (sp_tRemove n) n ann_tRemove (env_tRemove n) (envOf_cons (ok_tUnlink n) envOf_nil) [] (fun _ => none) gl_none (run_tRemove n) (by kernel_rfl)
def pre_rCheck : Shape := ⟨[.a [.dat (.int .i64), .dat (.int .i64)], .a [.dat (.int .i64), .dat (.int .i64), .dat (.int .i64), .dat (.int .i64)], .c (.dat (.int .i64))], []⟩
def post_rCheck : List Shape := [⟨[.c (.dat (.int .i64))], []⟩]
def ann_rCheck : Ann := .no
/-- what turnstile/turnstileref21.check comes to. -/
def rCheck (n : Nat) (x : Int × Int × Int × Int × Int × Int × Int) : Option (Int) :=
  match x with
  | (x1, (x2, (x3, (x4, (x5, (x6, x7)))))) =>
  (Option.bind (rValid n (x3, (x4, (x5, x6)))) fun r8 =>
  (if (r8 != (0 : Int)) = true then
  some (4 : Int)
  else
  (if (decide (x1 < (0 : Int))) = true then
  some (1 : Int)
  else
  (if (decide (x1 > (IntKind.wrap .i64 (x6 * x5)))) = true then
  some (1 : Int)
  else
  (Option.bind (rTime n x2) fun r9 =>
  (if (!r9) = true then
  some (1 : Int)
  else
  (Option.bind (rTime n x7) fun r10 =>
  (if (!r10) = true then
  some (1 : Int)
  else
  some (0 : Int)))))))))
def sp_rCheck (n : Nat) : Spec := ⟨pre_rCheck, post_rCheck, rCheck n⟩
def env_rCheck (n : Nat) : List (FuncId × Spec) := [(8, sp_rValid n), (41, sp_rTime n)]
theorem run_rCheck (n : Nat) (x : pre_rCheck.T) : fnRun Try.prog 68 (envG (env_rCheck n) [] (fun _ => none)) n Try.f31 ann_rCheck pre_rCheck post_rCheck x = rCheck n x := by kernel_rfl
theorem ok_rCheck (n : Nat) : FnOK Try.prog 68 L0 31 (sp_rCheck n) :=
  fn_run mixed Try.func31 (sp_rCheck n) n ann_rCheck (env_rCheck n) (envOf_cons (ok_rValid n) (envOf_cons (ok_rTime n) envOf_nil)) [] (fun _ => none) gl_none (run_rCheck n) (by kernel_rfl)
def pre_rFill : Shape := ⟨[.a [.dat (.int .i64), .dat (.int .i64)], .a [.dat (.int .i64), .dat (.int .i64), .dat (.int .i64), .dat (.int .i64)], .c (.dat (.int .i64))], []⟩
def post_rFill : List Shape := [⟨[.a [.dat (.int .i64), .dat (.int .i64)], .c (.dat (.int .i64))], []⟩]
def ann_rFill : Ann := .no
/-- what turnstile/turnstileref21.Fill comes to. -/
def rFill (n : Nat) (x : Int × Int × Int × Int × Int × Int × Int) : Option (Int × Int × Int) :=
  match x with
  | (x1, (x2, (x3, (x4, (x5, (x6, x7)))))) =>
  (Option.bind (rCheck n (x1, (x2, (x3, (x4, (x5, (x6, x7))))))) fun r8 =>
  (if (r8 != (0 : Int)) = true then
  some ((0 : Int), ((0 : Int), r8))
  else
  (if (decide (x7 > x2)) = true then
  (let u9 : Int := (IntKind.wrap .i64 ((IntKind.wrap .i64 (x7 - x2)) * x4))
  (let u10 : Int := (if (IntKind.wrap .i64 (x6 * x5)) < (IntKind.wrap .i64 (x1 + u9)) then (IntKind.wrap .i64 (x6 * x5)) else (IntKind.wrap .i64 (x1 + u9)))
  some (u10, (x7, (0 : Int)))))
  else
  some (x1, (x2, (0 : Int))))))
def sp_rFill (n : Nat) : Spec := ⟨pre_rFill, post_rFill, rFill n⟩
def env_rFill (n : Nat) : List (FuncId × Spec) := [(31, sp_rCheck n)]
theorem run_rFill (n : Nat) (x : pre_rFill.T) : fnRun Try.prog 68 (envG (env_rFill n) [] (fun _ => none)) n Try.f32 ann_rFill pre_rFill post_rFill x = rFill n x := by kernel_rfl
theorem ok_rFill (n : Nat) : FnOK Try.prog 68 L0 32 (sp_rFill n) :=
  fn_run mixed Try.func32 (sp_rFill n) n ann_rFill (env_rFill n) (envOf_cons (ok_rCheck n) envOf_nil) [] (fun _ => none) gl_none (run_rFill n) (by kernel_rfl)
def pre_full : Shape := ⟨[.a [.dat (.int .i64), .dat (.int .i64), .dat (.int .i64), .dat (.int .i64)], .c (.dat (.int .i64))], []⟩
def post_full : List Shape := [⟨[.a [.dat (.int .i64), .dat (.int .i64)], .c (.dat .err)], []⟩]
def ann_full : Ann := .no
/-- what turnstile/bucket.Full comes to. -/
def full (n : Nat) (x : Int × Int × Int × Int × Int) : Option (Int × Int × Int) :=
  match x with
  | (x1, (x2, (x3, (x4, x5)))) =>
  (Option.bind (valid n (x1, (x2, (x3, x4)))) fun r6 =>
  (if (!(r6 == (0 : Int))) = true then
  some ((0 : Int), ((0 : Int), r6))
  else
  (Option.bind (tick n x5) fun r7 =>
  (if (!r7) = true then
  some ((0 : Int), ((0 : Int), (1 : Int)))
  else
  some ((IntKind.wrap .i64 (x4 * x3)), (x5, (0 : Int)))))))
def sp_full (n : Nat) : Spec := ⟨pre_full, post_full, full n⟩
def env_full (n : Nat) : List (FuncId × Spec) := [(46, sp_valid n), (47, sp_tick n)]
theorem run_full (n : Nat) (x : pre_full.T) : fnRun Try.prog 68 (envG (env_full n) [] (fun _ => none)) n Try.f39 ann_full pre_full post_full x = full n x := by kernel_rfl
theorem ok_full (n : Nat) : FnOK Try.prog 68 L0 39 (sp_full n) :=
  fn_run mixed Try.func39 (sp_full n) n ann_full (env_full n) (envOf_cons (ok_valid n) (envOf_cons (ok_tick n) envOf_nil)) [] (fun _ => none) gl_none (run_full n) (by kernel_rfl)
def pre_fill : Shape := ⟨[.a [.dat (.int .i64), .dat (.int .i64)], .a [.dat (.int .i64), .dat (.int .i64), .dat (.int .i64), .dat (.int .i64)], .c (.dat (.int .i64))], []⟩
def post_fill : List Shape := [⟨[.a [.dat (.int .i64), .dat (.int .i64)], .c (.dat .err)], []⟩]
def ann_fill : Ann := .no
/-- what turnstile/bucket.Fill comes to. -/
def fill (n : Nat) (x : Int × Int × Int × Int × Int × Int × Int) : Option (Int × Int × Int) :=
  match x with
  | (x1, (x2, (x3, (x4, (x5, (x6, x7)))))) =>
  (Option.bind (full n (x3, (x4, (x5, (x6, x7))))) fun r8 =>
  (if (!(r8.2.2 == (0 : Int))) = true then
  some ((0 : Int), ((0 : Int), r8.2.2))
  else
  (if (decide (x1 < (0 : Int))) = true then
  some ((0 : Int), ((0 : Int), (1 : Int)))
  else
  (if (decide (x1 > r8.1)) = true then
  some ((0 : Int), ((0 : Int), (1 : Int)))
  else
  (Option.bind (tick n x2) fun r9 =>
  (if (!r9) = true then
  some ((0 : Int), ((0 : Int), (1 : Int)))
  else
  (if (decide (x7 ≤ x2)) = true then
  some (x1, (x2, (0 : Int)))
  else
  (if (decide ((IntKind.wrap .i64 (x7 - x2)) < (IntKind.wrap .i64 (r8.1 - x1)))) = true then
  (let u10 : Int := (IntKind.wrap .i64 ((IntKind.wrap .i64 (x7 - x2)) * x4))
  (if (decide (u10 < (IntKind.wrap .i64 (r8.1 - x1)))) = true then
  (let u11 : Int := (IntKind.wrap .i64 ((IntKind.wrap .i64 (x7 - x2)) * x4))
  some ((IntKind.wrap .i64 (x1 + u11)), (x7, (0 : Int))))
  else
  some (r8.1, (r8.2.1, (0 : Int)))))
  else
  some (r8.1, (r8.2.1, (0 : Int)))))))))))
def sp_fill (n : Nat) : Spec := ⟨pre_fill, post_fill, fill n⟩
def env_fill (n : Nat) : List (FuncId × Spec) := [(39, sp_full n), (47, sp_tick n)]
theorem run_fill (n : Nat) (x : pre_fill.T) : fnRun Try.prog 68 (envG (env_fill n) [] (fun _ => none)) n Try.f40 ann_fill pre_fill post_fill x = fill n x := by kernel_rfl
theorem ok_fill (n : Nat) : FnOK Try.prog 68 L0 40 (sp_fill n) :=
  fn_run mixed Try.func40 (sp_fill n) n ann_fill (env_fill n) (envOf_cons (ok_full n) (envOf_cons (ok_tick n) envOf_nil)) [] (fun _ => none) gl_none (run_fill n) (by kernel_rfl)
def pre_turnstileref21RLeft : Shape := ⟨[.a [.dat (.int .i64), .dat (.int .i64)], .a [.dat (.int .i64), .dat (.int .i64), .dat (.int .i64), .dat (.int .i64)], .c (.dat (.int .i64))], []⟩
def post_turnstileref21RLeft : List Shape := [⟨[.c (.dat (.int .i64)), .c (.dat (.int .i64))], []⟩]
def ann_turnstileref21RLeft : Ann := .no
/-- what turnstile/turnstileref21.Left comes to. -/
def turnstileref21RLeft (n : Nat) (x : Int × Int × Int × Int × Int × Int × Int) : Option (Int × Int) :=
  match x with
  | (x1, (x2, (x3, (x4, (x5, (x6, x7)))))) =>
  (Option.bind (rFill n (x1, (x2, (x3, (x4, (x5, (x6, x7))))))) fun r8 =>
  (if (r8.2.2 != (0 : Int)) = true then
  some ((0 : Int), r8.2.2)
  else
  (if x5 = 0 then none else
  (let u9 : Int := (IntKind.wrap .i64 (Int.tdiv r8.1 x5))
  some (u9, (0 : Int))))))
def sp_turnstileref21RLeft (n : Nat) : Spec := ⟨pre_turnstileref21RLeft, post_turnstileref21RLeft, turnstileref21RLeft n⟩
def env_turnstileref21RLeft (n : Nat) : List (FuncId × Spec) := [(32, sp_rFill n)]
theorem run_turnstileref21RLeft (n : Nat) (x : pre_turnstileref21RLeft.T) : fnRun Try.prog 68 (envG (env_turnstileref21RLeft n) [] (fun _ => none)) n Try.f43 ann_turnstileref21RLeft pre_turnstileref21RLeft post_turnstileref21RLeft x = turnstileref21RLeft n x := by kernel_rfl
theorem ok_turnstileref21RLeft (n : Nat) : FnOK Try.prog 68 L0 43 (sp_turnstileref21RLeft n) :=
  fn_run mixed Try.func43 (sp_turnstileref21RLeft n) n ann_turnstileref21RLeft (env_turnstileref21RLeft n) (envOf_cons (ok_rFill n) envOf_nil) [] (fun _ => none) gl_none (run_turnstileref21RLeft n) (by kernel_rfl)
def pre_turnstileref21RWait : Shape := ⟨[.a [.dat (.int .i64), .dat (.int .i64)], .a [.dat (.int .i64), .dat (.int .i64), .dat (.int .i64), .dat (.int .i64)], .c (.dat (.int .i64))], []⟩
def post_turnstileref21RWait : List Shape := [⟨[.c (.dat (.int .i64)), .c (.dat (.int .i64))], []⟩]
def ann_turnstileref21RWait : Ann := .no
/-- what turnstile/turnstileref21.Wait comes to. -/
def turnstileref21RWait (n : Nat) (x : Int × Int × Int × Int × Int × Int × Int) : Option (Int × Int) :=
  match x with
  | (x1, (x2, (x3, (x4, (x5, (x6, x7)))))) =>
  (Option.bind (rFill n (x1, (x2, (x3, (x4, (x5, (x6, x7))))))) fun r8 =>
  (if (r8.2.2 != (0 : Int)) = true then
  some ((0 : Int), r8.2.2)
  else
  (let u9 : Int := (if (0 : Int) > (IntKind.wrap .i64 (x5 - r8.1)) then (0 : Int) else (IntKind.wrap .i64 (x5 - r8.1)))
  (let u10 : Int := (IntKind.wrap .i64 ((IntKind.wrap .i64 (u9 + x4)) - (1 : Int)))
  (if x4 = 0 then none else
  (let u11 : Int := (IntKind.wrap .i64 (Int.tdiv u10 x4))
  some (u11, (0 : Int))))))))
def sp_turnstileref21RWait (n : Nat) : Spec := ⟨pre_turnstileref21RWait, post_turnstileref21RWait, turnstileref21RWait n⟩
def env_turnstileref21RWait (n : Nat) : List (FuncId × Spec) := [(32, sp_rFill n)]
theorem run_turnstileref21RWait (n : Nat) (x : pre_turnstileref21RWait.T) : fnRun Try.prog 68 (envG (env_turnstileref21RWait n) [] (fun _ => none)) n Try.f44 ann_turnstileref21RWait pre_turnstileref21RWait post_turnstileref21RWait x = turnstileref21RWait n x := by kernel_rfl
theorem ok_turnstileref21RWait (n : Nat) : FnOK Try.prog 68 L0 44 (sp_turnstileref21RWait n) :=
  fn_run mixed Try.func44 (sp_turnstileref21RWait n) n ann_turnstileref21RWait (env_turnstileref21RWait n) (envOf_cons (ok_rFill n) envOf_nil) [] (fun _ => none) gl_none (run_turnstileref21RWait n) (by kernel_rfl)
def pre_rFull : Shape := ⟨[.a [.dat (.int .i64), .dat (.int .i64), .dat (.int .i64), .dat (.int .i64)], .c (.dat (.int .i64))], []⟩
def post_rFull : List Shape := [⟨[.a [.dat (.int .i64), .dat (.int .i64)], .c (.dat (.int .i64))], []⟩]
def ann_rFull : Ann := .no
/-- what turnstile/turnstileref21.Full comes to. -/
def rFull (n : Nat) (x : Int × Int × Int × Int × Int) : Option (Int × Int × Int) :=
  match x with
  | (x1, (x2, (x3, (x4, x5)))) =>
  (Option.bind (rCheck n ((0 : Int), ((0 : Int), (x1, (x2, (x3, (x4, x5))))))) fun r6 =>
  (if (r6 != (0 : Int)) = true then
  some ((0 : Int), ((0 : Int), r6))
  else
  some ((IntKind.wrap .i64 (x4 * x3)), (x5, (0 : Int)))))
def sp_rFull (n : Nat) : Spec := ⟨pre_rFull, post_rFull, rFull n⟩
def env_rFull (n : Nat) : List (FuncId × Spec) := [(31, sp_rCheck n)]
theorem run_rFull (n : Nat) (x : pre_rFull.T) : fnRun Try.prog 68 (envG (env_rFull n) [] (fun _ => none)) n Try.f11 ann_rFull pre_rFull post_rFull x = rFull n x := by kernel_rfl
theorem ok_rFull (n : Nat) : FnOK Try.prog 68 L0 11 (sp_rFull n) :=
  fn_run mixed Try.func11 (sp_rFull n) n ann_rFull (env_rFull n) (envOf_cons (ok_rCheck n) envOf_nil) [] (fun _ => none) gl_none (run_rFull n) (by kernel_rfl)
def pre_rTake : Shape := ⟨[.a [.dat (.int .i64), .dat (.int .i64)], .a [.dat (.int .i64), .dat (.int .i64), .dat (.int .i64), .dat (.int .i64)], .c (.dat (.int .i64))], []⟩
def post_rTake : List Shape := [⟨[.a [.dat (.int .i64), .dat (.int .i64)], .c (.dat .bool), .c (.dat (.int .i64))], []⟩]
def ann_rTake : Ann := .no
/-- what turnstile/turnstileref21.Take comes to. -/
def rTake (n : Nat) (x : Int × Int × Int × Int × Int × Int × Int) : Option (Int × Int × Bool × Int) :=
  match x with
  | (x1, (x2, (x3, (x4, (x5, (x6, x7)))))) =>
  (Option.bind (rFill n (x1, (x2, (x3, (x4, (x5, (x6, x7))))))) fun r8 =>
  (if (r8.2.2 != (0 : Int)) = true then
  some ((0 : Int), ((0 : Int), (false, r8.2.2)))
  else
  (if (decide (r8.1 < x5)) = true then
  some (r8.1, (r8.2.1, (false, (0 : Int))))
  else
  some ((IntKind.wrap .i64 (r8.1 - x5)), (r8.2.1, (true, (0 : Int)))))))
def sp_rTake (n : Nat) : Spec := ⟨pre_rTake, post_rTake, rTake n⟩
def env_rTake (n : Nat) : List (FuncId × Spec) := [(32, sp_rFill n)]
theorem run_rTake (n : Nat) (x : pre_rTake.T) : fnRun Try.prog 68 (envG (env_rTake n) [] (fun _ => none)) n Try.f12 ann_rTake pre_rTake post_rTake x = rTake n x := by kernel_rfl
theorem ok_rTake (n : Nat) : FnOK Try.prog 68 L0 12 (sp_rTake n) :=
  fn_run mixed Try.func12 (sp_rTake n) n ann_rTake (env_rTake n) (envOf_cons (ok_rFill n) envOf_nil) [] (fun _ => none) gl_none (run_rTake n) (by kernel_rfl)
def pre_tDrop : Shape := ⟨[.c (.ptr 0 0), .c (.dat (.int .i64))], [(0, .cells 72 [.dat (.int .i64), .own 1, .dat (.nd 200), .dat (.nd 200)]), (1, .mp (.pair (.int .i64) (.pair (.int .i64) (.pair .str .unit))) (.nd 200)), (200, .pool 81 (.pair (.pair (.int .i64) (.pair (.int .i64) (.pair .str .unit))) (.pair (.pair (.int .i64) (.pair (.int .i64) .unit)) (.pair (.nd 200) (.pair (.nd 200) .unit)))))]⟩
def post_tDrop : List Shape := [⟨[.c (.dat (.int .i64))], [(0, .cells 72 [.dat (.int .i64), .own 1, .dat (.nd 200), .dat (.nd 200)]), (1, .mp (.pair (.int .i64) (.pair (.int .i64) (.pair .str .unit))) (.nd 200)), (200, .pool 81 (.pair (.pair (.int .i64) (.pair (.int .i64) (.pair .str .unit))) (.pair (.pair (.int .i64) (.pair (.int .i64) .unit)) (.pair (.nd 200) (.pair (.nd 200) .unit)))))]⟩]
def ann_tDrop : Ann := (.two .no (.two .no (.two (.two .no (.one (.loop ⟨[0, 1, 5, 9, 10, 11], ⟨[.c (.ptr 0 0), .c (.dat (.int .i64)), .c (.dat (.int .i64)), .c (.dat (.list (.pair (.int .i64) (.pair (.int .i64) (.pair .str .unit))))), .c (.dat (.int .i64)), .c (.dat (.int .i64))], [(0, .cells 72 [.dat (.int .i64), .own 1, .dat (.nd 200), .dat (.nd 200)]), (1, .mp (.pair (.int .i64) (.pair (.int .i64) (.pair .str .unit))) (.nd 200)), (200, .pool 81 (.pair (.pair (.int .i64) (.pair (.int .i64) (.pair .str .unit))) (.pair (.pair (.int .i64) (.pair (.int .i64) .unit)) (.pair (.nd 200) (.pair (.nd 200) .unit)))))]⟩⟩ .no))) .no)))
/-- what (turnstile/table.Table).Drop comes to. -/
def tDrop (n : Nat) (x : Int × Int × Int × Int × (List ((Int × (Int × (List Int × Unit))) × Int)) × List ((Int × (Int × (List Int × Unit))) × ((Int × (Int × Unit)) × (Int × (Int × Unit))))) : Option (Int × Int × Int × Int × (List ((Int × (Int × (List Int × Unit))) × Int)) × List ((Int × (Int × (List Int × Unit))) × ((Int × (Int × Unit)) × (Int × (Int × Unit))))) :=
  match x with
  | (x1, (x2, (x3, (x4, (x5, x6))))) =>
  (Option.bind (tWho n (x2, (x3, (x4, (x5, x6))))) fun r7 =>
  (loopF (X := Int × Int × (List (Int × (Int × (List Int × Unit)))) × Int × Int × Int × Int × Int × (List ((Int × (Int × (List Int × Unit))) × Int)) × List ((Int × (Int × (List Int × Unit))) × ((Int × (Int × Unit)) × (Int × (Int × Unit))))) (A := Int × Int × Int × Int × (List ((Int × (Int × (List Int × Unit))) × Int)) × List ((Int × (Int × (List Int × Unit))) × ((Int × (Int × Unit)) × (Int × (Int × Unit))))) (fun rec8 y9 => match y9 with
  | (a10, (a11, (a12, (a13, (a14, (a15, (a16, (a17, (a18, a19))))))))) =>
  (if (decide (a14 < a13)) = true then
  (Option.bind (idx a12 a14) fun v20 =>
  (if (v20.1 == a10) = true then
  (let u21 : Int := (Option.getD (mget (K.eqb (.pair (.int .i64) (.pair (.int .i64) (.pair .str .unit)))) (v20.1, (v20.2.1, (v20.2.2.1, ()))) a18) (-1 : Int))
  (Option.bind (tRemove n (u21, (a15, (a16, (a17, (a18, a19)))))) fun r22 =>
  (let u23 : Int := (IntKind.wrap .i64 (a11 + (1 : Int)))
  (let u24 : Int := (IntKind.wrap .i64 (a14 + (1 : Int)))
  rec8 (a10, (u23, (a12, (a13, (u24, (r22.1, (r22.2.1, (r22.2.2.1, (r22.2.2.2.1, r22.2.2.2.2)))))))))))))
  else
  (let u25 : Int := (IntKind.wrap .i64 (a14 + (1 : Int)))
  rec8 (a10, (a11, (a12, (a13, (u25, (a15, (a16, (a17, (a18, a19))))))))))))
  else
  some (a11, (a15, (a16, (a17, (a18, a19))))))) n (x1, ((0 : Int), (r7.1, ((r7.1.length : Int), ((0 : Int), (r7.2.1, (r7.2.2.1, (r7.2.2.2.1, (r7.2.2.2.2.1, r7.2.2.2.2.2)))))))))))
def sp_tDrop (n : Nat) : Spec := ⟨pre_tDrop, post_tDrop, tDrop n⟩
def env_tDrop (n : Nat) : List (FuncId × Spec) := [(24, sp_tWho n), (24, sp_tWhoN n), (28, sp_tRemove n)]
theorem run_tDrop (n : Nat) (x : pre_tDrop.T) : fnRun Try.prog 68 (envG (env_tDrop n) [] (fun _ => none)) n Try.f16 ann_tDrop pre_tDrop post_tDrop x = tDrop n x := by kernel_rfl
theorem ok_tDrop (n : Nat) : FnOK Try.prog 68 L0 16 (sp_tDrop n) :=
  fn_run mixed Try.func16 (sp_tDrop n) n ann_tDrop (env_tDrop n) (envOf_cons (ok_tWho n) (envOf_cons (ok_tWhoN n) (envOf_cons (ok_tRemove n) envOf_nil))) [] (fun _ => none) gl_none (run_tDrop n) (by kernel_rfl)
def pre_tDropN : Shape := ⟨[.c (.nilp), .c (.dat (.int .i64))], []⟩
def post_tDropN : List Shape := [⟨[.c (.dat (.int .i64))], []⟩]
def ann_tDropN : Ann := (.two .no (.two .no (.two (.two .no (.one (.loop ⟨[0, 1, 5, 9, 10, 11], ⟨[.c (.nilp), .c (.dat (.int .i64)), .c (.dat (.int .i64)), .c (.dat (.list (.pair (.int .i64) (.pair (.int .i64) (.pair .str .unit))))), .c (.dat (.int .i64)), .c (.dat (.int .i64))], []⟩⟩ .no))) .no)))
/-- what (turnstile/table.Table).Drop comes to. -/
def tDropN (n : Nat) (x : Int) : Option (Int) :=
  (Option.bind (tWhoN n ()) fun r2 =>
  (loopF (X := Int × Int × (List (Int × (Int × (List Int × Unit)))) × Int × Int) (A := Int) (fun rec3 y4 => match y4 with
  | (a5, (a6, (a7, (a8, a9)))) =>
  (if (decide (a9 < a8)) = true then
  (Option.bind (idx a7 a9) fun v10 =>
  (if (v10.1 == a5) = true then
  none
  else
  rec3 (a5, (a6, (a7, (a8, (IntKind.wrap .i64 (a9 + (1 : Int)))))))))
  else
  some a6)) n (x, ((0 : Int), (r2, ((r2.length : Int), (0 : Int)))))))
def sp_tDropN (n : Nat) : Spec := ⟨pre_tDropN, post_tDropN, tDropN n⟩
def env_tDropN (n : Nat) : List (FuncId × Spec) := [(24, sp_tWho n), (24, sp_tWhoN n), (28, sp_tRemove n)]
theorem run_tDropN (n : Nat) (x : pre_tDropN.T) : fnRun Try.prog 68 (envG (env_tDropN n) [] (fun _ => none)) n Try.f16 ann_tDropN pre_tDropN post_tDropN x = tDropN n x := by kernel_rfl
theorem ok_tDropN (n : Nat) : FnOK Try.prog 68 L0 16 (sp_tDropN n) :=
  fn_run mixed Try.func16 (sp_tDropN n) n ann_tDropN (env_tDropN n) (envOf_cons (ok_tWho n) (envOf_cons (ok_tWhoN n) (envOf_cons (ok_tRemove n) envOf_nil))) [] (fun _ => none) gl_none (run_tDropN n) (by kernel_rfl)
def pre_tBucket : Shape := ⟨[.c (.ptr 0 0), .a [.dat (.int .i64), .dat (.int .i64), .dat .str], .a [.dat (.int .i64), .dat (.int .i64), .dat (.int .i64), .dat (.int .i64)], .c (.dat (.int .i64))], [(0, .cells 72 [.dat (.int .i64), .own 1, .dat (.nd 200), .dat (.nd 200)]), (1, .mp (.pair (.int .i64) (.pair (.int .i64) (.pair .str .unit))) (.nd 200)), (200, .pool 81 (.pair (.pair (.int .i64) (.pair (.int .i64) (.pair .str .unit))) (.pair (.pair (.int .i64) (.pair (.int .i64) .unit)) (.pair (.nd 200) (.pair (.nd 200) .unit)))))]⟩
def post_tBucket : List Shape := [⟨[.a [.dat (.int .i64), .dat (.int .i64)], .c (.dat .err)], [(0, .cells 72 [.dat (.int .i64), .own 1, .dat (.nd 200), .dat (.nd 200)]), (1, .mp (.pair (.int .i64) (.pair (.int .i64) (.pair .str .unit))) (.nd 200)), (200, .pool 81 (.pair (.pair (.int .i64) (.pair (.int .i64) (.pair .str .unit))) (.pair (.pair (.int .i64) (.pair (.int .i64) .unit)) (.pair (.nd 200) (.pair (.nd 200) .unit)))))]⟩]
def ann_tBucket : Ann := .no
/-- what (turnstile/table.Table).bucket comes to. -/
def tBucket (n : Nat) (x : Int × Int × (List Int) × Int × Int × Int × Int × Int × Int × Int × Int × (List ((Int × (Int × (List Int × Unit))) × Int)) × List ((Int × (Int × (List Int × Unit))) × ((Int × (Int × Unit)) × (Int × (Int × Unit))))) : Option (Int × Int × Int × Int × Int × Int × (List ((Int × (Int × (List Int × Unit))) × Int)) × List ((Int × (Int × (List Int × Unit))) × ((Int × (Int × Unit)) × (Int × (Int × Unit))))) :=
  match x with
  | (x1, (x2, (x3, (x4, (x5, (x6, (x7, (x8, (x9, (x10, (x11, (x12, x13)))))))))))) =>
  (Option.bind (full n (x4, (x5, (x6, (x7, x8))))) fun r14 =>
  (if (!(r14.2.2 == (0 : Int))) = true then
  some ((0 : Int), ((0 : Int), (r14.2.2, (x9, (x10, (x11, (x12, x13)))))))
  else
  (let u15 : Int := (Option.getD (mget (K.eqb (.pair (.int .i64) (.pair (.int .i64) (.pair .str .unit)))) (x1, (x2, (x3, ()))) x12) (-1 : Int))
  (if (!(decide (u15 < 0))) = true then
  (if u15 < 0 then none else
  (Option.bind (x13[u15.toNat]?) fun d16 =>
  some (d16.2.1.1, (d16.2.1.2.1, ((0 : Int), (x9, (x10, (x11, (x12, x13)))))))))
  else
  some (r14.1, (r14.2.1, ((0 : Int), (x9, (x10, (x11, (x12, x13)))))))))))
def sp_tBucket (n : Nat) : Spec := ⟨pre_tBucket, post_tBucket, tBucket n⟩
def env_tBucket (n : Nat) : List (FuncId × Spec) := [(39, sp_full n)]
theorem run_tBucket (n : Nat) (x : pre_tBucket.T) : fnRun Try.prog 68 (envG (env_tBucket n) [] (fun _ => none)) n Try.f26 ann_tBucket pre_tBucket post_tBucket x = tBucket n x := by kernel_rfl
theorem ok_tBucket (n : Nat) : FnOK Try.prog 68 L0 26 (sp_tBucket n) :=
  fn_run mixed Try.func26 (sp_tBucket n) n ann_tBucket (env_tBucket n) (envOf_cons (ok_full n) envOf_nil) [] (fun _ => none) gl_none (run_tBucket n) (by kernel_rfl)
def pre_tBucketN : Shape := ⟨[.c (.nilp), .a [.dat (.int .i64), .dat (.int .i64), .dat .str], .a [.dat (.int .i64), .dat (.int .i64), .dat (.int .i64), .dat (.int .i64)], .c (.dat (.int .i64))], []⟩
def post_tBucketN : List Shape := [⟨[.a [.dat (.int .i64), .dat (.int .i64)], .c (.dat .err)], []⟩]
def ann_tBucketN : Ann := .no
/-- what (turnstile/table.Table).bucket comes to. -/
def tBucketN (n : Nat) (x : Int × Int × (List Int) × Int × Int × Int × Int × Int) : Option (Int × Int × Int) :=
  match x with
  | (x1, (x2, (x3, (x4, (x5, (x6, (x7, x8))))))) =>
  (Option.bind (full n (x4, (x5, (x6, (x7, x8))))) fun r9 =>
  (if (!(r9.2.2 == (0 : Int))) = true then
  some ((0 : Int), ((0 : Int), r9.2.2))
  else
  some ((0 : Int), ((0 : Int), (1 : Int)))))
def sp_tBucketN (n : Nat) : Spec := ⟨pre_tBucketN, post_tBucketN, tBucketN n⟩
def env_tBucketN (n : Nat) : List (FuncId × Spec) := [(39, sp_full n)]
theorem run_tBucketN (n : Nat) (x : pre_tBucketN.T) : fnRun Try.prog 68 (envG (env_tBucketN n) [] (fun _ => none)) n Try.f26 ann_tBucketN pre_tBucketN post_tBucketN x = tBucketN n x := by kernel_rfl
theorem ok_tBucketN (n : Nat) : FnOK Try.prog 68 L0 26 (sp_tBucketN n) :=
  fn_run mixed Try.func26 (sp_tBucketN n) n ann_tBucketN (env_tBucketN n) (envOf_cons (ok_full n) envOf_nil) [] (fun _ => none) gl_none (run_tBucketN n) (by kernel_rfl)
def pre_take : Shape := ⟨[.a [.dat (.int .i64), .dat (.int .i64)], .a [.dat (.int .i64), .dat (.int .i64), .dat (.int .i64), .dat (.int .i64)], .c (.dat (.int .i64))], []⟩
def post_take : List Shape := [⟨[.a [.dat (.int .i64), .dat (.int .i64)], .c (.dat .bool), .c (.dat .err)], []⟩]
def ann_take : Ann := .no
/-- what turnstile/bucket.Take comes to. -/
def take (n : Nat) (x : Int × Int × Int × Int × Int × Int × Int) : Option (Int × Int × Bool × Int) :=
  match x with
  | (x1, (x2, (x3, (x4, (x5, (x6, x7)))))) =>
  (Option.bind (fill n (x1, (x2, (x3, (x4, (x5, (x6, x7))))))) fun r8 =>
  (if (!(r8.2.2 == (0 : Int))) = true then
  some ((0 : Int), ((0 : Int), (false, r8.2.2)))
  else
  (if (decide (r8.1 < x5)) = true then
  some (r8.1, (r8.2.1, (false, (0 : Int))))
  else
  some ((IntKind.wrap .i64 (r8.1 - x5)), (r8.2.1, (true, (0 : Int)))))))
def sp_take (n : Nat) : Spec := ⟨pre_take, post_take, take n⟩
def env_take (n : Nat) : List (FuncId × Spec) := [(40, sp_fill n)]
theorem run_take (n : Nat) (x : pre_take.T) : fnRun Try.prog 68 (envG (env_take n) [] (fun _ => none)) n Try.f27 ann_take pre_take post_take x = take n x := by kernel_rfl
theorem ok_take (n : Nat) : FnOK Try.prog 68 L0 27 (sp_take n) :=
  fn_run mixed Try.func27 (sp_take n) n ann_take (env_take n) (envOf_cons (ok_fill n) envOf_nil) [] (fun _ => none) gl_none (run_take n) (by kernel_rfl)
def pre_left : Shape := ⟨[.a [.dat (.int .i64), .dat (.int .i64)], .a [.dat (.int .i64), .dat (.int .i64), .dat (.int .i64), .dat (.int .i64)], .c (.dat (.int .i64))], []⟩
def post_left : List Shape := [⟨[.c (.dat (.int .i64)), .c (.dat .err)], []⟩]
def ann_left : Ann := .no
/-- what turnstile/bucket.Left comes to. -/
def left (n : Nat) (x : Int × Int × Int × Int × Int × Int × Int) : Option (Int × Int) :=
  match x with
  | (x1, (x2, (x3, (x4, (x5, (x6, x7)))))) =>
  (Option.bind (fill n (x1, (x2, (x3, (x4, (x5, (x6, x7))))))) fun r8 =>
  (if (!(r8.2.2 == (0 : Int))) = true then
  some ((0 : Int), r8.2.2)
  else
  (if x5 = 0 then none else
  (let u9 : Int := (IntKind.wrap .i64 (Int.tdiv r8.1 x5))
  some (u9, (0 : Int))))))
def sp_left (n : Nat) : Spec := ⟨pre_left, post_left, left n⟩
def env_left (n : Nat) : List (FuncId × Spec) := [(40, sp_fill n)]
theorem run_left (n : Nat) (x : pre_left.T) : fnRun Try.prog 68 (envG (env_left n) [] (fun _ => none)) n Try.f37 ann_left pre_left post_left x = left n x := by kernel_rfl
theorem ok_left (n : Nat) : FnOK Try.prog 68 L0 37 (sp_left n) :=
  fn_run mixed Try.func37 (sp_left n) n ann_left (env_left n) (envOf_cons (ok_fill n) envOf_nil) [] (fun _ => none) gl_none (run_left n) (by kernel_rfl)
def pre_wait : Shape := ⟨[.a [.dat (.int .i64), .dat (.int .i64)], .a [.dat (.int .i64), .dat (.int .i64), .dat (.int .i64), .dat (.int .i64)], .c (.dat (.int .i64))], []⟩
def post_wait : List Shape := [⟨[.c (.dat (.int .i64)), .c (.dat .err)], []⟩]
def ann_wait : Ann := .no
/-- what turnstile/bucket.Wait comes to. -/
def wait (n : Nat) (x : Int × Int × Int × Int × Int × Int × Int) : Option (Int × Int) :=
  match x with
  | (x1, (x2, (x3, (x4, (x5, (x6, x7)))))) =>
  (Option.bind (fill n (x1, (x2, (x3, (x4, (x5, (x6, x7))))))) fun r8 =>
  (if (!(r8.2.2 == (0 : Int))) = true then
  some ((0 : Int), r8.2.2)
  else
  (if (decide (r8.1 ≥ x5)) = true then
  some ((0 : Int), r8.2.2)
  else
  (let u9 : Int := (IntKind.wrap .i64 ((IntKind.wrap .i64 (x5 - r8.1)) + x4))
  (if x4 = 0 then none else
  (let u10 : Int := (IntKind.wrap .i64 (Int.tdiv (IntKind.wrap .i64 (u9 - (1 : Int))) x4))
  some (u10, (0 : Int))))))))
def sp_wait (n : Nat) : Spec := ⟨pre_wait, post_wait, wait n⟩
def env_wait (n : Nat) : List (FuncId × Spec) := [(40, sp_fill n)]
theorem run_wait (n : Nat) (x : pre_wait.T) : fnRun Try.prog 68 (envG (env_wait n) [] (fun _ => none)) n Try.f38 ann_wait pre_wait post_wait x = wait n x := by kernel_rfl
theorem ok_wait (n : Nat) : FnOK Try.prog 68 L0 38 (sp_wait n) :=
  fn_run mixed Try.func38 (sp_wait n) n ann_wait (env_wait n) (envOf_cons (ok_fill n) envOf_nil) [] (fun _ => none) gl_none (run_wait n) (by kernel_rfl)
def pre_rBucket : Shape := ⟨[.a [.dat (.int .i64), .dat (.list (.pair (.pair (.int .i64) (.pair (.int .i64) (.pair .str .unit))) (.pair (.pair (.int .i64) (.pair (.int .i64) .unit)) .unit)))], .a [.dat (.int .i64), .dat (.int .i64), .dat .str], .a [.dat (.int .i64), .dat (.int .i64), .dat (.int .i64), .dat (.int .i64)], .c (.dat (.int .i64))], []⟩
def post_rBucket : List Shape := [⟨[.a [.dat (.int .i64), .dat (.int .i64)], .c (.dat (.int .i64))], []⟩]
def ann_rBucket : Ann := .no
/-- what turnstile/turnstileref22.bucket comes to. -/
def rBucket (n : Nat) (x : Int × (List ((Int × (Int × (List Int × Unit))) × ((Int × (Int × Unit)) × Unit))) × Int × Int × (List Int) × Int × Int × Int × Int × Int) : Option (Int × Int × Int) :=
  match x with
  | (x1, (x2, (x3, (x4, (x5, (x6, (x7, (x8, (x9, x10))))))))) =>
  (Option.bind (rValid n (x6, (x7, (x8, x9)))) fun r11 =>
  (if (r11 != (0 : Int)) = true then
  some ((0 : Int), ((0 : Int), r11))
  else
  (if (decide (x10 < (0 : Int))) = true then
  some ((0 : Int), ((0 : Int), (1 : Int)))
  else
  (if (decide (x10 > (1099511627776 : Int))) = true then
  some ((0 : Int), ((0 : Int), (1 : Int)))
  else
  (if (x1 == (0 : Int)) = true then
  some ((0 : Int), ((0 : Int), (1 : Int)))
  else
  (Option.bind (rPlace n (x1, (x2, (x3, (x4, x5))))) fun r12 =>
  (if (decide (r12 ≥ (0 : Int))) = true then
  (Option.bind (idx x2 r12) fun v13 =>
  some (v13.2.1.1, (v13.2.1.2.1, (0 : Int))))
  else
  (Option.bind (rFull n (x6, (x7, (x8, (x9, x10))))) fun r14 =>
  some (r14.1, (r14.2.1, r14.2.2))))))))))
def sp_rBucket (n : Nat) : Spec := ⟨pre_rBucket, post_rBucket, rBucket n⟩
def env_rBucket (n : Nat) : List (FuncId × Spec) := [(8, sp_rValid n), (45, sp_rPlace n), (11, sp_rFull n)]
theorem run_rBucket (n : Nat) (x : pre_rBucket.T) : fnRun Try.prog 68 (envG (env_rBucket n) [] (fun _ => none)) n Try.f42 ann_rBucket pre_rBucket post_rBucket x = rBucket n x := by kernel_rfl
theorem ok_rBucket (n : Nat) : FnOK Try.prog 68 L0 42 (sp_rBucket n) :=
  fn_run mixed Try.func42 (sp_rBucket n) n ann_rBucket (env_rBucket n) (envOf_cons (ok_rValid n) (envOf_cons (ok_rPlace n) (envOf_cons (ok_rFull n) envOf_nil))) [] (fun _ => none) gl_none (run_rBucket n) (by kernel_rfl)
def pre_tTake : Shape := ⟨[.c (.ptr 0 0), .a [.dat (.int .i64), .dat (.int .i64), .dat .str], .a [.dat (.int .i64), .dat (.int .i64), .dat (.int .i64), .dat (.int .i64)], .c (.dat (.int .i64))], [(0, .cells 72 [.dat (.int .i64), .own 1, .dat (.nd 200), .dat (.nd 200)]), (1, .mp (.pair (.int .i64) (.pair (.int .i64) (.pair .str .unit))) (.nd 200)), (200, .pool 81 (.pair (.pair (.int .i64) (.pair (.int .i64) (.pair .str .unit))) (.pair (.pair (.int .i64) (.pair (.int .i64) .unit)) (.pair (.nd 200) (.pair (.nd 200) .unit)))))]⟩
def post_tTake : List Shape := [⟨[.c (.dat .bool), .c (.dat .err)], [(0, .cells 72 [.dat (.int .i64), .own 1, .dat (.nd 200), .dat (.nd 200)]), (1, .mp (.pair (.int .i64) (.pair (.int .i64) (.pair .str .unit))) (.nd 200)), (200, .pool 81 (.pair (.pair (.int .i64) (.pair (.int .i64) (.pair .str .unit))) (.pair (.pair (.int .i64) (.pair (.int .i64) .unit)) (.pair (.nd 200) (.pair (.nd 200) .unit)))))]⟩]
def ann_tTake : Ann := (.two .no (.two .no (.two .no (.two .no (.two .no (.two .no (.two (.two .no (.two (.two (.join ⟨[0, 5, 10, 12], ⟨[.c (.ptr 0 0), .c (.ptr 500 0), .c (.ptr 501 0), .c (.dat .bool)], [(0, .cells 72 [.dat (.int .i64), .own 1, .dat (.nd 200), .dat (.nd 200)]), (1, .mp (.pair (.int .i64) (.pair (.int .i64) (.pair .str .unit))) (.nd 200)), (500, .cells 35 [.dat (.int .i64), .dat (.int .i64), .dat .str]), (501, .cells 74 [.dat (.int .i64), .dat (.int .i64)]), (200, .pool 81 (.pair (.pair (.int .i64) (.pair (.int .i64) (.pair .str .unit))) (.pair (.pair (.int .i64) (.pair (.int .i64) .unit)) (.pair (.nd 200) (.pair (.nd 200) .unit)))))]⟩⟩ .no) .no) .no)) .no)))))))
/-- what (turnstile/table.Table).Take comes to. -/
def tTake (n : Nat) (x : Int × Int × (List Int) × Int × Int × Int × Int × Int × Int × Int × Int × (List ((Int × (Int × (List Int × Unit))) × Int)) × List ((Int × (Int × (List Int × Unit))) × ((Int × (Int × Unit)) × (Int × (Int × Unit))))) : Option (Bool × Int × Int × Int × Int × (List ((Int × (Int × (List Int × Unit))) × Int)) × List ((Int × (Int × (List Int × Unit))) × ((Int × (Int × Unit)) × (Int × (Int × Unit))))) :=
  match x with
  | (x1, (x2, (x3, (x4, (x5, (x6, (x7, (x8, (x9, (x10, (x11, (x12, x13)))))))))))) =>
  (Option.bind (tBucket n (x1, (x2, (x3, (x4, (x5, (x6, (x7, (x8, (x9, (x10, (x11, (x12, x13))))))))))))) fun r14 =>
  (if (!(r14.2.2.1 == (0 : Int))) = true then
  some (false, (r14.2.2.1, (r14.2.2.2.1, (r14.2.2.2.2.1, (r14.2.2.2.2.2.1, (r14.2.2.2.2.2.2.1, r14.2.2.2.2.2.2.2))))))
  else
  (Option.bind (take n (r14.1, (r14.2.1, (x4, (x5, (x6, (x7, x8))))))) fun r15 =>
  (if (!(r15.2.2.2 == (0 : Int))) = true then
  some (false, (r15.2.2.2, (r14.2.2.2.1, (r14.2.2.2.2.1, (r14.2.2.2.2.2.1, (r14.2.2.2.2.2.2.1, r14.2.2.2.2.2.2.2))))))
  else
  (let u16 : Int := (Option.getD (mget (K.eqb (.pair (.int .i64) (.pair (.int .i64) (.pair .str .unit)))) (x1, (x2, (x3, ()))) r14.2.2.2.2.2.2.1) (-1 : Int))
  (if (decide (u16 < 0)) = true then
  (Option.bind (α := Out (Bool × Int × Int × Int × (List ((Int × (Int × (List Int × Unit))) × Int)) × Int × Int × (List Int) × Int × Int × List ((Int × (Int × (List Int × Unit))) × ((Int × (Int × Unit)) × (Int × (Int × Unit))))) (Bool × Int × Int × Int × Int × (List ((Int × (Int × (List Int × Unit))) × Int)) × List ((Int × (Int × (List Int × Unit))) × ((Int × (Int × Unit)) × (Int × (Int × Unit)))))) ((if List.length r14.2.2.2.2.2.2.1 ≤ lim then
  (let u17 : Int := (List.length r14.2.2.2.2.2.2.1 : Int)
  (if (u17 == r14.2.2.2.1) = true then
  (Option.bind (tRemove n (r14.2.2.2.2.1, (r14.2.2.2.1, (r14.2.2.2.2.1, (r14.2.2.2.2.2.1, (r14.2.2.2.2.2.2.1, r14.2.2.2.2.2.2.2)))))) fun r18 =>
  (some (Out.go (r15.2.2.1, (r18.1, (r18.2.1, (r18.2.2.1, (r18.2.2.2.1, (x1, (x2, (x3, (r15.1, (r15.2.1, r18.2.2.2.2)))))))))))))
  else
  (some (Out.go (r15.2.2.1, (r14.2.2.2.1, (r14.2.2.2.2.1, (r14.2.2.2.2.2.1, (r14.2.2.2.2.2.2.1, (x1, (x2, (x3, (r15.1, (r15.2.1, r14.2.2.2.2.2.2.2))))))))))))))
  else none)) fun o => match o with
  | .go (z20, (z21, (z22, (z23, (z24, (z25, (z26, (z27, (z28, (z29, z30)))))))))) =>
  (let u31 : List ((Int × (Int × (List Int × Unit))) × ((Int × (Int × Unit)) × (Int × (Int × Unit)))) := (z30 ++ [((z25, (z26, (z27, ()))), (((0 : Int), ((0 : Int), ())), ((-1 : Int), ((-1 : Int), ()))))])
  (let u32 : List ((Int × (Int × (List Int × Unit))) × Int) := (mput (K.eqb (.pair (.int .i64) (.pair (.int .i64) (.pair .str .unit)))) (z25, (z26, (z27, ()))) (z30.length : Int) z24)
  (if (z30.length : Int) < 0 then none else
  (Option.bind (u31[(z30.length : Int).toNat]?) fun d33 =>
  (let u34 : List ((Int × (Int × (List Int × Unit))) × ((Int × (Int × Unit)) × (Int × (Int × Unit)))) := (u31.set (z30.length : Int).toNat ((d33.1.1, (d33.1.2.1, (d33.1.2.2.1, ()))), ((z28, (z29, ())), (d33.2.2.1, (d33.2.2.2.1, ())))))
  (Option.bind (tBehind n ((z30.length : Int), (z21, (z22, (z23, (u32, u34)))))) fun r35 =>
  some (z20, ((0 : Int), (r35.1, (r35.2.1, (r35.2.2.1, (r35.2.2.2.1, r35.2.2.2.2))))))))))))
  | .ret r36 => some r36)
  else
  (Option.bind (tUnlink n (u16, (r14.2.2.2.1, (r14.2.2.2.2.1, (r14.2.2.2.2.2.1, (r14.2.2.2.2.2.2.1, r14.2.2.2.2.2.2.2)))))) fun r37 =>
  (if u16 < 0 then none else
  (Option.bind (r37.2.2.2.2[u16.toNat]?) fun d38 =>
  (let u39 : List ((Int × (Int × (List Int × Unit))) × ((Int × (Int × Unit)) × (Int × (Int × Unit)))) := (r37.2.2.2.2.set u16.toNat ((d38.1.1, (d38.1.2.1, (d38.1.2.2.1, ()))), ((r15.1, (r15.2.1, ())), (d38.2.2.1, (d38.2.2.2.1, ())))))
  (Option.bind (tBehind n (u16, (r37.1, (r37.2.1, (r37.2.2.1, (r37.2.2.2.1, u39)))))) fun r40 =>
  some (r15.2.2.1, ((0 : Int), (r40.1, (r40.2.1, (r40.2.2.1, (r40.2.2.2.1, r40.2.2.2.2)))))))))))))))))
def sp_tTake (n : Nat) : Spec := ⟨pre_tTake, post_tTake, tTake n⟩
def env_tTake (n : Nat) : List (FuncId × Spec) := [(26, sp_tBucket n), (26, sp_tBucketN n), (27, sp_take n), (28, sp_tRemove n), (29, sp_tUnlink n), (30, sp_tBehind n)]
theorem run_tTake (n : Nat) (x : pre_tTake.T) : fnRun Try.prog 68 (envG (env_tTake n) [] (fun _ => none)) n Try.f10 ann_tTake pre_tTake post_tTake x = tTake n x := by kernel_rfl
theorem ok_tTake (n : Nat) : FnOK Try.prog 68 L0 10 (sp_tTake n) :=
  fn_run mixed Try.func10 (sp_tTake n) n ann_tTake (env_tTake n) (envOf_cons (ok_tBucket n) (envOf_cons (ok_tBucketN n) (envOf_cons (ok_take n) (envOf_cons (ok_tRemove n) (envOf_cons (ok_tUnlink n) (envOf_cons (ok_tBehind n) envOf_nil)))))) [] (fun _ => none) gl_none (run_tTake n) (by kernel_rfl)
def pre_tTakeN : Shape := ⟨[.c (.nilp), .a [.dat (.int .i64), .dat (.int .i64), .dat .str], .a [.dat (.int .i64), .dat (.int .i64), .dat (.int .i64), .dat (.int .i64)], .c (.dat (.int .i64))], []⟩
def post_tTakeN : List Shape := [⟨[.c (.dat .bool), .c (.dat .err)], []⟩]
def ann_tTakeN : Ann := .no
/-- what (turnstile/table.Table).Take comes to. -/
def tTakeN (n : Nat) (x : Int × Int × (List Int) × Int × Int × Int × Int × Int) : Option (Bool × Int) :=
  match x with
  | (x1, (x2, (x3, (x4, (x5, (x6, (x7, x8))))))) =>
  (Option.bind (tBucketN n (x1, (x2, (x3, (x4, (x5, (x6, (x7, x8)))))))) fun r9 =>
  (if (!(r9.2.2 == (0 : Int))) = true then
  some (false, r9.2.2)
  else
  (Option.bind (take n (r9.1, (r9.2.1, (x4, (x5, (x6, (x7, x8))))))) fun r10 =>
  (if (!(r10.2.2.2 == (0 : Int))) = true then
  some (false, r10.2.2.2)
  else
  none))))
def sp_tTakeN (n : Nat) : Spec := ⟨pre_tTakeN, post_tTakeN, tTakeN n⟩
def env_tTakeN (n : Nat) : List (FuncId × Spec) := [(26, sp_tBucket n), (26, sp_tBucketN n), (27, sp_take n), (28, sp_tRemove n), (29, sp_tUnlink n), (30, sp_tBehind n)]
theorem run_tTakeN (n : Nat) (x : pre_tTakeN.T) : fnRun Try.prog 68 (envG (env_tTakeN n) [] (fun _ => none)) n Try.f10 ann_tTakeN pre_tTakeN post_tTakeN x = tTakeN n x := by kernel_rfl
theorem ok_tTakeN (n : Nat) : FnOK Try.prog 68 L0 10 (sp_tTakeN n) :=
  fn_run mixed Try.func10 (sp_tTakeN n) n ann_tTakeN (env_tTakeN n) (envOf_cons (ok_tBucket n) (envOf_cons (ok_tBucketN n) (envOf_cons (ok_take n) (envOf_cons (ok_tRemove n) (envOf_cons (ok_tUnlink n) (envOf_cons (ok_tBehind n) envOf_nil)))))) [] (fun _ => none) gl_none (run_tTakeN n) (by kernel_rfl)
def pre_tLeft : Shape := ⟨[.c (.ptr 0 0), .a [.dat (.int .i64), .dat (.int .i64), .dat .str], .a [.dat (.int .i64), .dat (.int .i64), .dat (.int .i64), .dat (.int .i64)], .c (.dat (.int .i64))], [(0, .cells 72 [.dat (.int .i64), .own 1, .dat (.nd 200), .dat (.nd 200)]), (1, .mp (.pair (.int .i64) (.pair (.int .i64) (.pair .str .unit))) (.nd 200)), (200, .pool 81 (.pair (.pair (.int .i64) (.pair (.int .i64) (.pair .str .unit))) (.pair (.pair (.int .i64) (.pair (.int .i64) .unit)) (.pair (.nd 200) (.pair (.nd 200) .unit)))))]⟩
def post_tLeft : List Shape := [⟨[.c (.dat (.int .i64)), .c (.dat .err)], [(0, .cells 72 [.dat (.int .i64), .own 1, .dat (.nd 200), .dat (.nd 200)]), (1, .mp (.pair (.int .i64) (.pair (.int .i64) (.pair .str .unit))) (.nd 200)), (200, .pool 81 (.pair (.pair (.int .i64) (.pair (.int .i64) (.pair .str .unit))) (.pair (.pair (.int .i64) (.pair (.int .i64) .unit)) (.pair (.nd 200) (.pair (.nd 200) .unit)))))]⟩]
def ann_tLeft : Ann := .no
/-- what (turnstile/table.Table).Left comes to. -/
def tLeft (n : Nat) (x : Int × Int × (List Int) × Int × Int × Int × Int × Int × Int × Int × Int × (List ((Int × (Int × (List Int × Unit))) × Int)) × List ((Int × (Int × (List Int × Unit))) × ((Int × (Int × Unit)) × (Int × (Int × Unit))))) : Option (Int × Int × Int × Int × Int × (List ((Int × (Int × (List Int × Unit))) × Int)) × List ((Int × (Int × (List Int × Unit))) × ((Int × (Int × Unit)) × (Int × (Int × Unit))))) :=
  match x with
  | (x1, (x2, (x3, (x4, (x5, (x6, (x7, (x8, (x9, (x10, (x11, (x12, x13)))))))))))) =>
  (Option.bind (tBucket n (x1, (x2, (x3, (x4, (x5, (x6, (x7, (x8, (x9, (x10, (x11, (x12, x13))))))))))))) fun r14 =>
  (if (!(r14.2.2.1 == (0 : Int))) = true then
  some ((0 : Int), (r14.2.2.1, (r14.2.2.2.1, (r14.2.2.2.2.1, (r14.2.2.2.2.2.1, (r14.2.2.2.2.2.2.1, r14.2.2.2.2.2.2.2))))))
  else
  (Option.bind (left n (r14.1, (r14.2.1, (x4, (x5, (x6, (x7, x8))))))) fun r15 =>
  some (r15.1, (r15.2, (r14.2.2.2.1, (r14.2.2.2.2.1, (r14.2.2.2.2.2.1, (r14.2.2.2.2.2.2.1, r14.2.2.2.2.2.2.2)))))))))
def sp_tLeft (n : Nat) : Spec := ⟨pre_tLeft, post_tLeft, tLeft n⟩
def env_tLeft (n : Nat) : List (FuncId × Spec) := [(26, sp_tBucket n), (26, sp_tBucketN n), (37, sp_left n)]
theorem run_tLeft (n : Nat) (x : pre_tLeft.T) : fnRun Try.prog 68 (envG (env_tLeft n) [] (fun _ => none)) n Try.f22 ann_tLeft pre_tLeft post_tLeft x = tLeft n x := by kernel_rfl
theorem ok_tLeft (n : Nat) : FnOK Try.prog 68 L0 22 (sp_tLeft n) :=
  fn_run mixed Try.func22 (sp_tLeft n) n ann_tLeft (env_tLeft n) (envOf_cons (ok_tBucket n) (envOf_cons (ok_tBucketN n) (envOf_cons (ok_left n) envOf_nil))) [] (fun _ => none) gl_none (run_tLeft n) (by kernel_rfl)
def pre_tLeftN : Shape := ⟨[.c (.nilp), .a [.dat (.int .i64), .dat (.int .i64), .dat .str], .a [.dat (.int .i64), .dat (.int .i64), .dat (.int .i64), .dat (.int .i64)], .c (.dat (.int .i64))], []⟩
def post_tLeftN : List Shape := [⟨[.c (.dat (.int .i64)), .c (.dat .err)], []⟩]
def ann_tLeftN : Ann := .no
/-- what (turnstile/table.Table).Left comes to. -/
def tLeftN (n : Nat) (x : Int × Int × (List Int) × Int × Int × Int × Int × Int) : Option (Int × Int) :=
  match x with
  | (x1, (x2, (x3, (x4, (x5, (x6, (x7, x8))))))) =>
  (Option.bind (tBucketN n (x1, (x2, (x3, (x4, (x5, (x6, (x7, x8)))))))) fun r9 =>
  (if (!(r9.2.2 == (0 : Int))) = true then
  some ((0 : Int), r9.2.2)
  else
  (Option.bind (left n (r9.1, (r9.2.1, (x4, (x5, (x6, (x7, x8))))))) fun r10 =>
  some (r10.1, r10.2))))
def sp_tLeftN (n : Nat) : Spec := ⟨pre_tLeftN, post_tLeftN, tLeftN n⟩
def env_tLeftN (n : Nat) : List (FuncId × Spec) := [(26, sp_tBucket n), (26, sp_tBucketN n), (37, sp_left n)]
theorem run_tLeftN (n : Nat) (x : pre_tLeftN.T) : fnRun Try.prog 68 (envG (env_tLeftN n) [] (fun _ => none)) n Try.f22 ann_tLeftN pre_tLeftN post_tLeftN x = tLeftN n x := by kernel_rfl
theorem ok_tLeftN (n : Nat) : FnOK Try.prog 68 L0 22 (sp_tLeftN n) :=
  fn_run mixed Try.func22 (sp_tLeftN n) n ann_tLeftN (env_tLeftN n) (envOf_cons (ok_tBucket n) (envOf_cons (ok_tBucketN n) (envOf_cons (ok_left n) envOf_nil))) [] (fun _ => none) gl_none (run_tLeftN n) (by kernel_rfl)
def pre_tWait : Shape := ⟨[.c (.ptr 0 0), .a [.dat (.int .i64), .dat (.int .i64), .dat .str], .a [.dat (.int .i64), .dat (.int .i64), .dat (.int .i64), .dat (.int .i64)], .c (.dat (.int .i64))], [(0, .cells 72 [.dat (.int .i64), .own 1, .dat (.nd 200), .dat (.nd 200)]), (1, .mp (.pair (.int .i64) (.pair (.int .i64) (.pair .str .unit))) (.nd 200)), (200, .pool 81 (.pair (.pair (.int .i64) (.pair (.int .i64) (.pair .str .unit))) (.pair (.pair (.int .i64) (.pair (.int .i64) .unit)) (.pair (.nd 200) (.pair (.nd 200) .unit)))))]⟩
def post_tWait : List Shape := [⟨[.c (.dat (.int .i64)), .c (.dat .err)], [(0, .cells 72 [.dat (.int .i64), .own 1, .dat (.nd 200), .dat (.nd 200)]), (1, .mp (.pair (.int .i64) (.pair (.int .i64) (.pair .str .unit))) (.nd 200)), (200, .pool 81 (.pair (.pair (.int .i64) (.pair (.int .i64) (.pair .str .unit))) (.pair (.pair (.int .i64) (.pair (.int .i64) .unit)) (.pair (.nd 200) (.pair (.nd 200) .unit)))))]⟩]
def ann_tWait : Ann := .no
/-- what (turnstile/table.Table).Wait comes to. -/
def tWait (n : Nat) (x : Int × Int × (List Int) × Int × Int × Int × Int × Int × Int × Int × Int × (List ((Int × (Int × (List Int × Unit))) × Int)) × List ((Int × (Int × (List Int × Unit))) × ((Int × (Int × Unit)) × (Int × (Int × Unit))))) : Option (Int × Int × Int × Int × Int × (List ((Int × (Int × (List Int × Unit))) × Int)) × List ((Int × (Int × (List Int × Unit))) × ((Int × (Int × Unit)) × (Int × (Int × Unit))))) :=
  match x with
  | (x1, (x2, (x3, (x4, (x5, (x6, (x7, (x8, (x9, (x10, (x11, (x12, x13)))))))))))) =>
  (Option.bind (tBucket n (x1, (x2, (x3, (x4, (x5, (x6, (x7, (x8, (x9, (x10, (x11, (x12, x13))))))))))))) fun r14 =>
  (if (!(r14.2.2.1 == (0 : Int))) = true then
  some ((0 : Int), (r14.2.2.1, (r14.2.2.2.1, (r14.2.2.2.2.1, (r14.2.2.2.2.2.1, (r14.2.2.2.2.2.2.1, r14.2.2.2.2.2.2.2))))))
  else
  (Option.bind (wait n (r14.1, (r14.2.1, (x4, (x5, (x6, (x7, x8))))))) fun r15 =>
  some (r15.1, (r15.2, (r14.2.2.2.1, (r14.2.2.2.2.1, (r14.2.2.2.2.2.1, (r14.2.2.2.2.2.2.1, r14.2.2.2.2.2.2.2)))))))))
def sp_tWait (n : Nat) : Spec := ⟨pre_tWait, post_tWait, tWait n⟩
def env_tWait (n : Nat) : List (FuncId × Spec) := [(26, sp_tBucket n), (26, sp_tBucketN n), (38, sp_wait n)]
theorem run_tWait (n : Nat) (x : pre_tWait.T) : fnRun Try.prog 68 (envG (env_tWait n) [] (fun _ => none)) n Try.f23 ann_tWait pre_tWait post_tWait x = tWait n x := by kernel_rfl
theorem ok_tWait (n : Nat) : FnOK Try.prog 68 L0 23 (sp_tWait n) :=
  fn_run mixed Try.func23 (sp_tWait n) n ann_tWait (env_tWait n) (envOf_cons (ok_tBucket n) (envOf_cons (ok_tBucketN n) (envOf_cons (ok_wait n) envOf_nil))) [] (fun _ => none) gl_none (run_tWait n) (by kernel_rfl)
def pre_tWaitN : Shape := ⟨[.c (.nilp), .a [.dat (.int .i64), .dat (.int .i64), .dat .str], .a [.dat (.int .i64), .dat (.int .i64), .dat (.int .i64), .dat (.int .i64)], .c (.dat (.int .i64))], []⟩
def post_tWaitN : List Shape := [⟨[.c (.dat (.int .i64)), .c (.dat .err)], []⟩]
def ann_tWaitN : Ann := .no
/-- what (turnstile/table.Table).Wait comes to. -/
def tWaitN (n : Nat) (x : Int × Int × (List Int) × Int × Int × Int × Int × Int) : Option (Int × Int) :=
  match x with
  | (x1, (x2, (x3, (x4, (x5, (x6, (x7, x8))))))) =>
  (Option.bind (tBucketN n (x1, (x2, (x3, (x4, (x5, (x6, (x7, x8)))))))) fun r9 =>
  (if (!(r9.2.2 == (0 : Int))) = true then
  some ((0 : Int), r9.2.2)
  else
  (Option.bind (wait n (r9.1, (r9.2.1, (x4, (x5, (x6, (x7, x8))))))) fun r10 =>
  some (r10.1, r10.2))))
def sp_tWaitN (n : Nat) : Spec := ⟨pre_tWaitN, post_tWaitN, tWaitN n⟩
def env_tWaitN (n : Nat) : List (FuncId × Spec) := [(26, sp_tBucket n), (26, sp_tBucketN n), (38, sp_wait n)]
theorem run_tWaitN (n : Nat) (x : pre_tWaitN.T) : fnRun Try.prog 68 (envG (env_tWaitN n) [] (fun _ => none)) n Try.f23 ann_tWaitN pre_tWaitN post_tWaitN x = tWaitN n x := by kernel_rfl
theorem ok_tWaitN (n : Nat) : FnOK Try.prog 68 L0 23 (sp_tWaitN n) :=
  fn_run mixed Try.func23 (sp_tWaitN n) n ann_tWaitN (env_tWaitN n) (envOf_cons (ok_tBucket n) (envOf_cons (ok_tBucketN n) (envOf_cons (ok_wait n) envOf_nil))) [] (fun _ => none) gl_none (run_tWaitN n) (by kernel_rfl)
def pre_rLeft : Shape := ⟨[.a [.dat (.int .i64), .dat (.list (.pair (.pair (.int .i64) (.pair (.int .i64) (.pair .str .unit))) (.pair (.pair (.int .i64) (.pair (.int .i64) .unit)) .unit)))], .a [.dat (.int .i64), .dat (.int .i64), .dat .str], .a [.dat (.int .i64), .dat (.int .i64), .dat (.int .i64), .dat (.int .i64)], .c (.dat (.int .i64))], []⟩
def post_rLeft : List Shape := [⟨[.c (.dat (.int .i64)), .c (.dat (.int .i64))], []⟩]
def ann_rLeft : Ann := .no
/-- what turnstile/turnstileref22.Left comes to. -/
def rLeft (n : Nat) (x : Int × (List ((Int × (Int × (List Int × Unit))) × ((Int × (Int × Unit)) × Unit))) × Int × Int × (List Int) × Int × Int × Int × Int × Int) : Option (Int × Int) :=
  match x with
  | (x1, (x2, (x3, (x4, (x5, (x6, (x7, (x8, (x9, x10))))))))) =>
  (Option.bind (rBucket n (x1, (x2, (x3, (x4, (x5, (x6, (x7, (x8, (x9, x10)))))))))) fun r11 =>
  (if (r11.2.2 != (0 : Int)) = true then
  some ((0 : Int), r11.2.2)
  else
  (Option.bind (turnstileref21RLeft n (r11.1, (r11.2.1, (x6, (x7, (x8, (x9, x10))))))) fun r12 =>
  some (r12.1, r12.2))))
def sp_rLeft (n : Nat) : Spec := ⟨pre_rLeft, post_rLeft, rLeft n⟩
def env_rLeft (n : Nat) : List (FuncId × Spec) := [(42, sp_rBucket n), (43, sp_turnstileref21RLeft n)]
theorem run_rLeft (n : Nat) (x : pre_rLeft.T) : fnRun Try.prog 68 (envG (env_rLeft n) [] (fun _ => none)) n Try.f33 ann_rLeft pre_rLeft post_rLeft x = rLeft n x := by kernel_rfl
theorem ok_rLeft (n : Nat) : FnOK Try.prog 68 L0 33 (sp_rLeft n) :=
  fn_run mixed Try.func33 (sp_rLeft n) n ann_rLeft (env_rLeft n) (envOf_cons (ok_rBucket n) (envOf_cons (ok_turnstileref21RLeft n) envOf_nil)) [] (fun _ => none) gl_none (run_rLeft n) (by kernel_rfl)
def pre_rWait : Shape := ⟨[.a [.dat (.int .i64), .dat (.list (.pair (.pair (.int .i64) (.pair (.int .i64) (.pair .str .unit))) (.pair (.pair (.int .i64) (.pair (.int .i64) .unit)) .unit)))], .a [.dat (.int .i64), .dat (.int .i64), .dat .str], .a [.dat (.int .i64), .dat (.int .i64), .dat (.int .i64), .dat (.int .i64)], .c (.dat (.int .i64))], []⟩
def post_rWait : List Shape := [⟨[.c (.dat (.int .i64)), .c (.dat (.int .i64))], []⟩]
def ann_rWait : Ann := .no
/-- what turnstile/turnstileref22.Wait comes to. -/
def rWait (n : Nat) (x : Int × (List ((Int × (Int × (List Int × Unit))) × ((Int × (Int × Unit)) × Unit))) × Int × Int × (List Int) × Int × Int × Int × Int × Int) : Option (Int × Int) :=
  match x with
  | (x1, (x2, (x3, (x4, (x5, (x6, (x7, (x8, (x9, x10))))))))) =>
  (Option.bind (rBucket n (x1, (x2, (x3, (x4, (x5, (x6, (x7, (x8, (x9, x10)))))))))) fun r11 =>
  (if (r11.2.2 != (0 : Int)) = true then
  some ((0 : Int), r11.2.2)
  else
  (Option.bind (turnstileref21RWait n (r11.1, (r11.2.1, (x6, (x7, (x8, (x9, x10))))))) fun r12 =>
  some (r12.1, r12.2))))
def sp_rWait (n : Nat) : Spec := ⟨pre_rWait, post_rWait, rWait n⟩
def env_rWait (n : Nat) : List (FuncId × Spec) := [(42, sp_rBucket n), (44, sp_turnstileref21RWait n)]
theorem run_rWait (n : Nat) (x : pre_rWait.T) : fnRun Try.prog 68 (envG (env_rWait n) [] (fun _ => none)) n Try.f34 ann_rWait pre_rWait post_rWait x = rWait n x := by kernel_rfl
theorem ok_rWait (n : Nat) : FnOK Try.prog 68 L0 34 (sp_rWait n) :=
  fn_run mixed Try.func34 (sp_rWait n) n ann_rWait (env_rWait n) (envOf_cons (ok_rBucket n) (envOf_cons (ok_turnstileref21RWait n) envOf_nil)) [] (fun _ => none) gl_none (run_rWait n) (by kernel_rfl)
def pre_turnstileref22RTake : Shape := ⟨[.a [.dat (.int .i64), .dat (.list (.pair (.pair (.int .i64) (.pair (.int .i64) (.pair .str .unit))) (.pair (.pair (.int .i64) (.pair (.int .i64) .unit)) .unit)))], .a [.dat (.int .i64), .dat (.int .i64), .dat .str], .a [.dat (.int .i64), .dat (.int .i64), .dat (.int .i64), .dat (.int .i64)], .c (.dat (.int .i64))], []⟩
def post_turnstileref22RTake : List Shape := [⟨[.a [.dat (.int .i64), .dat (.list (.pair (.pair (.int .i64) (.pair (.int .i64) (.pair .str .unit))) (.pair (.pair (.int .i64) (.pair (.int .i64) .unit)) .unit)))], .c (.dat .bool), .c (.dat (.int .i64))], []⟩]
def ann_turnstileref22RTake : Ann := (.two .no (.two .no (.two .no (.two .no (.two .no (.two .no (.two .no (.two (.two .no (.one (.loop ⟨[4, 5, 8, 11, 13, 14, 15, 16], ⟨[.c (.ptr 500 0), .c (.ptr 501 0), .c (.ptr 502 0), .c (.ptr 503 0), .c (.dat .bool), .c (.dat (.int .i64)), .c (.own 504), .c (.dat (.int .i64))], [(500, .cells 55 [.dat (.int .i64), .dat (.list (.pair (.pair (.int .i64) (.pair (.int .i64) (.pair .str .unit))) (.pair (.pair (.int .i64) (.pair (.int .i64) .unit)) .unit)))]), (501, .cells 35 [.dat (.int .i64), .dat (.int .i64), .dat .str]), (502, .cells 55 [.dat (.int .i64), .own 505]), (503, .cells 43 [.dat (.int .i64), .dat (.int .i64)]), (504, .row 91 (.pair (.pair (.int .i64) (.pair (.int .i64) (.pair .str .unit))) (.pair (.pair (.int .i64) (.pair (.int .i64) .unit)) .unit))), (505, .row 91 (.pair (.pair (.int .i64) (.pair (.int .i64) (.pair .str .unit))) (.pair (.pair (.int .i64) (.pair (.int .i64) .unit)) .unit)))]⟩⟩ (.two .no (.two (.one (.two (.join ⟨[4, 5, 8, 11, 13, 14, 15, 16, 69], ⟨[.c (.ptr 500 0), .c (.ptr 501 0), .c (.ptr 502 0), .c (.ptr 504 0), .c (.dat .bool), .c (.dat (.int .i64)), .c (.own 505), .c (.dat (.int .i64)), .c (.dat .bool)], [(500, .cells 55 [.dat (.int .i64), .dat (.list (.pair (.pair (.int .i64) (.pair (.int .i64) (.pair .str .unit))) (.pair (.pair (.int .i64) (.pair (.int .i64) .unit)) .unit)))]), (501, .cells 35 [.dat (.int .i64), .dat (.int .i64), .dat .str]), (502, .cells 55 [.dat (.int .i64), .own 503]), (503, .row 91 (.pair (.pair (.int .i64) (.pair (.int .i64) (.pair .str .unit))) (.pair (.pair (.int .i64) (.pair (.int .i64) .unit)) .unit))), (504, .cells 43 [.dat (.int .i64), .dat (.int .i64)]), (505, .row 91 (.pair (.pair (.int .i64) (.pair (.int .i64) (.pair .str .unit))) (.pair (.pair (.int .i64) (.pair (.int .i64) .unit)) .unit)))]⟩⟩ .no) .no)) .no))))) .no))))))))
/-- what turnstile/turnstileref22.Take comes to. -/
def turnstileref22RTake (n : Nat) (x : Int × (List ((Int × (Int × (List Int × Unit))) × ((Int × (Int × Unit)) × Unit))) × Int × Int × (List Int) × Int × Int × Int × Int × Int) : Option (Int × (List ((Int × (Int × (List Int × Unit))) × ((Int × (Int × Unit)) × Unit))) × Bool × Int) :=
  match x with
  | (x1, (x2, (x3, (x4, (x5, (x6, (x7, (x8, (x9, x10))))))))) =>
  (Option.bind (rBucket n (x1, (x2, (x3, (x4, (x5, (x6, (x7, (x8, (x9, x10)))))))))) fun r11 =>
  (if (r11.2.2 != (0 : Int)) = true then
  some (x1, (x2, (false, r11.2.2)))
  else
  (Option.bind (rTake n (r11.1, (r11.2.1, (x6, (x7, (x8, (x9, x10))))))) fun r12 =>
  (if (r12.2.2.2 != (0 : Int)) = true then
  some (x1, (x2, (false, r12.2.2.2)))
  else
  (Option.bind (rPlace n (x1, (x2, (x3, (x4, x5))))) fun r13 =>
  (loopF (X := Bool × Int × Int × Int × (List ((Int × (Int × (List Int × Unit))) × ((Int × (Int × Unit)) × Unit))) × Int × Int × (List Int) × Int × Int × Int × (List ((Int × (Int × (List Int × Unit))) × ((Int × (Int × Unit)) × Unit))) × List ((Int × (Int × (List Int × Unit))) × ((Int × (Int × Unit)) × Unit))) (A := Int × (List ((Int × (Int × (List Int × Unit))) × ((Int × (Int × Unit)) × Unit))) × Bool × Int) (fun rec14 y15 => match y15 with
  | (a16, (a17, (a18, (a19, (a20, (a21, (a22, (a23, (a24, (a25, (a26, (a27, a28)))))))))))) =>
  (if (decide (a18 < (a20.length : Int))) = true then
  (Option.bind (α := Out (Bool × Int × Int × Bool × Int × (List ((Int × (Int × (List Int × Unit))) × ((Int × (Int × Unit)) × Unit))) × Int × Int × (List Int) × Int × (List ((Int × (Int × (List Int × Unit))) × ((Int × (Int × Unit)) × Unit))) × Int × Int × List ((Int × (Int × (List Int × Unit))) × ((Int × (Int × Unit)) × Unit))) (Int × (List ((Int × (Int × (List Int × Unit))) × ((Int × (Int × Unit)) × Unit))) × Bool × Int)) ((if (a18 != a17) = true then
  (if (decide (a17 ≥ (0 : Int))) = true then
  (some (Out.go (a16, (a17, (a18, (true, (a19, (a20, (a21, (a22, (a23, (a24, (a28, (a25, (a26, a27)))))))))))))))
  else
  (if (decide ((a20.length : Int) < a19)) = true then
  (some (Out.go (a16, (a17, (a18, (true, (a19, (a20, (a21, (a22, (a23, (a24, (a28, (a25, (a26, a27)))))))))))))))
  else
  (some (Out.go (a16, (a17, (a18, ((decide (a18 > (0 : Int))), (a19, (a20, (a21, (a22, (a23, (a24, (a28, (a25, (a26, a27)))))))))))))))))
  else
  (some (Out.go (a16, (a17, (a18, (false, (a19, (a20, (a21, (a22, (a23, (a24, (a28, (a25, (a26, a27))))))))))))))))) fun o => match o with
  | .go (z30, (z31, (z32, (z33, (z34, (z35, (z36, (z37, (z38, (z39, (z40, (z41, (z42, z43))))))))))))) =>
  (if z33 = true then
  (Option.bind (idx z35 z32) fun v44 =>
  (if (z43.length + 1) * 48 ≤ 140737488355328 then
  (let u45 : List ((Int × (Int × (List Int × Unit))) × ((Int × (Int × Unit)) × Unit)) := (z43 ++ ([((v44.1.1, (v44.1.2.1, (v44.1.2.2.1, ()))), ((v44.2.1.1, (v44.2.1.2.1, ())), ()))] : List ((Int × (Int × (List Int × Unit))) × ((Int × (Int × Unit)) × Unit))))
  (let u46 : Int := (IntKind.wrap .i64 (z32 + (1 : Int)))
  rec14 (z30, (z31, (u46, (z34, (z35, (z36, (z37, (z38, (z39, (z41, (z42, (u45, z40))))))))))))))
  else none))
  else
  (let u47 : Int := (IntKind.wrap .i64 (z32 + (1 : Int)))
  rec14 (z30, (z31, (u47, (z34, (z35, (z36, (z37, (z38, (z39, (z41, (z42, (z43, z40))))))))))))))
  | .ret r48 => some r48)
  else
  (if (a27.length + 1) * 48 ≤ 140737488355328 then
  (let u49 : List ((Int × (Int × (List Int × Unit))) × ((Int × (Int × Unit)) × Unit)) := (a27 ++ ([((a21, (a22, (a23, ()))), ((a25, (a26, ())), ()))] : List ((Int × (Int × (List Int × Unit))) × ((Int × (Int × Unit)) × Unit))))
  some (a19, (u49, (a16, (0 : Int)))))
  else none))) n (r12.2.2.1, (r13, ((0 : Int), (x1, (x2, (x3, (x4, (x5, ((0 : Int), (r12.1, (r12.2.1, (([] : List ((Int × (Int × (List Int × Unit))) × ((Int × (Int × Unit)) × Unit))), ([] : List ((Int × (Int × (List Int × Unit))) × ((Int × (Int × Unit)) × Unit)))))))))))))))))))))
def sp_turnstileref22RTake (n : Nat) : Spec := ⟨pre_turnstileref22RTake, post_turnstileref22RTake, turnstileref22RTake n⟩
def env_turnstileref22RTake (n : Nat) : List (FuncId × Spec) := [(42, sp_rBucket n), (12, sp_rTake n), (45, sp_rPlace n)]
theorem run_turnstileref22RTake (n : Nat) (x : pre_turnstileref22RTake.T) : fnRun Try.prog 68 (envG (env_turnstileref22RTake n) [] (fun _ => none)) n Try.f36 ann_turnstileref22RTake pre_turnstileref22RTake post_turnstileref22RTake x = turnstileref22RTake n x := by kernel_rfl
theorem ok_turnstileref22RTake (n : Nat) : FnOK Try.prog 68 L0 36 (sp_turnstileref22RTake n) :=
  fn_run mixed Try.func36 (sp_turnstileref22RTake n) n ann_turnstileref22RTake (env_turnstileref22RTake n) (envOf_cons (ok_rBucket n) (envOf_cons (ok_rTake n) (envOf_cons (ok_rPlace n) envOf_nil))) [] (fun _ => none) gl_none (run_turnstileref22RTake n) (by kernel_rfl)
def pre_works : Shape := ⟨[], [(200, .pool 81 (.pair (.pair (.int .i64) (.pair (.int .i64) (.pair .str .unit))) (.pair (.pair (.int .i64) (.pair (.int .i64) .unit)) (.pair (.nd 200) (.pair (.nd 200) .unit)))))]⟩
def post_works : List Shape := [⟨[.c (.dat .bool)], []⟩]
def ann_works : Ann := .no
/-- what turnstile/turnstilelaw22.works comes to. -/
def works (n : Nat) (x : List ((Int × (Int × (List Int × Unit))) × ((Int × (Int × Unit)) × (Int × (Int × Unit))))) : Option (Bool) :=
  (Option.bind (tNew n ((2 : Int), x)) fun r2 =>
  (match r2 with
  | Sum.inl a3 =>
  some false
  | Sum.inr b4 =>
  (Option.bind (tTake n ((0 : Int), ((0 : Int), (([(97 : Int)] : List Int), ((1 : Int), ((1 : Int), ((10 : Int), ((1 : Int), ((0 : Int), (b4.1, (b4.2.1, (b4.2.2.1, (b4.2.2.2.1, b4.2.2.2.2))))))))))))) fun r5 =>
  (Option.bind (tTake n ((0 : Int), ((0 : Int), (([(98 : Int)] : List Int), ((1 : Int), ((1 : Int), ((10 : Int), ((1 : Int), ((1 : Int), (r5.2.2.1, (r5.2.2.2.1, (r5.2.2.2.2.1, (r5.2.2.2.2.2.1, r5.2.2.2.2.2.2))))))))))))) fun r6 =>
  (Option.bind (tTake n ((0 : Int), ((0 : Int), (([(97 : Int)] : List Int), ((1 : Int), ((1 : Int), ((10 : Int), ((1 : Int), ((2 : Int), (r6.2.2.1, (r6.2.2.2.1, (r6.2.2.2.2.1, (r6.2.2.2.2.2.1, r6.2.2.2.2.2.2))))))))))))) fun r7 =>
  (Option.bind (tTake n ((0 : Int), ((0 : Int), (([(99 : Int)] : List Int), ((1 : Int), ((1 : Int), ((10 : Int), ((1 : Int), ((3 : Int), (r7.2.2.1, (r7.2.2.2.1, (r7.2.2.2.2.1, (r7.2.2.2.2.2.1, r7.2.2.2.2.2.2))))))))))))) fun r8 =>
  (Option.bind (tWho n (r8.2.2.1, (r8.2.2.2.1, (r8.2.2.2.2.1, (r8.2.2.2.2.2.1, r8.2.2.2.2.2.2))))) fun r9 =>
  (Option.bind (tTake n ((0 : Int), ((0 : Int), (([] : List Int), ((0 : Int), ((0 : Int), ((0 : Int), ((0 : Int), ((0 : Int), (r9.2.1, (r9.2.2.1, (r9.2.2.2.1, (r9.2.2.2.2.1, r9.2.2.2.2.2))))))))))))) fun r10 =>
  (if r5.1 = true then
  (if r6.1 = true then
  (if (!r7.1) = true then
  (if (r7.2.1 == (0 : Int)) = true then
  (if r8.1 = true then
  (if ((r9.1.length : Int) == (2 : Int)) = true then
  (Option.bind (idx r9.1 (0 : Int)) fun v11 =>
  (if (v11.2.2.1 == ([(97 : Int)] : List Int)) = true then
  (Option.bind (idx r9.1 (1 : Int)) fun v12 =>
  (if (v12.2.2.1 == ([(99 : Int)] : List Int)) = true then
  (Option.bind (turnstilelaw22Num n r10.2.1) fun r13 =>
  some (r13 == (4 : Int)))
  else
  some false))
  else
  some false))
  else
  some false)
  else
  some false)
  else
  some false)
  else
  some false)
  else
  some false)
  else
  some false)))))))))
def sp_works (n : Nat) : Spec := ⟨pre_works, post_works, works n⟩
def env_works (n : Nat) : List (FuncId × Spec) := [(7, sp_tNew n), (10, sp_tTake n), (10, sp_tTakeN n), (24, sp_tWho n), (24, sp_tWhoN n), (13, sp_turnstilelaw22Num n)]
theorem run_works (n : Nat) (x : pre_works.T) : fnRun Try.prog 68 (envG (env_works n) [] (fun _ => none)) n Try.f9 ann_works pre_works post_works x = works n x := by kernel_rfl
theorem ok_works (n : Nat) : FnOK Try.prog 68 L0 9 (sp_works n) :=
  fn_run mixed Try.func9 (sp_works n) n ann_works (env_works n) (envOf_cons (ok_tNew n) (envOf_cons (ok_tTake n) (envOf_cons (ok_tTakeN n) (envOf_cons (ok_tWho n) (envOf_cons (ok_tWhoN n) (envOf_cons (ok_turnstilelaw22Num n) envOf_nil)))))) [] (fun _ => none) gl_none (run_works n) (by kernel_rfl)
def works0 (n : Nat) (x : Unit) : Option Bool := works n []
def sp_works0 (n : Nat) : Spec := ⟨⟨[], []⟩, post_works, works0 n⟩
theorem ok_works0 (n : Nat) : FnOK Try.prog 68 L0 9 (sp_works0 n) := FnOK.pools (es := pre_works.ents) (post := post_works) (run := works n) (fun _ _ _ h => h) [] (fun q hq => pools_empty (l := (⟨[], pre_works.ents⟩ : Shape).es []) (by kernel_rfl) q hq) (by kernel_rfl) (ok_works n)
def pre_doAct : Shape := ⟨[.c (.ptr 0 0), .a [.dat (.int .i64), .dat (.list (.pair (.pair (.int .i64) (.pair (.int .i64) (.pair .str .unit))) (.pair (.pair (.int .i64) (.pair (.int .i64) .unit)) .unit)))], .a [.dat (.int .i64), .dat (.int .i64), .dat (.int .i64), .dat .str, .dat (.int .i64), .dat (.int .i64), .dat (.int .i64), .dat (.int .i64), .dat (.int .i64)]], [(0, .cells 72 [.dat (.int .i64), .own 1, .dat (.nd 200), .dat (.nd 200)]), (1, .mp (.pair (.int .i64) (.pair (.int .i64) (.pair .str .unit))) (.nd 200)), (200, .pool 81 (.pair (.pair (.int .i64) (.pair (.int .i64) (.pair .str .unit))) (.pair (.pair (.int .i64) (.pair (.int .i64) .unit)) (.pair (.nd 200) (.pair (.nd 200) .unit)))))]⟩
def post_doAct : List Shape := [⟨[.a [.dat (.int .i64), .dat (.list (.pair (.pair (.int .i64) (.pair (.int .i64) (.pair .str .unit))) (.pair (.pair (.int .i64) (.pair (.int .i64) .unit)) .unit)))], .c (.dat .bool)], [(0, .cells 72 [.dat (.int .i64), .own 1, .dat (.nd 200), .dat (.nd 200)]), (1, .mp (.pair (.int .i64) (.pair (.int .i64) (.pair .str .unit))) (.nd 200)), (200, .pool 81 (.pair (.pair (.int .i64) (.pair (.int .i64) (.pair .str .unit))) (.pair (.pair (.int .i64) (.pair (.int .i64) .unit)) (.pair (.nd 200) (.pair (.nd 200) .unit)))))]⟩]
def ann_doAct : Ann := .no
/-- what turnstile/turnstilelaw22.do comes to. -/
def doAct (n : Nat) (x : Int × (List ((Int × (Int × (List Int × Unit))) × ((Int × (Int × Unit)) × Unit))) × Int × Int × Int × (List Int) × Int × Int × Int × Int × Int × Int × Int × Int × (List ((Int × (Int × (List Int × Unit))) × Int)) × List ((Int × (Int × (List Int × Unit))) × ((Int × (Int × Unit)) × (Int × (Int × Unit))))) : Option (Int × (List ((Int × (Int × (List Int × Unit))) × ((Int × (Int × Unit)) × Unit))) × Bool × Int × Int × Int × (List ((Int × (Int × (List Int × Unit))) × Int)) × List ((Int × (Int × (List Int × Unit))) × ((Int × (Int × Unit)) × (Int × (Int × Unit))))) :=
  match x with
  | (x1, (x2, (x3, (x4, (x5, (x6, (x7, (x8, (x9, (x10, (x11, (x12, (x13, (x14, (x15, x16))))))))))))))) =>
  (let u17 : Int := (IntKind.wrap .i64 ((Int.tmod x3 (8 : Int)) + (8 : Int)))
  (if ((Int.tmod u17 (8 : Int)) == (0 : Int)) = true then
  (Option.bind (tLeft n (x4, (x5, (x6, (x7, (x8, (x9, (x10, (x11, (x12, (x13, (x14, (x15, x16))))))))))))) fun r18 =>
  (Option.bind (rLeft n (x1, (x2, (x4, (x5, (x6, (x7, (x8, (x9, (x10, x11)))))))))) fun r19 =>
  (if (r18.1 == r19.1) = true then
  (Option.bind (turnstilelaw22Num n r18.2.1) fun r20 =>
  some (x1, (x2, ((r20 == r19.2), (r18.2.2.1, (r18.2.2.2.1, (r18.2.2.2.2.1, (r18.2.2.2.2.2.1, r18.2.2.2.2.2.2))))))))
  else
  some (x1, (x2, (false, (r18.2.2.1, (r18.2.2.2.1, (r18.2.2.2.2.1, (r18.2.2.2.2.2.1, r18.2.2.2.2.2.2))))))))))
  else
  (if ((Int.tmod u17 (8 : Int)) == (1 : Int)) = true then
  (Option.bind (tWait n (x4, (x5, (x6, (x7, (x8, (x9, (x10, (x11, (x12, (x13, (x14, (x15, x16))))))))))))) fun r21 =>
  (Option.bind (rWait n (x1, (x2, (x4, (x5, (x6, (x7, (x8, (x9, (x10, x11)))))))))) fun r22 =>
  (if (r21.1 == r22.1) = true then
  (Option.bind (turnstilelaw22Num n r21.2.1) fun r23 =>
  some (x1, (x2, ((r23 == r22.2), (r21.2.2.1, (r21.2.2.2.1, (r21.2.2.2.2.1, (r21.2.2.2.2.2.1, r21.2.2.2.2.2.2))))))))
  else
  some (x1, (x2, (false, (r21.2.2.1, (r21.2.2.2.1, (r21.2.2.2.2.1, (r21.2.2.2.2.2.1, r21.2.2.2.2.2.2))))))))))
  else
  (if ((Int.tmod u17 (8 : Int)) == (2 : Int)) = true then
  (Option.bind (rDrop n (x1, (x2, x4))) fun r24 =>
  (Option.bind (tDrop n (x4, (x12, (x13, (x14, (x15, x16)))))) fun r25 =>
  some (r24.1, (r24.2.1, ((r25.1 == r24.2.2), (r25.2.1, (r25.2.2.1, (r25.2.2.2.1, (r25.2.2.2.2.1, r25.2.2.2.2.2)))))))))
  else
  (Option.bind (turnstileref22RTake n (x1, (x2, (x4, (x5, (x6, (x7, (x8, (x9, (x10, x11)))))))))) fun r26 =>
  (Option.bind (tTake n (x4, (x5, (x6, (x7, (x8, (x9, (x10, (x11, (x12, (x13, (x14, (x15, x16))))))))))))) fun r27 =>
  (if (r27.1 == r26.2.2.1) = true then
  (Option.bind (turnstilelaw22Num n r27.2.1) fun r28 =>
  some (r26.1, (r26.2.1, ((r28 == r26.2.2.2), (r27.2.2.1, (r27.2.2.2.1, (r27.2.2.2.2.1, (r27.2.2.2.2.2.1, r27.2.2.2.2.2.2))))))))
  else
  some (r26.1, (r26.2.1, (false, (r27.2.2.1, (r27.2.2.2.1, (r27.2.2.2.2.1, (r27.2.2.2.2.2.1, r27.2.2.2.2.2.2))))))))))))))
def sp_doAct (n : Nat) : Spec := ⟨pre_doAct, post_doAct, doAct n⟩
def env_doAct (n : Nat) : List (FuncId × Spec) := [(22, sp_tLeft n), (22, sp_tLeftN n), (33, sp_rLeft n), (13, sp_turnstilelaw22Num n), (23, sp_tWait n), (23, sp_tWaitN n), (34, sp_rWait n), (35, sp_rDrop n), (16, sp_tDrop n), (16, sp_tDropN n), (36, sp_turnstileref22RTake n), (10, sp_tTake n), (10, sp_tTakeN n)]
theorem run_doAct (n : Nat) (x : pre_doAct.T) : fnRun Try.prog 68 (envG (env_doAct n) [] (fun _ => none)) n Try.f18 ann_doAct pre_doAct post_doAct x = doAct n x := by kernel_rfl
theorem ok_doAct (n : Nat) : FnOK Try.prog 68 L0 18 (sp_doAct n) :=
  fn_run mixed Try.func18 (sp_doAct n) n ann_doAct (env_doAct n) (envOf_cons (ok_tLeft n) (envOf_cons (ok_tLeftN n) (envOf_cons (ok_rLeft n) (envOf_cons (ok_turnstilelaw22Num n) (envOf_cons (ok_tWait n) (envOf_cons (ok_tWaitN n) (envOf_cons (ok_rWait n) (envOf_cons (ok_rDrop n) (envOf_cons (ok_tDrop n) (envOf_cons (ok_tDropN n) (envOf_cons (ok_turnstileref22RTake n) (envOf_cons (ok_tTake n) (envOf_cons (ok_tTakeN n) envOf_nil))))))))))))) [] (fun _ => none) gl_none (run_doAct n) (by kernel_rfl)
def pre_tableMost : Shape := ⟨[.a [.dat (.int .i64), .dat (.int .i64), .dat (.int .i64), .dat (.int .i64)], .c (.dat (.list (.int .i64)))], [(200, .pool 81 (.pair (.pair (.int .i64) (.pair (.int .i64) (.pair .str .unit))) (.pair (.pair (.int .i64) (.pair (.int .i64) .unit)) (.pair (.nd 200) (.pair (.nd 200) .unit)))))]⟩
def post_tableMost : List Shape := [⟨[.c (.dat .bool)], []⟩]
def ann_tableMost : Ann := (.two .no (.two .no (.two .no (.two .no (.two .no (.two (.two .no (.one (.loop ⟨[1, 2, 5, 7, 8, 9], ⟨[.c (.dat (.list (.int .i64))), .c (.ptr 500 0), .c (.ptr 501 0), .c (.dat (.int .i64)), .c (.own 503), .c (.dat (.int .i64))], [(500, .cells 23 [.dat (.int .i64), .dat (.int .i64), .dat (.int .i64), .dat (.int .i64)]), (501, .cells 72 [.dat (.int .i64), .own 502, .dat (.nd 200), .dat (.nd 200)]), (502, .mp (.pair (.int .i64) (.pair (.int .i64) (.pair .str .unit))) (.nd 200)), (200, .pool 81 (.pair (.pair (.int .i64) (.pair (.int .i64) (.pair .str .unit))) (.pair (.pair (.int .i64) (.pair (.int .i64) .unit)) (.pair (.nd 200) (.pair (.nd 200) .unit))))), (503, .row 3 (.int .i64))]⟩⟩ .no))) (.two (.two .no (.one (.loop ⟨[2, 8, 12], ⟨[.c (.ptr 500 0), .c (.own 501), .c (.dat (.int .i64))], [(500, .cells 23 [.dat (.int .i64), .dat (.int .i64), .dat (.int .i64), .dat (.int .i64)]), (501, .row 3 (.int .i64)), (200, .pool 81 (.pair (.pair (.int .i64) (.pair (.int .i64) (.pair .str .unit))) (.pair (.pair (.int .i64) (.pair (.int .i64) .unit)) (.pair (.nd 200) (.pair (.nd 200) .unit)))))]⟩⟩ (.two .no (.two (.one (.two .no (.one (.loop ⟨[2, 8, 12, 13], ⟨[.c (.ptr 500 0), .c (.own 501), .c (.dat (.int .i64)), .c (.dat (.int .i64))], [(500, .cells 23 [.dat (.int .i64), .dat (.int .i64), .dat (.int .i64), .dat (.int .i64)]), (501, .row 3 (.int .i64)), (200, .pool 81 (.pair (.pair (.int .i64) (.pair (.int .i64) (.pair .str .unit))) (.pair (.pair (.int .i64) (.pair (.int .i64) .unit)) (.pair (.nd 200) (.pair (.nd 200) .unit)))))]⟩⟩ .no)))) .no))))) .no)))))))
/-- what turnstile/turnstilelaw22.TableMost comes to. -/
def tableMost (n : Nat) (x : Int × Int × Int × Int × (List Int) × List ((Int × (Int × (List Int × Unit))) × ((Int × (Int × Unit)) × (Int × (Int × Unit))))) : Option (Bool) :=
  match x with
  | (x1, (x2, (x3, (x4, (x5, x6))))) =>
  (Option.bind (tNew n ((4 : Int), x6)) fun r7 =>
  (match r7 with
  | Sum.inl a8 =>
  some false
  | Sum.inr b9 =>
  (Option.bind (rValid n (x1, (x2, (x3, x4)))) fun r10 =>
  (if (r10 != (0 : Int)) = true then
  (Option.bind (works0 n ()) fun r11 =>
  some r11)
  else
  (if (decide ((x5.length : Int) > (300 : Int))) = true then
  (Option.bind (works0 n ()) fun r12 =>
  some r12)
  else
  (loopF (X := (List Int) × Int × Int × Int × Int × Int × Int × Int × Int × Int × (List ((Int × (Int × (List Int × Unit))) × Int)) × (List ((Int × (Int × (List Int × Unit))) × ((Int × (Int × Unit)) × (Int × (Int × Unit))))) × List Int) (A := Bool) (fun rec13 y14 => match y14 with
  | (a15, (a16, (a17, (a18, (a19, (a20, (a21, (a22, (a23, (a24, (a25, (a26, a27)))))))))))) =>
  (if (decide (a17 < (a15.length : Int))) = true then
  (Option.bind (idx a15 a17) fun v28 =>
  (let u29 : Int := (IntKind.wrap .i64 ((Int.tmod v28 (5 : Int)) + (5 : Int)))
  (let u30 : Int := (IntKind.wrap .i64 (a16 + (Int.tmod u29 (5 : Int))))
  (Option.bind (tTake n ((0 : Int), ((0 : Int), (([(97 : Int)] : List Int), (a18, (a19, (a20, (a21, (u30, (a22, (a23, (a24, (a25, a26))))))))))))) fun r31 =>
  (if (!(r31.2.1 == (0 : Int))) = true then
  some false
  else
  (if r31.1 = true then
  (if (a27.length + 1) * 8 ≤ 140737488355328 then
  (let u32 : Int := (IntKind.wrap .i64 (a17 + (1 : Int)))
  rec13 (a15, (u30, (u32, (a18, (a19, (a20, (a21, (r31.2.2.1, (r31.2.2.2.1, (r31.2.2.2.2.1, (r31.2.2.2.2.2.1, (r31.2.2.2.2.2.2, (a27 ++ ([u30] : List Int)))))))))))))))
  else none)
  else
  (let u33 : Int := (IntKind.wrap .i64 (a17 + (1 : Int)))
  rec13 (a15, (u30, (u33, (a18, (a19, (a20, (a21, (r31.2.2.1, (r31.2.2.2.1, (r31.2.2.2.2.1, (r31.2.2.2.2.2.1, (r31.2.2.2.2.2.2, a27)))))))))))))))))))
  else
  (loopF (X := Int × Int × Int × Int × Int × (List Int) × List ((Int × (Int × (List Int × Unit))) × ((Int × (Int × Unit)) × (Int × (Int × Unit))))) (A := Bool) (fun rec34 y35 => match y35 with
  | (a36, (a37, (a38, (a39, (a40, (a41, a42)))))) =>
  (if (decide (a36 < (a41.length : Int))) = true then
  (loopF (X := Int × Int × Int × Int × Int × Int × (List Int) × List ((Int × (Int × (List Int × Unit))) × ((Int × (Int × Unit)) × (Int × (Int × Unit))))) (A := Bool) (fun rec43 y44 => match y44 with
  | (a45, (a46, (a47, (a48, (a49, (a50, (a51, a52))))))) =>
  (if (decide (a46 < (a51.length : Int))) = true then
  (let u53 : Int := (IntKind.wrap .i64 ((IntKind.wrap .i64 (a46 - a45)) + (1 : Int)))
  (if 0 ≤ a46 ∧ a46 < (a51.length : Int) then
  (if 0 ≤ a45 ∧ a45 < (a51.length : Int) then
  (let u54 : Int := (IntKind.wrap .i64 ((a51.getD a46.toNat (0 : Int)) - (a51.getD a45.toNat (0 : Int))))
  (if a49 = 0 then none else
  (let u55 : Int := (IntKind.wrap .i64 (Int.tdiv (IntKind.wrap .i64 (a48 * u54)) a49))
  (if (decide (u53 > (IntKind.wrap .i64 (a50 + u55)))) = true then
  some false
  else
  (let u56 : Int := (IntKind.wrap .i64 (a46 + (1 : Int)))
  rec43 (a45, (u56, (a47, (a48, (a49, (a50, (a51, a52))))))))))))
  else none)
  else none))
  else
  (let u57 : Int := (IntKind.wrap .i64 (a45 + (1 : Int)))
  rec34 (u57, (a47, (a48, (a49, (a50, (a51, a52))))))))) n (a36, (a36, (a37, (a38, (a39, (a40, (a41, a42))))))))
  else
  (Option.bind (works0 n ()) fun r58 =>
  some r58))) n ((0 : Int), (a18, (a19, (a20, (a21, (a27, a26))))))))) n (x5, ((0 : Int), ((0 : Int), (x1, (x2, (x3, (x4, (b9.1, (b9.2.1, (b9.2.2.1, (b9.2.2.2.1, (b9.2.2.2.2, ([] : List Int)))))))))))))))))))
def sp_tableMost (n : Nat) : Spec := ⟨pre_tableMost, post_tableMost, tableMost n⟩
def env_tableMost (n : Nat) : List (FuncId × Spec) := [(7, sp_tNew n), (8, sp_rValid n), (9, sp_works0 n), (10, sp_tTake n), (10, sp_tTakeN n)]
theorem run_tableMost (n : Nat) (x : pre_tableMost.T) : fnRun Try.prog 68 (envG (env_tableMost n) [] (fun _ => none)) n Try.f3 ann_tableMost pre_tableMost post_tableMost x = tableMost n x := by kernel_rfl
theorem ok_tableMost (n : Nat) : FnOK Try.prog 68 L0 3 (sp_tableMost n) :=
  fn_run mixed Try.func3 (sp_tableMost n) n ann_tableMost (env_tableMost n) (envOf_cons (ok_tNew n) (envOf_cons (ok_rValid n) (envOf_cons (ok_works0 n) (envOf_cons (ok_tTake n) (envOf_cons (ok_tTakeN n) envOf_nil))))) [] (fun _ => none) gl_none (run_tableMost n) (by kernel_rfl)
def pre_tableApart : Shape := ⟨[.c (.dat (.list (.pair (.int .i64) (.pair (.pair (.int .i64) (.pair (.int .i64) (.pair .str .unit))) (.pair (.pair (.int .i64) (.pair (.int .i64) (.pair (.int .i64) (.pair (.int .i64) .unit)))) (.pair (.int .i64) .unit))))))], [(200, .pool 81 (.pair (.pair (.int .i64) (.pair (.int .i64) (.pair .str .unit))) (.pair (.pair (.int .i64) (.pair (.int .i64) .unit)) (.pair (.nd 200) (.pair (.nd 200) .unit)))))]⟩
def post_tableApart : List Shape := [⟨[.c (.dat .bool)], []⟩]
def ann_tableApart : Ann := (.two .no (.two .no (.two .no (.two .no (.two .no (.two (.two .no (.one (.loop ⟨[0, 3, 5, 6, 7], ⟨[.c (.dat (.list (.pair (.int .i64) (.pair (.pair (.int .i64) (.pair (.int .i64) (.pair .str .unit))) (.pair (.pair (.int .i64) (.pair (.int .i64) (.pair (.int .i64) (.pair (.int .i64) .unit)))) (.pair (.int .i64) .unit)))))), .c (.ptr 500 0), .c (.own 502), .c (.own 503), .c (.dat (.int .i64))], [(500, .cells 72 [.dat (.int .i64), .own 501, .dat (.nd 200), .dat (.nd 200)]), (501, .mp (.pair (.int .i64) (.pair (.int .i64) (.pair .str .unit))) (.nd 200)), (200, .pool 81 (.pair (.pair (.int .i64) (.pair (.int .i64) (.pair .str .unit))) (.pair (.pair (.int .i64) (.pair (.int .i64) .unit)) (.pair (.nd 200) (.pair (.nd 200) .unit))))), (502, .row 35 (.pair (.int .i64) (.pair (.int .i64) (.pair .str .unit)))), (503, .row 43 (.pair (.int .i64) (.pair (.int .i64) .unit)))]⟩⟩ (.two .no (.two (.one (.two .no (.two .no (.two .no (.two (.two .no (.one (.loop ⟨[0, 3, 5, 6, 7, 8, 9, 10, 11, 12], ⟨[.c (.dat (.list (.pair (.int .i64) (.pair (.pair (.int .i64) (.pair (.int .i64) (.pair .str .unit))) (.pair (.pair (.int .i64) (.pair (.int .i64) (.pair (.int .i64) (.pair (.int .i64) .unit)))) (.pair (.int .i64) .unit)))))), .c (.ptr 500 0), .c (.own 502), .c (.own 503), .c (.dat (.int .i64)), .c (.ptr 504 0), .c (.dat .bool), .c (.dat .err), .c (.dat (.int .i64)), .c (.dat (.int .i64))], [(500, .cells 72 [.dat (.int .i64), .own 501, .dat (.nd 200), .dat (.nd 200)]), (501, .mp (.pair (.int .i64) (.pair (.int .i64) (.pair .str .unit))) (.nd 200)), (502, .row 35 (.pair (.int .i64) (.pair (.int .i64) (.pair .str .unit)))), (503, .row 43 (.pair (.int .i64) (.pair (.int .i64) .unit))), (504, .cells 41 [.dat (.int .i64), .dat (.int .i64), .dat (.int .i64), .dat .str, .dat (.int .i64), .dat (.int .i64), .dat (.int .i64), .dat (.int .i64), .dat (.int .i64)]), (200, .pool 81 (.pair (.pair (.int .i64) (.pair (.int .i64) (.pair .str .unit))) (.pair (.pair (.int .i64) (.pair (.int .i64) .unit)) (.pair (.nd 200) (.pair (.nd 200) .unit)))))]⟩⟩ .no))) (.two .no (.two (.join ⟨[0, 3, 5, 6, 7, 8, 9, 10, 11, 13, 14], ⟨[.c (.dat (.list (.pair (.int .i64) (.pair (.pair (.int .i64) (.pair (.int .i64) (.pair .str .unit))) (.pair (.pair (.int .i64) (.pair (.int .i64) (.pair (.int .i64) (.pair (.int .i64) .unit)))) (.pair (.int .i64) .unit)))))), .c (.ptr 500 0), .c (.own 502), .c (.own 503), .c (.dat (.int .i64)), .c (.ptr 504 0), .c (.dat .bool), .c (.dat .err), .c (.dat (.int .i64)), .c (.ptr 505 0), .c (.dat (.int .i64))], [(500, .cells 72 [.dat (.int .i64), .own 501, .dat (.nd 200), .dat (.nd 200)]), (501, .mp (.pair (.int .i64) (.pair (.int .i64) (.pair .str .unit))) (.nd 200)), (502, .row 35 (.pair (.int .i64) (.pair (.int .i64) (.pair .str .unit)))), (503, .row 43 (.pair (.int .i64) (.pair (.int .i64) .unit))), (504, .cells 41 [.dat (.int .i64), .dat (.int .i64), .dat (.int .i64), .dat .str, .dat (.int .i64), .dat (.int .i64), .dat (.int .i64), .dat (.int .i64), .dat (.int .i64)]), (505, .cells 43 [.dat (.int .i64), .dat (.int .i64)]), (200, .pool 81 (.pair (.pair (.int .i64) (.pair (.int .i64) (.pair .str .unit))) (.pair (.pair (.int .i64) (.pair (.int .i64) .unit)) (.pair (.nd 200) (.pair (.nd 200) .unit)))))]⟩⟩ (.two (.join ⟨[0, 3, 5, 6, 7, 8, 9, 10, 11, 13, 14, 92], ⟨[.c (.dat (.list (.pair (.int .i64) (.pair (.pair (.int .i64) (.pair (.int .i64) (.pair .str .unit))) (.pair (.pair (.int .i64) (.pair (.int .i64) (.pair (.int .i64) (.pair (.int .i64) .unit)))) (.pair (.int .i64) .unit)))))), .c (.ptr 500 0), .c (.own 502), .c (.own 503), .c (.dat (.int .i64)), .c (.ptr 504 0), .c (.dat .bool), .c (.dat .err), .c (.dat (.int .i64)), .c (.ptr 505 0), .c (.dat (.int .i64)), .c (.dat .bool)], [(500, .cells 72 [.dat (.int .i64), .own 501, .dat (.nd 200), .dat (.nd 200)]), (501, .mp (.pair (.int .i64) (.pair (.int .i64) (.pair .str .unit))) (.nd 200)), (502, .row 35 (.pair (.int .i64) (.pair (.int .i64) (.pair .str .unit)))), (503, .row 43 (.pair (.int .i64) (.pair (.int .i64) .unit))), (504, .cells 41 [.dat (.int .i64), .dat (.int .i64), .dat (.int .i64), .dat .str, .dat (.int .i64), .dat (.int .i64), .dat (.int .i64), .dat (.int .i64), .dat (.int .i64)]), (505, .cells 43 [.dat (.int .i64), .dat (.int .i64)]), (200, .pool 81 (.pair (.pair (.int .i64) (.pair (.int .i64) (.pair .str .unit))) (.pair (.pair (.int .i64) (.pair (.int .i64) .unit)) (.pair (.nd 200) (.pair (.nd 200) .unit)))))]⟩⟩ .no) .no)) (.two .no (.two (.join ⟨[0, 3, 5, 6, 7, 8, 9, 10, 11, 15, 16, 17], ⟨[.c (.dat (.list (.pair (.int .i64) (.pair (.pair (.int .i64) (.pair (.int .i64) (.pair .str .unit))) (.pair (.pair (.int .i64) (.pair (.int .i64) (.pair (.int .i64) (.pair (.int .i64) .unit)))) (.pair (.int .i64) .unit)))))), .c (.ptr 500 0), .c (.own 502), .c (.own 503), .c (.dat (.int .i64)), .c (.ptr 504 0), .c (.dat .bool), .c (.dat .err), .c (.dat (.int .i64)), .c (.ptr 505 0), .c (.dat .bool), .c (.dat (.int .i64))], [(500, .cells 72 [.dat (.int .i64), .own 501, .dat (.nd 200), .dat (.nd 200)]), (501, .mp (.pair (.int .i64) (.pair (.int .i64) (.pair .str .unit))) (.nd 200)), (502, .row 35 (.pair (.int .i64) (.pair (.int .i64) (.pair .str .unit)))), (503, .row 43 (.pair (.int .i64) (.pair (.int .i64) .unit))), (504, .cells 41 [.dat (.int .i64), .dat (.int .i64), .dat (.int .i64), .dat .str, .dat (.int .i64), .dat (.int .i64), .dat (.int .i64), .dat (.int .i64), .dat (.int .i64)]), (505, .cells 43 [.dat (.int .i64), .dat (.int .i64)]), (200, .pool 81 (.pair (.pair (.int .i64) (.pair (.int .i64) (.pair .str .unit))) (.pair (.pair (.int .i64) (.pair (.int .i64) .unit)) (.pair (.nd 200) (.pair (.nd 200) .unit)))))]⟩⟩ .no) .no))))))))) .no))))) .no))))))
/-- what turnstile/turnstilelaw22.TableApart comes to. -/
def tableApart (n : Nat) (x : (List (Int × ((Int × (Int × (List Int × Unit))) × ((Int × (Int × (Int × (Int × Unit)))) × (Int × Unit))))) × List ((Int × (Int × (List Int × Unit))) × ((Int × (Int × Unit)) × (Int × (Int × Unit))))) : Option (Bool) :=
  match x with
  | (x1, x2) =>
  (Option.bind (tNew n ((1024 : Int), x2)) fun r3 =>
  (match r3 with
  | Sum.inl a4 =>
  some false
  | Sum.inr b5 =>
  (if (decide ((x1.length : Int) > (200 : Int))) = true then
  (Option.bind (works0 n ()) fun r6 =>
  some r6)
  else
  (loopF (X := (List (Int × ((Int × (Int × (List Int × Unit))) × ((Int × (Int × (Int × (Int × Unit)))) × (Int × Unit))))) × Int × Int × Int × Int × (List ((Int × (Int × (List Int × Unit))) × Int)) × (List ((Int × (Int × (List Int × Unit))) × ((Int × (Int × Unit)) × (Int × (Int × Unit))))) × (List (Int × (Int × (List Int × Unit)))) × List (Int × (Int × Unit))) (A := Bool) (fun rec7 y8 => match y8 with
  | (a9, (a10, (a11, (a12, (a13, (a14, (a15, (a16, a17)))))))) =>
  (if (decide (a10 < (a9.length : Int))) = true then
  (Option.bind (idx a9 a10) fun v18 =>
  (Option.bind (tTake n (v18.2.1.1, (v18.2.1.2.1, (v18.2.1.2.2.1, (v18.2.2.1.1, (v18.2.2.1.2.1, (v18.2.2.1.2.2.1, (v18.2.2.1.2.2.2.1, (v18.2.2.2.1, (a11, (a12, (a13, (a14, a15))))))))))))) fun r19 =>
  (loopF (X := (List (Int × ((Int × (Int × (List Int × Unit))) × ((Int × (Int × (Int × (Int × Unit)))) × (Int × Unit))))) × Int × Bool × Int × Int × Int × Int × Int × Int × (List ((Int × (Int × (List Int × Unit))) × Int)) × (List (Int × (Int × (List Int × Unit)))) × (List (Int × (Int × Unit))) × Int × Int × Int × (List Int) × Int × Int × Int × Int × Int × List ((Int × (Int × (List Int × Unit))) × ((Int × (Int × Unit)) × (Int × (Int × Unit))))) (A := Bool) (fun rec20 y21 => match y21 with
  | (a22, (a23, (a24, (a25, (a26, (a27, (a28, (a29, (a30, (a31, (a32, (a33, (a34, (a35, (a36, (a37, (a38, (a39, (a40, (a41, (a42, a43))))))))))))))))))))) =>
  (if (decide (a27 < (a32.length : Int))) = true then
  (if 0 ≤ a27 ∧ a27 < (a32.length : Int) then
  (let u44 : Int := (a32.getD a27.toNat ((0 : Int), ((0 : Int), (([] : List Int), ())))).1
  let u45 : Int := (a32.getD a27.toNat ((0 : Int), ((0 : Int), (([] : List Int), ())))).2.1
  let u46 : List Int := (a32.getD a27.toNat ((0 : Int), ((0 : Int), (([] : List Int), ())))).2.2.1
  (if ((u44 == a35) && ((u45 == a36) && ((u46 == a37) && true))) = true then
  (let u47 : Int := (IntKind.wrap .i64 (a27 + (1 : Int)))
  rec20 (a22, (a23, (a24, (a25, (a27, (u47, (a28, (a29, (a30, (a31, (a32, (a33, (a34, (a35, (a36, (a37, (a38, (a39, (a40, (a41, (a42, a43))))))))))))))))))))))
  else
  (let u48 : Int := (IntKind.wrap .i64 (a27 + (1 : Int)))
  rec20 (a22, (a23, (a24, (a25, (a26, (u48, (a28, (a29, (a30, (a31, (a32, (a33, (a34, (a35, (a36, (a37, (a38, (a39, (a40, (a41, (a42, a43))))))))))))))))))))))))
  else none)
  else
  (Option.bind (rFull n (a38, (a39, (a40, (a41, a42))))) fun r49 =>
  (Option.bind (α := Out ((List (Int × ((Int × (Int × (List Int × Unit))) × ((Int × (Int × (Int × (Int × Unit)))) × (Int × Unit))))) × Int × Bool × Int × Int × Int × Int × Int × Int × (List ((Int × (Int × (List Int × Unit))) × Int)) × (List (Int × (Int × (List Int × Unit)))) × (List (Int × (Int × Unit))) × Int × Int × Int × (List Int) × Int × Int × Int × Int × Int × Int × Int × List ((Int × (Int × (List Int × Unit))) × ((Int × (Int × Unit)) × (Int × (Int × Unit))))) (Bool)) ((Option.bind (α := Out ((List (Int × ((Int × (Int × (List Int × Unit))) × ((Int × (Int × (Int × (Int × Unit)))) × (Int × Unit))))) × Int × Bool × Int × Int × Int × Bool × Int × Int × Int × (List ((Int × (Int × (List Int × Unit))) × Int)) × (List (Int × (Int × (List Int × Unit)))) × (List (Int × (Int × Unit))) × Int × Int × Int × (List Int) × Int × Int × Int × Int × Int × Int × Int × List ((Int × (Int × (List Int × Unit))) × ((Int × (Int × Unit)) × (Int × (Int × Unit))))) (Out ((List (Int × ((Int × (Int × (List Int × Unit))) × ((Int × (Int × (Int × (Int × Unit)))) × (Int × Unit))))) × Int × Bool × Int × Int × Int × Int × Int × Int × (List ((Int × (Int × (List Int × Unit))) × Int)) × (List (Int × (Int × (List Int × Unit)))) × (List (Int × (Int × Unit))) × Int × Int × Int × (List Int) × Int × Int × Int × Int × Int × Int × Int × List ((Int × (Int × (List Int × Unit))) × ((Int × (Int × Unit)) × (Int × (Int × Unit))))) (Bool))) ((if (decide (a26 ≥ (0 : Int))) = true then
  (some (Out.go (a22, (a23, (a24, (a25, (a26, (r49.2.2, ((r49.2.2 == (0 : Int)), (a28, (a29, (a30, (a31, (a32, (a33, (a34, (a35, (a36, (a37, (a38, (a39, (a40, (a41, (a42, (r49.1, (r49.2.1, a43))))))))))))))))))))))))))
  else
  (some (Out.go (a22, (a23, (a24, (a25, (a26, (r49.2.2, (false, (a28, (a29, (a30, (a31, (a32, (a33, (a34, (a35, (a36, (a37, (a38, (a39, (a40, (a41, (a42, (r49.1, (r49.2.1, a43)))))))))))))))))))))))))))) fun o => match o with
  | .go (z51, (z52, (z53, (z54, (z55, (z56, (z57, (z58, (z59, (z60, (z61, (z62, (z63, (z64, (z65, (z66, (z67, (z68, (z69, (z70, (z71, (z72, (z73, (z74, z75)))))))))))))))))))))))) =>
  (if z57 = true then
  (if 0 ≤ z55 ∧ z55 < (z63.length : Int) then
  (let u76 : Int := (z63.getD z55.toNat ((0 : Int), ((0 : Int), ()))).1
  let u77 : Int := (z63.getD z55.toNat ((0 : Int), ((0 : Int), ()))).2.1
  (some (Out.go (z51, (z52, (z53, (z54, (z55, (z56, (z58, (z59, (z60, (z61, (z62, (z63, (z64, (z65, (z66, (z67, (z68, (z69, (z70, (z71, (z72, (u76, (u77, z75))))))))))))))))))))))))))
  else none)
  else
  (some (Out.go (z51, (z52, (z53, (z54, (z55, (z56, (z58, (z59, (z60, (z61, (z62, (z63, (z64, (z65, (z66, (z67, (z68, (z69, (z70, (z71, (z72, (z73, (z74, z75))))))))))))))))))))))))))
  | .ret r78 => some r78)) fun o => match o with
  | .go (z80, (z81, (z82, (z83, (z84, (z85, (z86, (z87, (z88, (z89, (z90, (z91, (z92, (z93, (z94, (z95, (z96, (z97, (z98, (z99, (z100, (z101, (z102, z103))))))))))))))))))))))) =>
  (Option.bind (rTake n (z101, (z102, (z96, (z97, (z98, (z99, z100))))))) fun r104 =>
  (Option.bind (α := Out ((List (Int × ((Int × (Int × (List Int × Unit))) × ((Int × (Int × (Int × (Int × Unit)))) × (Int × Unit))))) × Int × Bool × Int × Int × Bool × Int × Int × Int × Int × (List ((Int × (Int × (List Int × Unit))) × Int)) × (List (Int × (Int × (List Int × Unit)))) × (List (Int × (Int × Unit))) × Int × Int × Int × (List Int) × Int × Int × Int × Int × Int × Int × Int × List ((Int × (Int × (List Int × Unit))) × ((Int × (Int × Unit)) × (Int × (Int × Unit))))) (Bool)) ((if (z85 != (0 : Int)) = true then
  (some (Out.go (z80, (z81, (z82, (z83, (z84, (false, (z85, (z86, (z87, (z88, (z89, (z90, (z91, (z92, (z93, (z94, (z95, (z96, (z97, (z98, (z99, (z100, (r104.1, (r104.2.1, z103))))))))))))))))))))))))))
  else
  (some (Out.go (z80, (z81, (z82, (z83, (z84, (r104.2.2.1, (r104.2.2.2, (z86, (z87, (z88, (z89, (z90, (z91, (z92, (z93, (z94, (z95, (z96, (z97, (z98, (z99, (z100, (r104.1, (r104.2.1, z103)))))))))))))))))))))))))))) fun o => match o with
  | .go (z106, (z107, (z108, (z109, (z110, (z111, (z112, (z113, (z114, (z115, (z116, (z117, (z118, (z119, (z120, (z121, (z122, (z123, (z124, (z125, (z126, (z127, (z128, (z129, z130)))))))))))))))))))))))) =>
  (if (!(z108 == z111)) = true then
  some false
  else
  (Option.bind (turnstilelaw22Num n z109) fun r131 =>
  (if (r131 != z112) = true then
  some false
  else
  (if (z112 != (0 : Int)) = true then
  (let u132 : Int := (IntKind.wrap .i64 (z107 + (1 : Int)))
  rec7 (z106, (u132, (z113, (z114, (z115, (z116, (z130, (z117, z118)))))))))
  else
  (if (decide (z110 < (0 : Int))) = true then
  (if (z117.length + 1) * 32 ≤ 140737488355328 then
  (let u133 : List (Int × (Int × (List Int × Unit))) := (z117 ++ ([(z120, (z121, (z122, ())))] : List (Int × (Int × (List Int × Unit)))))
  (if (z118.length + 1) * 16 ≤ 140737488355328 then
  (let u134 : List (Int × (Int × Unit)) := (z118 ++ ([(z128, (z129, ()))] : List (Int × (Int × Unit))))
  (let u135 : Int := (IntKind.wrap .i64 (z107 + (1 : Int)))
  rec7 (z106, (u135, (z113, (z114, (z115, (z116, (z130, (u133, u134))))))))))
  else none))
  else none)
  else
  (if 0 ≤ z110 ∧ z110 < (z118.length : Int) then
  (let u136 : List (Int × (Int × Unit)) := (z118.set z110.toNat (z128, (z129, ())))
  (let u137 : Int := (IntKind.wrap .i64 (z107 + (1 : Int)))
  rec7 (z106, (u137, (z113, (z114, (z115, (z116, (z130, (z117, u136))))))))))
  else none))))))
  | .ret r138 => some r138))
  | .ret r139 => some r139)))) n (a9, (a10, (r19.1, (r19.2.1, ((-1 : Int), ((0 : Int), (r19.2.2.1, (r19.2.2.2.1, (r19.2.2.2.2.1, (r19.2.2.2.2.2.1, (a16, (a17, (v18.1, (v18.2.1.1, (v18.2.1.2.1, (v18.2.1.2.2.1, (v18.2.2.1.1, (v18.2.2.1.2.1, (v18.2.2.1.2.2.1, (v18.2.2.1.2.2.2.1, (v18.2.2.2.1, r19.2.2.2.2.2.2))))))))))))))))))))))))
  else
  (Option.bind (tClone n (a11, (a12, (a13, (a14, a15))))) fun r140 =>
  (Option.bind (tLen n (r140.1, (r140.2.1, (r140.2.2.1, (r140.2.2.2.1, r140.2.2.2.2.1))))) fun r141 =>
  (Option.bind (tTake n ((-77 : Int), ((0 : Int), (([(97 : Int), (110 : Int), (111 : Int), (116 : Int), (104 : Int), (101 : Int), (114 : Int)] : List Int), ((0 : Int), ((1 : Int), ((1 : Int), ((1 : Int), ((0 : Int), (r140.2.2.2.2.2.1, (r140.2.2.2.2.2.2.1, (r140.2.2.2.2.2.2.2.1, (r140.2.2.2.2.2.2.2.2, r141.2.2.2.2.2))))))))))))) fun r142 =>
  (Option.bind (tDrop n ((0 : Int), (r142.2.2.1, (r142.2.2.2.1, (r142.2.2.2.2.1, (r142.2.2.2.2.2.1, r142.2.2.2.2.2.2)))))) fun r143 =>
  (Option.bind (tLen n (r141.2.1, (r141.2.2.1, (r141.2.2.2.1, (r141.2.2.2.2.1, r143.2.2.2.2.2))))) fun r144 =>
  (if (r144.1 == r141.1) = true then
  (if (r141.1 == (a16.length : Int)) = true then
  (Option.bind (works0 n ()) fun r145 =>
  some r145)
  else
  some false)
  else
  some false)))))))) n (x1, ((0 : Int), (b5.1, (b5.2.1, (b5.2.2.1, (b5.2.2.2.1, (b5.2.2.2.2, (([] : List (Int × (Int × (List Int × Unit)))), ([] : List (Int × (Int × Unit)))))))))))))))
def sp_tableApart (n : Nat) : Spec := ⟨pre_tableApart, post_tableApart, tableApart n⟩
def env_tableApart (n : Nat) : List (FuncId × Spec) := [(7, sp_tNew n), (9, sp_works0 n), (10, sp_tTake n), (10, sp_tTakeN n), (11, sp_rFull n), (12, sp_rTake n), (13, sp_turnstilelaw22Num n), (14, sp_tClone n), (14, sp_tCloneN n), (15, sp_tLen n), (15, sp_tLenN n), (16, sp_tDrop n), (16, sp_tDropN n)]
theorem run_tableApart (n : Nat) (x : pre_tableApart.T) : fnRun Try.prog 68 (envG (env_tableApart n) [] (fun _ => none)) n Try.f4 ann_tableApart pre_tableApart post_tableApart x = tableApart n x := by kernel_rfl
theorem ok_tableApart (n : Nat) : FnOK Try.prog 68 L0 4 (sp_tableApart n) :=
  fn_run mixed Try.func4 (sp_tableApart n) n ann_tableApart (env_tableApart n) (envOf_cons (ok_tNew n) (envOf_cons (ok_works0 n) (envOf_cons (ok_tTake n) (envOf_cons (ok_tTakeN n) (envOf_cons (ok_rFull n) (envOf_cons (ok_rTake n) (envOf_cons (ok_turnstilelaw22Num n) (envOf_cons (ok_tClone n) (envOf_cons (ok_tCloneN n) (envOf_cons (ok_tLen n) (envOf_cons (ok_tLenN n) (envOf_cons (ok_tDrop n) (envOf_cons (ok_tDropN n) envOf_nil))))))))))))) [] (fun _ => none) gl_none (run_tableApart n) (by kernel_rfl)
def pre_tableRuns : Shape := ⟨[.c (.dat (.int .i64)), .c (.dat (.list (.pair (.int .i64) (.pair (.pair (.int .i64) (.pair (.int .i64) (.pair .str .unit))) (.pair (.pair (.int .i64) (.pair (.int .i64) (.pair (.int .i64) (.pair (.int .i64) .unit)))) (.pair (.int .i64) .unit))))))], [(200, .pool 81 (.pair (.pair (.int .i64) (.pair (.int .i64) (.pair .str .unit))) (.pair (.pair (.int .i64) (.pair (.int .i64) .unit)) (.pair (.nd 200) (.pair (.nd 200) .unit)))))]⟩
def post_tableRuns : List Shape := [⟨[.c (.dat .bool)], []⟩]
def ann_tableRuns : Ann := (.two .no (.two .no (.two .no (.two .no (.two (.two .no (.one (.loop ⟨[0, 1, 5, 7, 9], ⟨[.c (.dat (.int .i64)), .c (.dat (.list (.pair (.int .i64) (.pair (.pair (.int .i64) (.pair (.int .i64) (.pair .str .unit))) (.pair (.pair (.int .i64) (.pair (.int .i64) (.pair (.int .i64) (.pair (.int .i64) .unit)))) (.pair (.int .i64) .unit)))))), .c (.ptr 500 0), .c (.ptr 502 0), .c (.dat (.int .i64))], [(500, .cells 72 [.dat (.int .i64), .own 501, .dat (.nd 200), .dat (.nd 200)]), (501, .mp (.pair (.int .i64) (.pair (.int .i64) (.pair .str .unit))) (.nd 200)), (502, .cells 55 [.dat (.int .i64), .dat (.list (.pair (.pair (.int .i64) (.pair (.int .i64) (.pair .str .unit))) (.pair (.pair (.int .i64) (.pair (.int .i64) .unit)) .unit)))]), (200, .pool 81 (.pair (.pair (.int .i64) (.pair (.int .i64) (.pair .str .unit))) (.pair (.pair (.int .i64) (.pair (.int .i64) .unit)) (.pair (.nd 200) (.pair (.nd 200) .unit)))))]⟩⟩ .no))) .no)))))
/-- what turnstile/turnstilelaw22.TableRuns comes to. -/
def tableRuns (n : Nat) (x : Int × (List (Int × ((Int × (Int × (List Int × Unit))) × ((Int × (Int × (Int × (Int × Unit)))) × (Int × Unit))))) × List ((Int × (Int × (List Int × Unit))) × ((Int × (Int × Unit)) × (Int × (Int × Unit))))) : Option (Bool) :=
  match x with
  | (x1, (x2, x3)) =>
  (Option.bind (tNew n (x1, x3)) fun r4 =>
  (match r4 with
  | Sum.inl a5 =>
  (Option.bind (rNew n x1) fun r7 =>
  (if (r7.2.2 != (0 : Int)) = true then
  (Option.bind (turnstilelaw22Num n (1 : Int)) fun r8 =>
  (if (r8 == r7.2.2) = true then
  (if (r7.2.2 != (0 : Int)) = true then
  (Option.bind (works0 n ()) fun r9 =>
  some r9)
  else
  some false)
  else
  some false))
  else
  (Option.bind (turnstilelaw22Num n (1 : Int)) fun r10 =>
  (if (r10 == r7.2.2) = true then
  (if (r7.2.2 != (0 : Int)) = true then
  (Option.bind (works0 n ()) fun r11 =>
  some r11)
  else
  some false)
  else
  some false))))
  | Sum.inr b6 =>
  (Option.bind (rNew n x1) fun r12 =>
  (if (r12.2.2 != (0 : Int)) = true then
  some false
  else
  (loopF (X := Int × (List (Int × ((Int × (Int × (List Int × Unit))) × ((Int × (Int × (Int × (Int × Unit)))) × (Int × Unit))))) × Int × Int × Int × Int × (List ((Int × (Int × (List Int × Unit))) × Int)) × Int × (List ((Int × (Int × (List Int × Unit))) × ((Int × (Int × Unit)) × Unit))) × List ((Int × (Int × (List Int × Unit))) × ((Int × (Int × Unit)) × (Int × (Int × Unit))))) (A := Bool) (fun rec13 y14 => match y14 with
  | (a15, (a16, (a17, (a18, (a19, (a20, (a21, (a22, (a23, a24))))))))) =>
  (if (decide (a17 < (a16.length : Int))) = true then
  (if (decide (a17 < (300 : Int))) = true then
  (Option.bind (idx a16 a17) fun v25 =>
  (Option.bind (doAct n (a22, (a23, (v25.1, (v25.2.1.1, (v25.2.1.2.1, (v25.2.1.2.2.1, (v25.2.2.1.1, (v25.2.2.1.2.1, (v25.2.2.1.2.2.1, (v25.2.2.1.2.2.2.1, (v25.2.2.2.1, (a18, (a19, (a20, (a21, a24)))))))))))))))) fun r26 =>
  (if (!r26.2.2.1) = true then
  some false
  else
  (Option.bind (same n (r26.1, (r26.2.1, (r26.2.2.2.1, (r26.2.2.2.2.1, (r26.2.2.2.2.2.1, (r26.2.2.2.2.2.2.1, r26.2.2.2.2.2.2.2))))))) fun r27 =>
  (if (!r27.1) = true then
  some false
  else
  (Option.bind (tLen n (r27.2.1, (r27.2.2.1, (r27.2.2.2.1, (r27.2.2.2.2.1, r27.2.2.2.2.2))))) fun r28 =>
  (if (decide (r28.1 > a15)) = true then
  some false
  else
  (let u29 : Int := (IntKind.wrap .i64 (a17 + (1 : Int)))
  rec13 (a15, (a16, (u29, (r28.2.1, (r28.2.2.1, (r28.2.2.2.1, (r28.2.2.2.2.1, (r26.1, (r26.2.1, r28.2.2.2.2.2)))))))))))))))))
  else
  (Option.bind (works0 n ()) fun r30 =>
  some r30))
  else
  (Option.bind (works0 n ()) fun r31 =>
  some r31))) n (x1, (x2, ((0 : Int), (b6.1, (b6.2.1, (b6.2.2.1, (b6.2.2.2.1, (r12.1, (r12.2.1, b6.2.2.2.2))))))))))))))
def sp_tableRuns (n : Nat) : Spec := ⟨pre_tableRuns, post_tableRuns, tableRuns n⟩
def env_tableRuns (n : Nat) : List (FuncId × Spec) := [(7, sp_tNew n), (17, sp_rNew n), (13, sp_turnstilelaw22Num n), (9, sp_works0 n), (18, sp_doAct n), (19, sp_same n), (15, sp_tLen n), (15, sp_tLenN n)]
theorem run_tableRuns (n : Nat) (x : pre_tableRuns.T) : fnRun Try.prog 68 (envG (env_tableRuns n) [] (fun _ => none)) n Try.f5 ann_tableRuns pre_tableRuns post_tableRuns x = tableRuns n x := by kernel_rfl
theorem ok_tableRuns (n : Nat) : FnOK Try.prog 68 L0 5 (sp_tableRuns n) :=
  fn_run mixed Try.func5 (sp_tableRuns n) n ann_tableRuns (env_tableRuns n) (envOf_cons (ok_tNew n) (envOf_cons (ok_rNew n) (envOf_cons (ok_turnstilelaw22Num n) (envOf_cons (ok_works0 n) (envOf_cons (ok_doAct n) (envOf_cons (ok_same n) (envOf_cons (ok_tLen n) (envOf_cons (ok_tLenN n) envOf_nil)))))))) [] (fun _ => none) gl_none (run_tableRuns n) (by kernel_rfl)
def pre_tableOf : Shape := ⟨[.a [.dat (.int .i64), .dat (.int .i64), .dat (.int .i64), .dat .str, .dat (.int .i64), .dat (.int .i64), .dat (.int .i64), .dat (.int .i64), .dat (.int .i64)], .c (.dat .str), .c (.dat .str)], []⟩
def post_tableOf : List Shape := [⟨[.c (.dat .bool)], []⟩]
def ann_tableOf : Ann := (.two .no (.two .no (.two .no (.two .no (.two .no (.two .no (.two .no (.two .no (.two (.join ⟨[7, 8, 9, 10, 11, 13, 15, 17, 18], ⟨[.c (.ptr 500 0), .c (.dat .bool), .c (.ptr 501 0), .c (.dat .bool), .c (.nilp), .c (.dat .err), .c (.dat .err), .c (.dat .err), .c (.dat (.int .i64))], [(500, .cells 35 [.dat (.int .i64), .dat (.int .i64), .dat .str]), (501, .cells 35 [.dat (.int .i64), .dat (.int .i64), .dat .str])]⟩⟩ .no) .no)))))))))
/-- what turnstile/turnstilelaw22.TableOf comes to. -/
def tableOf (n : Nat) (x : Int × Int × Int × (List Int) × Int × Int × Int × Int × Int × (List Int) × List Int) : Option (Bool) :=
  match x with
  | (x1, (x2, (x3, (x4, (x5, (x6, (x7, (x8, (x9, (x10, x11)))))))))) =>
  (Option.bind (of n (x2, (x5, (x6, (x7, (x8, (x10, x11))))))) fun r12 =>
  (Option.bind (rOf n (x2, (x5, (x6, (x7, (x8, (x10, x11))))))) fun r13 =>
  (Option.bind (tTakeN n (x2, (x3, (x4, (x5, (x6, (x7, (x8, x9)))))))) fun r14 =>
  (Option.bind (tLeftN n (x2, (x3, (x4, (x5, (x6, (x7, (x8, x9)))))))) fun r15 =>
  (Option.bind (tWaitN n (x2, (x3, (x4, (x5, (x6, (x7, (x8, x9)))))))) fun r16 =>
  (Option.bind (α := Out (Bool × Bool × Int × Int × Int × Int × Int × Int × (List Int) × Int × Int × List Int) (Bool)) ((Option.bind (rValid n (x5, (x6, (x7, x8)))) fun r17 =>
  (if (r17 != (0 : Int)) = true then
  (some (Out.go (r12.2.2.2, (r13.2.2.2, (r14.2, (r15.2, (r16.2, ((4 : Int), (r12.1, (r12.2.1, (r12.2.2.1, (r13.1, (r13.2.1, r13.2.2.1)))))))))))))
  else
  (some (Out.go (r12.2.2.2, (r13.2.2.2, (r14.2, (r15.2, (r16.2, ((1 : Int), (r12.1, (r12.2.1, (r12.2.2.1, (r13.1, (r13.2.1, r13.2.2.1)))))))))))))))) fun o => match o with
  | .go (z19, (z20, (z21, (z22, (z23, (z24, (z25, (z26, (z27, (z28, (z29, z30))))))))))) =>
  (if ((z25 == z28) && ((z26 == z29) && ((z27 == z30) && true))) = true then
  (if (z19 == z20) = true then
  (Option.bind (turnstilelaw22Num n z21) fun r31 =>
  (if (r31 == z24) = true then
  (Option.bind (turnstilelaw22Num n z22) fun r32 =>
  (if (r32 == z24) = true then
  (Option.bind (turnstilelaw22Num n z23) fun r33 =>
  (if (r33 == z24) = true then
  (Option.bind (tLenN n ()) fun r34 =>
  (if (r34 == (0 : Int)) = true then
  (Option.bind (tDropN n (0 : Int)) fun r35 =>
  (if (r35 == (0 : Int)) = true then
  (Option.bind (tWhoN n ()) fun r36 =>
  (if ((r36.length : Int) == (0 : Int)) = true then
  (Option.bind (tCloneN n ()) fun r37 =>
  (Option.bind (works0 n ()) fun r38 =>
  some r38))
  else
  some false))
  else
  some false))
  else
  some false))
  else
  some false))
  else
  some false))
  else
  some false))
  else
  some false)
  else
  some false)
  | .ret r39 => some r39))))))
def sp_tableOf (n : Nat) : Spec := ⟨pre_tableOf, post_tableOf, tableOf n⟩
def env_tableOf (n : Nat) : List (FuncId × Spec) := [(20, sp_of n), (21, sp_rOf n), (10, sp_tTake n), (10, sp_tTakeN n), (22, sp_tLeft n), (22, sp_tLeftN n), (23, sp_tWait n), (23, sp_tWaitN n), (8, sp_rValid n), (13, sp_turnstilelaw22Num n), (15, sp_tLen n), (15, sp_tLenN n), (16, sp_tDrop n), (16, sp_tDropN n), (24, sp_tWho n), (24, sp_tWhoN n), (14, sp_tClone n), (14, sp_tCloneN n), (9, sp_works0 n)]
theorem run_tableOf (n : Nat) (x : pre_tableOf.T) : fnRun Try.prog 68 (envG (env_tableOf n) [] (fun _ => none)) n Try.f6 ann_tableOf pre_tableOf post_tableOf x = tableOf n x := by kernel_rfl
theorem ok_tableOf (n : Nat) : FnOK Try.prog 68 L0 6 (sp_tableOf n) :=
  fn_run mixed Try.func6 (sp_tableOf n) n ann_tableOf (env_tableOf n) (envOf_cons (ok_of n) (envOf_cons (ok_rOf n) (envOf_cons (ok_tTake n) (envOf_cons (ok_tTakeN n) (envOf_cons (ok_tLeft n) (envOf_cons (ok_tLeftN n) (envOf_cons (ok_tWait n) (envOf_cons (ok_tWaitN n) (envOf_cons (ok_rValid n) (envOf_cons (ok_turnstilelaw22Num n) (envOf_cons (ok_tLen n) (envOf_cons (ok_tLenN n) (envOf_cons (ok_tDrop n) (envOf_cons (ok_tDropN n) (envOf_cons (ok_tWho n) (envOf_cons (ok_tWhoN n) (envOf_cons (ok_tClone n) (envOf_cons (ok_tCloneN n) (envOf_cons (ok_works0 n) envOf_nil))))))))))))))))))) [] (fun _ => none) gl_none (run_tableOf n) (by kernel_rfl)
end Go.Sx.Ytppiiahjnglcnaa
