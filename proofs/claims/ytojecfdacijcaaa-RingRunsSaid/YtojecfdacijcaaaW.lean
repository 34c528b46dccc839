/- Part of a proof by a small interpreter on plain values; no condition. -/
import Derived.Test.YtojecfdacijcaaaC
import Derived.Test.YtojecfdacijcaaaProg
/-! written by program: the functions as plain ones, and their contracts. -/
namespace Go.Sx.Ytojecfdacijcaaa
open Go Go.Sx Go.Proofs
set_option autoImplicit false
set_option maxRecDepth 100000
set_option linter.unusedVariables false
theorem mixed : Try.prog.follows .mixedOrders = true := by kernel_rfl
def pre_rnew : Shape := ⟨[.c (.dat (.int .i64))], []⟩
def post_rnew : List Shape := [⟨[.c (.nilp), .c (.errc (1))], []⟩, ⟨[.c (.ptr 0 0), .c (.errc (0))], [(0, .cells 56 [.own 1, .dat (.int .i64), .dat (.int .i64)]), (1, .row 5 (.int .u8))]⟩]
def ann_rnew : Ann := .no
/-- what turnstile/ring.New comes to. -/
def rnew (n : Nat) (x : Int) : Option (Unit ⊕ (Int × Int × List Int)) :=
  (if (decide (x < (1 : Int))) = true then
  some (Sum.inl ())
  else
  (if (decide (x > (1048576 : Int))) = true then
  some (Sum.inl ())
  else
  (if 0 ≤ x ∧ x ≤ x ∧ (1 : Int) * x ≤ 140737488355328 then
  some (Sum.inr ((0 : Int), ((0 : Int), (List.replicate x.toNat (0 : Int)))))
  else none)))
def sp_rnew (n : Nat) : Spec := ⟨pre_rnew, post_rnew, rnew n⟩
def env_rnew (n : Nat) : List (FuncId × Spec) := []
theorem run_rnew (n : Nat) (x : pre_rnew.T) : fnRun Try.prog 54 (envOf (env_rnew n)) n Try.f7 ann_rnew pre_rnew post_rnew x = rnew n x := by kernel_rfl
theorem ok_rnew (n : Nat) : FnOK Try.prog 54 L0 7 (sp_rnew n) :=
  fn_run mixed Try.func7 (sp_rnew n) n ann_rnew (env_rnew n) envOf_nil (run_rnew n) (by kernel_rfl)
def pre_len : Shape := ⟨[.c (.ref (.pair (.list (.int .u8)) (.pair (.int .i64) (.pair (.int .i64) .unit))))], []⟩
def post_len : List Shape := [⟨[.c (.dat (.int .i64))], []⟩]
def ann_len : Ann := .no
/-- what (turnstile/ring.Ring).Len comes to. -/
def len (n : Nat) (x : (List Int × (Int × (Int × Unit)))) : Option (Int) :=
  some x.2.2.1
def sp_len (n : Nat) : Spec := ⟨pre_len, post_len, len n⟩
def env_len (n : Nat) : List (FuncId × Spec) := []
theorem run_len (n : Nat) (x : pre_len.T) : fnRun Try.prog 54 (envOf (env_len n)) n Try.f9 ann_len pre_len post_len x = len n x := by kernel_rfl
theorem ok_len (n : Nat) : FnOK Try.prog 54 L0 9 (sp_len n) :=
  fn_run mixed Try.func9 (sp_len n) n ann_len (env_len n) envOf_nil (run_len n) (by kernel_rfl)
def pre_len0 : Shape := ⟨[.c (.nilp)], []⟩
def post_len0 : List Shape := [⟨[.c (.dat (.int .i64))], []⟩]
def ann_len0 : Ann := .no
/-- what (turnstile/ring.Ring).Len comes to. -/
def len0 (n : Nat) (x : Unit) : Option (Int) :=
  some (0 : Int)
def sp_len0 (n : Nat) : Spec := ⟨pre_len0, post_len0, len0 n⟩
def env_len0 (n : Nat) : List (FuncId × Spec) := []
theorem run_len0 (n : Nat) (x : pre_len0.T) : fnRun Try.prog 54 (envOf (env_len0 n)) n Try.f9 ann_len0 pre_len0 post_len0 x = len0 n x := by kernel_rfl
theorem ok_len0 (n : Nat) : FnOK Try.prog 54 L0 9 (sp_len0 n) :=
  fn_run mixed Try.func9 (sp_len0 n) n ann_len0 (env_len0 n) envOf_nil (run_len0 n) (by kernel_rfl)
def pre_turnstilelaw02Num : Shape := ⟨[.c (.dat .err)], []⟩
def post_turnstilelaw02Num : List Shape := [⟨[.c (.dat (.int .i64))], []⟩]
def ann_turnstilelaw02Num : Ann := .no
/-- what turnstile/turnstilelaw02.num comes to. -/
def turnstilelaw02Num (n : Nat) (x : Int) : Option (Int) :=
  (if (x == (0 : Int)) = true then
  some (0 : Int)
  else
  (if (!(x != 0)) = true then
  some (-1 : Int)
  else
  some x))
def sp_turnstilelaw02Num (n : Nat) : Spec := ⟨pre_turnstilelaw02Num, post_turnstilelaw02Num, turnstilelaw02Num n⟩
def env_turnstilelaw02Num (n : Nat) : List (FuncId × Spec) := []
theorem run_turnstilelaw02Num (n : Nat) (x : pre_turnstilelaw02Num.T) : fnRun Try.prog 54 (envOf (env_turnstilelaw02Num n)) n Try.f11 ann_turnstilelaw02Num pre_turnstilelaw02Num post_turnstilelaw02Num x = turnstilelaw02Num n x := by kernel_rfl
theorem ok_turnstilelaw02Num (n : Nat) : FnOK Try.prog 54 L0 11 (sp_turnstilelaw02Num n) :=
  fn_run mixed Try.func11 (sp_turnstilelaw02Num n) n ann_turnstilelaw02Num (env_turnstilelaw02Num n) envOf_nil (run_turnstilelaw02Num n) (by kernel_rfl)
def pre_rNew : Shape := ⟨[.c (.dat (.int .i64))], []⟩
def post_rNew : List Shape := [⟨[.a [.dat (.int .i64), .dat (.list (.int .u8))], .c (.dat (.int .i64))], []⟩]
def ann_rNew : Ann := .no
/-- what turnstile/turnstileref02.New comes to. -/
def rNew (n : Nat) (x : Int) : Option (Int × (List Int) × Int) :=
  (if (decide (x < (1 : Int))) = true then
  some ((0 : Int), (([] : List Int), (1 : Int)))
  else
  (if (decide (x > (1048576 : Int))) = true then
  some ((0 : Int), (([] : List Int), (1 : Int)))
  else
  some (x, (([] : List Int), (0 : Int)))))
def sp_rNew (n : Nat) : Spec := ⟨pre_rNew, post_rNew, rNew n⟩
def env_rNew (n : Nat) : List (FuncId × Spec) := []
theorem run_rNew (n : Nat) (x : pre_rNew.T) : fnRun Try.prog 54 (envOf (env_rNew n)) n Try.f13 ann_rNew pre_rNew post_rNew x = rNew n x := by kernel_rfl
theorem ok_rNew (n : Nat) : FnOK Try.prog 54 L0 13 (sp_rNew n) :=
  fn_run mixed Try.func13 (sp_rNew n) n ann_rNew (env_rNew n) envOf_nil (run_rNew n) (by kernel_rfl)
def pre_peek : Shape := ⟨[.c (.ref (.pair (.list (.int .u8)) (.pair (.int .i64) (.pair (.int .i64) .unit)))), .c (.dat (.int .i64))], []⟩
def post_peek : List Shape := [⟨[.c (.own 2)], [(2, .row 5 (.int .u8))]⟩]
def ann_peek : Ann := .no
/-- what (turnstile/ring.Ring).Peek comes to. -/
def peek (n : Nat) (x : (List Int × (Int × (Int × Unit))) × Int) : Option (List Int) :=
  match x with
  | (x1, x2) =>
  (Option.bind (len n x1) fun r3 =>
  (let u4 : Int := (if (0 : Int) > (if r3 < x2 then r3 else x2) then (0 : Int) else (if r3 < x2 then r3 else x2))
  (if 0 ≤ u4 ∧ u4 ≤ u4 ∧ (1 : Int) * u4 ≤ 140737488355328 then
  (if (decide (u4 > (0 : Int))) = true then
  (if 0 ≤ x1.2.1 ∧ x1.2.1 ≤ (x1.1.length : Int) ∧ (x1.1.length : Int) ≤ (x1.1.length : Int) then
  (let u5 : List Int := ((x1.1.drop x1.2.1.toNat).take (((x1.1.length : Int)).toNat - x1.2.1.toNat))
  (let u6 : Int := ((min (List.replicate u4.toNat (0 : Int)).length u5.length : Nat) : Int)
  let u7 : List Int := (u5.take (List.replicate u4.toNat (0 : Int)).length ++ (List.replicate u4.toNat (0 : Int)).drop u5.length)
  (if 0 ≤ u6 ∧ u6 ≤ (u7.length : Int) ∧ (u7.length : Int) ≤ (u7.length : Int) then
  (let u8 : Int := ((min (((u7.length : Int)).toNat - u6.toNat) x1.1.length : Nat) : Int)
  let u9 : List Int := (u7.take u6.toNat ++ x1.1.take (((u7.length : Int)).toNat - u6.toNat) ++ u7.drop (u6.toNat + min (((u7.length : Int)).toNat - u6.toNat) x1.1.length))
  some u9)
  else none)))
  else none)
  else
  some (List.replicate u4.toNat (0 : Int)))
  else none)))
def sp_peek (n : Nat) : Spec := ⟨pre_peek, post_peek, peek n⟩
def env_peek (n : Nat) : List (FuncId × Spec) := [(9, sp_len n), (9, sp_len0 n)]
theorem run_peek (n : Nat) (x : pre_peek.T) : fnRun Try.prog 54 (envOf (env_peek n)) n Try.f17 ann_peek pre_peek post_peek x = peek n x := by kernel_rfl
theorem ok_peek (n : Nat) : FnOK Try.prog 54 L0 17 (sp_peek n) :=
  fn_run mixed Try.func17 (sp_peek n) n ann_peek (env_peek n) (envOf_cons (ok_len n) (envOf_cons (ok_len0 n) envOf_nil)) (run_peek n) (by kernel_rfl)
def pre_peek0 : Shape := ⟨[.c (.nilp), .c (.dat (.int .i64))], []⟩
def post_peek0 : List Shape := [⟨[.c (.own 2)], [(2, .row 5 (.int .u8))]⟩]
def ann_peek0 : Ann := .no
/-- what (turnstile/ring.Ring).Peek comes to. -/
def peek0 (n : Nat) (x : Int) : Option (List Int) :=
  (Option.bind (len0 n ()) fun r2 =>
  (let u3 : Int := (if (0 : Int) > (if r2 < x then r2 else x) then (0 : Int) else (if r2 < x then r2 else x))
  (if 0 ≤ u3 ∧ u3 ≤ u3 ∧ (1 : Int) * u3 ≤ 140737488355328 then
  (if (decide (u3 > (0 : Int))) = true then
  none
  else
  some (List.replicate u3.toNat (0 : Int)))
  else none)))
def sp_peek0 (n : Nat) : Spec := ⟨pre_peek0, post_peek0, peek0 n⟩
def env_peek0 (n : Nat) : List (FuncId × Spec) := [(9, sp_len n), (9, sp_len0 n)]
theorem run_peek0 (n : Nat) (x : pre_peek0.T) : fnRun Try.prog 54 (envOf (env_peek0 n)) n Try.f17 ann_peek0 pre_peek0 post_peek0 x = peek0 n x := by kernel_rfl
theorem ok_peek0 (n : Nat) : FnOK Try.prog 54 L0 17 (sp_peek0 n) :=
  fn_run mixed Try.func17 (sp_peek0 n) n ann_peek0 (env_peek0 n) (envOf_cons (ok_len n) (envOf_cons (ok_len0 n) envOf_nil)) (run_peek0 n) (by kernel_rfl)
def pre_index : Shape := ⟨[.c (.ref (.pair (.list (.int .u8)) (.pair (.int .i64) (.pair (.int .i64) .unit)))), .c (.dat (.int .u8)), .c (.dat (.int .i64))], []⟩
def post_index : List Shape := [⟨[.c (.dat (.int .i64))], []⟩]
def ann_index : Ann := .no
/-- what (turnstile/ring.Ring).Index comes to. -/
def index (n : Nat) (x : (List Int × (Int × (Int × Unit))) × Int × Int) : Option (Int) :=
  match x with
  | (x1, (x2, x3)) =>
  (let u4 : Int := (if (0 : Int) > x3 then (0 : Int) else x3)
  (Option.bind (len n x1) fun r5 =>
  (if (decide (u4 ≥ r5)) = true then
  some (-1 : Int)
  else
  (Option.bind (len n x1) fun r6 =>
  (Option.bind (peek n (x1, r6)) fun r7 =>
  (if 0 ≤ u4 ∧ u4 ≤ (r7.length : Int) ∧ (r7.length : Int) ≤ (r7.length : Int) then
  (Option.bind (bytesIndexByte n (((r7.drop u4.toNat).take (((r7.length : Int)).toNat - u4.toNat)), x2)) fun r8 =>
  (if (decide (r8 < (0 : Int))) = true then
  some (-1 : Int)
  else
  some (IntKind.wrap .i64 (u4 + r8))))
  else none))))))
def sp_index (n : Nat) : Spec := ⟨pre_index, post_index, index n⟩
def env_index (n : Nat) : List (FuncId × Spec) := [(9, sp_len n), (9, sp_len0 n), (17, sp_peek n), (17, sp_peek0 n), (31, sp_bytesIndexByte n)]
theorem run_index (n : Nat) (x : pre_index.T) : fnRun Try.prog 54 (envOf (env_index n)) n Try.f20 ann_index pre_index post_index x = index n x := by kernel_rfl
theorem ok_index (n : Nat) : FnOK Try.prog 54 L0 20 (sp_index n) :=
  fn_run mixed Try.func20 (sp_index n) n ann_index (env_index n) (envOf_cons (ok_len n) (envOf_cons (ok_len0 n) (envOf_cons (ok_peek n) (envOf_cons (ok_peek0 n) (envOf_cons (ok_bytesIndexByte n) envOf_nil))))) (run_index n) (by kernel_rfl)
def pre_index0 : Shape := ⟨[.c (.nilp), .c (.dat (.int .u8)), .c (.dat (.int .i64))], []⟩
def post_index0 : List Shape := [⟨[.c (.dat (.int .i64))], []⟩]
def ann_index0 : Ann := .no
/-- what (turnstile/ring.Ring).Index comes to. -/
def index0 (n : Nat) (x : Int × Int) : Option (Int) :=
  match x with
  | (x1, x2) =>
  (let u3 : Int := (if (0 : Int) > x2 then (0 : Int) else x2)
  (Option.bind (len0 n ()) fun r4 =>
  (if (decide (u3 ≥ r4)) = true then
  some (-1 : Int)
  else
  (Option.bind (len0 n ()) fun r5 =>
  (Option.bind (peek0 n r5) fun r6 =>
  (if 0 ≤ u3 ∧ u3 ≤ (r6.length : Int) ∧ (r6.length : Int) ≤ (r6.length : Int) then
  (Option.bind (bytesIndexByte n (((r6.drop u3.toNat).take (((r6.length : Int)).toNat - u3.toNat)), x1)) fun r7 =>
  (if (decide (r7 < (0 : Int))) = true then
  some (-1 : Int)
  else
  some (IntKind.wrap .i64 (u3 + r7))))
  else none))))))
def sp_index0 (n : Nat) : Spec := ⟨pre_index0, post_index0, index0 n⟩
def env_index0 (n : Nat) : List (FuncId × Spec) := [(9, sp_len n), (9, sp_len0 n), (17, sp_peek n), (17, sp_peek0 n), (31, sp_bytesIndexByte n)]
theorem run_index0 (n : Nat) (x : pre_index0.T) : fnRun Try.prog 54 (envOf (env_index0 n)) n Try.f20 ann_index0 pre_index0 post_index0 x = index0 n x := by kernel_rfl
theorem ok_index0 (n : Nat) : FnOK Try.prog 54 L0 20 (sp_index0 n) :=
  fn_run mixed Try.func20 (sp_index0 n) n ann_index0 (env_index0 n) (envOf_cons (ok_len n) (envOf_cons (ok_len0 n) (envOf_cons (ok_peek n) (envOf_cons (ok_peek0 n) (envOf_cons (ok_bytesIndexByte n) envOf_nil))))) (run_index0 n) (by kernel_rfl)
def pre_place : Shape := ⟨[.c (.ref (.pair (.list (.int .u8)) (.pair (.int .i64) (.pair (.int .i64) .unit)))), .c (.dat (.int .i64))], []⟩
def post_place : List Shape := [⟨[.c (.dat (.int .i64))], []⟩]
def ann_place : Ann := .no
/-- what (turnstile/ring.Ring).place comes to. -/
def place (n : Nat) (x : (List Int × (Int × (Int × Unit))) × Int) : Option (Int) :=
  match x with
  | (x1, x2) =>
  (if (x1.1.length : Int) = 0 then none else
  (let u3 : Int := (Int.tmod (IntKind.wrap .i64 (x1.2.1 + x2)) (x1.1.length : Int))
  some u3))
def sp_place (n : Nat) : Spec := ⟨pre_place, post_place, place n⟩
def env_place (n : Nat) : List (FuncId × Spec) := []
theorem run_place (n : Nat) (x : pre_place.T) : fnRun Try.prog 54 (envOf (env_place n)) n Try.f22 ann_place pre_place post_place x = place n x := by kernel_rfl
theorem ok_place (n : Nat) : FnOK Try.prog 54 L0 22 (sp_place n) :=
  fn_run mixed Try.func22 (sp_place n) n ann_place (env_place n) envOf_nil (run_place n) (by kernel_rfl)
def pre_rWrite : Shape := ⟨[.a [.dat (.int .i64), .dat (.list (.int .u8))], .c (.dat (.list (.int .u8)))], []⟩
def post_rWrite : List Shape := [⟨[.a [.dat (.int .i64), .dat (.list (.int .u8))], .c (.dat (.int .i64))], []⟩]
def ann_rWrite : Ann := .no
/-- what turnstile/turnstileref02.Write comes to. -/
def rWrite (n : Nat) (x : Int × (List Int) × List Int) : Option (Int × (List Int) × Int) :=
  match x with
  | (x1, (x2, x3)) =>
  (let u4 : Int := (IntKind.wrap .i64 (x1 - (x2.length : Int)))
  (let u5 : Int := (if u4 < (x3.length : Int) then u4 else (x3.length : Int))
  (if x2.length * 1 ≤ 140737488355328 then
  (if 0 ≤ (0 : Int) ∧ (0 : Int) ≤ u5 ∧ u5 ≤ (x3.length : Int) then
  (if (x2.length + ((x3.drop 0).take (u5.toNat - 0)).length) * 1 ≤ 140737488355328 then
  (let u6 : List Int := (x2 ++ ((x3.drop 0).take (u5.toNat - 0)))
  some (x1, (u6, u5)))
  else none)
  else none)
  else none)))
def sp_rWrite (n : Nat) : Spec := ⟨pre_rWrite, post_rWrite, rWrite n⟩
def env_rWrite (n : Nat) : List (FuncId × Spec) := []
theorem run_rWrite (n : Nat) (x : pre_rWrite.T) : fnRun Try.prog 54 (envOf (env_rWrite n)) n Try.f23 ann_rWrite pre_rWrite post_rWrite x = rWrite n x := by kernel_rfl
theorem ok_rWrite (n : Nat) : FnOK Try.prog 54 L0 23 (sp_rWrite n) :=
  fn_run mixed Try.func23 (sp_rWrite n) n ann_rWrite (env_rWrite n) envOf_nil (run_rWrite n) (by kernel_rfl)
def pre_rRead : Shape := ⟨[.a [.dat (.int .i64), .dat (.list (.int .u8))], .c (.dat (.int .i64))], []⟩
def post_rRead : List Shape := [⟨[.a [.dat (.int .i64), .dat (.list (.int .u8))], .c (.dat (.list (.int .u8)))], []⟩]
def ann_rRead : Ann := .no
/-- what turnstile/turnstileref02.Read comes to. -/
def rRead (n : Nat) (x : Int × (List Int) × Int) : Option (Int × (List Int) × List Int) :=
  match x with
  | (x1, (x2, x3)) =>
  (let u4 : Int := (if (x2.length : Int) < x3 then (x2.length : Int) else x3)
  (let u5 : Int := (if u4 > (0 : Int) then u4 else (0 : Int))
  (if 0 ≤ (0 : Int) ∧ (0 : Int) ≤ u5 ∧ u5 ≤ (x2.length : Int) then
  (if ((x2.drop 0).take (u5.toNat - 0)).length * 1 ≤ 140737488355328 then
  (if 0 ≤ u5 ∧ u5 ≤ (x2.length : Int) ∧ (x2.length : Int) ≤ (x2.length : Int) then
  (let u6 : List Int := ((x2.drop u5.toNat).take (((x2.length : Int)).toNat - u5.toNat))
  some (x1, (u6, ((x2.drop 0).take (u5.toNat - 0)))))
  else none)
  else none)
  else none)))
def sp_rRead (n : Nat) : Spec := ⟨pre_rRead, post_rRead, rRead n⟩
def env_rRead (n : Nat) : List (FuncId × Spec) := []
theorem run_rRead (n : Nat) (x : pre_rRead.T) : fnRun Try.prog 54 (envOf (env_rRead n)) n Try.f24 ann_rRead pre_rRead post_rRead x = rRead n x := by kernel_rfl
theorem ok_rRead (n : Nat) : FnOK Try.prog 54 L0 24 (sp_rRead n) :=
  fn_run mixed Try.func24 (sp_rRead n) n ann_rRead (env_rRead n) envOf_nil (run_rRead n) (by kernel_rfl)
def pre_rLine : Shape := ⟨[.a [.dat (.int .i64), .dat (.list (.int .u8))], .c (.dat (.int .i64))], []⟩
def post_rLine : List Shape := [⟨[.a [.dat (.int .i64), .dat (.list (.int .u8))], .c (.dat (.list (.int .u8))), .c (.dat (.int .i64))], []⟩]
def ann_rLine : Ann := (.two .no (.two .no (.two (.two .no (.one (.loop ⟨[1, 2, 4, 7], ⟨[.c (.dat (.int .i64)), .c (.ptr 500 0), .c (.ptr 501 0), .c (.dat (.int .i64))], [(500, .cells 39 [.dat (.int .i64), .dat (.list (.int .u8))]), (501, .cells 39 [.dat (.int .i64), .own 502]), (502, .row 5 (.int .u8))]⟩⟩ (.two .no (.two (.one (.two .no (.two .no (.one (.two .no (.two .no (.two .no (.two .no (.two (.join ⟨[1, 2, 4, 7, 8, 42], ⟨[.c (.dat (.int .i64)), .c (.ptr 500 0), .c (.ptr 501 0), .c (.dat (.int .i64)), .c (.dat (.int .u8)), .c (.dat .bool)], [(500, .cells 39 [.dat (.int .i64), .dat (.list (.int .u8))]), (501, .cells 39 [.dat (.int .i64), .own 502]), (502, .row 5 (.int .u8))]⟩⟩ .no) .no))))))))) .no))))) .no)))
/-- what turnstile/turnstileref02.Line comes to. -/
def rLine (n : Nat) (x : Int × (List Int) × Int) : Option (Int × (List Int) × (List Int) × Int) :=
  match x with
  | (x1, (x2, x3)) =>
  (if (decide (x3 < (0 : Int))) = true then
  some (x1, (x2, (([] : List Int), (1 : Int))))
  else
  (loopF (X := Int × Int × Int × (List Int) × Int × List Int) (A := Int × (List Int) × (List Int) × Int) (fun rec4 y5 => match y5 with
  | (a6, (a7, (a8, (a9, (a10, a11))))) =>
  (if (decide (a7 < (a9.length : Int))) = true then
  (Option.bind (idx a9 a7) fun v12 =>
  (let u13 : Int := (IntKind.wrap .i64 ((a9.length : Int) - (1 : Int)))
  (if (decide (a7 > a6)) = true then
  some (a8, (a9, (([] : List Int), (2 : Int))))
  else
  (if (v12 == (10 : Int)) = true then
  some (a8, (a9, (([] : List Int), (3 : Int))))
  else
  (Option.bind (α := Out (Int × Int × Int × Bool × Int × (List Int) × Int × List Int) (Int × (List Int) × (List Int) × Int)) ((if (v12 == (13 : Int)) = true then
  (some (Out.go (a6, (a7, (v12, ((a7 == u13), (a8, (a9, (a10, a11)))))))))
  else
  (some (Out.go (a6, (a7, (v12, (false, (a8, (a9, (a10, a11))))))))))) fun o => match o with
  | .go (z15, (z16, (z17, (z18, (z19, (z20, (z21, z22))))))) =>
  (if z18 = true then
  some (z19, (z20, (([] : List Int), (8 : Int))))
  else
  (if (z17 == (13 : Int)) = true then
  (let u23 : Int := (IntKind.wrap .i64 (z16 + (1 : Int)))
  (Option.bind (idx z20 u23) fun v24 =>
  (if (v24 != (10 : Int)) = true then
  some (z19, (z20, (([] : List Int), (3 : Int))))
  else
  (if (z17 == (13 : Int)) = true then
  (Option.bind (rRead n (z19, (z20, z16))) fun r25 =>
  (Option.bind (rRead n (r25.1, (r25.2.1, (2 : Int)))) fun r26 =>
  some (r26.1, (r26.2.1, (r25.2.2, (0 : Int))))))
  else
  (let u27 : Int := (IntKind.wrap .i64 (z16 + (1 : Int)))
  rec4 (z15, (u27, (z19, (z20, (z21, z22))))))))))
  else
  (if (z17 == (13 : Int)) = true then
  (Option.bind (rRead n (z19, (z20, z16))) fun r28 =>
  (Option.bind (rRead n (r28.1, (r28.2.1, (2 : Int)))) fun r29 =>
  some (r29.1, (r29.2.1, (r28.2.2, (0 : Int))))))
  else
  (let u30 : Int := (IntKind.wrap .i64 (z16 + (1 : Int)))
  rec4 (z15, (u30, (z19, (z20, (z21, z22)))))))))
  | .ret r31 => some r31)))))
  else
  (if (decide ((a9.length : Int) > a6)) = true then
  some (a8, (a9, (([] : List Int), (2 : Int))))
  else
  some (a8, (a9, (([] : List Int), (8 : Int))))))) n (x3, ((0 : Int), (x1, (x2, ((0 : Int), ([] : List Int))))))))
def sp_rLine (n : Nat) : Spec := ⟨pre_rLine, post_rLine, rLine n⟩
def env_rLine (n : Nat) : List (FuncId × Spec) := [(24, sp_rRead n)]
theorem run_rLine (n : Nat) (x : pre_rLine.T) : fnRun Try.prog 54 (envOf (env_rLine n)) n Try.f25 ann_rLine pre_rLine post_rLine x = rLine n x := by kernel_rfl
theorem ok_rLine (n : Nat) : FnOK Try.prog 54 L0 25 (sp_rLine n) :=
  fn_run mixed Try.func25 (sp_rLine n) n ann_rLine (env_rLine n) (envOf_cons (ok_rRead n) envOf_nil) (run_rLine n) (by kernel_rfl)
def pre_rAt : Shape := ⟨[.a [.dat (.int .i64), .dat (.list (.int .u8))], .c (.dat (.int .i64))], []⟩
def post_rAt : List Shape := [⟨[.c (.dat (.int .u8)), .c (.dat .bool)], []⟩]
def ann_rAt : Ann := .no
/-- what turnstile/turnstileref02.At comes to. -/
def rAt (n : Nat) (x : Int × (List Int) × Int) : Option (Int × Bool) :=
  match x with
  | (x1, (x2, x3)) =>
  (if (decide (x3 < (0 : Int))) = true then
  some ((0 : Int), false)
  else
  (if (decide (x3 ≥ (x2.length : Int))) = true then
  some ((0 : Int), false)
  else
  (Option.bind (idx x2 x3) fun v4 =>
  some (v4, true))))
def sp_rAt (n : Nat) : Spec := ⟨pre_rAt, post_rAt, rAt n⟩
def env_rAt (n : Nat) : List (FuncId × Spec) := []
theorem run_rAt (n : Nat) (x : pre_rAt.T) : fnRun Try.prog 54 (envOf (env_rAt n)) n Try.f27 ann_rAt pre_rAt post_rAt x = rAt n x := by kernel_rfl
theorem ok_rAt (n : Nat) : FnOK Try.prog 54 L0 27 (sp_rAt n) :=
  fn_run mixed Try.func27 (sp_rAt n) n ann_rAt (env_rAt n) envOf_nil (run_rAt n) (by kernel_rfl)
def pre_size : Shape := ⟨[.c (.ref (.pair (.list (.int .u8)) (.pair (.int .i64) (.pair (.int .i64) .unit))))], []⟩
def post_size : List Shape := [⟨[.c (.dat (.int .i64))], []⟩]
def ann_size : Ann := .no
/-- what (turnstile/ring.Ring).Size comes to. -/
def size (n : Nat) (x : (List Int × (Int × (Int × Unit)))) : Option (Int) :=
  some (x.1.length : Int)
def sp_size (n : Nat) : Spec := ⟨pre_size, post_size, size n⟩
def env_size (n : Nat) : List (FuncId × Spec) := []
theorem run_size (n : Nat) (x : pre_size.T) : fnRun Try.prog 54 (envOf (env_size n)) n Try.f28 ann_size pre_size post_size x = size n x := by kernel_rfl
theorem ok_size (n : Nat) : FnOK Try.prog 54 L0 28 (sp_size n) :=
  fn_run mixed Try.func28 (sp_size n) n ann_size (env_size n) envOf_nil (run_size n) (by kernel_rfl)
def pre_size0 : Shape := ⟨[.c (.nilp)], []⟩
def post_size0 : List Shape := [⟨[.c (.dat (.int .i64))], []⟩]
def ann_size0 : Ann := .no
/-- what (turnstile/ring.Ring).Size comes to. -/
def size0 (n : Nat) (x : Unit) : Option (Int) :=
  some (0 : Int)
def sp_size0 (n : Nat) : Spec := ⟨pre_size0, post_size0, size0 n⟩
def env_size0 (n : Nat) : List (FuncId × Spec) := []
theorem run_size0 (n : Nat) (x : pre_size0.T) : fnRun Try.prog 54 (envOf (env_size0 n)) n Try.f28 ann_size0 pre_size0 post_size0 x = size0 n x := by kernel_rfl
theorem ok_size0 (n : Nat) : FnOK Try.prog 54 L0 28 (sp_size0 n) :=
  fn_run mixed Try.func28 (sp_size0 n) n ann_size0 (env_size0 n) envOf_nil (run_size0 n) (by kernel_rfl)
def pre_rIndex : Shape := ⟨[.a [.dat (.int .i64), .dat (.list (.int .u8))], .c (.dat (.int .u8)), .c (.dat (.int .i64))], []⟩
def post_rIndex : List Shape := [⟨[.c (.dat (.int .i64))], []⟩]
def ann_rIndex : Ann := (.two .no (.two (.two .no (.one (.loop ⟨[1, 3, 7], ⟨[.c (.dat (.int .u8)), .c (.ptr 500 0), .c (.dat (.int .i64))], [(500, .cells 39 [.dat (.int .i64), .dat (.list (.int .u8))])]⟩⟩ .no))) .no))
/-- what turnstile/turnstileref02.Index comes to. -/
def rIndex (n : Nat) (x : Int × (List Int) × Int × Int) : Option (Int) :=
  match x with
  | (x1, (x2, (x3, x4))) =>
  (let u5 : Int := (if (0 : Int) > x4 then (0 : Int) else x4)
  (loopF (X := Int × Int × Int × List Int) (A := Int) (fun rec6 y7 => match y7 with
  | (a8, (a9, (a10, a11))) =>
  (if (decide (a9 < (a11.length : Int))) = true then
  (Option.bind (idx a11 a9) fun v12 =>
  (if (v12 == a8) = true then
  some a9
  else
  rec6 (a8, ((IntKind.wrap .i64 (a9 + (1 : Int))), (a10, a11)))))
  else
  some (-1 : Int))) n (x3, (u5, (x1, x2)))))
def sp_rIndex (n : Nat) : Spec := ⟨pre_rIndex, post_rIndex, rIndex n⟩
def env_rIndex (n : Nat) : List (FuncId × Spec) := []
theorem run_rIndex (n : Nat) (x : pre_rIndex.T) : fnRun Try.prog 54 (envOf (env_rIndex n)) n Try.f29 ann_rIndex pre_rIndex post_rIndex x = rIndex n x := by kernel_rfl
theorem ok_rIndex (n : Nat) : FnOK Try.prog 54 L0 29 (sp_rIndex n) :=
  fn_run mixed Try.func29 (sp_rIndex n) n ann_rIndex (env_rIndex n) envOf_nil (run_rIndex n) (by kernel_rfl)
def pre_bytesClone : Shape := ⟨[.c (.dat (.list (.int .u8)))], []⟩
def post_bytesClone : List Shape := [⟨[.c (.own 0)], [(0, .row 5 (.int .u8))]⟩]
def ann_bytesClone : Ann := .no
/-- what bytes.Clone comes to. -/
def bytesClone (n : Nat) (x : List Int) : Option (List Int) :=
  (if x.length = 0 then none else
  (if (0 + x.length) * 1 ≤ 140737488355328 then
  some (([] : List Int) ++ x)
  else none))
def sp_bytesClone (n : Nat) : Spec := ⟨pre_bytesClone, post_bytesClone, bytesClone n⟩
def env_bytesClone (n : Nat) : List (FuncId × Spec) := []
theorem run_bytesClone (n : Nat) (x : pre_bytesClone.T) : fnRun Try.prog 54 (envOf (env_bytesClone n)) n Try.f30 ann_bytesClone pre_bytesClone post_bytesClone x = bytesClone n x := by kernel_rfl
theorem ok_bytesClone (n : Nat) : FnOK Try.prog 54 L0 30 (sp_bytesClone n) :=
  fn_run mixed Try.func30 (sp_bytesClone n) n ann_bytesClone (env_bytesClone n) envOf_nil (run_bytesClone n) (by kernel_rfl)
def pre_clone : Shape := ⟨[.c (.ref (.pair (.list (.int .u8)) (.pair (.int .i64) (.pair (.int .i64) .unit))))], []⟩
def post_clone : List Shape := [⟨[.c (.ptr 2 0)], [(2, .cells 56 [.own 3, .dat (.int .i64), .dat (.int .i64)]), (3, .row 5 (.int .u8))]⟩]
def ann_clone : Ann := .no
/-- what (turnstile/ring.Ring).Clone comes to. -/
def clone (n : Nat) (x : (List Int × (Int × (Int × Unit)))) : Option (Int × Int × List Int) :=
  (Option.bind (bytesClone n x.1) fun r2 =>
  some (x.2.1, (x.2.2.1, r2)))
def sp_clone (n : Nat) : Spec := ⟨pre_clone, post_clone, clone n⟩
def env_clone (n : Nat) : List (FuncId × Spec) := [(30, sp_bytesClone n)]
theorem run_clone (n : Nat) (x : pre_clone.T) : fnRun Try.prog 54 (envOf (env_clone n)) n Try.f16 ann_clone pre_clone post_clone x = clone n x := by kernel_rfl
theorem ok_clone (n : Nat) : FnOK Try.prog 54 L0 16 (sp_clone n) :=
  fn_run mixed Try.func16 (sp_clone n) n ann_clone (env_clone n) (envOf_cons (ok_bytesClone n) envOf_nil) (run_clone n) (by kernel_rfl)
def pre_clone0 : Shape := ⟨[.c (.nilp)], []⟩
def post_clone0 : List Shape := [⟨[.c (.nilp)], []⟩]
def ann_clone0 : Ann := .no
/-- what (turnstile/ring.Ring).Clone comes to. -/
def clone0 (n : Nat) (x : Unit) : Option (Unit) :=
  some ()
def sp_clone0 (n : Nat) : Spec := ⟨pre_clone0, post_clone0, clone0 n⟩
def env_clone0 (n : Nat) : List (FuncId × Spec) := [(30, sp_bytesClone n)]
theorem run_clone0 (n : Nat) (x : pre_clone0.T) : fnRun Try.prog 54 (envOf (env_clone0 n)) n Try.f16 ann_clone0 pre_clone0 post_clone0 x = clone0 n x := by kernel_rfl
theorem ok_clone0 (n : Nat) : FnOK Try.prog 54 L0 16 (sp_clone0 n) :=
  fn_run mixed Try.func16 (sp_clone0 n) n ann_clone0 (env_clone0 n) (envOf_cons (ok_bytesClone n) envOf_nil) (run_clone0 n) (by kernel_rfl)
def pre_skip : Shape := ⟨[.c (.ptr 0 0), .c (.dat (.int .i64))], [(0, .cells 56 [.own 250, .dat (.int .i64), .dat (.int .i64)]), (250, .row 5 (.int .u8))]⟩
def post_skip : List Shape := [⟨[.c (.dat (.int .i64))], [(0, .cells 56 [.own 250, .dat (.int .i64), .dat (.int .i64)]), (250, .row 5 (.int .u8))]⟩]
def ann_skip : Ann := .no
/-- what (turnstile/ring.Ring).Skip comes to. -/
def skip (n : Nat) (x : Int × Int × Int × List Int) : Option (Int × Int × Int × List Int) :=
  match x with
  | (x1, (x2, (x3, x4))) =>
  (Option.bind (len n (x4, (x2, (x3, ())))) fun r5 =>
  (let u6 : Int := (if (0 : Int) > (if r5 < x1 then r5 else x1) then (0 : Int) else (if r5 < x1 then r5 else x1))
  (if (decide (u6 > (0 : Int))) = true then
  (Option.bind (place n ((x4, (x2, (x3, ()))), u6)) fun r7 =>
  some (u6, (r7, ((IntKind.wrap .i64 (x3 - u6)), x4))))
  else
  some (u6, (x2, (x3, x4))))))
def sp_skip (n : Nat) : Spec := ⟨pre_skip, post_skip, skip n⟩
def env_skip (n : Nat) : List (FuncId × Spec) := [(9, sp_len n), (9, sp_len0 n), (22, sp_place n)]
theorem run_skip (n : Nat) (x : pre_skip.T) : fnRun Try.prog 54 (envOf (env_skip n)) n Try.f18 ann_skip pre_skip post_skip x = skip n x := by kernel_rfl
theorem ok_skip (n : Nat) : FnOK Try.prog 54 L0 18 (sp_skip n) :=
  fn_run mixed Try.func18 (sp_skip n) n ann_skip (env_skip n) (envOf_cons (ok_len n) (envOf_cons (ok_len0 n) (envOf_cons (ok_place n) envOf_nil))) (run_skip n) (by kernel_rfl)
def pre_skip0 : Shape := ⟨[.c (.nilp), .c (.dat (.int .i64))], []⟩
def post_skip0 : List Shape := [⟨[.c (.dat (.int .i64))], []⟩]
def ann_skip0 : Ann := .no
/-- what (turnstile/ring.Ring).Skip comes to. -/
def skip0 (n : Nat) (x : Int) : Option (Int) :=
  (Option.bind (len0 n ()) fun r2 =>
  (let u3 : Int := (if (0 : Int) > (if r2 < x then r2 else x) then (0 : Int) else (if r2 < x then r2 else x))
  (if (decide (u3 > (0 : Int))) = true then
  none
  else
  some u3)))
def sp_skip0 (n : Nat) : Spec := ⟨pre_skip0, post_skip0, skip0 n⟩
def env_skip0 (n : Nat) : List (FuncId × Spec) := [(9, sp_len n), (9, sp_len0 n), (22, sp_place n)]
theorem run_skip0 (n : Nat) (x : pre_skip0.T) : fnRun Try.prog 54 (envOf (env_skip0 n)) n Try.f18 ann_skip0 pre_skip0 post_skip0 x = skip0 n x := by kernel_rfl
theorem ok_skip0 (n : Nat) : FnOK Try.prog 54 L0 18 (sp_skip0 n) :=
  fn_run mixed Try.func18 (sp_skip0 n) n ann_skip0 (env_skip0 n) (envOf_cons (ok_len n) (envOf_cons (ok_len0 n) (envOf_cons (ok_place n) envOf_nil))) (run_skip0 n) (by kernel_rfl)
def pre_at_ : Shape := ⟨[.c (.ref (.pair (.list (.int .u8)) (.pair (.int .i64) (.pair (.int .i64) .unit)))), .c (.dat (.int .i64))], []⟩
def post_at_ : List Shape := [⟨[.c (.dat (.int .u8)), .c (.dat .bool)], []⟩]
def ann_at_ : Ann := .no
/-- what (turnstile/ring.Ring).At comes to. -/
def at_ (n : Nat) (x : (List Int × (Int × (Int × Unit))) × Int) : Option (Int × Bool) :=
  match x with
  | (x1, x2) =>
  (if (decide (x2 < (0 : Int))) = true then
  some ((0 : Int), false)
  else
  (Option.bind (len n x1) fun r3 =>
  (if (decide (x2 ≥ r3)) = true then
  some ((0 : Int), false)
  else
  (Option.bind (place n (x1, x2)) fun r4 =>
  (Option.bind (idx x1.1 r4) fun v5 =>
  some (v5, true))))))
def sp_at_ (n : Nat) : Spec := ⟨pre_at_, post_at_, at_ n⟩
def env_at_ (n : Nat) : List (FuncId × Spec) := [(9, sp_len n), (9, sp_len0 n), (22, sp_place n)]
theorem run_at_ (n : Nat) (x : pre_at_.T) : fnRun Try.prog 54 (envOf (env_at_ n)) n Try.f19 ann_at_ pre_at_ post_at_ x = at_ n x := by kernel_rfl
theorem ok_at_ (n : Nat) : FnOK Try.prog 54 L0 19 (sp_at_ n) :=
  fn_run mixed Try.func19 (sp_at_ n) n ann_at_ (env_at_ n) (envOf_cons (ok_len n) (envOf_cons (ok_len0 n) (envOf_cons (ok_place n) envOf_nil))) (run_at_ n) (by kernel_rfl)
def pre_at_0 : Shape := ⟨[.c (.nilp), .c (.dat (.int .i64))], []⟩
def post_at_0 : List Shape := [⟨[.c (.dat (.int .u8)), .c (.dat .bool)], []⟩]
def ann_at_0 : Ann := .no
/-- what (turnstile/ring.Ring).At comes to. -/
def at_0 (n : Nat) (x : Int) : Option (Int × Bool) :=
  (if (decide (x < (0 : Int))) = true then
  some ((0 : Int), false)
  else
  (Option.bind (len0 n ()) fun r2 =>
  (if (decide (x ≥ r2)) = true then
  some ((0 : Int), false)
  else
  none)))
def sp_at_0 (n : Nat) : Spec := ⟨pre_at_0, post_at_0, at_0 n⟩
def env_at_0 (n : Nat) : List (FuncId × Spec) := [(9, sp_len n), (9, sp_len0 n), (22, sp_place n)]
theorem run_at_0 (n : Nat) (x : pre_at_0.T) : fnRun Try.prog 54 (envOf (env_at_0 n)) n Try.f19 ann_at_0 pre_at_0 post_at_0 x = at_0 n x := by kernel_rfl
theorem ok_at_0 (n : Nat) : FnOK Try.prog 54 L0 19 (sp_at_0 n) :=
  fn_run mixed Try.func19 (sp_at_0 n) n ann_at_0 (env_at_0 n) (envOf_cons (ok_len n) (envOf_cons (ok_len0 n) (envOf_cons (ok_place n) envOf_nil))) (run_at_0 n) (by kernel_rfl)
def pre_room : Shape := ⟨[.c (.ref (.pair (.list (.int .u8)) (.pair (.int .i64) (.pair (.int .i64) .unit))))], []⟩
def post_room : List Shape := [⟨[.c (.dat (.int .i64))], []⟩]
def ann_room : Ann := .no
/-- what (turnstile/ring.Ring).Room comes to. -/
def room (n : Nat) (x : (List Int × (Int × (Int × Unit)))) : Option (Int) :=
  (Option.bind (size n x) fun r2 =>
  (Option.bind (len n x) fun r3 =>
  some (IntKind.wrap .i64 (r2 - r3))))
def sp_room (n : Nat) : Spec := ⟨pre_room, post_room, room n⟩
def env_room (n : Nat) : List (FuncId × Spec) := [(28, sp_size n), (28, sp_size0 n), (9, sp_len n), (9, sp_len0 n)]
theorem run_room (n : Nat) (x : pre_room.T) : fnRun Try.prog 54 (envOf (env_room n)) n Try.f21 ann_room pre_room post_room x = room n x := by kernel_rfl
theorem ok_room (n : Nat) : FnOK Try.prog 54 L0 21 (sp_room n) :=
  fn_run mixed Try.func21 (sp_room n) n ann_room (env_room n) (envOf_cons (ok_size n) (envOf_cons (ok_size0 n) (envOf_cons (ok_len n) (envOf_cons (ok_len0 n) envOf_nil)))) (run_room n) (by kernel_rfl)
def pre_room0 : Shape := ⟨[.c (.nilp)], []⟩
def post_room0 : List Shape := [⟨[.c (.dat (.int .i64))], []⟩]
def ann_room0 : Ann := .no
/-- what (turnstile/ring.Ring).Room comes to. -/
def room0 (n : Nat) (x : Unit) : Option (Int) :=
  (Option.bind (size0 n ()) fun r1 =>
  (Option.bind (len0 n ()) fun r2 =>
  some (IntKind.wrap .i64 (r1 - r2))))
def sp_room0 (n : Nat) : Spec := ⟨pre_room0, post_room0, room0 n⟩
def env_room0 (n : Nat) : List (FuncId × Spec) := [(28, sp_size n), (28, sp_size0 n), (9, sp_len n), (9, sp_len0 n)]
theorem run_room0 (n : Nat) (x : pre_room0.T) : fnRun Try.prog 54 (envOf (env_room0 n)) n Try.f21 ann_room0 pre_room0 post_room0 x = room0 n x := by kernel_rfl
theorem ok_room0 (n : Nat) : FnOK Try.prog 54 L0 21 (sp_room0 n) :=
  fn_run mixed Try.func21 (sp_room0 n) n ann_room0 (env_room0 n) (envOf_cons (ok_size n) (envOf_cons (ok_size0 n) (envOf_cons (ok_len n) (envOf_cons (ok_len0 n) envOf_nil)))) (run_room0 n) (by kernel_rfl)
def pre_clear : Shape := ⟨[.c (.ptr 0 0)], [(0, .cells 56 [.own 250, .dat (.int .i64), .dat (.int .i64)]), (250, .row 5 (.int .u8))]⟩
def post_clear : List Shape := [⟨[.c (.dat (.int .i64))], [(0, .cells 56 [.own 250, .dat (.int .i64), .dat (.int .i64)]), (250, .row 5 (.int .u8))]⟩]
def ann_clear : Ann := .no
/-- what (turnstile/ring.Ring).Clear comes to. -/
def clear (n : Nat) (x : Int × Int × List Int) : Option (Int × Int × Int × List Int) :=
  match x with
  | (x1, (x2, x3)) =>
  (Option.bind (len n (x3, (x1, (x2, ())))) fun r4 =>
  (Option.bind (skip n (r4, (x1, (x2, x3)))) fun r5 =>
  some (r5.1, (r5.2.1, (r5.2.2.1, r5.2.2.2)))))
def sp_clear (n : Nat) : Spec := ⟨pre_clear, post_clear, clear n⟩
def env_clear (n : Nat) : List (FuncId × Spec) := [(9, sp_len n), (9, sp_len0 n), (18, sp_skip n), (18, sp_skip0 n)]
theorem run_clear (n : Nat) (x : pre_clear.T) : fnRun Try.prog 54 (envOf (env_clear n)) n Try.f26 ann_clear pre_clear post_clear x = clear n x := by kernel_rfl
theorem ok_clear (n : Nat) : FnOK Try.prog 54 L0 26 (sp_clear n) :=
  fn_run mixed Try.func26 (sp_clear n) n ann_clear (env_clear n) (envOf_cons (ok_len n) (envOf_cons (ok_len0 n) (envOf_cons (ok_skip n) (envOf_cons (ok_skip0 n) envOf_nil)))) (run_clear n) (by kernel_rfl)
def pre_clear0 : Shape := ⟨[.c (.nilp)], []⟩
def post_clear0 : List Shape := [⟨[.c (.dat (.int .i64))], []⟩]
def ann_clear0 : Ann := .no
/-- what (turnstile/ring.Ring).Clear comes to. -/
def clear0 (n : Nat) (x : Unit) : Option (Int) :=
  (Option.bind (len0 n ()) fun r1 =>
  (Option.bind (skip0 n r1) fun r2 =>
  some r2))
def sp_clear0 (n : Nat) : Spec := ⟨pre_clear0, post_clear0, clear0 n⟩
def env_clear0 (n : Nat) : List (FuncId × Spec) := [(9, sp_len n), (9, sp_len0 n), (18, sp_skip n), (18, sp_skip0 n)]
theorem run_clear0 (n : Nat) (x : pre_clear0.T) : fnRun Try.prog 54 (envOf (env_clear0 n)) n Try.f26 ann_clear0 pre_clear0 post_clear0 x = clear0 n x := by kernel_rfl
theorem ok_clear0 (n : Nat) : FnOK Try.prog 54 L0 26 (sp_clear0 n) :=
  fn_run mixed Try.func26 (sp_clear0 n) n ann_clear0 (env_clear0 n) (envOf_cons (ok_len n) (envOf_cons (ok_len0 n) (envOf_cons (ok_skip n) (envOf_cons (ok_skip0 n) envOf_nil)))) (run_clear0 n) (by kernel_rfl)
def pre_writeK : Shape := ⟨[.c (.ptr 0 0), .c (.own 251)], [(0, .cells 56 [.own 250, .dat (.int .i64), .dat (.int .i64)]), (250, .row 5 (.int .u8)), (251, .row 5 (.int .u8))]⟩
def post_writeK : List Shape := [⟨[.c (.dat (.int .i64))], [(0, .cells 56 [.own 250, .dat (.int .i64), .dat (.int .i64)]), (250, .row 5 (.int .u8)), (251, .row 5 (.int .u8))]⟩]
def ann_writeK : Ann := (.two .no (.two .no (.two (.two .no (.one (.loop ⟨[0, 1, 5, 12, 13], ⟨[.c (.ptr 0 0), .c (.own 251), .c (.dat (.int .i64)), .c (.dat (.int .i64)), .c (.dat (.int .i64))], [(0, .cells 56 [.own 250, .dat (.int .i64), .dat (.int .i64)]), (250, .row 5 (.int .u8)), (251, .row 5 (.int .u8))]⟩⟩ .no))) .no)))
/-- what (turnstile/ring.Ring).Write comes to. -/
def writeK (n : Nat) (x : Int × Int × (List Int) × List Int) : Option (Int × Int × Int × (List Int) × List Int) :=
  match x with
  | (x1, (x2, (x3, x4))) =>
  (Option.bind (room n (x3, (x1, (x2, ())))) fun r5 =>
  (let u6 : Int := (if r5 < (x4.length : Int) then r5 else (x4.length : Int))
  (loopF (X := Int × Int × Int × Int × Int × (List Int) × List Int) (A := Int × Int × Int × (List Int) × List Int) (fun rec7 y8 => match y8 with
  | (a9, (a10, (a11, (a12, (a13, (a14, a15)))))) =>
  (if (decide (a11 < a10)) = true then
  (Option.bind (place n ((a14, (a12, (a13, ()))), (IntKind.wrap .i64 (a13 + a11)))) fun r16 =>
  (if 0 ≤ a11 ∧ a11 < (a15.length : Int) then
  (if 0 ≤ r16 ∧ r16 < (a14.length : Int) then
  (let u17 : List Int := (a14.set r16.toNat (a15.getD a11.toNat (0 : Int)))
  (let u18 : Int := (IntKind.wrap .i64 (a11 + (1 : Int)))
  rec7 (a9, (a10, (u18, (a12, (a13, (u17, a15))))))))
  else none)
  else none))
  else
  some (a9, (a12, ((IntKind.wrap .i64 (a13 + a9)), (a14, a15)))))) n (u6, (u6, ((0 : Int), (x1, (x2, (x3, x4)))))))))
def sp_writeK (n : Nat) : Spec := ⟨pre_writeK, post_writeK, writeK n⟩
def env_writeK (n : Nat) : List (FuncId × Spec) := [(21, sp_room n), (21, sp_room0 n), (22, sp_place n)]
theorem run_writeK (n : Nat) (x : pre_writeK.T) : fnRun Try.prog 54 (envOf (env_writeK n)) n Try.f8 ann_writeK pre_writeK post_writeK x = writeK n x := by kernel_rfl
theorem ok_writeK (n : Nat) : FnOK Try.prog 54 L0 8 (sp_writeK n) :=
  fn_run mixed Try.func8 (sp_writeK n) n ann_writeK (env_writeK n) (envOf_cons (ok_room n) (envOf_cons (ok_room0 n) (envOf_cons (ok_place n) envOf_nil))) (run_writeK n) (by kernel_rfl)
def pre_write : Shape := ⟨[.c (.ptr 0 0), .c (.dat (.list (.int .u8)))], [(0, .cells 56 [.own 250, .dat (.int .i64), .dat (.int .i64)]), (250, .row 5 (.int .u8))]⟩
def post_write : List Shape := [⟨[.c (.dat (.int .i64))], [(0, .cells 56 [.own 250, .dat (.int .i64), .dat (.int .i64)]), (250, .row 5 (.int .u8))]⟩]
def ann_write : Ann := (.two .no (.two .no (.two (.two .no (.one (.loop ⟨[0, 1, 5, 12, 13], ⟨[.c (.ptr 0 0), .c (.dat (.list (.int .u8))), .c (.dat (.int .i64)), .c (.dat (.int .i64)), .c (.dat (.int .i64))], [(0, .cells 56 [.own 250, .dat (.int .i64), .dat (.int .i64)]), (250, .row 5 (.int .u8))]⟩⟩ .no))) .no)))
/-- what (turnstile/ring.Ring).Write comes to. -/
def write (n : Nat) (x : (List Int) × Int × Int × List Int) : Option (Int × Int × Int × List Int) :=
  match x with
  | (x1, (x2, (x3, x4))) =>
  (Option.bind (room n (x4, (x2, (x3, ())))) fun r5 =>
  (let u6 : Int := (if r5 < (x1.length : Int) then r5 else (x1.length : Int))
  (loopF (X := (List Int) × Int × Int × Int × Int × Int × List Int) (A := Int × Int × Int × List Int) (fun rec7 y8 => match y8 with
  | (a9, (a10, (a11, (a12, (a13, (a14, a15)))))) =>
  (if (decide (a12 < a11)) = true then
  (Option.bind (place n ((a15, (a13, (a14, ()))), (IntKind.wrap .i64 (a14 + a12)))) fun r16 =>
  (Option.bind (idx a9 a12) fun v17 =>
  (if 0 ≤ r16 ∧ r16 < (a15.length : Int) then
  (let u18 : Int := (IntKind.wrap .i64 (a12 + (1 : Int)))
  rec7 (a9, (a10, (a11, (u18, (a13, (a14, (a15.set r16.toNat v17))))))))
  else none)))
  else
  some (a10, (a13, ((IntKind.wrap .i64 (a14 + a10)), a15))))) n (x1, (u6, (u6, ((0 : Int), (x2, (x3, x4)))))))))
def sp_write (n : Nat) : Spec := ⟨pre_write, post_write, write n⟩
def env_write (n : Nat) : List (FuncId × Spec) := [(21, sp_room n), (21, sp_room0 n), (22, sp_place n)]
theorem run_write (n : Nat) (x : pre_write.T) : fnRun Try.prog 54 (envOf (env_write n)) n Try.f8 ann_write pre_write post_write x = write n x := by kernel_rfl
theorem ok_write (n : Nat) : FnOK Try.prog 54 L0 8 (sp_write n) :=
  fn_run mixed Try.func8 (sp_write n) n ann_write (env_write n) (envOf_cons (ok_room n) (envOf_cons (ok_room0 n) (envOf_cons (ok_place n) envOf_nil))) (run_write n) (by kernel_rfl)
def pre_write0 : Shape := ⟨[.c (.nilp), .c (.dat (.list (.int .u8)))], []⟩
def post_write0 : List Shape := [⟨[.c (.dat (.int .i64))], []⟩]
def ann_write0 : Ann := (.two .no (.two .no (.two (.two .no (.one (.loop ⟨[0, 1, 5, 12, 13], ⟨[.c (.nilp), .c (.dat (.list (.int .u8))), .c (.dat (.int .i64)), .c (.dat (.int .i64)), .c (.dat (.int .i64))], []⟩⟩ .no))) .no)))
/-- what (turnstile/ring.Ring).Write comes to. -/
def write0 (n : Nat) (x : List Int) : Option (Int) :=
  (Option.bind (room0 n ()) fun r2 =>
  (let u3 : Int := (if r2 < (x.length : Int) then r2 else (x.length : Int))
  (loopF (X := (List Int) × Int × Int × Int) (A := Int) (fun rec4 y5 => match y5 with
  | (a6, (a7, (a8, a9))) =>
  (if (decide (a9 < a8)) = true then
  none
  else
  some a7)) n (x, (u3, (u3, (0 : Int)))))))
def sp_write0 (n : Nat) : Spec := ⟨pre_write0, post_write0, write0 n⟩
def env_write0 (n : Nat) : List (FuncId × Spec) := [(21, sp_room n), (21, sp_room0 n), (22, sp_place n)]
theorem run_write0 (n : Nat) (x : pre_write0.T) : fnRun Try.prog 54 (envOf (env_write0 n)) n Try.f8 ann_write0 pre_write0 post_write0 x = write0 n x := by kernel_rfl
theorem ok_write0 (n : Nat) : FnOK Try.prog 54 L0 8 (sp_write0 n) :=
  fn_run mixed Try.func8 (sp_write0 n) n ann_write0 (env_write0 n) (envOf_cons (ok_room n) (envOf_cons (ok_room0 n) (envOf_cons (ok_place n) envOf_nil))) (run_write0 n) (by kernel_rfl)
def pre_read : Shape := ⟨[.c (.ptr 0 0), .c (.dat (.int .i64))], [(0, .cells 56 [.own 250, .dat (.int .i64), .dat (.int .i64)]), (250, .row 5 (.int .u8))]⟩
def post_read : List Shape := [⟨[.c (.own 2)], [(0, .cells 56 [.own 250, .dat (.int .i64), .dat (.int .i64)]), (250, .row 5 (.int .u8)), (2, .row 5 (.int .u8))]⟩]
def ann_read : Ann := .no
/-- what (turnstile/ring.Ring).Read comes to. -/
def read (n : Nat) (x : Int × Int × Int × List Int) : Option (Int × Int × (List Int) × List Int) :=
  match x with
  | (x1, (x2, (x3, x4))) =>
  (Option.bind (peek n ((x4, (x2, (x3, ()))), x1)) fun r5 =>
  (Option.bind (skip n ((r5.length : Int), (x2, (x3, x4)))) fun r6 =>
  some (r6.2.1, (r6.2.2.1, (r6.2.2.2, r5)))))
def sp_read (n : Nat) : Spec := ⟨pre_read, post_read, read n⟩
def env_read (n : Nat) : List (FuncId × Spec) := [(17, sp_peek n), (17, sp_peek0 n), (18, sp_skip n), (18, sp_skip0 n)]
theorem run_read (n : Nat) (x : pre_read.T) : fnRun Try.prog 54 (envOf (env_read n)) n Try.f12 ann_read pre_read post_read x = read n x := by kernel_rfl
theorem ok_read (n : Nat) : FnOK Try.prog 54 L0 12 (sp_read n) :=
  fn_run mixed Try.func12 (sp_read n) n ann_read (env_read n) (envOf_cons (ok_peek n) (envOf_cons (ok_peek0 n) (envOf_cons (ok_skip n) (envOf_cons (ok_skip0 n) envOf_nil)))) (run_read n) (by kernel_rfl)
def pre_read0 : Shape := ⟨[.c (.nilp), .c (.dat (.int .i64))], []⟩
def post_read0 : List Shape := [⟨[.c (.own 2)], [(2, .row 5 (.int .u8))]⟩]
def ann_read0 : Ann := .no
/-- what (turnstile/ring.Ring).Read comes to. -/
def read0 (n : Nat) (x : Int) : Option (List Int) :=
  (Option.bind (peek0 n x) fun r2 =>
  (Option.bind (skip0 n (r2.length : Int)) fun r3 =>
  some r2))
def sp_read0 (n : Nat) : Spec := ⟨pre_read0, post_read0, read0 n⟩
def env_read0 (n : Nat) : List (FuncId × Spec) := [(17, sp_peek n), (17, sp_peek0 n), (18, sp_skip n), (18, sp_skip0 n)]
theorem run_read0 (n : Nat) (x : pre_read0.T) : fnRun Try.prog 54 (envOf (env_read0 n)) n Try.f12 ann_read0 pre_read0 post_read0 x = read0 n x := by kernel_rfl
theorem ok_read0 (n : Nat) : FnOK Try.prog 54 L0 12 (sp_read0 n) :=
  fn_run mixed Try.func12 (sp_read0 n) n ann_read0 (env_read0 n) (envOf_cons (ok_peek n) (envOf_cons (ok_peek0 n) (envOf_cons (ok_skip n) (envOf_cons (ok_skip0 n) envOf_nil)))) (run_read0 n) (by kernel_rfl)
def pre_same : Shape := ⟨[.c (.ref (.pair (.list (.int .u8)) (.pair (.int .i64) (.pair (.int .i64) .unit)))), .a [.dat (.int .i64), .dat (.list (.int .u8))], .c (.dat (.int .i64))], []⟩
def post_same : List Shape := [⟨[.c (.dat .bool)], []⟩]
def ann_same : Ann := .no
/-- what turnstile/turnstilelaw02.same comes to. -/
def same (n : Nat) (x : (List Int × (Int × (Int × Unit))) × Int × (List Int) × Int) : Option (Bool) :=
  match x with
  | (x1, (x2, (x3, x4))) =>
  (Option.bind (at_ n (x1, x4)) fun r5 =>
  (Option.bind (rAt n (x2, (x3, x4))) fun r6 =>
  (Option.bind (rRead n (x2, (x3, x4))) fun r7 =>
  (Option.bind (len n x1) fun r8 =>
  (if (r8 == (x3.length : Int)) = true then
  (Option.bind (room n x1) fun r9 =>
  (let u10 : Int := (IntKind.wrap .i64 (x2 - (x3.length : Int)))
  (if (r9 == u10) = true then
  (Option.bind (size n x1) fun r11 =>
  (if (r11 == x2) = true then
  (if (r5.1 == r6.1) = true then
  (if (r5.2 == r6.2) = true then
  (Option.bind (peek n (x1, x4)) fun r12 =>
  (if (r12 == r7.2.2) = true then
  (let u13 : Int := (IntKind.wrap .i64 (Int.tdiv x4 (2 : Int)))
  (Option.bind (index n (x1, ((IntKind.wrap .u8 x4), u13))) fun r14 =>
  (let u15 : Int := (IntKind.wrap .i64 (Int.tdiv x4 (2 : Int)))
  (Option.bind (rIndex n (x2, (x3, ((IntKind.wrap .u8 x4), u15)))) fun r16 =>
  some (r14 == r16)))))
  else
  some false))
  else
  some false)
  else
  some false)
  else
  some false))
  else
  some false)))
  else
  some false)))))
def sp_same (n : Nat) : Spec := ⟨pre_same, post_same, same n⟩
def env_same (n : Nat) : List (FuncId × Spec) := [(19, sp_at_ n), (19, sp_at_0 n), (27, sp_rAt n), (24, sp_rRead n), (9, sp_len n), (9, sp_len0 n), (21, sp_room n), (21, sp_room0 n), (28, sp_size n), (28, sp_size0 n), (17, sp_peek n), (17, sp_peek0 n), (20, sp_index n), (20, sp_index0 n), (29, sp_rIndex n)]
theorem run_same (n : Nat) (x : pre_same.T) : fnRun Try.prog 54 (envOf (env_same n)) n Try.f15 ann_same pre_same post_same x = same n x := by kernel_rfl
theorem ok_same (n : Nat) : FnOK Try.prog 54 L0 15 (sp_same n) :=
  fn_run mixed Try.func15 (sp_same n) n ann_same (env_same n) (envOf_cons (ok_at_ n) (envOf_cons (ok_at_0 n) (envOf_cons (ok_rAt n) (envOf_cons (ok_rRead n) (envOf_cons (ok_len n) (envOf_cons (ok_len0 n) (envOf_cons (ok_room n) (envOf_cons (ok_room0 n) (envOf_cons (ok_size n) (envOf_cons (ok_size0 n) (envOf_cons (ok_peek n) (envOf_cons (ok_peek0 n) (envOf_cons (ok_index n) (envOf_cons (ok_index0 n) (envOf_cons (ok_rIndex n) envOf_nil))))))))))))))) (run_same n) (by kernel_rfl)
def pre_line : Shape := ⟨[.c (.ptr 0 0), .c (.dat (.int .i64))], [(0, .cells 56 [.own 250, .dat (.int .i64), .dat (.int .i64)]), (250, .row 5 (.int .u8))]⟩
def post_line : List Shape := [⟨[.c (.own 2), .c (.dat .err)], [(0, .cells 56 [.own 250, .dat (.int .i64), .dat (.int .i64)]), (250, .row 5 (.int .u8)), (2, .row 5 (.int .u8))]⟩]
def ann_line : Ann := (.two .no (.two .no (.two (.two .no (.one (.loop ⟨[0, 1, 16, 17], ⟨[.c (.ptr 0 0), .c (.dat (.int .i64)), .c (.dat (.int .i64)), .c (.dat (.int .i64))], [(0, .cells 56 [.own 250, .dat (.int .i64), .dat (.int .i64)]), (250, .row 5 (.int .u8))]⟩⟩ (.two .no (.two .no (.two (.one (.two .no (.two .no (.two .no (.one (.two (.join ⟨[0, 1, 6, 7, 9, 16, 17, 33], ⟨[.c (.ptr 0 0), .c (.dat (.int .i64)), .c (.dat (.int .i64)), .c (.dat (.int .u8)), .c (.dat (.int .u8)), .c (.dat (.int .i64)), .c (.dat (.int .i64)), .c (.dat .bool)], [(0, .cells 56 [.own 250, .dat (.int .i64), .dat (.int .i64)]), (250, .row 5 (.int .u8))]⟩⟩ .no) (.two .no (.two (.join ⟨[0, 1, 6, 7, 16, 17, 45], ⟨[.c (.ptr 0 0), .c (.dat (.int .i64)), .c (.dat (.int .i64)), .c (.dat (.int .u8)), .c (.dat (.int .i64)), .c (.dat (.int .i64)), .c (.dat .bool)], [(0, .cells 56 [.own 250, .dat (.int .i64), .dat (.int .i64)]), (250, .row 5 (.int .u8))]⟩⟩ .no) (.two .no (.two (.join ⟨[0, 1, 6, 7, 16, 17, 62], ⟨[.c (.ptr 0 0), .c (.dat (.int .i64)), .c (.dat (.int .i64)), .c (.dat (.int .u8)), .c (.dat (.int .i64)), .c (.dat (.int .i64)), .c (.dat .bool)], [(0, .cells 56 [.own 250, .dat (.int .i64), .dat (.int .i64)]), (250, .row 5 (.int .u8))]⟩⟩ .no) .no)))))))))) .no)))))) .no)))
/-- what (turnstile/ring.Ring).Line comes to. -/
def line (n : Nat) (x : Int × Int × Int × List Int) : Option (Int × Int × Int × (List Int) × List Int) :=
  match x with
  | (x1, (x2, (x3, x4))) =>
  (if (decide (x1 < (0 : Int))) = true then
  some ((1 : Int), (x2, (x3, (x4, ([] : List Int)))))
  else
  (Option.bind (len n (x4, (x2, (x3, ())))) fun r5 =>
  (loopF (X := Int × Int × Int × Int × Int × List Int) (A := Int × Int × Int × (List Int) × List Int) (fun rec6 y7 => match y7 with
  | (a8, (a9, (a10, (a11, (a12, a13))))) =>
  (if (decide (a10 < a9)) = true then
  (Option.bind (at_ n ((a13, (a11, (a12, ()))), a10)) fun r14 =>
  (let u15 : Int := (IntKind.wrap .i64 (a10 + (1 : Int)))
  (Option.bind (at_ n ((a13, (a11, (a12, ()))), u15)) fun r16 =>
  (Option.bind (α := Out (Int × Int × Int × Int × Int × Int × Bool × Int × Int × List Int) (Int × Int × Int × (List Int) × List Int)) ((if (r14.1 == (13 : Int)) = true then
  (some (Out.go (a8, (a10, (r14.1, (r16.1, (a9, (a10, ((!r16.2), (a11, (a12, a13)))))))))))
  else
  (some (Out.go (a8, (a10, (r14.1, (r16.1, (a9, (a10, (false, (a11, (a12, a13))))))))))))) fun o => match o with
  | .go (z18, (z19, (z20, (z21, (z22, (z23, (z24, (z25, (z26, z27))))))))) =>
  (if z24 = true then
  (if (decide (z19 > z18)) = true then
  some ((2 : Int), (z25, (z26, (z27, ([] : List Int)))))
  else
  some ((8 : Int), (z25, (z26, (z27, ([] : List Int))))))
  else
  (Option.bind (α := Out (Int × Int × Int × Int × Int × Bool × Int × Int × List Int) (Int × Int × Int × (List Int) × List Int)) ((if (z20 == (13 : Int)) = true then
  (some (Out.go (z18, (z19, (z20, (z22, (z23, ((z21 == (10 : Int)), (z25, (z26, z27))))))))))
  else
  (some (Out.go (z18, (z19, (z20, (z22, (z23, (false, (z25, (z26, z27)))))))))))) fun o => match o with
  | .go (z29, (z30, (z31, (z32, (z33, (z34, (z35, (z36, z37)))))))) =>
  (if z34 = true then
  (if (decide (z30 > z29)) = true then
  some ((2 : Int), (z35, (z36, (z37, ([] : List Int)))))
  else
  (Option.bind (read n (z30, (z35, (z36, z37)))) fun r38 =>
  (Option.bind (skip n ((2 : Int), (r38.1, (r38.2.1, r38.2.2.1)))) fun r39 =>
  some ((0 : Int), (r39.2.1, (r39.2.2.1, (r39.2.2.2, r38.2.2.2)))))))
  else
  (Option.bind (α := Out (Int × Int × Int × Int × Int × Bool × Int × Int × List Int) (Int × Int × Int × (List Int) × List Int)) ((if (decide (z30 ≥ z29)) = true then
  (if (z31 != (13 : Int)) = true then
  (some (Out.go (z29, (z30, (z31, (z32, (z33, ((z31 != (10 : Int)), (z35, (z36, z37))))))))))
  else
  (some (Out.go (z29, (z30, (z31, (z32, (z33, (false, (z35, (z36, z37)))))))))))
  else
  (some (Out.go (z29, (z30, (z31, (z32, (z33, (false, (z35, (z36, z37)))))))))))) fun o => match o with
  | .go (z41, (z42, (z43, (z44, (z45, (z46, (z47, (z48, z49)))))))) =>
  (if z46 = true then
  some ((2 : Int), (z47, (z48, (z49, ([] : List Int)))))
  else
  (if (z43 == (13 : Int)) = true then
  (if (decide (z42 > z41)) = true then
  some ((2 : Int), (z47, (z48, (z49, ([] : List Int)))))
  else
  some ((3 : Int), (z47, (z48, (z49, ([] : List Int))))))
  else
  (if (z43 == (10 : Int)) = true then
  (if (decide (z42 > z41)) = true then
  some ((2 : Int), (z47, (z48, (z49, ([] : List Int)))))
  else
  some ((3 : Int), (z47, (z48, (z49, ([] : List Int))))))
  else
  (let u50 : Int := (IntKind.wrap .i64 (z45 + (1 : Int)))
  rec6 (z41, (z44, (u50, (z47, (z48, z49)))))))))
  | .ret r51 => some r51))
  | .ret r52 => some r52))
  | .ret r53 => some r53))))
  else
  some ((8 : Int), (a11, (a12, (a13, ([] : List Int))))))) n (x1, (r5, ((0 : Int), (x2, (x3, x4))))))))
def sp_line (n : Nat) : Spec := ⟨pre_line, post_line, line n⟩
def env_line (n : Nat) : List (FuncId × Spec) := [(9, sp_len n), (9, sp_len0 n), (19, sp_at_ n), (19, sp_at_0 n), (12, sp_read n), (12, sp_read0 n), (18, sp_skip n), (18, sp_skip0 n)]
theorem run_line (n : Nat) (x : pre_line.T) : fnRun Try.prog 54 (envOf (env_line n)) n Try.f10 ann_line pre_line post_line x = line n x := by kernel_rfl
theorem ok_line (n : Nat) : FnOK Try.prog 54 L0 10 (sp_line n) :=
  fn_run mixed Try.func10 (sp_line n) n ann_line (env_line n) (envOf_cons (ok_len n) (envOf_cons (ok_len0 n) (envOf_cons (ok_at_ n) (envOf_cons (ok_at_0 n) (envOf_cons (ok_read n) (envOf_cons (ok_read0 n) (envOf_cons (ok_skip n) (envOf_cons (ok_skip0 n) envOf_nil)))))))) (run_line n) (by kernel_rfl)
def pre_line0 : Shape := ⟨[.c (.nilp), .c (.dat (.int .i64))], []⟩
def post_line0 : List Shape := [⟨[.c (.own 2), .c (.dat .err)], [(2, .row 5 (.int .u8))]⟩]
def ann_line0 : Ann := (.two .no (.two .no (.two (.two .no (.one (.loop ⟨[0, 1, 16, 17], ⟨[.c (.nilp), .c (.dat (.int .i64)), .c (.dat (.int .i64)), .c (.dat (.int .i64))], []⟩⟩ (.two .no (.two .no (.two (.one (.two .no (.two .no (.two .no (.one (.two (.join ⟨[0, 1, 6, 7, 9, 16, 17, 33], ⟨[.c (.nilp), .c (.dat (.int .i64)), .c (.dat (.int .i64)), .c (.dat (.int .u8)), .c (.dat (.int .u8)), .c (.dat (.int .i64)), .c (.dat (.int .i64)), .c (.dat .bool)], []⟩⟩ .no) (.two .no (.two (.join ⟨[0, 1, 6, 7, 16, 17, 45], ⟨[.c (.nilp), .c (.dat (.int .i64)), .c (.dat (.int .i64)), .c (.dat (.int .u8)), .c (.dat (.int .i64)), .c (.dat (.int .i64)), .c (.dat .bool)], []⟩⟩ .no) (.two .no (.two (.join ⟨[0, 1, 6, 7, 16, 17, 62], ⟨[.c (.nilp), .c (.dat (.int .i64)), .c (.dat (.int .i64)), .c (.dat (.int .u8)), .c (.dat (.int .i64)), .c (.dat (.int .i64)), .c (.dat .bool)], []⟩⟩ .no) .no)))))))))) .no)))))) .no)))
/-- what (turnstile/ring.Ring).Line comes to. -/
def line0 (n : Nat) (x : Int) : Option (Int × List Int) :=
  (if (decide (x < (0 : Int))) = true then
  some ((1 : Int), ([] : List Int))
  else
  (Option.bind (len0 n ()) fun r2 =>
  (loopF (X := Int × Int × Int) (A := Int × List Int) (fun rec3 y4 => match y4 with
  | (a5, (a6, a7)) =>
  (if (decide (a7 < a6)) = true then
  (Option.bind (at_0 n a7) fun r8 =>
  (Option.bind (at_0 n (IntKind.wrap .i64 (a7 + (1 : Int)))) fun r9 =>
  (Option.bind (α := Out (Int × Int × Int × Int × Int × Int × Bool) (Int × List Int)) ((if (r8.1 == (13 : Int)) = true then
  (some (Out.go (a5, (a7, (r8.1, (r9.1, (a6, (a7, (!r9.2)))))))))
  else
  (some (Out.go (a5, (a7, (r8.1, (r9.1, (a6, (a7, false)))))))))) fun o => match o with
  | .go (z11, (z12, (z13, (z14, (z15, (z16, z17)))))) =>
  (if z17 = true then
  (if (decide (z12 > z11)) = true then
  some ((2 : Int), ([] : List Int))
  else
  some ((8 : Int), ([] : List Int)))
  else
  (Option.bind (α := Out (Int × Int × Int × Int × Int × Bool) (Int × List Int)) ((if (z13 == (13 : Int)) = true then
  (some (Out.go (z11, (z12, (z13, (z15, (z16, (z14 == (10 : Int)))))))))
  else
  (some (Out.go (z11, (z12, (z13, (z15, (z16, false))))))))) fun o => match o with
  | .go (z19, (z20, (z21, (z22, (z23, z24))))) =>
  (if z24 = true then
  (if (decide (z20 > z19)) = true then
  some ((2 : Int), ([] : List Int))
  else
  (Option.bind (read0 n z20) fun r25 =>
  (Option.bind (skip0 n (2 : Int)) fun r26 =>
  some ((0 : Int), r25))))
  else
  (Option.bind (α := Out (Int × Int × Int × Int × Int × Bool) (Int × List Int)) ((if (decide (z20 ≥ z19)) = true then
  (if (z21 != (13 : Int)) = true then
  (some (Out.go (z19, (z20, (z21, (z22, (z23, (z21 != (10 : Int)))))))))
  else
  (some (Out.go (z19, (z20, (z21, (z22, (z23, false))))))))
  else
  (some (Out.go (z19, (z20, (z21, (z22, (z23, false))))))))) fun o => match o with
  | .go (z28, (z29, (z30, (z31, (z32, z33))))) =>
  (if z33 = true then
  some ((2 : Int), ([] : List Int))
  else
  (if (z30 == (13 : Int)) = true then
  (if (decide (z29 > z28)) = true then
  some ((2 : Int), ([] : List Int))
  else
  some ((3 : Int), ([] : List Int)))
  else
  (if (z30 == (10 : Int)) = true then
  (if (decide (z29 > z28)) = true then
  some ((2 : Int), ([] : List Int))
  else
  some ((3 : Int), ([] : List Int)))
  else
  (let u34 : Int := (IntKind.wrap .i64 (z32 + (1 : Int)))
  rec3 (z28, (z31, u34))))))
  | .ret r35 => some r35))
  | .ret r36 => some r36))
  | .ret r37 => some r37)))
  else
  some ((8 : Int), ([] : List Int)))) n (x, (r2, (0 : Int))))))
def sp_line0 (n : Nat) : Spec := ⟨pre_line0, post_line0, line0 n⟩
def env_line0 (n : Nat) : List (FuncId × Spec) := [(9, sp_len n), (9, sp_len0 n), (19, sp_at_ n), (19, sp_at_0 n), (12, sp_read n), (12, sp_read0 n), (18, sp_skip n), (18, sp_skip0 n)]
theorem run_line0 (n : Nat) (x : pre_line0.T) : fnRun Try.prog 54 (envOf (env_line0 n)) n Try.f10 ann_line0 pre_line0 post_line0 x = line0 n x := by kernel_rfl
theorem ok_line0 (n : Nat) : FnOK Try.prog 54 L0 10 (sp_line0 n) :=
  fn_run mixed Try.func10 (sp_line0 n) n ann_line0 (env_line0 n) (envOf_cons (ok_len n) (envOf_cons (ok_len0 n) (envOf_cons (ok_at_ n) (envOf_cons (ok_at_0 n) (envOf_cons (ok_read n) (envOf_cons (ok_read0 n) (envOf_cons (ok_skip n) (envOf_cons (ok_skip0 n) envOf_nil)))))))) (run_line0 n) (by kernel_rfl)
def pre_do_ : Shape := ⟨[.c (.ptr 0 0), .a [.dat (.int .i64), .dat (.list (.int .u8))], .a [.dat (.int .i64), .dat (.int .i64), .dat (.list (.int .u8))]], [(0, .cells 56 [.own 250, .dat (.int .i64), .dat (.int .i64)]), (250, .row 5 (.int .u8))]⟩
def post_do_ : List Shape := [⟨[.a [.dat (.int .i64), .dat (.list (.int .u8))], .c (.dat .bool)], [(0, .cells 56 [.own 250, .dat (.int .i64), .dat (.int .i64)]), (250, .row 5 (.int .u8))]⟩]
def ann_do_ : Ann := (.two .no (.two (.two .no (.one (.two (.join ⟨[0, 4, 5, 6, 24, 25], ⟨[.c (.ptr 0 0), .c (.ptr 500 0), .c (.ptr 501 0), .c (.ptr 502 0), .c (.dat (.int .i64)), .c (.dat .bool)], [(0, .cells 56 [.own 250, .dat (.int .i64), .dat (.int .i64)]), (250, .row 5 (.int .u8)), (500, .cells 39 [.dat (.int .i64), .dat (.list (.int .u8))]), (501, .cells 45 [.dat (.int .i64), .dat (.int .i64), .dat (.list (.int .u8))]), (502, .cells 39 [.dat (.int .i64), .own 503]), (503, .row 5 (.int .u8))]⟩⟩ .no) .no))) .no))
/-- what turnstile/turnstilelaw02.do comes to. -/
def do_ (n : Nat) (x : Int × (List Int) × Int × Int × (List Int) × Int × Int × List Int) : Option (Int × (List Int) × Bool × Int × Int × List Int) :=
  match x with
  | (x1, (x2, (x3, (x4, (x5, (x6, (x7, x8))))))) =>
  (let u9 : Int := (IntKind.wrap .i64 ((Int.tmod x3 (6 : Int)) + (6 : Int)))
  (Option.bind (α := Out (Int × Bool × Int × Int × (List Int) × Int × (List Int) × Int × Int × (List Int) × Int × List Int) (Int × (List Int) × Bool × Int × Int × List Int)) ((if ((Int.tmod u9 (6 : Int)) == (0 : Int)) = true then
  (some (Out.go ((Int.tmod u9 (6 : Int)), (((Int.tmod u9 (6 : Int)) == (0 : Int)), (x6, (x7, (x8, (x1, (x2, (x3, (x4, (x5, ((0 : Int), ([] : List Int))))))))))))))
  else
  (some (Out.go ((Int.tmod u9 (6 : Int)), (((Int.tmod u9 (6 : Int)) == (1 : Int)), (x6, (x7, (x8, (x1, (x2, (x3, (x4, (x5, ((0 : Int), ([] : List Int)))))))))))))))) fun o => match o with
  | .go (z11, (z12, (z13, (z14, (z15, (z16, (z17, (z18, (z19, (z20, (z21, z22))))))))))) =>
  (if z12 = true then
  (if z20.length * 1 ≤ 140737488355328 then
  (Option.bind (rWrite n (z16, (z17, z20))) fun r23 =>
  (Option.bind (writeK n (z13, (z14, (z15, z20)))) fun r24 =>
  (if (r24.1 == r23.2.2) = true then
  some (r23.1, (r23.2.1, ((r24.2.2.2.2 == z20), (r24.2.1, (r24.2.2.1, r24.2.2.2.1)))))
  else
  some (r23.1, (r23.2.1, (false, (r24.2.1, (r24.2.2.1, r24.2.2.2.1))))))))
  else none)
  else
  (if (z11 == (2 : Int)) = true then
  (Option.bind (rRead n (z16, (z17, z19))) fun r25 =>
  (Option.bind (read n (z19, (z13, (z14, z15)))) fun r26 =>
  some (r25.1, (r25.2.1, ((r26.2.2.2 == r25.2.2), (r26.1, (r26.2.1, r26.2.2.1)))))))
  else
  (if (z11 == (3 : Int)) = true then
  (Option.bind (rRead n (z16, (z17, z19))) fun r27 =>
  (Option.bind (skip n (z19, (z13, (z14, z15)))) fun r28 =>
  some (r27.1, (r27.2.1, ((r28.1 == (r27.2.2.length : Int)), (r28.2.1, (r28.2.2.1, r28.2.2.2)))))))
  else
  (if (z11 == (4 : Int)) = true then
  (Option.bind (rLine n (z16, (z17, z19))) fun r29 =>
  (Option.bind (line n (z19, (z13, (z14, z15)))) fun r30 =>
  (if (r29.2.2.1 == r30.2.2.2.2) = true then
  (Option.bind (turnstilelaw02Num n r30.1) fun r31 =>
  some (r29.1, (r29.2.1, ((r31 == r29.2.2.2), (r30.2.1, (r30.2.2.1, r30.2.2.2.1))))))
  else
  some (r29.1, (r29.2.1, (false, (r30.2.1, (r30.2.2.1, r30.2.2.2.1))))))))
  else
  (if ((Int.tmod z19 (9 : Int)) != (0 : Int)) = true then
  some (z16, (z17, (true, (z13, (z14, z15)))))
  else
  (Option.bind (clear n (z13, (z14, z15))) fun r32 =>
  some (z16, (([] : List Int), ((r32.1 == (z17.length : Int)), (r32.2.1, (r32.2.2.1, r32.2.2.2)))))))))))
  | .ret r33 => some r33))
def sp_do_ (n : Nat) : Spec := ⟨pre_do_, post_do_, do_ n⟩
def env_do_ (n : Nat) : List (FuncId × Spec) := [(23, sp_rWrite n), (8, sp_writeK n), (8, sp_write n), (8, sp_write0 n), (24, sp_rRead n), (12, sp_read n), (12, sp_read0 n), (18, sp_skip n), (18, sp_skip0 n), (25, sp_rLine n), (10, sp_line n), (10, sp_line0 n), (11, sp_turnstilelaw02Num n), (26, sp_clear n), (26, sp_clear0 n)]
theorem run_do_ (n : Nat) (x : pre_do_.T) : fnRun Try.prog 54 (envOf (env_do_ n)) n Try.f14 ann_do_ pre_do_ post_do_ x = do_ n x := by kernel_rfl
theorem ok_do_ (n : Nat) : FnOK Try.prog 54 L0 14 (sp_do_ n) :=
  fn_run mixed Try.func14 (sp_do_ n) n ann_do_ (env_do_ n) (envOf_cons (ok_rWrite n) (envOf_cons (ok_writeK n) (envOf_cons (ok_write n) (envOf_cons (ok_write0 n) (envOf_cons (ok_rRead n) (envOf_cons (ok_read n) (envOf_cons (ok_read0 n) (envOf_cons (ok_skip n) (envOf_cons (ok_skip0 n) (envOf_cons (ok_rLine n) (envOf_cons (ok_line n) (envOf_cons (ok_line0 n) (envOf_cons (ok_turnstilelaw02Num n) (envOf_cons (ok_clear n) (envOf_cons (ok_clear0 n) envOf_nil))))))))))))))) (run_do_ n) (by kernel_rfl)
def pre_works : Shape := ⟨[], []⟩
def post_works : List Shape := [⟨[.c (.dat .bool)], []⟩]
def ann_works : Ann := .no
/-- what turnstile/turnstilelaw02.works comes to. -/
def works (n : Nat) (x : Unit) : Option (Bool) :=
  (Option.bind (rnew n (8 : Int)) fun r1 =>
  (match r1 with
  | Sum.inl a2 =>
  some false
  | Sum.inr b3 =>
  (Option.bind (writeK n (b3.1, (b3.2.1, (b3.2.2, ([(97 : Int), (98 : Int), (13 : Int), (10 : Int), (99 : Int), (100 : Int), (101 : Int), (102 : Int), (103 : Int), (104 : Int)] : List Int))))) fun r4 =>
  (Option.bind (line n ((10 : Int), (r4.2.1, (r4.2.2.1, r4.2.2.2.1)))) fun r5 =>
  (Option.bind (line n ((3 : Int), (r5.2.1, (r5.2.2.1, r5.2.2.2.1)))) fun r6 =>
  (if (r4.1 == (8 : Int)) = true then
  (if (r5.2.2.2.2 == ([(97 : Int), (98 : Int)] : List Int)) = true then
  (if (r5.1 == (0 : Int)) = true then
  (Option.bind (turnstilelaw02Num n r6.1) fun r7 =>
  (if (r7 == (2 : Int)) = true then
  (Option.bind (len n (r6.2.2.2.1, (r6.2.1, (r6.2.2.1, ())))) fun r8 =>
  (if (r8 == (4 : Int)) = true then
  (Option.bind (room n (r6.2.2.2.1, (r6.2.1, (r6.2.2.1, ())))) fun r9 =>
  some (r9 == (4 : Int)))
  else
  some false))
  else
  some false))
  else
  some false)
  else
  some false)
  else
  some false))))))
def sp_works (n : Nat) : Spec := ⟨pre_works, post_works, works n⟩
def env_works (n : Nat) : List (FuncId × Spec) := [(7, sp_rnew n), (8, sp_writeK n), (8, sp_write n), (8, sp_write0 n), (10, sp_line n), (10, sp_line0 n), (11, sp_turnstilelaw02Num n), (9, sp_len n), (9, sp_len0 n), (21, sp_room n), (21, sp_room0 n)]
theorem run_works (n : Nat) (x : pre_works.T) : fnRun Try.prog 54 (envOf (env_works n)) n Try.f6 ann_works pre_works post_works x = works n x := by kernel_rfl
theorem ok_works (n : Nat) : FnOK Try.prog 54 L0 6 (sp_works n) :=
  fn_run mixed Try.func6 (sp_works n) n ann_works (env_works n) (envOf_cons (ok_rnew n) (envOf_cons (ok_writeK n) (envOf_cons (ok_write n) (envOf_cons (ok_write0 n) (envOf_cons (ok_line n) (envOf_cons (ok_line0 n) (envOf_cons (ok_turnstilelaw02Num n) (envOf_cons (ok_len n) (envOf_cons (ok_len0 n) (envOf_cons (ok_room n) (envOf_cons (ok_room0 n) envOf_nil))))))))))) (run_works n) (by kernel_rfl)
def pre_ringCuts : Shape := ⟨[.c (.dat (.list (.int .u8))), .c (.dat (.list (.int .i64))), .c (.dat (.int .i64))], []⟩
def post_ringCuts : List Shape := [⟨[.c (.dat .bool)], []⟩]
def ann_ringCuts : Ann := (.two .no (.two .no (.two .no (.two .no (.two .no (.two .no (.two .no (.two (.two .no (.one (.loop ⟨[0, 1, 2, 7, 9, 11, 12], ⟨[.c (.dat (.list (.int .u8))), .c (.dat (.list (.int .i64))), .c (.dat (.int .i64)), .c (.ptr 500 0), .c (.ptr 502 0), .c (.dat (.int .i64)), .c (.dat (.int .i64))], [(500, .cells 56 [.own 501, .dat (.int .i64), .dat (.int .i64)]), (501, .row 5 (.int .u8)), (502, .cells 56 [.own 503, .dat (.int .i64), .dat (.int .i64)]), (503, .row 5 (.int .u8))]⟩⟩ (.two (.two (.join ⟨[0, 1, 2, 7, 9, 11, 12, 62], ⟨[.c (.dat (.list (.int .u8))), .c (.dat (.list (.int .i64))), .c (.dat (.int .i64)), .c (.ptr 500 0), .c (.ptr 502 0), .c (.dat (.int .i64)), .c (.dat (.int .i64)), .c (.dat .bool)], [(500, .cells 56 [.own 501, .dat (.int .i64), .dat (.int .i64)]), (501, .row 5 (.int .u8)), (502, .cells 56 [.own 503, .dat (.int .i64), .dat (.int .i64)]), (503, .row 5 (.int .u8))]⟩⟩ .no) .no) .no)))) (.two .no (.two (.two .no (.one (.loop ⟨[2, 7, 9, 14], ⟨[.c (.dat (.int .i64)), .c (.ptr 500 0), .c (.ptr 502 0), .c (.dat (.int .i64))], [(500, .cells 56 [.own 501, .dat (.int .i64), .dat (.int .i64)]), (501, .row 5 (.int .u8)), (502, .cells 56 [.own 503, .dat (.int .i64), .dat (.int .i64)]), (503, .row 5 (.int .u8))]⟩⟩ (.two .no (.two (.one (.two .no (.two .no (.two .no (.two (.two .no (.one (.loop ⟨[2, 7, 9, 14, 15, 16, 19], ⟨[.c (.dat (.int .i64)), .c (.ptr 500 0), .c (.ptr 502 0), .c (.dat (.int .i64)), .c (.own 504), .c (.dat .err), .c (.dat (.int .i64))], [(500, .cells 56 [.own 501, .dat (.int .i64), .dat (.int .i64)]), (501, .row 5 (.int .u8)), (502, .cells 56 [.own 503, .dat (.int .i64), .dat (.int .i64)]), (503, .row 5 (.int .u8)), (504, .row 5 (.int .u8))]⟩⟩ .no))) .no))))) .no))))) .no))))))))))
/-- what turnstile/turnstilelaw02.RingCuts comes to. -/
def ringCuts (n : Nat) (x : (List Int) × (List Int) × Int) : Option (Bool) :=
  match x with
  | (x1, (x2, x3)) =>
  (if (decide ((x1.length : Int) > (4096 : Int))) = true then
  (Option.bind (works n ()) fun r4 =>
  some r4)
  else
  (Option.bind (rnew n (4096 : Int)) fun r5 =>
  (match r5 with
  | Sum.inl a6 =>
  (Option.bind (rnew n (4096 : Int)) fun r8 =>
  (match r8 with
  | Sum.inl a9 =>
  some false
  | Sum.inr b10 =>
  some false))
  | Sum.inr b7 =>
  (Option.bind (rnew n (4096 : Int)) fun r11 =>
  (match r11 with
  | Sum.inl a12 =>
  some false
  | Sum.inr b13 =>
  (Option.bind (write n (x1, (b7.1, (b7.2.1, b7.2.2)))) fun r14 =>
  (loopF (X := (List Int) × (List Int) × Int × Int × Int × Int × Int × (List Int) × Int × Int × List Int) (A := Bool) (fun rec15 y16 => match y16 with
  | (a17, (a18, (a19, (a20, (a21, (a22, (a23, (a24, (a25, (a26, a27)))))))))) =>
  (Option.bind (α := Out ((List Int) × (List Int) × Int × Int × Int × Bool × Int × Int × (List Int) × Int × Int × List Int) (Bool)) ((if (decide (a21 < (a18.length : Int))) = true then
  (if (decide (a21 < (200 : Int))) = true then
  (some (Out.go (a17, (a18, (a19, (a20, (a21, ((decide (a20 < (a17.length : Int))), (a22, (a23, (a24, (a25, (a26, a27)))))))))))))
  else
  (some (Out.go (a17, (a18, (a19, (a20, (a21, (false, (a22, (a23, (a24, (a25, (a26, a27))))))))))))))
  else
  (some (Out.go (a17, (a18, (a19, (a20, (a21, (false, (a22, (a23, (a24, (a25, (a26, a27))))))))))))))) fun o => match o with
  | .go (z29, (z30, (z31, (z32, (z33, (z34, (z35, (z36, (z37, (z38, (z39, z40))))))))))) =>
  (if z34 = true then
  (Option.bind (idx z30 z33) fun v41 =>
  (let u42 : Int := (IntKind.wrap .i64 ((Int.tmod v41 (50 : Int)) + (50 : Int)))
  (let u43 : Int := (IntKind.wrap .i64 ((Int.tmod u42 (50 : Int)) + (1 : Int)))
  (let u44 : Int := (IntKind.wrap .i64 ((z29.length : Int) - z32))
  (let u45 : Int := (IntKind.wrap .i64 (z32 + (if u44 < u43 then u44 else u43)))
  (if 0 ≤ z32 ∧ z32 ≤ u45 ∧ u45 ≤ (z29.length : Int) then
  (let u46 : List Int := ((z29.drop z32.toNat).take (u45.toNat - z32.toNat))
  (Option.bind (write n (u46, (z38, (z39, z40)))) fun r47 =>
  (if (r47.1 != (if u44 < u43 then u44 else u43)) = true then
  some false
  else
  (Option.bind (len n (r47.2.2.2, (r47.2.1, (r47.2.2.1, ())))) fun r48 =>
  (if (decide (r48 > (4096 : Int))) = true then
  some false
  else
  (let u49 : Int := (IntKind.wrap .i64 (z32 + (if u44 < u43 then u44 else u43)))
  (let u50 : Int := (IntKind.wrap .i64 (z33 + (1 : Int)))
  rec15 (z29, (z30, (z31, (u49, (u50, (z35, (z36, (z37, (r47.2.1, (r47.2.2.1, r47.2.2.2)))))))))))))))))
  else none))))))
  else
  (if 0 ≤ z32 ∧ z32 ≤ (z29.length : Int) ∧ (z29.length : Int) ≤ (z29.length : Int) then
  (let u51 : List Int := ((z29.drop z32.toNat).take (((z29.length : Int)).toNat - z32.toNat))
  (Option.bind (write n (u51, (z38, (z39, z40)))) fun r52 =>
  (loopF (X := Int × Int × Int × Int × (List Int) × Int × Int × List Int) (A := Bool) (fun rec53 y54 => match y54 with
  | (a55, (a56, (a57, (a58, (a59, (a60, (a61, a62))))))) =>
  (if (decide (a56 < (4100 : Int))) = true then
  (Option.bind (line n (a55, (a57, (a58, a59)))) fun r63 =>
  (Option.bind (line n (a55, (a60, (a61, a62)))) fun r64 =>
  (if (!(r63.2.2.2.2 == r64.2.2.2.2)) = true then
  some false
  else
  (Option.bind (turnstilelaw02Num n r63.1) fun r65 =>
  (Option.bind (turnstilelaw02Num n r64.1) fun r66 =>
  (if (r65 != r66) = true then
  some false
  else
  (loopF (X := Int × Int × Int × Int × Int × Int × (List Int) × Int × Int × (List Int) × List Int) (A := Bool) (fun rec67 y68 => match y68 with
  | (a69, (a70, (a71, (a72, (a73, (a74, (a75, (a76, (a77, (a78, a79)))))))))) =>
  (if (decide (a72 < (a79.length : Int))) = true then
  (if 0 ≤ a72 ∧ a72 < (a79.length : Int) then
  (if ((a79.getD a72.toNat (0 : Int)) == (13 : Int)) = true then
  some false
  else
  (if 0 ≤ a72 ∧ a72 < (a79.length : Int) then
  (if ((a79.getD a72.toNat (0 : Int)) == (10 : Int)) = true then
  some false
  else
  (let u80 : Int := (IntKind.wrap .i64 (a72 + (1 : Int)))
  rec67 (a69, (a70, (a71, (u80, (a73, (a74, (a75, (a76, (a77, (a78, a79))))))))))))
  else none))
  else none)
  else
  (if (!(a71 == (0 : Int))) = true then
  (Option.bind (read n ((5000 : Int), (a73, (a74, a75)))) fun r81 =>
  (Option.bind (read n ((5000 : Int), (a76, (a77, a78)))) fun r82 =>
  (if (r81.2.2.2 == r82.2.2.2) = true then
  (Option.bind (works n ()) fun r83 =>
  some r83)
  else
  some false)))
  else
  (let u84 : Int := (IntKind.wrap .i64 (a70 + (1 : Int)))
  rec53 (a69, (u84, (a73, (a74, (a75, (a76, (a77, a78))))))))))) n (a55, (a56, (r63.1, ((0 : Int), (r63.2.1, (r63.2.2.1, (r63.2.2.2.1, (r64.2.1, (r64.2.2.1, (r64.2.2.2.1, r63.2.2.2.2)))))))))))))))))
  else
  (Option.bind (read n ((5000 : Int), (a57, (a58, a59)))) fun r85 =>
  (Option.bind (read n ((5000 : Int), (a60, (a61, a62)))) fun r86 =>
  (if (r85.2.2.2 == r86.2.2.2) = true then
  (Option.bind (works n ()) fun r87 =>
  some r87)
  else
  some false))))) n (z31, ((0 : Int), (z35, (z36, (z37, (r52.2.1, (r52.2.2.1, r52.2.2.2))))))))))
  else none))
  | .ret r88 => some r88)) n (x1, (x2, (x3, ((0 : Int), ((0 : Int), (r14.2.1, (r14.2.2.1, (r14.2.2.2, (b13.1, (b13.2.1, b13.2.2)))))))))))))))))
def sp_ringCuts (n : Nat) : Spec := ⟨pre_ringCuts, post_ringCuts, ringCuts n⟩
def env_ringCuts (n : Nat) : List (FuncId × Spec) := [(6, sp_works n), (7, sp_rnew n), (8, sp_writeK n), (8, sp_write n), (8, sp_write0 n), (9, sp_len n), (9, sp_len0 n), (10, sp_line n), (10, sp_line0 n), (11, sp_turnstilelaw02Num n), (12, sp_read n), (12, sp_read0 n)]
theorem run_ringCuts (n : Nat) (x : pre_ringCuts.T) : fnRun Try.prog 54 (envOf (env_ringCuts n)) n Try.f3 ann_ringCuts pre_ringCuts post_ringCuts x = ringCuts n x := by kernel_rfl
theorem ok_ringCuts (n : Nat) : FnOK Try.prog 54 L0 3 (sp_ringCuts n) :=
  fn_run mixed Try.func3 (sp_ringCuts n) n ann_ringCuts (env_ringCuts n) (envOf_cons (ok_works n) (envOf_cons (ok_rnew n) (envOf_cons (ok_writeK n) (envOf_cons (ok_write n) (envOf_cons (ok_write0 n) (envOf_cons (ok_len n) (envOf_cons (ok_len0 n) (envOf_cons (ok_line n) (envOf_cons (ok_line0 n) (envOf_cons (ok_turnstilelaw02Num n) (envOf_cons (ok_read n) (envOf_cons (ok_read0 n) envOf_nil)))))))))))) (run_ringCuts n) (by kernel_rfl)
def pre_ringRuns : Shape := ⟨[.c (.dat (.int .i64)), .c (.dat (.list (.pair (.int .i64) (.pair (.int .i64) (.pair (.list (.int .u8)) .unit))))), .c (.dat (.int .i64))], []⟩
def post_ringRuns : List Shape := [⟨[.c (.dat .bool)], []⟩]
def ann_ringRuns : Ann := (.two .no (.two .no (.two .no (.two .no (.two (.two .no (.one (.loop ⟨[1, 2, 7, 9, 11], ⟨[.c (.dat (.list (.pair (.int .i64) (.pair (.int .i64) (.pair (.list (.int .u8)) .unit))))), .c (.dat (.int .i64)), .c (.ptr 500 0), .c (.ptr 502 0), .c (.dat (.int .i64))], [(500, .cells 56 [.own 501, .dat (.int .i64), .dat (.int .i64)]), (501, .row 5 (.int .u8)), (502, .cells 39 [.dat (.int .i64), .dat (.list (.int .u8))])]⟩⟩ .no))) .no)))))
/-- what turnstile/turnstilelaw02.RingRuns comes to. -/
def ringRuns (n : Nat) (x : Int × (List (Int × (Int × (List Int × Unit)))) × Int) : Option (Bool) :=
  match x with
  | (x1, (x2, x3)) =>
  (Option.bind (rnew n x1) fun r4 =>
  (match r4 with
  | Sum.inl a5 =>
  (Option.bind (rNew n x1) fun r7 =>
  (if (r7.2.2 != (0 : Int)) = true then
  (Option.bind (turnstilelaw02Num n (1 : Int)) fun r8 =>
  (if (r8 == r7.2.2) = true then
  (if (r7.2.2 != (0 : Int)) = true then
  (Option.bind (works n ()) fun r9 =>
  some r9)
  else
  some false)
  else
  some false))
  else
  (Option.bind (turnstilelaw02Num n (1 : Int)) fun r10 =>
  (if (r10 == r7.2.2) = true then
  (if (r7.2.2 != (0 : Int)) = true then
  (Option.bind (works n ()) fun r11 =>
  some r11)
  else
  some false)
  else
  some false))))
  | Sum.inr b6 =>
  (Option.bind (rNew n x1) fun r12 =>
  (if (r12.2.2 != (0 : Int)) = true then
  some false
  else
  (loopF (X := (List (Int × (Int × (List Int × Unit)))) × Int × Int × Int × Int × (List Int) × Int × List Int) (A := Bool) (fun rec13 y14 => match y14 with
  | (a15, (a16, (a17, (a18, (a19, (a20, (a21, a22))))))) =>
  (if (decide (a17 < (a15.length : Int))) = true then
  (if (decide (a17 < (500 : Int))) = true then
  (Option.bind (idx a15 a17) fun v23 =>
  (Option.bind (do_ n (a21, (a22, (v23.1, (v23.2.1, (v23.2.2.1, (a18, (a19, a20)))))))) fun r24 =>
  (if (!r24.2.2.1) = true then
  some false
  else
  (Option.bind (same n ((r24.2.2.2.2.2, (r24.2.2.2.1, (r24.2.2.2.2.1, ()))), (r24.1, (r24.2.1, a16)))) fun r25 =>
  (if (!r25) = true then
  some false
  else
  (Option.bind (same n ((r24.2.2.2.2.2, (r24.2.2.2.1, (r24.2.2.2.2.1, ()))), (r24.1, (r24.2.1, a17)))) fun r26 =>
  (if (!r26) = true then
  some false
  else
  (let u27 : Int := (IntKind.wrap .i64 (a17 + (1 : Int)))
  rec13 (a15, (a16, (u27, (r24.2.2.2.1, (r24.2.2.2.2.1, (r24.2.2.2.2.2, (r24.1, r24.2.1)))))))))))))))
  else
  (Option.bind (works n ()) fun r28 =>
  some r28))
  else
  (Option.bind (works n ()) fun r29 =>
  some r29))) n (x2, (x3, ((0 : Int), (b6.1, (b6.2.1, (b6.2.2, (r12.1, r12.2.1))))))))))))
def sp_ringRuns (n : Nat) : Spec := ⟨pre_ringRuns, post_ringRuns, ringRuns n⟩
def env_ringRuns (n : Nat) : List (FuncId × Spec) := [(7, sp_rnew n), (13, sp_rNew n), (11, sp_turnstilelaw02Num n), (6, sp_works n), (14, sp_do_ n), (15, sp_same n)]
theorem run_ringRuns (n : Nat) (x : pre_ringRuns.T) : fnRun Try.prog 54 (envOf (env_ringRuns n)) n Try.f4 ann_ringRuns pre_ringRuns post_ringRuns x = ringRuns n x := by kernel_rfl
theorem ok_ringRuns (n : Nat) : FnOK Try.prog 54 L0 4 (sp_ringRuns n) :=
  fn_run mixed Try.func4 (sp_ringRuns n) n ann_ringRuns (env_ringRuns n) (envOf_cons (ok_rnew n) (envOf_cons (ok_rNew n) (envOf_cons (ok_turnstilelaw02Num n) (envOf_cons (ok_works n) (envOf_cons (ok_do_ n) (envOf_cons (ok_same n) envOf_nil)))))) (run_ringRuns n) (by kernel_rfl)
def pre_ringApart : Shape := ⟨[.c (.dat (.list (.int .u8))), .c (.dat (.int .i64))], []⟩
def post_ringApart : List Shape := [⟨[.c (.dat .bool)], []⟩]
def ann_ringApart : Ann := (.two .no (.two .no (.two .no (.two .no (.two .no (.two .no (.two .no (.two .no (.two (.two .no (.one (.loop ⟨[0, 1, 5, 7, 8, 9], ⟨[.c (.dat (.list (.int .u8))), .c (.dat (.int .i64)), .c (.ptr 500 0), .c (.own 502), .c (.ptr 503 0), .c (.dat (.int .i64))], [(500, .cells 56 [.own 501, .dat (.int .i64), .dat (.int .i64)]), (501, .row 5 (.int .u8)), (502, .row 5 (.int .u8)), (503, .cells 56 [.own 504, .dat (.int .i64), .dat (.int .i64)]), (504, .row 5 (.int .u8))]⟩⟩ .no))) (.two .no (.two (.two .no (.one (.loop ⟨[0, 1, 5, 8, 10, 11], ⟨[.c (.dat (.list (.int .u8))), .c (.dat (.int .i64)), .c (.ptr 500 0), .c (.ptr 502 0), .c (.own 504), .c (.dat (.int .i64))], [(500, .cells 56 [.own 501, .dat (.int .i64), .dat (.int .i64)]), (501, .row 5 (.int .u8)), (502, .cells 56 [.own 503, .dat (.int .i64), .dat (.int .i64)]), (503, .row 5 (.int .u8)), (504, .row 5 (.int .u8))]⟩⟩ .no))) .no)))))))))))
/-- what turnstile/turnstilelaw02.RingApart comes to. -/
def ringApart (n : Nat) (x : (List Int) × Int) : Option (Bool) :=
  match x with
  | (x1, x2) =>
  (Option.bind (rnew n (4096 : Int)) fun r3 =>
  (match r3 with
  | Sum.inl a4 =>
  some false
  | Sum.inr b5 =>
  (if (decide ((x1.length : Int) > (4096 : Int))) = true then
  (Option.bind (works n ()) fun r6 =>
  some r6)
  else
  (if x1.length * 1 ≤ 140737488355328 then
  (Option.bind (writeK n (b5.1, (b5.2.1, (b5.2.2, x1)))) fun r7 =>
  (Option.bind (clone n (r7.2.2.2.1, (r7.2.1, (r7.2.2.1, ())))) fun r8 =>
  (loopF (X := (List Int) × Int × Int × Int × Int × (List Int) × (List Int) × Int × Int × List Int) (A := Bool) (fun rec9 y10 => match y10 with
  | (a11, (a12, (a13, (a14, (a15, (a16, (a17, (a18, (a19, a20))))))))) =>
  (if (decide (a13 < (a17.length : Int))) = true then
  (if 0 ≤ a13 ∧ a13 < (a17.length : Int) then
  (let u21 : Int := (IntKind.wrap .i64 (a13 + (1 : Int)))
  rec9 (a11, (a12, (u21, (a14, (a15, (a16, ((a17.set a13.toNat (33 : Int)), (a18, (a19, a20))))))))))
  else none)
  else
  (Option.bind (peek n ((a20, (a18, (a19, ()))), a12)) fun r22 =>
  (loopF (X := (List Int) × Int × Int × Int × Int × (List Int) × Int × Int × (List Int) × List Int) (A := Bool) (fun rec23 y24 => match y24 with
  | (a25, (a26, (a27, (a28, (a29, (a30, (a31, (a32, (a33, a34))))))))) =>
  (if (decide (a27 < (a34.length : Int))) = true then
  (if 0 ≤ a27 ∧ a27 < (a34.length : Int) then
  (let u35 : Int := (IntKind.wrap .i64 (a27 + (1 : Int)))
  rec23 (a25, (a26, (u35, (a28, (a29, (a30, (a31, (a32, (a33, (a34.set a27.toNat (63 : Int))))))))))))
  else none)
  else
  (Option.bind (skip n (a26, (a31, (a32, a33)))) fun r36 =>
  (Option.bind (writeK n (r36.2.1, (r36.2.2.1, (r36.2.2.2, ([(109 : Int), (111 : Int), (114 : Int), (101 : Int)] : List Int))))) fun r37 =>
  (Option.bind (line0 n (5 : Int)) fun r38 =>
  (Option.bind (at_0 n (0 : Int)) fun r39 =>
  (Option.bind (read n ((a25.length : Int), (a28, (a29, a30)))) fun r40 =>
  (if (r40.2.2.2 == a25) = true then
  (Option.bind (len n (r40.2.2.1, (r40.1, (r40.2.1, ())))) fun r41 =>
  (if (r41 == (0 : Int)) = true then
  (Option.bind (write0 n a25) fun r42 =>
  (if (r42 == (0 : Int)) = true then
  (Option.bind (len0 n ()) fun r43 =>
  (if (r43 == (0 : Int)) = true then
  (Option.bind (index0 n ((97 : Int), (0 : Int))) fun r44 =>
  (if (r44 == (-1 : Int)) = true then
  (if ((r38.2.length : Int) == (0 : Int)) = true then
  (Option.bind (turnstilelaw02Num n r38.1) fun r45 =>
  (if (r45 == (8 : Int)) = true then
  (if (!r39.2) = true then
  (Option.bind (clone0 n ()) fun r46 =>
  (Option.bind (works n ()) fun r47 =>
  some r47))
  else
  some false)
  else
  some false))
  else
  some false)
  else
  some false))
  else
  some false))
  else
  some false))
  else
  some false))
  else
  some false)))))))) n (a11, (a12, ((0 : Int), (a14, (a15, (a16, (a18, (a19, (a20, r22))))))))))))) n (x1, (x2, ((0 : Int), (r7.2.1, (r7.2.2.1, (r7.2.2.2.1, (r7.2.2.2.2, (r8.1, (r8.2.1, r8.2.2))))))))))))
  else none))))
def sp_ringApart (n : Nat) : Spec := ⟨pre_ringApart, post_ringApart, ringApart n⟩
def env_ringApart (n : Nat) : List (FuncId × Spec) := [(7, sp_rnew n), (6, sp_works n), (8, sp_writeK n), (8, sp_write n), (8, sp_write0 n), (16, sp_clone n), (16, sp_clone0 n), (17, sp_peek n), (17, sp_peek0 n), (18, sp_skip n), (18, sp_skip0 n), (10, sp_line n), (10, sp_line0 n), (19, sp_at_ n), (19, sp_at_0 n), (12, sp_read n), (12, sp_read0 n), (9, sp_len n), (9, sp_len0 n), (20, sp_index n), (20, sp_index0 n), (11, sp_turnstilelaw02Num n)]
theorem run_ringApart (n : Nat) (x : pre_ringApart.T) : fnRun Try.prog 54 (envOf (env_ringApart n)) n Try.f5 ann_ringApart pre_ringApart post_ringApart x = ringApart n x := by kernel_rfl
theorem ok_ringApart (n : Nat) : FnOK Try.prog 54 L0 5 (sp_ringApart n) :=
  fn_run mixed Try.func5 (sp_ringApart n) n ann_ringApart (env_ringApart n) (envOf_cons (ok_rnew n) (envOf_cons (ok_works n) (envOf_cons (ok_writeK n) (envOf_cons (ok_write n) (envOf_cons (ok_write0 n) (envOf_cons (ok_clone n) (envOf_cons (ok_clone0 n) (envOf_cons (ok_peek n) (envOf_cons (ok_peek0 n) (envOf_cons (ok_skip n) (envOf_cons (ok_skip0 n) (envOf_cons (ok_line n) (envOf_cons (ok_line0 n) (envOf_cons (ok_at_ n) (envOf_cons (ok_at_0 n) (envOf_cons (ok_read n) (envOf_cons (ok_read0 n) (envOf_cons (ok_len n) (envOf_cons (ok_len0 n) (envOf_cons (ok_index n) (envOf_cons (ok_index0 n) (envOf_cons (ok_turnstilelaw02Num n) envOf_nil)))))))))))))))))))))) (run_ringApart n) (by kernel_rfl)
end Go.Sx.Ytojecfdacijcaaa
