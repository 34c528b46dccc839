/- Part of a proof by a small interpreter on plain values; no condition. -/
import Derived.Test.YtankgmieldchdaaDoorSx19
import Derived.Test.YtankgmieldchdaaDoorProg
/-! written by program: the functions as plain ones, and their contracts. -/
namespace Go.Sx.YtankgmieldchdaaDoor
open Go Go.Sx Go.Proofs
set_option autoImplicit false
set_option maxRecDepth 100000
set_option linter.unusedVariables false
theorem mixed : Tryd.prog.follows .mixedOrders = true := by kernel_rfl
/-- the constants of the rounds; the state at the begin. -/
def cK : List Int := [1116352408, 1899447441, 3049323471, 3921009573, 961987163, 1508970993, 2453635748, 2870763221, 3624381080, 310598401, 607225278, 1426881987, 1925078388, 2162078206, 2614888103, 3248222580, 3835390401, 4022224774, 264347078, 604807628, 770255983, 1249150122, 1555081692, 1996064986, 2554220882, 2821834349, 2952996808, 3210313671, 3336571891, 3584528711, 113926993, 338241895, 666307205, 773529912, 1294757372, 1396182291, 1695183700, 1986661051, 2177026350, 2456956037, 2730485921, 2820302411, 3259730800, 3345764771, 3516065817, 3600352804, 4094571909, 275423344, 430227734, 506948616, 659060556, 883997877, 958139571, 1322822218, 1537002063, 1747873779, 1955562222, 2024104815, 2227730452, 2361852424, 2428436474, 2756734187, 3204031479, 3329325298]
def cF : List Int := [1779033703, 3144134277, 1013904242, 2773480762, 1359893119, 2600822924, 528734635, 1541459225]
def GL : List (Nat × ((κ : K) × κ.T)) := [(1, ⟨.arr 64 (.int .u32), cK⟩), (0, ⟨.arr 8 (.int .u32), cF⟩)]
/-- what the package-level variables hold. -/
def LG (R : Part) : Prop := ∀ p ∈ GL, ∃ arr ty fr, R p.1 = some (.cells arr ty fr) ∧ p.2.1.Rd 57 R p.2.2 (arr.toList.take p.2.1.sz)
theorem GL_ok : ∀ R : Part, LG R → ∀ p ∈ GL, ∃ arr ty fr, R p.1 = some (.cells arr ty fr) ∧ p.2.1.Rd 57 R p.2.2 (arr.toList.take p.2.1.sz) := fun _ h => h
def pre_hnew : Shape := ⟨[], []⟩
def post_hnew : List Shape := [⟨[.c (.ptr 0 0)], [(0, .segs 54 [.blk (.arr 8 (.int .u32)), .blk (.arr 64 (.int .u8)), .one (.dat (.int .i64)), .one (.dat (.int .i64))])]⟩]
def ann_hnew : Ann := .no
/-- what turnstile/sha.New comes to. -/
def hnew (n : Nat) (x : Unit) : Option ((List Int) × (List Int) × Int × Int) :=
  some (cF, ((List.replicate 64 (0 : Int)), ((0 : Int), (0 : Int))))
def sp_hnew (n : Nat) : Spec := ⟨pre_hnew, post_hnew, hnew n⟩
def env_hnew (n : Nat) : List (FuncId × Spec) := []
theorem run_hnew (n : Nat) (x : pre_hnew.T) : fnRun Tryd.prog 57 (envG (env_hnew n) [] (glOf GL)) n Tryd.f7 ann_hnew pre_hnew post_hnew x = hnew n x := by kernel_rfl
theorem ok_hnew (n : Nat) : FnOK Tryd.prog 57 LG 7 (sp_hnew n) :=
  fn_run mixed Tryd.func7 (sp_hnew n) n ann_hnew (env_hnew n) envOf_nil [] (glOf GL) (glOf_ok GL_ok) (run_hnew n) (by kernel_rfl)
def pre_text : Shape := ⟨[.sg [.blk (.arr 32 (.int .u8))]], []⟩
def post_text : List Shape := [⟨[.c (.dat .str)], []⟩]
def ann_text : Ann := (.two .no (.two .no (.two (.two .no (.one (.loop ⟨[3, 6, 7], ⟨[.c (.own 500), .sg [.blk (.arr 32 (.int .u8))], .c (.dat (.int .i64))], [(500, .row 5 (.int .u8))]⟩⟩ .no))) .no)))
/-- what turnstile/sha.Text comes to. -/
def text (n : Nat) (x : List Int) : Option (List Int) :=
  (if 32 = x.length then
  (if 32 = x.length then
  (loopF (X := (List Int) × Int × List Int) (A := List Int) (fun rec2 y3 => match y3 with
  | (a4, (a5, a6)) =>
  (if (decide (a5 < (32 : Int))) = true then
  (Option.bind (idx a4 a5) fun v7 =>
  (Option.bind (idx ([(48 : Int), (49 : Int), (50 : Int), (51 : Int), (52 : Int), (53 : Int), (54 : Int), (55 : Int), (56 : Int), (57 : Int), (97 : Int), (98 : Int), (99 : Int), (100 : Int), (101 : Int), (102 : Int)] : List Int) (Int.fdiv v7 16)) fun v8 =>
  (Option.bind (idx ([(48 : Int), (49 : Int), (50 : Int), (51 : Int), (52 : Int), (53 : Int), (54 : Int), (55 : Int), (56 : Int), (57 : Int), (97 : Int), (98 : Int), (99 : Int), (100 : Int), (101 : Int), (102 : Int)] : List Int) (bits .and .u8 v7 (15 : Int))) fun v9 =>
  (if (a6.length + 2) * 1 ≤ 140737488355328 then
  rec2 (a4, ((IntKind.wrap .i64 (a5 + (1 : Int))), (a6 ++ ([v8, v9] : List Int))))
  else none))))
  else
  some a6)) n (x, ((0 : Int), ([] : List Int))))
  else none)
  else none)
def sp_text (n : Nat) : Spec := ⟨pre_text, post_text, text n⟩
def env_text (n : Nat) : List (FuncId × Spec) := []
theorem run_text (n : Nat) (x : pre_text.T) : fnRun Tryd.prog 57 (envG (env_text n) [] (fun _ => none)) n Tryd.f9 ann_text pre_text post_text x = text n x := by kernel_rfl
theorem ok_text (n : Nat) : FnOK Tryd.prog 57 LG 9 (sp_text n) :=
  fn_run mixed Tryd.func9 (sp_text n) n ann_text (env_text n) envOf_nil [] (fun _ => none) gl_none (run_text n) (by kernel_rfl)
def pre_rText : Shape := ⟨[.sg [.blk (.arr 32 (.int .u8))]], []⟩
def post_rText : List Shape := [⟨[.c (.dat .str)], []⟩]
def ann_rText : Ann := (.two .no (.two .no (.two (.two .no (.one (.loop ⟨[1, 3, 4], ⟨[.c (.arr 500 1), .c (.dat .str), .c (.dat (.int .i64))], [(500, .row 24 (.int .u8))]⟩⟩ .no))) .no)))
/-- what turnstile/turnstileref03.Text comes to. -/
def rText (n : Nat) (x : List Int) : Option (List Int) :=
  (if 32 = x.length then
  (loopF (X := (List Int) × Int × List Int) (A := List Int) (fun rec2 y3 => match y3 with
  | (a4, (a5, a6)) =>
  (if (decide (a5 < (32 : Int))) = true then
  (if 32 = a6.length then
  (if 0 ≤ a5 ∧ a5 < (a6.length : Int) then
  (let u7 : Int := (Int.fdiv (a6.getD a5.toNat (0 : Int)) 16)
  (if 32 = a6.length then
  (if 0 ≤ a5 ∧ a5 < (a6.length : Int) then
  (let u8 : Int := (Int.fdiv (a6.getD a5.toNat (0 : Int)) 16)
  (if 0 ≤ u7 ∧ u7 ≤ (IntKind.wrap .u8 (u8 + (1 : Int))) ∧ (IntKind.wrap .u8 (u8 + (1 : Int))) ≤ (16 : Int) then
  (let u9 : List Int := ((([(48 : Int), (49 : Int), (50 : Int), (51 : Int), (52 : Int), (53 : Int), (54 : Int), (55 : Int), (56 : Int), (57 : Int), (97 : Int), (98 : Int), (99 : Int), (100 : Int), (101 : Int), (102 : Int)] : List Int).drop u7.toNat).take ((IntKind.wrap .u8 (u8 + (1 : Int))).toNat - u7.toNat))
  (if a4.length + u9.length ≤ 140737488355328 then
  (if 32 = a6.length then
  (if 0 ≤ a5 ∧ a5 < (a6.length : Int) then
  (let u10 : Int := (bits .and .u8 (a6.getD a5.toNat (0 : Int)) (15 : Int))
  (if 32 = a6.length then
  (if 0 ≤ a5 ∧ a5 < (a6.length : Int) then
  (let u11 : Int := (bits .and .u8 (a6.getD a5.toNat (0 : Int)) (15 : Int))
  (if 0 ≤ u10 ∧ u10 ≤ (IntKind.wrap .u8 (u11 + (1 : Int))) ∧ (IntKind.wrap .u8 (u11 + (1 : Int))) ≤ (16 : Int) then
  (let u12 : List Int := ((([(48 : Int), (49 : Int), (50 : Int), (51 : Int), (52 : Int), (53 : Int), (54 : Int), (55 : Int), (56 : Int), (57 : Int), (97 : Int), (98 : Int), (99 : Int), (100 : Int), (101 : Int), (102 : Int)] : List Int).drop u10.toNat).take ((IntKind.wrap .u8 (u11 + (1 : Int))).toNat - u10.toNat))
  (if (a4 ++ u9).length + u12.length ≤ 140737488355328 then
  rec2 (((a4 ++ u9) ++ u12), ((IntKind.wrap .i64 (a5 + (1 : Int))), a6))
  else none))
  else none))
  else none)
  else none))
  else none)
  else none)
  else none))
  else none))
  else none)
  else none))
  else none)
  else none)
  else
  some a4)) n (([] : List Int), ((0 : Int), x)))
  else none)
def sp_rText (n : Nat) : Spec := ⟨pre_rText, post_rText, rText n⟩
def env_rText (n : Nat) : List (FuncId × Spec) := []
theorem run_rText (n : Nat) (x : pre_rText.T) : fnRun Tryd.prog 57 (envG (env_rText n) [] (fun _ => none)) n Tryd.f10 ann_rText pre_rText post_rText x = rText n x := by kernel_rfl
theorem ok_rText (n : Nat) : FnOK Tryd.prog 57 LG 10 (sp_rText n) :=
  fn_run mixed Tryd.func10 (sp_rText n) n ann_rText (env_rText n) envOf_nil [] (fun _ => none) gl_none (run_rText n) (by kernel_rfl)
def pre_hlen : Shape := ⟨[.c (.ref (.pair (.arr 8 (.int .u32)) (.pair (.arr 64 (.int .u8)) (.pair (.int .i64) (.pair (.int .i64) .unit)))))], []⟩
def post_hlen : List Shape := [⟨[.c (.dat (.int .i64))], []⟩]
def ann_hlen : Ann := .no
/-- what (turnstile/sha.Hash).Len comes to. -/
def hlen (n : Nat) (x : (List Int × (List Int × (Int × (Int × Unit))))) : Option (Int) :=
  some x.2.2.2.1
def sp_hlen (n : Nat) : Spec := ⟨pre_hlen, post_hlen, hlen n⟩
def env_hlen (n : Nat) : List (FuncId × Spec) := []
theorem run_hlen (n : Nat) (x : pre_hlen.T) : fnRun Tryd.prog 57 (envG (env_hlen n) [] (fun _ => none)) n Tryd.f12 ann_hlen pre_hlen post_hlen x = hlen n x := by kernel_rfl
theorem ok_hlen (n : Nat) : FnOK Tryd.prog 57 LG 12 (sp_hlen n) :=
  fn_run mixed Tryd.func12 (sp_hlen n) n ann_hlen (env_hlen n) envOf_nil [] (fun _ => none) gl_none (run_hlen n) (by kernel_rfl)
def pre_hclone : Shape := ⟨[.c (.ref (.pair (.arr 8 (.int .u32)) (.pair (.arr 64 (.int .u8)) (.pair (.int .i64) (.pair (.int .i64) .unit)))))], []⟩
def post_hclone : List Shape := [⟨[.c (.ptr 0 0)], [(0, .segs 54 [.blk (.arr 8 (.int .u32)), .blk (.arr 64 (.int .u8)), .one (.dat (.int .i64)), .one (.dat (.int .i64))])]⟩]
def ann_hclone : Ann := .no
/-- what (turnstile/sha.Hash).Clone comes to. -/
def hclone (n : Nat) (x : (List Int × (List Int × (Int × (Int × Unit))))) : Option ((List Int) × (List Int) × Int × Int) :=
  some (x.1, (x.2.1, (x.2.2.1, x.2.2.2.1)))
def sp_hclone (n : Nat) : Spec := ⟨pre_hclone, post_hclone, hclone n⟩
def env_hclone (n : Nat) : List (FuncId × Spec) := []
theorem run_hclone (n : Nat) (x : pre_hclone.T) : fnRun Tryd.prog 57 (envG (env_hclone n) [] (fun _ => none)) n Tryd.f15 ann_hclone pre_hclone post_hclone x = hclone n x := by kernel_rfl
theorem ok_hclone (n : Nat) : FnOK Tryd.prog 57 LG 15 (sp_hclone n) :=
  fn_run mixed Tryd.func15 (sp_hclone n) n ann_hclone (env_hclone n) envOf_nil [] (fun _ => none) gl_none (run_hclone n) (by kernel_rfl)
def pre_pad : Shape := ⟨[.c (.dat (.int .i64))], []⟩
def post_pad : List Shape := [⟨[.c (.dat (.list (.int .u8))), .c (.dat .err)], []⟩]
def ann_pad : Ann := (.two .no (.two .no (.two .no (.two .no (.two (.two .no (.one (.loop ⟨[0, 4, 21], ⟨[.c (.dat (.int .i64)), .c (.own 500), .c (.dat (.int .i64))], [(500, .row 5 (.int .u8))]⟩⟩ .no))) .no)))))
/-- what turnstile/sha.Pad comes to. -/
def pad (n : Nat) (x : Int) : Option ((List Int) × Int) :=
  (if (decide (x < (0 : Int))) = true then
  some (([] : List Int), (1 : Int))
  else
  (if (decide (x > (1152921504606846976 : Int))) = true then
  some (([] : List Int), (1 : Int))
  else
  (let u2 : Int := (Int.tmod (IntKind.wrap .i64 (x + (8 : Int))) (64 : Int))
  (let u3 : Int := (IntKind.wrap .i64 ((64 : Int) - u2))
  (if 0 ≤ (IntKind.wrap .i64 (u3 + (8 : Int))) ∧ (IntKind.wrap .i64 (u3 + (8 : Int))) ≤ (IntKind.wrap .i64 (u3 + (8 : Int))) ∧ (1 : Int) * (IntKind.wrap .i64 (u3 + (8 : Int))) ≤ 140737488355328 then
  (let u4 : List Int := (List.replicate (IntKind.wrap .i64 (u3 + (8 : Int))).toNat (0 : Int))
  (if 0 ≤ (0 : Int) ∧ (0 : Int) < (u4.length : Int) then
  (loopF (X := Int × Int × List Int) (A := (List Int) × Int) (fun rec5 y6 => match y6 with
  | (a7, (a8, a9)) =>
  (if (decide (a8 < (8 : Int))) = true then
  (let u10 : Int := (IntKind.wrap .i64 ((a9.length : Int) - (1 : Int)))
  (if (IntKind.wrap .i64 ((8 : Int) * a8)) < 0 then none else (let u11 : Int := (Int.fdiv (IntKind.wrap .i64 (a7 * 8)) (2 ^ (min (IntKind.wrap .i64 ((8 : Int) * a8)).toNat 64)))
  (if 0 ≤ (IntKind.wrap .i64 (u10 - a8)) ∧ (IntKind.wrap .i64 (u10 - a8)) < (a9.length : Int) then
  (let u12 : List Int := (a9.set (IntKind.wrap .i64 (u10 - a8)).toNat (IntKind.wrap .u8 u11))
  rec5 (a7, ((IntKind.wrap .i64 (a8 + (1 : Int))), u12)))
  else none))))
  else
  some (a9, (0 : Int)))) n (x, ((0 : Int), (u4.set 0 (128 : Int)))))
  else none))
  else none)))))
def sp_pad (n : Nat) : Spec := ⟨pre_pad, post_pad, pad n⟩
def env_pad (n : Nat) : List (FuncId × Spec) := []
theorem run_pad (n : Nat) (x : pre_pad.T) : fnRun Tryd.prog 57 (envG (env_pad n) [] (fun _ => none)) n Tryd.f18 ann_pad pre_pad post_pad x = pad n x := by kernel_rfl
theorem ok_pad (n : Nat) : FnOK Tryd.prog 57 LG 18 (sp_pad n) :=
  fn_run mixed Tryd.func18 (sp_pad n) n ann_pad (env_pad n) envOf_nil [] (fun _ => none) gl_none (run_pad n) (by kernel_rfl)
def pre_rPad : Shape := ⟨[.c (.dat (.int .i64))], []⟩
def post_rPad : List Shape := [⟨[.c (.dat (.list (.int .u8))), .c (.dat (.int .i64))], []⟩]
def ann_rPad : Ann := (.two .no (.two .no (.two .no (.two .no (.two (.one (.loop ⟨[0, 4], ⟨[.c (.dat (.int .i64)), .c (.own 500)], [(500, .row 5 (.int .u8))]⟩⟩ .no)) (.two .no (.two (.two .no (.one (.loop ⟨[4, 5, 6], ⟨[.c (.own 500), .c (.dat (.int .u64)), .c (.dat (.int .i64))], [(500, .row 5 (.int .u8))]⟩⟩ .no))) .no)))))))
/-- what turnstile/turnstileref03.Pad comes to. -/
def rPad (n : Nat) (x : Int) : Option ((List Int) × Int) :=
  (if (decide (x < (0 : Int))) = true then
  some (([] : List Int), (1 : Int))
  else
  (if (decide (x > (1152921504606846976 : Int))) = true then
  some (([] : List Int), (1 : Int))
  else
  (loopF (X := Int × List Int) (A := (List Int) × Int) (fun rec2 y3 => match y3 with
  | (a4, a5) =>
  (let u6 : Int := (IntKind.wrap .i64 (a4 + (a5.length : Int)))
  (let u7 : Int := (Int.tmod (IntKind.wrap .i64 (u6 + (8 : Int))) (64 : Int))
  (if (u7 != (0 : Int)) = true then
  (if (a5.length + 1) * 1 ≤ 140737488355328 then
  rec2 (a4, (a5 ++ ([(0 : Int)] : List Int)))
  else none)
  else
  (let u8 : Int := (IntKind.wrap .u64 ((IntKind.wrap .u64 a4) * (8 : Int)))
  (loopF (X := Int × Int × List Int) (A := (List Int) × Int) (fun rec9 y10 => match y10 with
  | (a11, (a12, a13)) =>
  (if (decide (a12 ≥ (0 : Int))) = true then
  (let u14 : Int := (IntKind.wrap .i64 ((8 : Int) * a12))
  (if (IntKind.wrap .u64 u14) < 0 then none else (let u15 : Int := (Int.fdiv a11 (2 ^ (min (IntKind.wrap .u64 u14).toNat 64)))
  (if (a13.length + 1) * 1 ≤ 140737488355328 then
  (let u16 : List Int := (a13 ++ ([(IntKind.wrap .u8 u15)] : List Int))
  (let u17 : Int := (IntKind.wrap .i64 (a12 - (1 : Int)))
  rec9 (a11, (u17, u16))))
  else none))))
  else
  some (a13, (0 : Int)))) n (u8, ((7 : Int), a5)))))))) n (x, ([(128 : Int)] : List Int)))))
def sp_rPad (n : Nat) : Spec := ⟨pre_rPad, post_rPad, rPad n⟩
def env_rPad (n : Nat) : List (FuncId × Spec) := []
theorem run_rPad (n : Nat) (x : pre_rPad.T) : fnRun Tryd.prog 57 (envG (env_rPad n) [] (fun _ => none)) n Tryd.f19 ann_rPad pre_rPad post_rPad x = rPad n x := by kernel_rfl
theorem ok_rPad (n : Nat) : FnOK Tryd.prog 57 LG 19 (sp_rPad n) :=
  fn_run mixed Tryd.func19 (sp_rPad n) n ann_rPad (env_rPad n) envOf_nil [] (fun _ => none) gl_none (run_rPad n) (by kernel_rfl)
def pre_rRotr : Shape := ⟨[.c (.dat (.int .u32)), .c (.dat (.int .u64))], []⟩
def post_rRotr : List Shape := [⟨[.c (.dat (.int .u32))], []⟩]
def ann_rRotr : Ann := .no
/-- what turnstile/turnstileref03.rotr comes to. -/
def rRotr (n : Nat) (x : Int × Int) : Option (Int) :=
  match x with
  | (x1, x2) =>
  (if x2 < 0 then none else (let u3 : Int := (Int.fdiv x1 (2 ^ (min x2.toNat 32)))
  (let u4 : Int := (IntKind.wrap .u64 ((32 : Int) - x2))
  (if u4 < 0 then none else (let u5 : Int := (IntKind.wrap .u32 (x1 * 2 ^ (min u4.toNat 32)))
  some (bits .or .u32 u3 u5))))))
def sp_rRotr (n : Nat) : Spec := ⟨pre_rRotr, post_rRotr, rRotr n⟩
def env_rRotr (n : Nat) : List (FuncId × Spec) := []
theorem run_rRotr (n : Nat) (x : pre_rRotr.T) : fnRun Tryd.prog 57 (envG (env_rRotr n) [] (fun _ => none)) n Tryd.f26 ann_rRotr pre_rRotr post_rRotr x = rRotr n x := by kernel_rfl
theorem ok_rRotr (n : Nat) : FnOK Tryd.prog 57 LG 26 (sp_rRotr n) :=
  fn_run mixed Tryd.func26 (sp_rRotr n) n ann_rRotr (env_rRotr n) envOf_nil [] (fun _ => none) gl_none (run_rRotr n) (by kernel_rfl)
def pre_rPrime : Shape := ⟨[.c (.dat (.int .i64))], []⟩
def post_rPrime : List Shape := [⟨[.c (.dat (.int .u64))], []⟩]
def ann_rPrime : Ann := (.two .no (.two .no (.one (.loop ⟨[0, 3], ⟨[.c (.dat (.int .i64)), .c (.dat (.int .u64))], []⟩⟩ (.one (.two .no (.two (.two .no (.one (.loop ⟨[0, 3, 4, 5], ⟨[.c (.dat (.int .i64)), .c (.dat (.int .u64)), .c (.dat .bool), .c (.dat (.int .u64))], []⟩⟩ .no))) .no)))))))
/-- what turnstile/turnstileref03.prime comes to. -/
def rPrime (n : Nat) (x : Int) : Option (Int) :=
  (loopF (X := Int × Int) (A := Int) (fun rec2 y3 => match y3 with
  | (a4, a5) =>
  (loopF (X := Int × Int × Bool × Int) (A := Int) (fun rec6 y7 => match y7 with
  | (a8, (a9, (a10, a11))) =>
  (if (decide ((IntKind.wrap .u64 (a11 * a11)) ≤ a9)) = true then
  (if a10 = true then
  (if a11 = 0 then none else
  (let u12 : Int := (IntKind.wrap .u64 (a11 + (1 : Int)))
  rec6 (a8, (a9, (((Int.tmod a9 a11) != (0 : Int)), u12)))))
  else
  (let u13 : Int := (IntKind.wrap .u64 (a11 + (1 : Int)))
  rec6 (a8, (a9, (false, u13)))))
  else
  (if a10 = true then
  (if (a8 == (0 : Int)) = true then
  some a9
  else
  (if a10 = true then
  rec2 ((IntKind.wrap .i64 (a8 - (1 : Int))), (IntKind.wrap .u64 (a9 + (1 : Int))))
  else
  rec2 (a8, (IntKind.wrap .u64 (a9 + (1 : Int))))))
  else
  (if a10 = true then
  rec2 ((IntKind.wrap .i64 (a8 - (1 : Int))), (IntKind.wrap .u64 (a9 + (1 : Int))))
  else
  rec2 (a8, (IntKind.wrap .u64 (a9 + (1 : Int)))))))) n (a4, (a5, (true, (2 : Int)))))) n (x, (2 : Int)))
def sp_rPrime (n : Nat) : Spec := ⟨pre_rPrime, post_rPrime, rPrime n⟩
def env_rPrime (n : Nat) : List (FuncId × Spec) := []
theorem run_rPrime (n : Nat) (x : pre_rPrime.T) : fnRun Tryd.prog 57 (envG (env_rPrime n) [] (fun _ => none)) n Tryd.f29 ann_rPrime pre_rPrime post_rPrime x = rPrime n x := by kernel_rfl
theorem ok_rPrime (n : Nat) : FnOK Tryd.prog 57 LG 29 (sp_rPrime n) :=
  fn_run mixed Tryd.func29 (sp_rPrime n) n ann_rPrime (env_rPrime n) envOf_nil [] (fun _ => none) gl_none (run_rPrime n) (by kernel_rfl)
def pre_rotateLeft32 : Shape := ⟨[.c (.dat (.int .u32)), .c (.dat (.int .i64))], []⟩
def post_rotateLeft32 : List Shape := [⟨[.c (.dat (.int .u32))], []⟩]
def ann_rotateLeft32 : Ann := .no
/-- what math/bits.RotateLeft32 comes to. -/
def rotateLeft32 (n : Nat) (x : Int × Int) : Option (Int) :=
  match x with
  | (x1, x2) =>
  (let u3 : Int := (bits .and .u64 (IntKind.wrap .u64 x2) (31 : Int))
  (if u3 < 0 then none else (let u4 : Int := (IntKind.wrap .u32 (x1 * 2 ^ (min u3.toNat 32)))
  (let u5 : Int := (IntKind.wrap .u64 ((32 : Int) - u3))
  (if u5 < 0 then none else (let u6 : Int := (Int.fdiv x1 (2 ^ (min u5.toNat 32)))
  some (bits .or .u32 u4 u6)))))))
def sp_rotateLeft32 (n : Nat) : Spec := ⟨pre_rotateLeft32, post_rotateLeft32, rotateLeft32 n⟩
def env_rotateLeft32 (n : Nat) : List (FuncId × Spec) := []
theorem run_rotateLeft32 (n : Nat) (x : pre_rotateLeft32.T) : fnRun Tryd.prog 57 (envG (env_rotateLeft32 n) [] (fun _ => none)) n Tryd.f31 ann_rotateLeft32 pre_rotateLeft32 post_rotateLeft32 x = rotateLeft32 n x := by kernel_rfl
theorem ok_rotateLeft32 (n : Nat) : FnOK Tryd.prog 57 LG 31 (sp_rotateLeft32 n) :=
  fn_run mixed Tryd.func31 (sp_rotateLeft32 n) n ann_rotateLeft32 (env_rotateLeft32 n) envOf_nil [] (fun _ => none) gl_none (run_rotateLeft32 n) (by kernel_rfl)
def pre_rTimes : Shape := ⟨[.c (.dat (.int .u64)), .c (.dat (.int .u64))], []⟩
def post_rTimes : List Shape := [⟨[.c (.dat (.int .u64)), .c (.dat (.int .u64))], []⟩]
def ann_rTimes : Ann := .no
/-- what turnstile/turnstileref03.times comes to. -/
def rTimes (n : Nat) (x : Int × Int) : Option (Int × Int) :=
  match x with
  | (x1, x2) =>
  (let u3 : Int := (bits .and .u64 x1 (4294967295 : Int))
  (let u4 : Int := (bits .and .u64 x2 (4294967295 : Int))
  (let u5 : Int := (IntKind.wrap .u64 ((Int.fdiv x1 4294967296) * u4))
  (let u6 : Int := (Int.fdiv (IntKind.wrap .u64 (u3 * u4)) 4294967296)
  (let u7 : Int := (IntKind.wrap .u64 (u3 * (Int.fdiv x2 4294967296)))
  (let u8 : Int := (bits .and .u64 (IntKind.wrap .u64 (u5 + u6)) (4294967295 : Int))
  (let u9 : Int := (IntKind.wrap .u64 ((Int.fdiv x1 4294967296) * (Int.fdiv x2 4294967296)))
  (let u10 : Int := (Int.fdiv (IntKind.wrap .u64 (u5 + u6)) 4294967296)
  (let u11 : Int := (Int.fdiv (IntKind.wrap .u64 (u7 + u8)) 4294967296)
  (let u12 : Int := (IntKind.wrap .u64 ((IntKind.wrap .u64 (u9 + u10)) + u11))
  (let u13 : Int := (IntKind.wrap .u64 ((IntKind.wrap .u64 (u7 + u8)) * 4294967296))
  (let u14 : Int := (bits .and .u64 (IntKind.wrap .u64 (u3 * u4)) (4294967295 : Int))
  some (u12, (bits .or .u64 u13 u14))))))))))))))
def sp_rTimes (n : Nat) : Spec := ⟨pre_rTimes, post_rTimes, rTimes n⟩
def env_rTimes (n : Nat) : List (FuncId × Spec) := []
theorem run_rTimes (n : Nat) (x : pre_rTimes.T) : fnRun Tryd.prog 57 (envG (env_rTimes n) [] (fun _ => none)) n Tryd.f36 ann_rTimes pre_rTimes post_rTimes x = rTimes n x := by kernel_rfl
theorem ok_rTimes (n : Nat) : FnOK Tryd.prog 57 LG 36 (sp_rTimes n) :=
  fn_run mixed Tryd.func36 (sp_rTimes n) n ann_rTimes (env_rTimes n) envOf_nil [] (fun _ => none) gl_none (run_rTimes n) (by kernel_rfl)
def pre_rSchedule : Shape := ⟨[.c (.dat (.list (.int .u8)))], []⟩
def post_rSchedule : List Shape := [⟨[.c (.dat (.list (.int .u32)))], []⟩]
def ann_rSchedule : Ann := (.two .no (.two .no (.two (.two .no (.one (.loop ⟨[0, 3, 4], ⟨[.c (.dat (.list (.int .u8))), .c (.own 500), .c (.dat (.int .i64))], [(500, .row 37 (.int .u32))]⟩⟩ .no))) (.two (.two .no (.one (.loop ⟨[3, 5], ⟨[.c (.own 500), .c (.dat (.int .i64))], [(500, .row 37 (.int .u32))]⟩⟩ .no))) .no))))
/-- what turnstile/turnstileref03.Schedule comes to. -/
def rSchedule (n : Nat) (x : List Int) : Option (List Int) :=
  (loopF (X := (List Int) × Int × List Int) (A := List Int) (fun rec2 y3 => match y3 with
  | (a4, (a5, a6)) =>
  (if (decide (a5 < (16 : Int))) = true then
  (Option.bind (idx a4 (IntKind.wrap .i64 ((4 : Int) * a5))) fun v7 =>
  (let u8 : Int := (IntKind.wrap .u32 ((IntKind.wrap .u32 v7) * 16777216))
  (let u9 : Int := (IntKind.wrap .i64 ((IntKind.wrap .i64 ((4 : Int) * a5)) + (1 : Int)))
  (Option.bind (idx a4 u9) fun v10 =>
  (let u11 : Int := (IntKind.wrap .u32 ((IntKind.wrap .u32 v10) * 65536))
  (let u12 : Int := (IntKind.wrap .i64 ((IntKind.wrap .i64 ((4 : Int) * a5)) + (2 : Int)))
  (Option.bind (idx a4 u12) fun v13 =>
  (let u14 : Int := (IntKind.wrap .u32 ((IntKind.wrap .u32 v13) * 256))
  (let u15 : Int := (bits .or .u32 (bits .or .u32 u8 u11) u14)
  (let u16 : Int := (IntKind.wrap .i64 ((IntKind.wrap .i64 ((4 : Int) * a5)) + (3 : Int)))
  (Option.bind (idx a4 u16) fun v17 =>
  (let u18 : Int := (bits .or .u32 u15 (IntKind.wrap .u32 v17))
  (if (a6.length + 1) * 4 ≤ 140737488355328 then
  rec2 (a4, ((IntKind.wrap .i64 (a5 + (1 : Int))), (a6 ++ ([u18] : List Int))))
  else none)))))))))))))
  else
  (loopF (X := Int × List Int) (A := List Int) (fun rec19 y20 => match y20 with
  | (a21, a22) =>
  (if (decide (a21 < (64 : Int))) = true then
  (let u23 : Int := (IntKind.wrap .i64 (a21 - (2 : Int)))
  (if 0 ≤ u23 ∧ u23 < (a22.length : Int) then
  (let u24 : Int := (IntKind.wrap .i64 (a21 - (15 : Int)))
  (if 0 ≤ u24 ∧ u24 < (a22.length : Int) then
  (Option.bind (rRotr n ((a22.getD u23.toNat (0 : Int)), (17 : Int))) fun r25 =>
  (Option.bind (rRotr n ((a22.getD u23.toNat (0 : Int)), (19 : Int))) fun r26 =>
  (let u27 : Int := (Int.fdiv (a22.getD u23.toNat (0 : Int)) 1024)
  (let u28 : Int := (bits .xor .u32 (bits .xor .u32 r25 r26) u27)
  (Option.bind (rRotr n ((a22.getD u24.toNat (0 : Int)), (7 : Int))) fun r29 =>
  (Option.bind (rRotr n ((a22.getD u24.toNat (0 : Int)), (18 : Int))) fun r30 =>
  (let u31 : Int := (Int.fdiv (a22.getD u24.toNat (0 : Int)) 8)
  (let u32 : Int := (bits .xor .u32 (bits .xor .u32 r29 r30) u31)
  (let u33 : Int := (IntKind.wrap .i64 (a21 - (7 : Int)))
  (if 0 ≤ u33 ∧ u33 < (a22.length : Int) then
  (let u34 : Int := (IntKind.wrap .u32 (u28 + (a22.getD u33.toNat (0 : Int))))
  (let u35 : Int := (IntKind.wrap .i64 (a21 - (16 : Int)))
  (if 0 ≤ u35 ∧ u35 < (a22.length : Int) then
  (let u36 : Int := (IntKind.wrap .u32 ((IntKind.wrap .u32 (u34 + u32)) + (a22.getD u35.toNat (0 : Int))))
  (if (a22.length + 1) * 4 ≤ 140737488355328 then
  (let u37 : Int := (IntKind.wrap .i64 (a21 + (1 : Int)))
  rec19 (u37, (a22 ++ ([u36] : List Int))))
  else none))
  else none)))
  else none))))))))))
  else none))
  else none))
  else
  some a22)) n ((16 : Int), a6)))) n (x, ((0 : Int), ([] : List Int))))
def sp_rSchedule (n : Nat) : Spec := ⟨pre_rSchedule, post_rSchedule, rSchedule n⟩
def env_rSchedule (n : Nat) : List (FuncId × Spec) := [(26, sp_rRotr n)]
theorem run_rSchedule (n : Nat) (x : pre_rSchedule.T) : fnRun Tryd.prog 57 (envG (env_rSchedule n) [] (fun _ => none)) n Tryd.f17 ann_rSchedule pre_rSchedule post_rSchedule x = rSchedule n x := by kernel_rfl
theorem ok_rSchedule (n : Nat) : FnOK Tryd.prog 57 LG 17 (sp_rSchedule n) :=
  fn_run mixed Tryd.func17 (sp_rSchedule n) n ann_rSchedule (env_rSchedule n) (envOf_cons (ok_rRotr n) envOf_nil) [] (fun _ => none) gl_none (run_rSchedule n) (by kernel_rfl)
def pre_rBlock : Shape := ⟨[.c (.dat (.list (.int .u32))), .c (.dat (.list (.int .u32))), .c (.dat (.list (.int .u8)))], []⟩
def post_rBlock : List Shape := [⟨[.c (.dat (.list (.int .u32)))], []⟩]
def ann_rBlock : Ann := (.two .no (.two .no (.two .no (.two (.two .no (.one (.loop ⟨[0, 1, 7, 8, 9], ⟨[.c (.dat (.list (.int .u32))), .c (.dat (.list (.int .u32))), .c (.dat (.list (.int .u32))), .c (.own 500), .c (.dat (.int .i64))], [(500, .row 37 (.int .u32))]⟩⟩ .no))) (.two .no (.two (.two .no (.one (.loop ⟨[0, 8, 17, 18], ⟨[.c (.dat (.list (.int .u32))), .c (.own 500), .c (.own 501), .c (.dat (.int .i64))], [(500, .row 37 (.int .u32)), (501, .row 37 (.int .u32))]⟩⟩ .no))) .no))))))
/-- what turnstile/turnstileref03.block comes to. -/
def rBlock (n : Nat) (x : (List Int) × (List Int) × List Int) : Option (List Int) :=
  match x with
  | (x1, (x2, x3)) =>
  (Option.bind (rSchedule n x3) fun r4 =>
  (Option.bind (idx x1 (0 : Int)) fun v5 =>
  (Option.bind (idx x1 (1 : Int)) fun v6 =>
  (Option.bind (idx x1 (2 : Int)) fun v7 =>
  (Option.bind (idx x1 (3 : Int)) fun v8 =>
  (Option.bind (idx x1 (4 : Int)) fun v9 =>
  (Option.bind (idx x1 (5 : Int)) fun v10 =>
  (Option.bind (idx x1 (6 : Int)) fun v11 =>
  (Option.bind (idx x1 (7 : Int)) fun v12 =>
  (loopF (X := (List Int) × (List Int) × (List Int) × Int × List Int) (A := List Int) (fun rec13 y14 => match y14 with
  | (a15, (a16, (a17, (a18, a19)))) =>
  (if (decide (a18 < (64 : Int))) = true then
  (if 0 ≤ (4 : Int) ∧ (4 : Int) < (a19.length : Int) then
  (Option.bind (rRotr n ((a19.getD 4 (0 : Int)), (6 : Int))) fun r20 =>
  (Option.bind (rRotr n ((a19.getD 4 (0 : Int)), (11 : Int))) fun r21 =>
  (Option.bind (rRotr n ((a19.getD 4 (0 : Int)), (25 : Int))) fun r22 =>
  (let u23 : Int := (bits .xor .u32 (bits .xor .u32 r20 r21) r22)
  (if 0 ≤ (5 : Int) ∧ (5 : Int) < (a19.length : Int) then
  (let u24 : Int := (bits .and .u32 (a19.getD 4 (0 : Int)) (a19.getD 5 (0 : Int)))
  (let u25 : Int := (bits .xor .u32 (4294967295) (a19.getD 4 (0 : Int)))
  (if 0 ≤ (6 : Int) ∧ (6 : Int) < (a19.length : Int) then
  (let u26 : Int := (bits .and .u32 u25 (a19.getD 6 (0 : Int)))
  (if 0 ≤ (7 : Int) ∧ (7 : Int) < (a19.length : Int) then
  (let u27 : Int := (IntKind.wrap .u32 ((a19.getD 7 (0 : Int)) + u23))
  (let u28 : Int := (IntKind.wrap .u32 (u27 + (bits .xor .u32 u24 u26)))
  (Option.bind (idx a16 a18) fun v29 =>
  (Option.bind (idx a17 a18) fun v30 =>
  (let u31 : Int := (IntKind.wrap .u32 ((IntKind.wrap .u32 (u28 + v29)) + v30))
  (if 0 ≤ (0 : Int) ∧ (0 : Int) < (a19.length : Int) then
  (Option.bind (rRotr n ((a19.getD 0 (0 : Int)), (2 : Int))) fun r32 =>
  (if 0 ≤ (0 : Int) ∧ (0 : Int) < (a19.length : Int) then
  (Option.bind (rRotr n ((a19.getD 0 (0 : Int)), (13 : Int))) fun r33 =>
  (if 0 ≤ (0 : Int) ∧ (0 : Int) < (a19.length : Int) then
  (Option.bind (rRotr n ((a19.getD 0 (0 : Int)), (22 : Int))) fun r34 =>
  (let u35 : Int := (bits .xor .u32 (bits .xor .u32 r32 r33) r34)
  (if 0 ≤ (0 : Int) ∧ (0 : Int) < (a19.length : Int) then
  (if 0 ≤ (1 : Int) ∧ (1 : Int) < (a19.length : Int) then
  (let u36 : Int := (bits .and .u32 (a19.getD 0 (0 : Int)) (a19.getD 1 (0 : Int)))
  (if 0 ≤ (0 : Int) ∧ (0 : Int) < (a19.length : Int) then
  (if 0 ≤ (2 : Int) ∧ (2 : Int) < (a19.length : Int) then
  (let u37 : Int := (bits .and .u32 (a19.getD 0 (0 : Int)) (a19.getD 2 (0 : Int)))
  (if 0 ≤ (1 : Int) ∧ (1 : Int) < (a19.length : Int) then
  (if 0 ≤ (2 : Int) ∧ (2 : Int) < (a19.length : Int) then
  (let u38 : Int := (bits .and .u32 (a19.getD 1 (0 : Int)) (a19.getD 2 (0 : Int)))
  (let u39 : Int := (bits .xor .u32 (bits .xor .u32 u36 u37) u38)
  (let u40 : Int := (IntKind.wrap .u32 (u31 + (IntKind.wrap .u32 (u35 + u39))))
  (if 0 ≤ (0 : Int) ∧ (0 : Int) < (a19.length : Int) then
  (if 0 ≤ (1 : Int) ∧ (1 : Int) < (a19.length : Int) then
  (if 0 ≤ (2 : Int) ∧ (2 : Int) < (a19.length : Int) then
  (if 0 ≤ (3 : Int) ∧ (3 : Int) < (a19.length : Int) then
  (let u41 : Int := (IntKind.wrap .u32 ((a19.getD 3 (0 : Int)) + u31))
  (if 0 ≤ (4 : Int) ∧ (4 : Int) < (a19.length : Int) then
  (if 0 ≤ (5 : Int) ∧ (5 : Int) < (a19.length : Int) then
  (if 0 ≤ (6 : Int) ∧ (6 : Int) < (a19.length : Int) then
  (let u42 : Int := (IntKind.wrap .i64 (a18 + (1 : Int)))
  rec13 (a15, (a16, (a17, (u42, ([u40, (a19.getD 0 (0 : Int)), (a19.getD 1 (0 : Int)), (a19.getD 2 (0 : Int)), u41, (a19.getD 4 (0 : Int)), (a19.getD 5 (0 : Int)), (a19.getD 6 (0 : Int))] : List Int))))))
  else none)
  else none)
  else none))
  else none)
  else none)
  else none)
  else none))))
  else none)
  else none))
  else none)
  else none))
  else none)
  else none)))
  else none))
  else none))
  else none))))))
  else none))
  else none)))
  else none)))))
  else none)
  else
  (loopF (X := (List Int) × Int × (List Int) × List Int) (A := List Int) (fun rec43 y44 => match y44 with
  | (a45, (a46, (a47, a48))) =>
  (if (decide (a46 < (8 : Int))) = true then
  (Option.bind (idx a45 a46) fun v49 =>
  (if 0 ≤ a46 ∧ a46 < (a47.length : Int) then
  (let u50 : Int := (IntKind.wrap .u32 (v49 + (a47.getD a46.toNat (0 : Int))))
  (if (a48.length + 1) * 4 ≤ 140737488355328 then
  (let u51 : Int := (IntKind.wrap .i64 (a46 + (1 : Int)))
  rec43 (a45, (u51, (a47, (a48 ++ ([u50] : List Int))))))
  else none))
  else none))
  else
  some a48)) n (a15, ((0 : Int), (a19, ([] : List Int))))))) n (x1, (x2, (r4, ((0 : Int), ([v5, v6, v7, v8, v9, v10, v11, v12] : List Int)))))))))))))))
def sp_rBlock (n : Nat) : Spec := ⟨pre_rBlock, post_rBlock, rBlock n⟩
def env_rBlock (n : Nat) : List (FuncId × Spec) := [(17, sp_rSchedule n), (26, sp_rRotr n)]
theorem run_rBlock (n : Nat) (x : pre_rBlock.T) : fnRun Tryd.prog 57 (envG (env_rBlock n) [] (fun _ => none)) n Tryd.f23 ann_rBlock pre_rBlock post_rBlock x = rBlock n x := by kernel_rfl
theorem ok_rBlock (n : Nat) : FnOK Tryd.prog 57 LG 23 (sp_rBlock n) :=
  fn_run mixed Tryd.func23 (sp_rBlock n) n ann_rBlock (env_rBlock n) (envOf_cons (ok_rSchedule n) (envOf_cons (ok_rRotr n) envOf_nil)) [] (fun _ => none) gl_none (run_rBlock n) (by kernel_rfl)
def pre_turn : Shape := ⟨[.c (.dat (.int .u32)), .c (.dat (.int .i64))], []⟩
def post_turn : List Shape := [⟨[.c (.dat (.int .u32))], []⟩]
def ann_turn : Ann := .no
/-- what turnstile/sha.turn comes to. -/
def turn (n : Nat) (x : Int × Int) : Option (Int) :=
  match x with
  | (x1, x2) =>
  (Option.bind (rotateLeft32 n (x1, (IntKind.wrap .i64 (0 - x2)))) fun r3 =>
  some r3)
def sp_turn (n : Nat) : Spec := ⟨pre_turn, post_turn, turn n⟩
def env_turn (n : Nat) : List (FuncId × Spec) := [(31, sp_rotateLeft32 n)]
theorem run_turn (n : Nat) (x : pre_turn.T) : fnRun Tryd.prog 57 (envG (env_turn n) [] (fun _ => none)) n Tryd.f25 ann_turn pre_turn post_turn x = turn n x := by kernel_rfl
theorem ok_turn (n : Nat) : FnOK Tryd.prog 57 LG 25 (sp_turn n) :=
  fn_run mixed Tryd.func25 (sp_turn n) n ann_turn (env_turn n) (envOf_cons (ok_rotateLeft32 n) envOf_nil) [] (fun _ => none) gl_none (run_turn n) (by kernel_rfl)
def pre_rSquare : Shape := ⟨[.c (.dat (.int .u64))], []⟩
def post_rSquare : List Shape := [⟨[.c (.dat (.int .u32))], []⟩]
def ann_rSquare : Ann := (.two .no (.two .no (.two (.two .no (.one (.loop ⟨[0, 3, 4], ⟨[.c (.dat (.int .u64)), .c (.dat (.int .u64)), .c (.dat (.int .i64))], []⟩⟩ .no))) .no)))
/-- what turnstile/turnstileref03.square comes to. -/
def rSquare (n : Nat) (x : Int) : Option (Int) :=
  (loopF (X := Int × Int × Int) (A := Int) (fun rec2 y3 => match y3 with
  | (a4, (a5, a6)) =>
  (if (decide (a6 ≥ (0 : Int))) = true then
  (if (IntKind.wrap .u64 a6) < 0 then none else (let u7 : Int := (IntKind.wrap .u64 ((1 : Int) * 2 ^ (min (IntKind.wrap .u64 a6).toNat 64)))
  (Option.bind (rTimes n ((bits .or .u64 a5 u7), (bits .or .u64 a5 u7))) fun r8 =>
  (if (decide (r8.1 < a4)) = true then
  rec2 (a4, ((bits .or .u64 a5 u7), (IntKind.wrap .i64 (a6 - (1 : Int)))))
  else
  (if (r8.1 == a4) = true then
  (if (r8.2 == (0 : Int)) = true then
  rec2 (a4, ((bits .or .u64 a5 u7), (IntKind.wrap .i64 (a6 - (1 : Int)))))
  else
  rec2 (a4, (a5, (IntKind.wrap .i64 (a6 - (1 : Int))))))
  else
  rec2 (a4, (a5, (IntKind.wrap .i64 (a6 - (1 : Int))))))))))
  else
  some (IntKind.wrap .u32 a5))) n (x, ((0 : Int), (36 : Int))))
def sp_rSquare (n : Nat) : Spec := ⟨pre_rSquare, post_rSquare, rSquare n⟩
def env_rSquare (n : Nat) : List (FuncId × Spec) := [(36, sp_rTimes n)]
theorem run_rSquare (n : Nat) (x : pre_rSquare.T) : fnRun Tryd.prog 57 (envG (env_rSquare n) [] (fun _ => none)) n Tryd.f28 ann_rSquare pre_rSquare post_rSquare x = rSquare n x := by kernel_rfl
theorem ok_rSquare (n : Nat) : FnOK Tryd.prog 57 LG 28 (sp_rSquare n) :=
  fn_run mixed Tryd.func28 (sp_rSquare n) n ann_rSquare (env_rSquare n) (envOf_cons (ok_rTimes n) envOf_nil) [] (fun _ => none) gl_none (run_rSquare n) (by kernel_rfl)
def pre_rCube : Shape := ⟨[.c (.dat (.int .u64))], []⟩
def post_rCube : List Shape := [⟨[.c (.dat (.int .u32))], []⟩]
def ann_rCube : Ann := (.two .no (.two .no (.two (.two .no (.one (.loop ⟨[0, 3, 4], ⟨[.c (.dat (.int .u64)), .c (.dat (.int .u64)), .c (.dat (.int .i64))], []⟩⟩ .no))) .no)))
/-- what turnstile/turnstileref03.cube comes to. -/
def rCube (n : Nat) (x : Int) : Option (Int) :=
  (loopF (X := Int × Int × Int) (A := Int) (fun rec2 y3 => match y3 with
  | (a4, (a5, a6)) =>
  (if (decide (a6 ≥ (0 : Int))) = true then
  (if (IntKind.wrap .u64 a6) < 0 then none else (let u7 : Int := (IntKind.wrap .u64 ((1 : Int) * 2 ^ (min (IntKind.wrap .u64 a6).toNat 64)))
  (Option.bind (rTimes n ((bits .or .u64 a5 u7), (bits .or .u64 a5 u7))) fun r8 =>
  (Option.bind (rTimes n (r8.2, (bits .or .u64 a5 u7))) fun r9 =>
  (let u10 : Int := (IntKind.wrap .u64 (r8.1 * (bits .or .u64 a5 u7)))
  (let u11 : Int := (Int.fdiv (IntKind.wrap .u64 (u10 + r9.1)) 4294967296)
  (if (decide (u11 < a4)) = true then
  rec2 (a4, ((bits .or .u64 a5 u7), (IntKind.wrap .i64 (a6 - (1 : Int)))))
  else
  (let u12 : Int := (Int.fdiv (IntKind.wrap .u64 (u10 + r9.1)) 4294967296)
  (if (u12 == a4) = true then
  (let u13 : Int := (bits .and .u64 (IntKind.wrap .u64 (u10 + r9.1)) (4294967295 : Int))
  (if (u13 == (0 : Int)) = true then
  (if (r9.2 == (0 : Int)) = true then
  rec2 (a4, ((bits .or .u64 a5 u7), (IntKind.wrap .i64 (a6 - (1 : Int)))))
  else
  rec2 (a4, (a5, (IntKind.wrap .i64 (a6 - (1 : Int))))))
  else
  rec2 (a4, (a5, (IntKind.wrap .i64 (a6 - (1 : Int)))))))
  else
  rec2 (a4, (a5, (IntKind.wrap .i64 (a6 - (1 : Int))))))))))))))
  else
  some (IntKind.wrap .u32 a5))) n (x, ((0 : Int), (35 : Int))))
def sp_rCube (n : Nat) : Spec := ⟨pre_rCube, post_rCube, rCube n⟩
def env_rCube (n : Nat) : List (FuncId × Spec) := [(36, sp_rTimes n)]
theorem run_rCube (n : Nat) (x : pre_rCube.T) : fnRun Tryd.prog 57 (envG (env_rCube n) [] (fun _ => none)) n Tryd.f30 ann_rCube pre_rCube post_rCube x = rCube n x := by kernel_rfl
theorem ok_rCube (n : Nat) : FnOK Tryd.prog 57 LG 30 (sp_rCube n) :=
  fn_run mixed Tryd.func30 (sp_rCube n) n ann_rCube (env_rCube n) (envOf_cons (ok_rTimes n) envOf_nil) [] (fun _ => none) gl_none (run_rCube n) (by kernel_rfl)
def pre_schedule : Shape := ⟨[.sg [.blk (.arr 64 (.int .u8))]], []⟩
def post_schedule : List Shape := [⟨[.sg [.blk (.arr 64 (.int .u32))]], []⟩]
def ann_schedule : Ann := (.two .no (.two .no (.two (.two .no (.one (.loop ⟨[1, 2, 3, 8], ⟨[.c (.arr 500 1), .c (.arr 501 1), .c (.arr 502 1), .c (.dat (.int .i64))], [(500, .row 36 (.int .u8)), (501, .row 38 (.int .u32)), (502, .row 38 (.int .u32))]⟩⟩ .no))) (.two (.two .no (.one (.loop ⟨[2, 3, 5], ⟨[.c (.arr 500 1), .c (.arr 501 1), .c (.dat (.int .i64))], [(500, .row 38 (.int .u32)), (501, .row 38 (.int .u32))]⟩⟩ .no))) .no))))
/-- what turnstile/sha.Schedule comes to. -/
def schedule (n : Nat) (x : List Int) : Option (List Int) :=
  (if 64 = x.length then
  (loopF (X := Int × (List Int) × (List Int) × List Int) (A := List Int) (fun rec2 y3 => match y3 with
  | (a4, (a5, (a6, a7))) =>
  (if (decide (a4 < (16 : Int))) = true then
  (if 64 = a5.length then
  (if 0 ≤ (IntKind.wrap .i64 ((4 : Int) * a4)) ∧ (IntKind.wrap .i64 ((4 : Int) * a4)) < (a5.length : Int) then
  (let u8 : Int := (a5.getD (IntKind.wrap .i64 ((4 : Int) * a4)).toNat (0 : Int))
  (let u9 : Int := (IntKind.wrap .u32 ((IntKind.wrap .u32 u8) * 16777216))
  (let u10 : Int := (IntKind.wrap .i64 ((IntKind.wrap .i64 ((4 : Int) * a4)) + (1 : Int)))
  (if 64 = a5.length then
  (if 0 ≤ u10 ∧ u10 < (a5.length : Int) then
  (let u11 : Int := (IntKind.wrap .u32 (a5.getD u10.toNat (0 : Int)))
  (let u12 : Int := (bits .or .u32 u9 (IntKind.wrap .u32 (u11 * 65536)))
  (let u13 : Int := (IntKind.wrap .i64 ((IntKind.wrap .i64 ((4 : Int) * a4)) + (2 : Int)))
  (if 64 = a5.length then
  (if 0 ≤ u13 ∧ u13 < (a5.length : Int) then
  (let u14 : Int := (IntKind.wrap .u32 (a5.getD u13.toNat (0 : Int)))
  (let u15 : Int := (bits .or .u32 u12 (IntKind.wrap .u32 (u14 * 256)))
  (let u16 : Int := (IntKind.wrap .i64 ((IntKind.wrap .i64 ((4 : Int) * a4)) + (3 : Int)))
  (if 64 = a5.length then
  (if 0 ≤ u16 ∧ u16 < (a5.length : Int) then
  (let u17 : Int := (IntKind.wrap .u32 (a5.getD u16.toNat (0 : Int)))
  (if 64 = a7.length then
  (if 0 ≤ a4 ∧ a4 < (a7.length : Int) then
  (let u18 : List Int := (a7.set a4.toNat (bits .or .u32 u15 u17))
  rec2 ((IntKind.wrap .i64 (a4 + (1 : Int))), (a5, (a6, u18))))
  else none)
  else none))
  else none)
  else none))))
  else none)
  else none))))
  else none)
  else none))))
  else none)
  else none)
  else
  (loopF (X := Int × (List Int) × List Int) (A := List Int) (fun rec19 y20 => match y20 with
  | (a21, (a22, a23)) =>
  (if (decide (a21 < (64 : Int))) = true then
  (let u24 : Int := (IntKind.wrap .i64 (a21 - (15 : Int)))
  (if 64 = a23.length then
  (if 0 ≤ u24 ∧ u24 < (a23.length : Int) then
  (let u25 : Int := (IntKind.wrap .i64 (a21 - (2 : Int)))
  (if 64 = a23.length then
  (if 0 ≤ u25 ∧ u25 < (a23.length : Int) then
  (Option.bind (turn n ((a23.getD u25.toNat (0 : Int)), (17 : Int))) fun r26 =>
  (Option.bind (turn n ((a23.getD u25.toNat (0 : Int)), (19 : Int))) fun r27 =>
  (let u28 : Int := (Int.fdiv (a23.getD u25.toNat (0 : Int)) 1024)
  (let u29 : Int := (bits .xor .u32 (bits .xor .u32 r26 r27) u28)
  (let u30 : Int := (IntKind.wrap .i64 (a21 - (7 : Int)))
  (if 64 = a23.length then
  (if 0 ≤ u30 ∧ u30 < (a23.length : Int) then
  (let u31 : Int := (IntKind.wrap .u32 (u29 + (a23.getD u30.toNat (0 : Int))))
  (Option.bind (turn n ((a23.getD u24.toNat (0 : Int)), (7 : Int))) fun r32 =>
  (Option.bind (turn n ((a23.getD u24.toNat (0 : Int)), (18 : Int))) fun r33 =>
  (let u34 : Int := (Int.fdiv (a23.getD u24.toNat (0 : Int)) 8)
  (let u35 : Int := (bits .xor .u32 (bits .xor .u32 r32 r33) u34)
  (let u36 : Int := (IntKind.wrap .i64 (a21 - (16 : Int)))
  (if 64 = a23.length then
  (if 0 ≤ u36 ∧ u36 < (a23.length : Int) then
  (let u37 : Int := (IntKind.wrap .u32 ((IntKind.wrap .u32 (u31 + u35)) + (a23.getD u36.toNat (0 : Int))))
  (if 64 = a23.length then
  (if 0 ≤ a21 ∧ a21 < (a23.length : Int) then
  (let u38 : Int := (IntKind.wrap .i64 (a21 + (1 : Int)))
  rec19 (u38, (a22, (a23.set a21.toNat u37))))
  else none)
  else none))
  else none)
  else none)))))))
  else none)
  else none))))))
  else none)
  else none))
  else none)
  else none))
  else
  (if 64 = a23.length then
  (if 64 = a22.length ∧ 64 = a23.length then
  (if 64 = a23.length then
  some a23
  else none)
  else none)
  else none))) n ((16 : Int), (a6, a7))))) n ((0 : Int), (x, (([(0 : Int), (0 : Int), (0 : Int), (0 : Int), (0 : Int), (0 : Int), (0 : Int), (0 : Int), (0 : Int), (0 : Int), (0 : Int), (0 : Int), (0 : Int), (0 : Int), (0 : Int), (0 : Int), (0 : Int), (0 : Int), (0 : Int), (0 : Int), (0 : Int), (0 : Int), (0 : Int), (0 : Int), (0 : Int), (0 : Int), (0 : Int), (0 : Int), (0 : Int), (0 : Int), (0 : Int), (0 : Int), (0 : Int), (0 : Int), (0 : Int), (0 : Int), (0 : Int), (0 : Int), (0 : Int), (0 : Int), (0 : Int), (0 : Int), (0 : Int), (0 : Int), (0 : Int), (0 : Int), (0 : Int), (0 : Int), (0 : Int), (0 : Int), (0 : Int), (0 : Int), (0 : Int), (0 : Int), (0 : Int), (0 : Int), (0 : Int), (0 : Int), (0 : Int), (0 : Int), (0 : Int), (0 : Int), (0 : Int), (0 : Int)] : List Int), ([(0 : Int), (0 : Int), (0 : Int), (0 : Int), (0 : Int), (0 : Int), (0 : Int), (0 : Int), (0 : Int), (0 : Int), (0 : Int), (0 : Int), (0 : Int), (0 : Int), (0 : Int), (0 : Int), (0 : Int), (0 : Int), (0 : Int), (0 : Int), (0 : Int), (0 : Int), (0 : Int), (0 : Int), (0 : Int), (0 : Int), (0 : Int), (0 : Int), (0 : Int), (0 : Int), (0 : Int), (0 : Int), (0 : Int), (0 : Int), (0 : Int), (0 : Int), (0 : Int), (0 : Int), (0 : Int), (0 : Int), (0 : Int), (0 : Int), (0 : Int), (0 : Int), (0 : Int), (0 : Int), (0 : Int), (0 : Int), (0 : Int), (0 : Int), (0 : Int), (0 : Int), (0 : Int), (0 : Int), (0 : Int), (0 : Int), (0 : Int), (0 : Int), (0 : Int), (0 : Int), (0 : Int), (0 : Int), (0 : Int), (0 : Int)] : List Int)))))
  else none)
def sp_schedule (n : Nat) : Spec := ⟨pre_schedule, post_schedule, schedule n⟩
def env_schedule (n : Nat) : List (FuncId × Spec) := [(25, sp_turn n)]
theorem run_schedule (n : Nat) (x : pre_schedule.T) : fnRun Tryd.prog 57 (envG (env_schedule n) [] (fun _ => none)) n Tryd.f16 ann_schedule pre_schedule post_schedule x = schedule n x := by kernel_rfl
theorem ok_schedule (n : Nat) : FnOK Tryd.prog 57 LG 16 (sp_schedule n) :=
  fn_run mixed Tryd.func16 (sp_schedule n) n ann_schedule (env_schedule n) (envOf_cons (ok_turn n) envOf_nil) [] (fun _ => none) gl_none (run_schedule n) (by kernel_rfl)
def pre_rFirst : Shape := ⟨[], []⟩
def post_rFirst : List Shape := [⟨[.c (.dat (.list (.int .u32)))], []⟩]
def ann_rFirst : Ann := (.two .no (.two .no (.two (.two .no (.one (.loop ⟨[1, 2], ⟨[.c (.own 500), .c (.dat (.int .i64))], [(500, .row 37 (.int .u32))]⟩⟩ .no))) .no)))
/-- what turnstile/turnstileref03.First comes to. -/
def rFirst (n : Nat) (x : Unit) : Option (List Int) :=
  (loopF (X := Int × List Int) (A := List Int) (fun rec1 y2 => match y2 with
  | (a3, a4) =>
  (if (decide (a3 < (8 : Int))) = true then
  (Option.bind (rPrime n a3) fun r5 =>
  (Option.bind (rSquare n r5) fun r6 =>
  (if (a4.length + 1) * 4 ≤ 140737488355328 then
  rec1 ((IntKind.wrap .i64 (a3 + (1 : Int))), (a4 ++ ([r6] : List Int)))
  else none)))
  else
  some a4)) n ((0 : Int), ([] : List Int)))
def sp_rFirst (n : Nat) : Spec := ⟨pre_rFirst, post_rFirst, rFirst n⟩
def env_rFirst (n : Nat) : List (FuncId × Spec) := [(29, sp_rPrime n), (28, sp_rSquare n)]
theorem run_rFirst (n : Nat) (x : pre_rFirst.T) : fnRun Tryd.prog 57 (envG (env_rFirst n) [] (fun _ => none)) n Tryd.f21 ann_rFirst pre_rFirst post_rFirst x = rFirst n x := by kernel_rfl
theorem ok_rFirst (n : Nat) : FnOK Tryd.prog 57 LG 21 (sp_rFirst n) :=
  fn_run mixed Tryd.func21 (sp_rFirst n) n ann_rFirst (env_rFirst n) (envOf_cons (ok_rPrime n) (envOf_cons (ok_rSquare n) envOf_nil)) [] (fun _ => none) gl_none (run_rFirst n) (by kernel_rfl)
def pre_rConstants : Shape := ⟨[], []⟩
def post_rConstants : List Shape := [⟨[.c (.dat (.list (.int .u32)))], []⟩]
def ann_rConstants : Ann := (.two .no (.two .no (.two (.two .no (.one (.loop ⟨[1, 2], ⟨[.c (.own 500), .c (.dat (.int .i64))], [(500, .row 37 (.int .u32))]⟩⟩ .no))) .no)))
/-- what turnstile/turnstileref03.Constants comes to. -/
def rConstants (n : Nat) (x : Unit) : Option (List Int) :=
  (loopF (X := Int × List Int) (A := List Int) (fun rec1 y2 => match y2 with
  | (a3, a4) =>
  (if (decide (a3 < (64 : Int))) = true then
  (Option.bind (rPrime n a3) fun r5 =>
  (Option.bind (rCube n r5) fun r6 =>
  (if (a4.length + 1) * 4 ≤ 140737488355328 then
  rec1 ((IntKind.wrap .i64 (a3 + (1 : Int))), (a4 ++ ([r6] : List Int)))
  else none)))
  else
  some a4)) n ((0 : Int), ([] : List Int)))
def sp_rConstants (n : Nat) : Spec := ⟨pre_rConstants, post_rConstants, rConstants n⟩
def env_rConstants (n : Nat) : List (FuncId × Spec) := [(29, sp_rPrime n), (30, sp_rCube n)]
theorem run_rConstants (n : Nat) (x : pre_rConstants.T) : fnRun Tryd.prog 57 (envG (env_rConstants n) [] (fun _ => none)) n Tryd.f22 ann_rConstants pre_rConstants post_rConstants x = rConstants n x := by kernel_rfl
theorem ok_rConstants (n : Nat) : FnOK Tryd.prog 57 LG 22 (sp_rConstants n) :=
  fn_run mixed Tryd.func22 (sp_rConstants n) n ann_rConstants (env_rConstants n) (envOf_cons (ok_rPrime n) (envOf_cons (ok_rCube n) envOf_nil)) [] (fun _ => none) gl_none (run_rConstants n) (by kernel_rfl)
def pre_mix : Shape := ⟨[.c (.ptr 0 0)], [(0, .segs 54 [.blk (.arr 8 (.int .u32)), .blk (.arr 64 (.int .u8)), .one (.dat (.int .i64)), .one (.dat (.int .i64))])]⟩
def post_mix : List Shape := [⟨[], [(0, .segs 54 [.blk (.arr 8 (.int .u32)), .blk (.arr 64 (.int .u8)), .one (.dat (.int .i64)), .one (.dat (.int .i64))])]⟩]
def ann_mix : Ann := (.two .no (.two .no (.two (.two .no (.one (.loop ⟨[0, 2, 3, 19], ⟨[.c (.ptr 0 0), .c (.arr 500 1), .c (.arr 501 1), .c (.dat (.int .i64))], [(0, .segs 54 [.blk (.arr 8 (.int .u32)), .blk (.arr 64 (.int .u8)), .one (.dat (.int .i64)), .one (.dat (.int .i64))]), (500, .row 38 (.int .u32)), (501, .row 52 (.int .u32))]⟩⟩ .no))) (.two .no (.one (.loop ⟨[0, 3, 93], ⟨[.c (.ptr 0 0), .c (.arr 500 1), .c (.dat (.int .i64))], [(0, .segs 54 [.blk (.arr 8 (.int .u32)), .blk (.arr 64 (.int .u8)), .one (.dat (.int .i64)), .one (.dat (.int .i64))]), (500, .row 52 (.int .u32))]⟩⟩ .no))))))
/-- what (turnstile/sha.Hash).mix comes to. -/
def mix (n : Nat) (x : (List Int) × (List Int) × Int × Int) : Option ((List Int) × (List Int) × Int × Int) :=
  match x with
  | (x1, (x2, (x3, x4))) =>
  (Option.bind (schedule n x2) fun r5 =>
  (if 64 = 64 ∧ 64 = r5.length then
  (if 8 = 8 ∧ 8 = x1.length then
  (loopF (X := Int × (List Int) × (List Int) × Int × Int × (List Int) × List Int) (A := (List Int) × (List Int) × Int × Int) (fun rec6 y7 => match y7 with
  | (a8, (a9, (a10, (a11, (a12, (a13, a14)))))) =>
  (if (decide (a8 < (64 : Int))) = true then
  (if 8 = a14.length then
  (if 0 ≤ (0 : Int) ∧ (0 : Int) < (a14.length : Int) then
  (if 8 = a14.length then
  (if 0 ≤ (4 : Int) ∧ (4 : Int) < (a14.length : Int) then
  (if 8 = a14.length then
  (if 0 ≤ (7 : Int) ∧ (7 : Int) < (a14.length : Int) then
  (Option.bind (turn n ((a14.getD 4 (0 : Int)), (6 : Int))) fun r15 =>
  (Option.bind (turn n ((a14.getD 4 (0 : Int)), (11 : Int))) fun r16 =>
  (Option.bind (turn n ((a14.getD 4 (0 : Int)), (25 : Int))) fun r17 =>
  (let u18 : Int := (bits .xor .u32 (bits .xor .u32 r15 r16) r17)
  (let u19 : Int := (IntKind.wrap .u32 ((a14.getD 7 (0 : Int)) + u18))
  (if 8 = a14.length then
  (if 0 ≤ (5 : Int) ∧ (5 : Int) < (a14.length : Int) then
  (let u20 : Int := (bits .and .u32 (a14.getD 4 (0 : Int)) (a14.getD 5 (0 : Int)))
  (let u21 : Int := (bits .xor .u32 (4294967295) (a14.getD 4 (0 : Int)))
  (if 8 = a14.length then
  (if 0 ≤ (6 : Int) ∧ (6 : Int) < (a14.length : Int) then
  (let u22 : Int := (bits .and .u32 u21 (a14.getD 6 (0 : Int)))
  (let u23 : Int := (IntKind.wrap .u32 (u19 + (bits .xor .u32 u20 u22)))
  (Option.bind (idx cK a8) fun v24 =>
  (if 64 = a13.length then
  (if 0 ≤ a8 ∧ a8 < (a13.length : Int) then
  (let u25 : Int := (IntKind.wrap .u32 ((IntKind.wrap .u32 (u23 + v24)) + (a13.getD a8.toNat (0 : Int))))
  (Option.bind (turn n ((a14.getD 0 (0 : Int)), (2 : Int))) fun r26 =>
  (Option.bind (turn n ((a14.getD 0 (0 : Int)), (13 : Int))) fun r27 =>
  (Option.bind (turn n ((a14.getD 0 (0 : Int)), (22 : Int))) fun r28 =>
  (let u29 : Int := (bits .xor .u32 (bits .xor .u32 r26 r27) r28)
  (if 8 = a14.length then
  (if 0 ≤ (1 : Int) ∧ (1 : Int) < (a14.length : Int) then
  (let u30 : Int := (bits .and .u32 (a14.getD 0 (0 : Int)) (a14.getD 1 (0 : Int)))
  (if 8 = a14.length then
  (if 0 ≤ (2 : Int) ∧ (2 : Int) < (a14.length : Int) then
  (let u31 : Int := (bits .and .u32 (a14.getD 0 (0 : Int)) (a14.getD 2 (0 : Int)))
  (if 8 = a14.length then
  (if 0 ≤ (1 : Int) ∧ (1 : Int) < (a14.length : Int) then
  (if 8 = a14.length then
  (if 0 ≤ (2 : Int) ∧ (2 : Int) < (a14.length : Int) then
  (let u32 : Int := (bits .and .u32 (a14.getD 1 (0 : Int)) (a14.getD 2 (0 : Int)))
  (let u33 : Int := (bits .xor .u32 (bits .xor .u32 u30 u31) u32)
  (if 8 = a14.length then
  (if 8 = a14.length then
  (let u34 : Int := ((min (8 - 1) ((a14.drop 0).take (7 - 0)).length : Nat) : Int)
  let u35 : List Int := (a14.take 1 ++ ((a14.drop 0).take (7 - 0)).take (8 - 1) ++ a14.drop (1 + min (8 - 1) ((a14.drop 0).take (7 - 0)).length))
  (if 8 = u35.length then
  (if 0 ≤ (4 : Int) ∧ (4 : Int) < (u35.length : Int) then
  (let u36 : Int := (IntKind.wrap .u32 ((u35.getD 4 (0 : Int)) + u25))
  (if 8 = u35.length then
  (if 0 ≤ (4 : Int) ∧ (4 : Int) < (u35.length : Int) then
  (let u37 : Int := (IntKind.wrap .u32 (u25 + (IntKind.wrap .u32 (u29 + u33))))
  (if 8 = (u35.set 4 u36).length then
  (if 0 ≤ (0 : Int) ∧ (0 : Int) < ((u35.set 4 u36).length : Int) then
  rec6 ((IntKind.wrap .i64 (a8 + (1 : Int))), (a9, (a10, (a11, (a12, (a13, ((u35.set 4 u36).set 0 u37)))))))
  else none)
  else none))
  else none)
  else none))
  else none)
  else none))
  else none)
  else none)))
  else none)
  else none)
  else none)
  else none))
  else none)
  else none))
  else none)
  else none))))))
  else none)
  else none))))
  else none)
  else none)))
  else none)
  else none))))))
  else none)
  else none)
  else none)
  else none)
  else none)
  else none)
  else
  (loopF (X := Int × (List Int) × (List Int) × Int × Int × List Int) (A := (List Int) × (List Int) × Int × Int) (fun rec38 y39 => match y39 with
  | (a40, (a41, (a42, (a43, (a44, a45))))) =>
  (if (decide (a40 < (8 : Int))) = true then
  (if 0 ≤ a40 ∧ a40 < (8 : Int) then
  (if a40.toNat < List.length a41 then
  (if 8 = a45.length then
  (if 0 ≤ a40 ∧ a40 < (a45.length : Int) then
  (let u46 : Int := (IntKind.wrap .u32 ((List.getD a41 a40.toNat (0 : Int)) + (a45.getD a40.toNat (0 : Int))))
  (if 0 ≤ a40 ∧ a40 < (8 : Int) then
  (if a40.toNat < List.length a41 then
  (let u47 : Int := (IntKind.wrap .i64 (a40 + (1 : Int)))
  rec38 (u47, ((List.set a41 a40.toNat u46), (a42, (a43, (a44, a45))))))
  else none)
  else none))
  else none)
  else none)
  else none)
  else none)
  else
  some (a41, (a42, (a43, a44))))) n ((0 : Int), (a9, (a10, (a11, (a12, a14)))))))) n ((0 : Int), (x1, (x2, (x3, (x4, (r5, x1)))))))
  else none)
  else none))
def sp_mix (n : Nat) : Spec := ⟨pre_mix, post_mix, mix n⟩
def env_mix (n : Nat) : List (FuncId × Spec) := [(16, sp_schedule n), (25, sp_turn n)]
theorem run_mix (n : Nat) (x : pre_mix.T) : fnRun Tryd.prog 57 (envG (env_mix n) [] (glOf GL)) n Tryd.f24 ann_mix pre_mix post_mix x = mix n x := by kernel_rfl
theorem ok_mix (n : Nat) : FnOK Tryd.prog 57 LG 24 (sp_mix n) :=
  fn_run mixed Tryd.func24 (sp_mix n) n ann_mix (env_mix n) (envOf_cons (ok_schedule n) (envOf_cons (ok_turn n) envOf_nil)) [] (glOf GL) (glOf_ok GL_ok) (run_mix n) (by kernel_rfl)
def pre_rSum : Shape := ⟨[.c (.dat (.list (.int .u8)))], []⟩
def post_rSum : List Shape := [⟨[.sg [.blk (.arr 32 (.int .u8))]], []⟩]
def ann_rSum : Ann := (.two .no (.two .no (.two .no (.two .no (.two .no (.two .no (.two (.two .no (.one (.loop ⟨[2, 3, 6, 7, 8], ⟨[.c (.arr 500 1), .c (.dat (.list (.int .u8))), .c (.dat (.list (.int .u32))), .c (.dat (.list (.int .u32))), .c (.dat (.int .i64))], [(500, .row 24 (.int .u8))]⟩⟩ .no))) (.two .no (.two (.two .no (.one (.loop ⟨[2, 6, 9, 10], ⟨[.c (.arr 500 1), .c (.dat (.list (.int .u32))), .c (.arr 501 1), .c (.dat (.int .i64))], [(500, .row 24 (.int .u8)), (501, .row 24 (.int .u8))]⟩⟩ .no))) .no)))))))))
/-- what turnstile/turnstileref03.Sum comes to. -/
def rSum (n : Nat) (x : List Int) : Option (List Int) :=
  (if x.length * 1 ≤ 140737488355328 then
  (Option.bind (rPad n (x.length : Int)) fun r2 =>
  (if (x.length + r2.1.length) * 1 ≤ 140737488355328 then
  (Option.bind (rFirst n ()) fun r3 =>
  (Option.bind (rConstants n ()) fun r4 =>
  (loopF (X := (List Int) × (List Int) × (List Int) × Int × List Int) (A := List Int) (fun rec5 y6 => match y6 with
  | (a7, (a8, (a9, (a10, a11)))) =>
  (if (decide (a10 < (a7.length : Int))) = true then
  (let u12 : Int := (IntKind.wrap .i64 (a10 + (64 : Int)))
  (if 0 ≤ a10 ∧ a10 ≤ u12 ∧ u12 ≤ (a7.length : Int) then
  (let u13 : List Int := ((a7.drop a10.toNat).take (u12.toNat - a10.toNat))
  (Option.bind (rBlock n (a8, (a9, u13))) fun r14 =>
  (let u15 : Int := (IntKind.wrap .i64 (a10 + (64 : Int)))
  rec5 (a7, (r14, (a9, (u15, a11)))))))
  else none))
  else
  (loopF (X := (List Int) × Int × (List Int) × List Int) (A := List Int) (fun rec16 y17 => match y17 with
  | (a18, (a19, (a20, a21))) =>
  (if (decide (a19 < (32 : Int))) = true then
  (let u22 : Int := (IntKind.wrap .i64 (Int.tdiv a19 (4 : Int)))
  (Option.bind (idx a18 u22) fun v23 =>
  (let u24 : Int := (IntKind.wrap .i64 ((8 : Int) * (Int.tmod a19 (4 : Int))))
  (let u25 : Int := (IntKind.wrap .i64 ((24 : Int) - u24))
  (if (IntKind.wrap .u64 u25) < 0 then none else (let u26 : Int := (Int.fdiv v23 (2 ^ (min (IntKind.wrap .u64 u25).toNat 32)))
  (if 32 = a21.length then
  (if 0 ≤ a19 ∧ a19 < (a21.length : Int) then
  (let u27 : List Int := (a21.set a19.toNat (IntKind.wrap .u8 u26))
  (let u28 : Int := (IntKind.wrap .i64 (a19 + (1 : Int)))
  rec16 (a18, (u28, (a20, u27)))))
  else none)
  else none)))))))
  else
  (if 32 = a21.length then
  (if 32 = a20.length ∧ 32 = a21.length then
  (if 32 = a21.length then
  some a21
  else none)
  else none)
  else none))) n (a8, ((0 : Int), (a11, ([(0 : Int), (0 : Int), (0 : Int), (0 : Int), (0 : Int), (0 : Int), (0 : Int), (0 : Int), (0 : Int), (0 : Int), (0 : Int), (0 : Int), (0 : Int), (0 : Int), (0 : Int), (0 : Int), (0 : Int), (0 : Int), (0 : Int), (0 : Int), (0 : Int), (0 : Int), (0 : Int), (0 : Int), (0 : Int), (0 : Int), (0 : Int), (0 : Int), (0 : Int), (0 : Int), (0 : Int), (0 : Int)] : List Int))))))) n ((x ++ r2.1), (r3, (r4, ((0 : Int), ([(0 : Int), (0 : Int), (0 : Int), (0 : Int), (0 : Int), (0 : Int), (0 : Int), (0 : Int), (0 : Int), (0 : Int), (0 : Int), (0 : Int), (0 : Int), (0 : Int), (0 : Int), (0 : Int), (0 : Int), (0 : Int), (0 : Int), (0 : Int), (0 : Int), (0 : Int), (0 : Int), (0 : Int), (0 : Int), (0 : Int), (0 : Int), (0 : Int), (0 : Int), (0 : Int), (0 : Int), (0 : Int)] : List Int))))))))
  else none))
  else none)
def sp_rSum (n : Nat) : Spec := ⟨pre_rSum, post_rSum, rSum n⟩
def env_rSum (n : Nat) : List (FuncId × Spec) := [(19, sp_rPad n), (21, sp_rFirst n), (22, sp_rConstants n), (23, sp_rBlock n)]
theorem run_rSum (n : Nat) (x : pre_rSum.T) : fnRun Tryd.prog 57 (envG (env_rSum n) [] (fun _ => none)) n Tryd.f6 ann_rSum pre_rSum post_rSum x = rSum n x := by kernel_rfl
theorem ok_rSum (n : Nat) : FnOK Tryd.prog 57 LG 6 (sp_rSum n) :=
  fn_run mixed Tryd.func6 (sp_rSum n) n ann_rSum (env_rSum n) (envOf_cons (ok_rPad n) (envOf_cons (ok_rFirst n) (envOf_cons (ok_rConstants n) (envOf_cons (ok_rBlock n) envOf_nil)))) [] (fun _ => none) gl_none (run_rSum n) (by kernel_rfl)
def pre_hwrite : Shape := ⟨[.c (.ptr 0 0), .c (.dat (.list (.int .u8)))], [(0, .segs 54 [.blk (.arr 8 (.int .u32)), .blk (.arr 64 (.int .u8)), .one (.dat (.int .i64)), .one (.dat (.int .i64))])]⟩
def post_hwrite : List Shape := [⟨[], [(0, .segs 54 [.blk (.arr 8 (.int .u32)), .blk (.arr 64 (.int .u8)), .one (.dat (.int .i64)), .one (.dat (.int .i64))])]⟩]
def ann_hwrite : Ann := (.two .no (.two .no (.one (.loop ⟨[0, 1], ⟨[.c (.ptr 0 0), .c (.dat (.list (.int .u8)))], [(0, .segs 54 [.blk (.arr 8 (.int .u32)), .blk (.arr 64 (.int .u8)), .one (.dat (.int .i64)), .one (.dat (.int .i64))])]⟩⟩ .no))))
/-- what (turnstile/sha.Hash).Write comes to. -/
def hwrite (n : Nat) (x : (List Int) × (List Int) × (List Int) × Int × Int) : Option ((List Int) × (List Int) × Int × Int) :=
  match x with
  | (x1, (x2, (x3, (x4, x5)))) =>
  (let u6 : Int := (IntKind.wrap .i64 (x5 + (x1.length : Int)))
  (loopF (X := (List Int) × (List Int) × (List Int) × Int × Int) (A := (List Int) × (List Int) × Int × Int) (fun rec7 y8 => match y8 with
  | (a9, (a10, (a11, (a12, a13)))) =>
  (if (decide ((a9.length : Int) > (0 : Int))) = true then
  (if 0 ≤ a12 ∧ a12 ≤ (64 : Int) ∧ (64 : Int) ≤ (64 : Int) then
  (if a12.toNat + (64 - a12.toNat) ≤ List.length a11 then
  (let u14 : Int := ((min (64 - a12.toNat) a9.length : Nat) : Int)
  let u15 : List Int := (List.take a12.toNat a11 ++ a9.take (64 - a12.toNat) ++ List.drop (a12.toNat + min (64 - a12.toNat) a9.length) a11)
  (if 0 ≤ u14 ∧ u14 ≤ (a9.length : Int) ∧ (a9.length : Int) ≤ (a9.length : Int) then
  (let u16 : List Int := ((a9.drop u14.toNat).take (((a9.length : Int)).toNat - u14.toNat))
  (if ((IntKind.wrap .i64 (a12 + u14)) == (64 : Int)) = true then
  (Option.bind (mix n (a10, (u15, ((IntKind.wrap .i64 (a12 + u14)), a13)))) fun r17 =>
  rec7 (u16, (r17.1, (r17.2.1, ((0 : Int), r17.2.2.2)))))
  else
  rec7 (u16, (a10, (u15, ((IntKind.wrap .i64 (a12 + u14)), a13))))))
  else none))
  else none)
  else none)
  else
  some (a10, (a11, (a12, a13))))) n (x1, (x2, (x3, (x4, u6))))))
def sp_hwrite (n : Nat) : Spec := ⟨pre_hwrite, post_hwrite, hwrite n⟩
def env_hwrite (n : Nat) : List (FuncId × Spec) := [(24, sp_mix n)]
theorem run_hwrite (n : Nat) (x : pre_hwrite.T) : fnRun Tryd.prog 57 (envG (env_hwrite n) [] (fun _ => none)) n Tryd.f11 ann_hwrite pre_hwrite post_hwrite x = hwrite n x := by kernel_rfl
theorem ok_hwrite (n : Nat) : FnOK Tryd.prog 57 LG 11 (sp_hwrite n) :=
  fn_run mixed Tryd.func11 (sp_hwrite n) n ann_hwrite (env_hwrite n) (envOf_cons (ok_mix n) envOf_nil) [] (fun _ => none) gl_none (run_hwrite n) (by kernel_rfl)
def pre_hsum : Shape := ⟨[.c (.ref (.pair (.arr 8 (.int .u32)) (.pair (.arr 64 (.int .u8)) (.pair (.int .i64) (.pair (.int .i64) .unit)))))], []⟩
def post_hsum : List Shape := [⟨[.sg [.blk (.arr 32 (.int .u8))]], []⟩]
def ann_hsum : Ann := (.two .no (.two .no (.two .no (.two .no (.two .no (.two .no (.two (.two .no (.one (.loop ⟨[2, 3, 27, 28], ⟨[.c (.arr 500 1), .c (.arr 501 1), .sg [.blk (.arr 8 (.int .u32))], .c (.dat (.int .i64))], [(500, .row 24 (.int .u8)), (501, .row 24 (.int .u8))]⟩⟩ (.two .no (.two .no (.two (.one (.two .no (.two .no (.one (.loop ⟨[2, 3, 7, 8, 27, 28, 32], ⟨[.c (.arr 500 1), .c (.arr 501 1), .c (.dat (.int .i64)), .c (.dat (.int .u32)), .sg [.blk (.arr 8 (.int .u32))], .c (.dat (.int .i64)), .c (.dat (.int .i64))], [(500, .row 24 (.int .u8)), (501, .row 24 (.int .u8))]⟩⟩ .no))))) .no)))))) .no)))))))
/-- what (turnstile/sha.Hash).Sum comes to. -/
def hsum (n : Nat) (x : (List Int × (List Int × (Int × (Int × Unit))))) : Option (List Int) :=
  (Option.bind (pad n x.2.2.2.1) fun r2 =>
  (Option.bind (hwrite n (r2.1, (x.1, (x.2.1, (x.2.2.1, x.2.2.2.1))))) fun r3 =>
  (loopF (X := (List Int) × Int × (List Int) × List Int) (A := List Int) (fun rec4 y5 => match y5 with
  | (a6, (a7, (a8, a9))) =>
  (if (decide (a7 < (8 : Int))) = true then
  (Option.bind (idx a6 a7) fun v10 =>
  (loopF (X := Int × Int × (List Int) × Int × Int × (List Int) × List Int) (A := List Int) (fun rec11 y12 => match y12 with
  | (a13, (a14, (a15, (a16, (a17, (a18, a19)))))) =>
  (if (decide (a17 < (4 : Int))) = true then
  (let u20 : Int := (IntKind.wrap .i64 ((4 : Int) * a13))
  (let u21 : Int := (IntKind.wrap .i64 ((8 : Int) * a17))
  (let u22 : Int := (IntKind.wrap .i64 ((24 : Int) - u21))
  (if u22 < 0 then none else (let u23 : Int := (Int.fdiv a14 (2 ^ (min u22.toNat 32)))
  (if 32 = a19.length then
  (if 0 ≤ (IntKind.wrap .i64 (u20 + a17)) ∧ (IntKind.wrap .i64 (u20 + a17)) < (a19.length : Int) then
  (let u24 : List Int := (a19.set (IntKind.wrap .i64 (u20 + a17)).toNat (IntKind.wrap .u8 u23))
  (let u25 : Int := (IntKind.wrap .i64 (a17 + (1 : Int)))
  rec11 (a13, (a14, (a15, (a16, (u25, (a18, u24))))))))
  else none)
  else none))))))
  else
  (let u26 : Int := (IntKind.wrap .i64 (a16 + (1 : Int)))
  rec4 (a15, (u26, (a18, a19)))))) n (a7, (v10, (a6, (a7, ((0 : Int), (a8, a9))))))))
  else
  (if 32 = a9.length then
  (if 32 = a8.length ∧ 32 = a9.length then
  (if 32 = a9.length then
  some a9
  else none)
  else none)
  else none))) n (r3.1, ((0 : Int), (([(0 : Int), (0 : Int), (0 : Int), (0 : Int), (0 : Int), (0 : Int), (0 : Int), (0 : Int), (0 : Int), (0 : Int), (0 : Int), (0 : Int), (0 : Int), (0 : Int), (0 : Int), (0 : Int), (0 : Int), (0 : Int), (0 : Int), (0 : Int), (0 : Int), (0 : Int), (0 : Int), (0 : Int), (0 : Int), (0 : Int), (0 : Int), (0 : Int), (0 : Int), (0 : Int), (0 : Int), (0 : Int)] : List Int), ([(0 : Int), (0 : Int), (0 : Int), (0 : Int), (0 : Int), (0 : Int), (0 : Int), (0 : Int), (0 : Int), (0 : Int), (0 : Int), (0 : Int), (0 : Int), (0 : Int), (0 : Int), (0 : Int), (0 : Int), (0 : Int), (0 : Int), (0 : Int), (0 : Int), (0 : Int), (0 : Int), (0 : Int), (0 : Int), (0 : Int), (0 : Int), (0 : Int), (0 : Int), (0 : Int), (0 : Int), (0 : Int)] : List Int)))))))
def sp_hsum (n : Nat) : Spec := ⟨pre_hsum, post_hsum, hsum n⟩
def env_hsum (n : Nat) : List (FuncId × Spec) := [(18, sp_pad n), (11, sp_hwrite n)]
theorem run_hsum (n : Nat) (x : pre_hsum.T) : fnRun Tryd.prog 57 (envG (env_hsum n) [] (fun _ => none)) n Tryd.f13 ann_hsum pre_hsum post_hsum x = hsum n x := by kernel_rfl
theorem ok_hsum (n : Nat) : FnOK Tryd.prog 57 LG 13 (sp_hsum n) :=
  fn_run mixed Tryd.func13 (sp_hsum n) n ann_hsum (env_hsum n) (envOf_cons (ok_pad n) (envOf_cons (ok_hwrite n) envOf_nil)) [] (fun _ => none) gl_none (run_hsum n) (by kernel_rfl)
def pre_sum : Shape := ⟨[.c (.dat (.list (.int .u8)))], []⟩
def post_sum : List Shape := [⟨[.sg [.blk (.arr 32 (.int .u8))]], []⟩]
def ann_sum : Ann := .no
/-- what turnstile/sha.Sum comes to. -/
def sum (n : Nat) (x : List Int) : Option (List Int) :=
  (Option.bind (hnew n ()) fun r2 =>
  (Option.bind (hwrite n (x, (r2.1, (r2.2.1, (r2.2.2.1, r2.2.2.2))))) fun r3 =>
  (Option.bind (hsum n (r3.1, (r3.2.1, (r3.2.2.1, (r3.2.2.2, ()))))) fun r4 =>
  (if 32 = 32 ∧ 32 = r4.length then
  (if 32 = r4.length then
  some r4
  else none)
  else none))))
def sp_sum (n : Nat) : Spec := ⟨pre_sum, post_sum, sum n⟩
def env_sum (n : Nat) : List (FuncId × Spec) := [(7, sp_hnew n), (11, sp_hwrite n), (13, sp_hsum n)]
theorem run_sum (n : Nat) (x : pre_sum.T) : fnRun Tryd.prog 57 (envG (env_sum n) [] (fun _ => none)) n Tryd.f8 ann_sum pre_sum post_sum x = sum n x := by kernel_rfl
theorem ok_sum (n : Nat) : FnOK Tryd.prog 57 LG 8 (sp_sum n) :=
  fn_run mixed Tryd.func8 (sp_sum n) n ann_sum (env_sum n) (envOf_cons (ok_hnew n) (envOf_cons (ok_hwrite n) (envOf_cons (ok_hsum n) envOf_nil))) [] (fun _ => none) gl_none (run_sum n) (by kernel_rfl)
def pre_sure : Shape := ⟨[], []⟩
def post_sure : List Shape := [⟨[.c (.dat .bool)], []⟩]
def ann_sure : Ann := .no
/-- what turnstile/turnstilelaw03.sure comes to. -/
def sure (n : Nat) (x : Unit) : Option (Bool) :=
  (Option.bind (sum n ([(97 : Int), (98 : Int), (99 : Int)] : List Int)) fun r1 =>
  (Option.bind (text n r1) fun r2 =>
  some (r2 == ([(98 : Int), (97 : Int), (55 : Int), (56 : Int), (49 : Int), (54 : Int), (98 : Int), (102 : Int), (56 : Int), (102 : Int), (48 : Int), (49 : Int), (99 : Int), (102 : Int), (101 : Int), (97 : Int), (52 : Int), (49 : Int), (52 : Int), (49 : Int), (52 : Int), (48 : Int), (100 : Int), (101 : Int), (53 : Int), (100 : Int), (97 : Int), (101 : Int), (50 : Int), (50 : Int), (50 : Int), (51 : Int), (98 : Int), (48 : Int), (48 : Int), (51 : Int), (54 : Int), (49 : Int), (97 : Int), (51 : Int), (57 : Int), (54 : Int), (49 : Int), (55 : Int), (55 : Int), (97 : Int), (57 : Int), (99 : Int), (98 : Int), (52 : Int), (49 : Int), (48 : Int), (102 : Int), (102 : Int), (54 : Int), (49 : Int), (102 : Int), (50 : Int), (48 : Int), (48 : Int), (49 : Int), (53 : Int), (97 : Int), (100 : Int)] : List Int))))
def sp_sure (n : Nat) : Spec := ⟨pre_sure, post_sure, sure n⟩
def env_sure (n : Nat) : List (FuncId × Spec) := [(8, sp_sum n), (9, sp_text n)]
theorem run_sure (n : Nat) (x : pre_sure.T) : fnRun Tryd.prog 57 (envG (env_sure n) [] (fun _ => none)) n Tryd.f14 ann_sure pre_sure post_sure x = sure n x := by kernel_rfl
theorem ok_sure (n : Nat) : FnOK Tryd.prog 57 LG 14 (sp_sure n) :=
  fn_run mixed Tryd.func14 (sp_sure n) n ann_sure (env_sure n) (envOf_cons (ok_sum n) (envOf_cons (ok_text n) envOf_nil)) [] (fun _ => none) gl_none (run_sure n) (by kernel_rfl)
def pre_shaSums : Shape := ⟨[.c (.dat (.list (.int .u8))), .c (.dat (.list (.int .i64)))], []⟩
def post_shaSums : List Shape := [⟨[.c (.dat .bool)], []⟩]
def ann_shaSums : Ann := (.two .no (.two .no (.two .no (.two .no (.two .no (.two .no (.two .no (.two (.two .no (.one (.loop ⟨[0, 1, 5, 6, 7, 8, 9], ⟨[.c (.dat (.list (.int .u8))), .c (.dat (.list (.int .i64))), .c (.dat (.list (.int .u8))), .c (.arr 500 1), .c (.ptr 501 0), .c (.dat (.int .i64)), .c (.dat (.int .i64))], [(500, .row 24 (.int .u8)), (501, .segs 54 [.blk (.arr 8 (.int .u32)), .blk (.arr 64 (.int .u8)), .one (.dat (.int .i64)), .one (.dat (.int .i64))])]⟩⟩ (.two (.two (.join ⟨[0, 1, 5, 6, 7, 8, 9, 39], ⟨[.c (.dat (.list (.int .u8))), .c (.dat (.list (.int .i64))), .c (.dat (.list (.int .u8))), .c (.arr 500 1), .c (.ptr 501 0), .c (.dat (.int .i64)), .c (.dat (.int .i64)), .c (.dat .bool)], [(500, .row 24 (.int .u8)), (501, .segs 54 [.blk (.arr 8 (.int .u32)), .blk (.arr 64 (.int .u8)), .one (.dat (.int .i64)), .one (.dat (.int .i64))])]⟩⟩ .no) .no) .no)))) .no))))))))
/-- what turnstile/turnstilelaw03.ShaSums comes to. -/
def shaSums (n : Nat) (x : (List Int) × List Int) : Option (Bool) :=
  match x with
  | (x1, x2) =>
  (if x1.length * 1 ≤ 140737488355328 then
  (Option.bind (rSum n x1) fun r3 =>
  (if 32 = 32 ∧ 32 = r3.length then
  (Option.bind (hnew n ()) fun r4 =>
  (Option.bind (sum n x1) fun r5 =>
  (if 32 = r3.length then
  (if List.length r5 = 32 ∧ List.length r3 = 32 then
  (if (!(r5 == r3)) = true then
  some false
  else
  (if 32 = r3.length then
  (Option.bind (text n r3) fun r6 =>
  (if 32 = r3.length then
  (Option.bind (rText n r3) fun r7 =>
  (if (!(r6 == r7)) = true then
  some false
  else
  (loopF (X := (List Int) × (List Int) × (List Int) × Int × Int × (List Int) × (List Int) × (List Int) × Int × Int) (A := Bool) (fun rec8 y9 => match y9 with
  | (a10, (a11, (a12, (a13, (a14, (a15, (a16, (a17, (a18, a19))))))))) =>
  (Option.bind (α := Out ((List Int) × (List Int) × (List Int) × Int × Int × Bool × (List Int) × (List Int) × (List Int) × Int × Int) (Bool)) ((if (decide (a14 < (a11.length : Int))) = true then
  (some (Out.go (a10, (a11, (a12, (a13, (a14, ((decide (a14 < (50 : Int))), (a15, (a16, (a17, (a18, a19))))))))))))
  else
  (some (Out.go (a10, (a11, (a12, (a13, (a14, (false, (a15, (a16, (a17, (a18, a19)))))))))))))) fun o => match o with
  | .go (z21, (z22, (z23, (z24, (z25, (z26, (z27, (z28, (z29, (z30, z31)))))))))) =>
  (if z26 = true then
  (Option.bind (idx z22 z25) fun v32 =>
  (let u33 : Int := (Int.tmod (IntKind.wrap .u64 v32) (100 : Int))
  (let u34 : Int := (IntKind.wrap .i64 ((z21.length : Int) - z24))
  (let u35 : Int := (if u34 < (IntKind.wrap .i64 u33) then u34 else (IntKind.wrap .i64 u33))
  (if 0 ≤ z24 ∧ z24 ≤ (IntKind.wrap .i64 (z24 + u35)) ∧ (IntKind.wrap .i64 (z24 + u35)) ≤ (z23.length : Int) then
  (let u36 : List Int := ((z23.drop z24.toNat).take ((IntKind.wrap .i64 (z24 + u35)).toNat - z24.toNat))
  (Option.bind (hwrite n (u36, (z28, (z29, (z30, z31))))) fun r37 =>
  (Option.bind (hlen n (r37.1, (r37.2.1, (r37.2.2.1, (r37.2.2.2, ()))))) fun r38 =>
  (if (r38 != (IntKind.wrap .i64 (z24 + u35))) = true then
  some false
  else
  (let u39 : Int := (IntKind.wrap .i64 (z25 + (1 : Int)))
  rec8 (z21, (z22, (z23, ((IntKind.wrap .i64 (z24 + u35)), (u39, (z27, (r37.1, (r37.2.1, (r37.2.2.1, r37.2.2.2))))))))))))))
  else none)))))
  else
  (if 0 ≤ z24 ∧ z24 ≤ (z23.length : Int) ∧ (z23.length : Int) ≤ (z23.length : Int) then
  (let u40 : List Int := ((z23.drop z24.toNat).take (((z23.length : Int)).toNat - z24.toNat))
  (Option.bind (hwrite n (u40, (z28, (z29, (z30, z31))))) fun r41 =>
  (Option.bind (hsum n (r41.1, (r41.2.1, (r41.2.2.1, (r41.2.2.2, ()))))) fun r42 =>
  (if 32 = z27.length then
  (if List.length r42 = 32 ∧ List.length z27 = 32 then
  (if (r42 == z27) = true then
  (Option.bind (hsum n (r41.1, (r41.2.1, (r41.2.2.1, (r41.2.2.2, ()))))) fun r43 =>
  (if 32 = z27.length then
  (if List.length r43 = 32 ∧ List.length z27 = 32 then
  (if (r43 == z27) = true then
  (Option.bind (hlen n (r41.1, (r41.2.1, (r41.2.2.1, (r41.2.2.2, ()))))) fun r44 =>
  (if (r44 == (z21.length : Int)) = true then
  (if (z23 == z21) = true then
  (Option.bind (sure n ()) fun r45 =>
  some r45)
  else
  some false)
  else
  some false))
  else
  some false)
  else none)
  else none))
  else
  some false)
  else none)
  else none))))
  else none))
  | .ret r46 => some r46)) n (x1, (x2, (x1, ((0 : Int), ((0 : Int), (r3, (r4.1, (r4.2.1, (r4.2.2.1, r4.2.2.2))))))))))))
  else none))
  else none))
  else none)
  else none)))
  else none))
  else none)
def sp_shaSums (n : Nat) : Spec := ⟨pre_shaSums, post_shaSums, shaSums n⟩
def env_shaSums (n : Nat) : List (FuncId × Spec) := [(6, sp_rSum n), (7, sp_hnew n), (8, sp_sum n), (9, sp_text n), (10, sp_rText n), (11, sp_hwrite n), (12, sp_hlen n), (13, sp_hsum n), (14, sp_sure n)]
theorem run_shaSums (n : Nat) (x : pre_shaSums.T) : fnRun Tryd.prog 57 (envG (env_shaSums n) [] (fun _ => none)) n Tryd.f3 ann_shaSums pre_shaSums post_shaSums x = shaSums n x := by kernel_rfl
theorem ok_shaSums (n : Nat) : FnOK Tryd.prog 57 LG 3 (sp_shaSums n) :=
  fn_run mixed Tryd.func3 (sp_shaSums n) n ann_shaSums (env_shaSums n) (envOf_cons (ok_rSum n) (envOf_cons (ok_hnew n) (envOf_cons (ok_sum n) (envOf_cons (ok_text n) (envOf_cons (ok_rText n) (envOf_cons (ok_hwrite n) (envOf_cons (ok_hlen n) (envOf_cons (ok_hsum n) (envOf_cons (ok_sure n) envOf_nil))))))))) [] (fun _ => none) gl_none (run_shaSums n) (by kernel_rfl)
def pre_shaCuts : Shape := ⟨[.c (.dat (.list (.int .u8))), .c (.dat (.list (.int .u8))), .c (.dat (.list (.int .u8)))], []⟩
def post_shaCuts : List Shape := [⟨[.c (.dat .bool)], []⟩]
def ann_shaCuts : Ann := .no
/-- what turnstile/turnstilelaw03.ShaCuts comes to. -/
def shaCuts (n : Nat) (x : (List Int) × (List Int) × List Int) : Option (Bool) :=
  match x with
  | (x1, (x2, x3)) =>
  (Option.bind (hnew n ()) fun r4 =>
  (if (decide ((x1.length : Int) > (5000 : Int))) = true then
  (Option.bind (sure n ()) fun r5 =>
  some r5)
  else
  (if (decide ((x2.length : Int) > (5000 : Int))) = true then
  (Option.bind (sure n ()) fun r6 =>
  some r6)
  else
  (if (decide ((x3.length : Int) > (5000 : Int))) = true then
  (Option.bind (sure n ()) fun r7 =>
  some r7)
  else
  (if x1.length * 1 ≤ 140737488355328 then
  (if (x1.length + x2.length) * 1 ≤ 140737488355328 then
  (if x1.length * 1 ≤ 140737488355328 then
  (if (x1.length + x3.length) * 1 ≤ 140737488355328 then
  (if x1.length * 1 ≤ 140737488355328 then
  (if x2.length * 1 ≤ 140737488355328 then
  (if x3.length * 1 ≤ 140737488355328 then
  (Option.bind (hwrite n (x1, (r4.1, (r4.2.1, (r4.2.2.1, r4.2.2.2))))) fun r8 =>
  (Option.bind (hsum n (r8.1, (r8.2.1, (r8.2.2.1, (r8.2.2.2, ()))))) fun r9 =>
  (if 32 = 32 ∧ 32 = r9.length then
  (Option.bind (hclone n (r8.1, (r8.2.1, (r8.2.2.1, (r8.2.2.2, ()))))) fun r10 =>
  (Option.bind (hwrite n (x2, (r8.1, (r8.2.1, (r8.2.2.1, r8.2.2.2))))) fun r11 =>
  (Option.bind (hwrite n (x3, (r10.1, (r10.2.1, (r10.2.2.1, r10.2.2.2))))) fun r12 =>
  (if 32 = r9.length then
  (if x1.length * 1 ≤ 140737488355328 then
  (Option.bind (sum n x1) fun r13 =>
  (if List.length r9 = 32 ∧ List.length r13 = 32 then
  (if (r9 == r13) = true then
  (Option.bind (hsum n (r11.1, (r11.2.1, (r11.2.2.1, (r11.2.2.2, ()))))) fun r14 =>
  (Option.bind (sum n (x1 ++ x2)) fun r15 =>
  (if List.length r14 = 32 ∧ List.length r15 = 32 then
  (if (r14 == r15) = true then
  (Option.bind (hsum n (r12.1, (r12.2.1, (r12.2.2.1, (r12.2.2.2, ()))))) fun r16 =>
  (Option.bind (sum n (x1 ++ x3)) fun r17 =>
  (if List.length r16 = 32 ∧ List.length r17 = 32 then
  (if (r16 == r17) = true then
  (Option.bind (hlen n (r11.1, (r11.2.1, (r11.2.2.1, (r11.2.2.2, ()))))) fun r18 =>
  (if (r18 == ((x1 ++ x2).length : Int)) = true then
  (Option.bind (hlen n (r12.1, (r12.2.1, (r12.2.2.1, (r12.2.2.2, ()))))) fun r19 =>
  (if (r19 == ((x1 ++ x3).length : Int)) = true then
  (Option.bind (sure n ()) fun r20 =>
  some r20)
  else
  some false))
  else
  some false))
  else
  some false)
  else none)))
  else
  some false)
  else none)))
  else
  some false)
  else none))
  else none)
  else none))))
  else none)))
  else none)
  else none)
  else none)
  else none)
  else none)
  else none)
  else none)))))
def sp_shaCuts (n : Nat) : Spec := ⟨pre_shaCuts, post_shaCuts, shaCuts n⟩
def env_shaCuts (n : Nat) : List (FuncId × Spec) := [(7, sp_hnew n), (14, sp_sure n), (11, sp_hwrite n), (13, sp_hsum n), (15, sp_hclone n), (8, sp_sum n), (12, sp_hlen n)]
theorem run_shaCuts (n : Nat) (x : pre_shaCuts.T) : fnRun Tryd.prog 57 (envG (env_shaCuts n) [] (fun _ => none)) n Tryd.f4 ann_shaCuts pre_shaCuts post_shaCuts x = shaCuts n x := by kernel_rfl
theorem ok_shaCuts (n : Nat) : FnOK Tryd.prog 57 LG 4 (sp_shaCuts n) :=
  fn_run mixed Tryd.func4 (sp_shaCuts n) n ann_shaCuts (env_shaCuts n) (envOf_cons (ok_hnew n) (envOf_cons (ok_sure n) (envOf_cons (ok_hwrite n) (envOf_cons (ok_hsum n) (envOf_cons (ok_hclone n) (envOf_cons (ok_sum n) (envOf_cons (ok_hlen n) envOf_nil))))))) [] (fun _ => none) gl_none (run_shaCuts n) (by kernel_rfl)
end Go.Sx.YtankgmieldchdaaDoor
