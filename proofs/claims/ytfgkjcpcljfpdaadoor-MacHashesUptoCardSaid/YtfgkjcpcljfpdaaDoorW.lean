/- Part of a proof by a small interpreter on plain values; no condition. -/
import Derived.Test.YtfgkjcpcljfpdaaDoorSx19
import Derived.Test.YtfgkjcpcljfpdaaDoorProg
/-! written by program: the functions as plain ones, and their contracts. -/
namespace Go.Sx.YtfgkjcpcljfpdaaDoor
open Go Go.Sx Go.Proofs
set_option autoImplicit false
set_option maxRecDepth 100000
set_option linter.unusedVariables false
theorem mixed : Tryd.prog.follows .mixedOrders = true := by kernel_rfl
/-- the constants of the rounds; the state at the begin. -/
def cK : List Int := [1116352408, 1899447441, 3049323471, 3921009573, 961987163, 1508970993, 2453635748, 2870763221, 3624381080, 310598401, 607225278, 1426881987, 1925078388, 2162078206, 2614888103, 3248222580, 3835390401, 4022224774, 264347078, 604807628, 770255983, 1249150122, 1555081692, 1996064986, 2554220882, 2821834349, 2952996808, 3210313671, 3336571891, 3584528711, 113926993, 338241895, 666307205, 773529912, 1294757372, 1396182291, 1695183700, 1986661051, 2177026350, 2456956037, 2730485921, 2820302411, 3259730800, 3345764771, 3516065817, 3600352804, 4094571909, 275423344, 430227734, 506948616, 659060556, 883997877, 958139571, 1322822218, 1537002063, 1747873779, 1955562222, 2024104815, 2227730452, 2361852424, 2428436474, 2756734187, 3204031479, 3329325298]
def cF : List Int := [1779033703, 3144134277, 1013904242, 2773480762, 1359893119, 2600822924, 528734635, 1541459225]
def GL : List (Nat × ((κ : K) × κ.T)) := [(1, ⟨.arr 64 (.int .u32), cK⟩), (0, ⟨.arr 8 (.int .u32), cF⟩)]
/-- what the package-level variables hold. -/
def LG (R : Part) : Prop := ∀ p ∈ GL, ∃ arr ty fr, R p.1 = some (.cells arr ty fr) ∧ p.2.1.Rd 74 R p.2.2 (arr.toList.take p.2.1.sz)
theorem GL_ok : ∀ R : Part, LG R → ∀ p ∈ GL, ∃ arr ty fr, R p.1 = some (.cells arr ty fr) ∧ p.2.1.Rd 74 R p.2.2 (arr.toList.take p.2.1.sz) := fun _ h => h
def pre_rHash : Shape := ⟨[.c (.dat .str)], []⟩
def post_rHash : List Shape := [⟨[.c (.dat (.int .u64))], []⟩]
def ann_rHash : Ann := (.two .no (.two .no (.two (.two .no (.one (.loop ⟨[0, 3, 4], ⟨[.c (.dat .str), .c (.dat (.int .u64)), .c (.dat (.int .i64))], []⟩⟩ .no))) .no)))
/-- what turnstile/turnstileref04.Hash comes to. -/
def rHash (n : Nat) (x : List Int) : Option (Int) :=
  (loopF (X := (List Int) × Int × Int) (A := Int) (fun rec2 y3 => match y3 with
  | (a4, (a5, a6)) =>
  (if (decide (a6 < (a4.length : Int))) = true then
  (Option.bind (idx a4 a6) fun v7 =>
  (let u8 : Int := (bits .xor .u64 a5 (IntKind.wrap .u64 v7))
  (let u9 : Int := (IntKind.wrap .u64 (u8 * (1099511628211 : Int)))
  rec2 (a4, (u9, (IntKind.wrap .i64 (a6 + (1 : Int))))))))
  else
  some a5)) n (x, ((14695981039346656037 : Int), (0 : Int))))
def sp_rHash (n : Nat) : Spec := ⟨pre_rHash, post_rHash, rHash n⟩
def env_rHash (n : Nat) : List (FuncId × Spec) := []
theorem run_rHash (n : Nat) (x : pre_rHash.T) : fnRun Tryd.prog 74 (envG (env_rHash n) [] (fun _ => none)) n Tryd.f8 ann_rHash pre_rHash post_rHash x = rHash n x := by kernel_rfl
theorem ok_rHash (n : Nat) : FnOK Tryd.prog 74 LG 8 (sp_rHash n) :=
  fn_run mixed Tryd.func8 (sp_rHash n) n ann_rHash (env_rHash n) envOf_nil [] (fun _ => none) gl_none (run_rHash n) (by kernel_rfl)
def pre_rHashAll : Shape := ⟨[.c (.dat (.list .str))], []⟩
def post_rHashAll : List Shape := [⟨[.c (.dat (.int .u64))], []⟩]
def ann_rHashAll : Ann := (.two .no (.two .no (.two (.two .no (.one (.loop ⟨[0, 3, 4], ⟨[.c (.dat (.list .str)), .c (.own 500), .c (.dat (.int .i64))], [(500, .row 5 (.int .u8))]⟩⟩ .no))) .no)))
/-- what turnstile/turnstileref04.HashAll comes to. -/
def rHashAll (n : Nat) (x : List (List Int)) : Option (Int) :=
  (loopF (X := (List (List Int)) × Int × List Int) (A := Int) (fun rec2 y3 => match y3 with
  | (a4, (a5, a6)) =>
  (if (decide (a5 < (a4.length : Int))) = true then
  (Option.bind (idx a4 a5) fun v7 =>
  (if (a6.length + v7.length) * 1 ≤ 140737488355328 then
  (if ((a6 ++ v7).length + 1) * 1 ≤ 140737488355328 then
  (let u8 : List Int := ((a6 ++ v7) ++ ([(0 : Int)] : List Int))
  rec2 (a4, ((IntKind.wrap .i64 (a5 + (1 : Int))), u8)))
  else none)
  else none))
  else
  (Option.bind (rHash n a6) fun r9 =>
  some r9))) n (x, ((0 : Int), ([] : List Int))))
def sp_rHashAll (n : Nat) : Spec := ⟨pre_rHashAll, post_rHashAll, rHashAll n⟩
def env_rHashAll (n : Nat) : List (FuncId × Spec) := [(8, sp_rHash n)]
theorem run_rHashAll (n : Nat) (x : pre_rHashAll.T) : fnRun Tryd.prog 74 (envG (env_rHashAll n) [] (fun _ => none)) n Tryd.f10 ann_rHashAll pre_rHashAll post_rHashAll x = rHashAll n x := by kernel_rfl
theorem ok_rHashAll (n : Nat) : FnOK Tryd.prog 74 LG 10 (sp_rHashAll n) :=
  fn_run mixed Tryd.func10 (sp_rHashAll n) n ann_rHashAll (env_rHashAll n) (envOf_cons (ok_rHash n) envOf_nil) [] (fun _ => none) gl_none (run_rHashAll n) (by kernel_rfl)
def pre_bytes : Shape := ⟨[.c (.dat (.int .u64))], []⟩
def post_bytes : List Shape := [⟨[.sg [.blk (.arr 8 (.int .u8))]], []⟩]
def ann_bytes : Ann := (.two .no (.two .no (.two (.two .no (.one (.loop ⟨[0, 2, 3, 5], ⟨[.c (.dat (.int .u64)), .c (.arr 500 1), .c (.arr 501 1), .c (.dat (.int .i64))], [(500, .row 26 (.int .u8)), (501, .row 26 (.int .u8))]⟩⟩ .no))) .no)))
/-- what turnstile/mac.Bytes comes to. -/
def bytes (n : Nat) (x : Int) : Option (List Int) :=
  (loopF (X := Int × Int × (List Int) × List Int) (A := List Int) (fun rec2 y3 => match y3 with
  | (a4, (a5, (a6, a7))) =>
  (if (decide (a5 < (8 : Int))) = true then
  (let u8 : Int := (IntKind.wrap .i64 ((56 : Int) - (IntKind.wrap .i64 ((8 : Int) * a5))))
  (if (IntKind.wrap .u64 u8) < 0 then none else (let u9 : Int := (Int.fdiv a4 (2 ^ (min (IntKind.wrap .u64 u8).toNat 64)))
  (if 8 = a7.length then
  (if 0 ≤ a5 ∧ a5 < (a7.length : Int) then
  (let u10 : List Int := (a7.set a5.toNat (IntKind.wrap .u8 u9))
  rec2 (a4, ((IntKind.wrap .i64 (a5 + (1 : Int))), (a6, u10))))
  else none)
  else none))))
  else
  (if 8 = a7.length then
  (if 8 = a6.length ∧ 8 = a7.length then
  (if 8 = a7.length then
  some a7
  else none)
  else none)
  else none))) n (x, ((0 : Int), (([(0 : Int), (0 : Int), (0 : Int), (0 : Int), (0 : Int), (0 : Int), (0 : Int), (0 : Int)] : List Int), ([(0 : Int), (0 : Int), (0 : Int), (0 : Int), (0 : Int), (0 : Int), (0 : Int), (0 : Int)] : List Int)))))
def sp_bytes (n : Nat) : Spec := ⟨pre_bytes, post_bytes, bytes n⟩
def env_bytes (n : Nat) : List (FuncId × Spec) := []
theorem run_bytes (n : Nat) (x : pre_bytes.T) : fnRun Tryd.prog 74 (envG (env_bytes n) [] (fun _ => none)) n Tryd.f11 ann_bytes pre_bytes post_bytes x = bytes n x := by kernel_rfl
theorem ok_bytes (n : Nat) : FnOK Tryd.prog 74 LG 11 (sp_bytes n) :=
  fn_run mixed Tryd.func11 (sp_bytes n) n ann_bytes (env_bytes n) envOf_nil [] (fun _ => none) gl_none (run_bytes n) (by kernel_rfl)
def pre_rBytes : Shape := ⟨[.c (.dat (.int .u64))], []⟩
def post_rBytes : List Shape := [⟨[.sg [.blk (.arr 8 (.int .u8))]], []⟩]
def ann_rBytes : Ann := (.two .no (.two .no (.two (.two .no (.one (.loop ⟨[0, 2, 3, 4], ⟨[.c (.dat (.int .u64)), .c (.arr 500 1), .c (.arr 501 1), .c (.dat (.int .i64))], [(500, .row 26 (.int .u8)), (501, .row 26 (.int .u8))]⟩⟩ .no))) .no)))
/-- what turnstile/turnstileref04.Bytes comes to. -/
def rBytes (n : Nat) (x : Int) : Option (List Int) :=
  (loopF (X := Int × Int × (List Int) × List Int) (A := List Int) (fun rec2 y3 => match y3 with
  | (a4, (a5, (a6, a7))) =>
  (if (decide (a5 ≥ (0 : Int))) = true then
  (let u8 : Int := (IntKind.wrap .u8 (Int.tmod a4 (256 : Int)))
  (if 8 = a7.length then
  (if 0 ≤ a5 ∧ a5 < (a7.length : Int) then
  (let u9 : Int := (IntKind.wrap .u64 (Int.tdiv a4 (256 : Int)))
  rec2 (u9, ((IntKind.wrap .i64 (a5 - (1 : Int))), (a6, (a7.set a5.toNat u8)))))
  else none)
  else none))
  else
  (if 8 = a7.length then
  (if 8 = a6.length ∧ 8 = a7.length then
  (if 8 = a7.length then
  some a7
  else none)
  else none)
  else none))) n (x, ((7 : Int), (([(0 : Int), (0 : Int), (0 : Int), (0 : Int), (0 : Int), (0 : Int), (0 : Int), (0 : Int)] : List Int), ([(0 : Int), (0 : Int), (0 : Int), (0 : Int), (0 : Int), (0 : Int), (0 : Int), (0 : Int)] : List Int)))))
def sp_rBytes (n : Nat) : Spec := ⟨pre_rBytes, post_rBytes, rBytes n⟩
def env_rBytes (n : Nat) : List (FuncId × Spec) := []
theorem run_rBytes (n : Nat) (x : pre_rBytes.T) : fnRun Tryd.prog 74 (envG (env_rBytes n) [] (fun _ => none)) n Tryd.f12 ann_rBytes pre_rBytes post_rBytes x = rBytes n x := by kernel_rfl
theorem ok_rBytes (n : Nat) : FnOK Tryd.prog 74 LG 12 (sp_rBytes n) :=
  fn_run mixed Tryd.func12 (sp_rBytes n) n ann_rBytes (env_rBytes n) envOf_nil [] (fun _ => none) gl_none (run_rBytes n) (by kernel_rfl)
def pre_twin : Shape := ⟨[.c (.dat (.list (.int .u8)))], []⟩
def post_twin : List Shape := [⟨[.c (.own 0)], [(0, .row 5 (.int .u8))]⟩]
def ann_twin : Ann := .no
/-- what turnstile/turnstilelaw04.twin comes to. -/
def twin (n : Nat) (x : List Int) : Option (List Int) :=
  (if x.length * 1 ≤ 140737488355328 then
  some x
  else none)
def sp_twin (n : Nat) : Spec := ⟨pre_twin, post_twin, twin n⟩
def env_twin (n : Nat) : List (FuncId × Spec) := []
theorem run_twin (n : Nat) (x : pre_twin.T) : fnRun Tryd.prog 74 (envG (env_twin n) [] (fun _ => none)) n Tryd.f14 ann_twin pre_twin post_twin x = twin n x := by kernel_rfl
theorem ok_twin (n : Nat) : FnOK Tryd.prog 74 LG 14 (sp_twin n) :=
  fn_run mixed Tryd.func14 (sp_twin n) n ann_twin (env_twin n) envOf_nil [] (fun _ => none) gl_none (run_twin n) (by kernel_rfl)
def pre_same : Shape := ⟨[.c (.dat (.list (.int .u8))), .c (.dat (.list (.int .u8)))], []⟩
def post_same : List Shape := [⟨[.c (.dat .bool)], []⟩]
def ann_same : Ann := (.two .no (.two .no (.two .no (.two (.two .no (.one (.loop ⟨[0, 1, 5, 13, 14], ⟨[.c (.dat (.list (.int .u8))), .c (.dat (.list (.int .u8))), .c (.dat (.int .u8)), .c (.dat (.int .i64)), .c (.dat (.int .i64))], []⟩⟩ .no))) .no))))
/-- what turnstile/mac.Same comes to. -/
def same (n : Nat) (x : (List Int) × List Int) : Option (Bool) :=
  match x with
  | (x1, x2) =>
  (if ((x1.length : Int) != (x2.length : Int)) = true then
  some false
  else
  (loopF (X := (List Int) × (List Int) × Int × Int × Int) (A := Bool) (fun rec3 y4 => match y4 with
  | (a5, (a6, (a7, (a8, a9)))) =>
  (if (decide (a9 < a8)) = true then
  (Option.bind (idx a5 a9) fun v10 =>
  (Option.bind (idx a6 a9) fun v11 =>
  (let u12 : Int := (bits .or .u8 a7 (bits .xor .u8 v10 v11))
  rec3 (a5, (a6, (u12, (a8, (IntKind.wrap .i64 (a9 + (1 : Int))))))))))
  else
  some (a7 == (0 : Int)))) n (x1, (x2, ((0 : Int), ((x1.length : Int), (0 : Int)))))))
def sp_same (n : Nat) : Spec := ⟨pre_same, post_same, same n⟩
def env_same (n : Nat) : List (FuncId × Spec) := []
theorem run_same (n : Nat) (x : pre_same.T) : fnRun Tryd.prog 74 (envG (env_same n) [] (fun _ => none)) n Tryd.f24 ann_same pre_same post_same x = same n x := by kernel_rfl
theorem ok_same (n : Nat) : FnOK Tryd.prog 74 LG 24 (sp_same n) :=
  fn_run mixed Tryd.func24 (sp_same n) n ann_same (env_same n) envOf_nil [] (fun _ => none) gl_none (run_same n) (by kernel_rfl)
def pre_rSame : Shape := ⟨[.c (.dat (.list (.int .u8))), .c (.dat (.list (.int .u8)))], []⟩
def post_rSame : List Shape := [⟨[.c (.dat .bool)], []⟩]
def ann_rSame : Ann := .no
/-- what turnstile/turnstileref04.Same comes to. -/
def rSame (n : Nat) (x : (List Int) × List Int) : Option (Bool) :=
  match x with
  | (x1, x2) =>
  some (x1 == x2)
def sp_rSame (n : Nat) : Spec := ⟨pre_rSame, post_rSame, rSame n⟩
def env_rSame (n : Nat) : List (FuncId × Spec) := []
theorem run_rSame (n : Nat) (x : pre_rSame.T) : fnRun Tryd.prog 74 (envG (env_rSame n) [] (fun _ => none)) n Tryd.f25 ann_rSame pre_rSame post_rSame x = rSame n x := by kernel_rfl
theorem ok_rSame (n : Nat) : FnOK Tryd.prog 74 LG 25 (sp_rSame n) :=
  fn_run mixed Tryd.func25 (sp_rSame n) n ann_rSame (env_rSame n) envOf_nil [] (fun _ => none) gl_none (run_rSame n) (by kernel_rfl)
def pre_hashed : Shape := ⟨[.c (.dat (.int .u64)), .c (.dat .str)], []⟩
def post_hashed : List Shape := [⟨[.c (.dat (.int .u64))], []⟩]
def ann_hashed : Ann := (.two .no (.two (.two .no (.one (.loop ⟨[0, 1, 7, 8], ⟨[.c (.dat (.int .u64)), .c (.dat .str), .c (.dat (.int .i64)), .c (.dat (.int .i64))], []⟩⟩ .no))) .no))
/-- what turnstile/mac.hashed comes to. -/
def hashed (n : Nat) (x : Int × List Int) : Option (Int) :=
  match x with
  | (x1, x2) =>
  (loopF (X := Int × (List Int) × Int × Int) (A := Int) (fun rec3 y4 => match y4 with
  | (a5, (a6, (a7, a8))) =>
  (if (decide (a8 < a7)) = true then
  (Option.bind (idx a6 a8) fun v9 =>
  (let u10 : Int := (bits .xor .u64 a5 (IntKind.wrap .u64 v9))
  (let u11 : Int := (IntKind.wrap .u64 (u10 * (1099511628211 : Int)))
  rec3 (u11, (a6, (a7, (IntKind.wrap .i64 (a8 + (1 : Int)))))))))
  else
  some a5)) n (x1, (x2, ((x2.length : Int), (0 : Int)))))
def sp_hashed (n : Nat) : Spec := ⟨pre_hashed, post_hashed, hashed n⟩
def env_hashed (n : Nat) : List (FuncId × Spec) := []
theorem run_hashed (n : Nat) (x : pre_hashed.T) : fnRun Tryd.prog 74 (envG (env_hashed n) [] (fun _ => none)) n Tryd.f27 ann_hashed pre_hashed post_hashed x = hashed n x := by kernel_rfl
theorem ok_hashed (n : Nat) : FnOK Tryd.prog 74 LG 27 (sp_hashed n) :=
  fn_run mixed Tryd.func27 (sp_hashed n) n ann_hashed (env_hashed n) envOf_nil [] (fun _ => none) gl_none (run_hashed n) (by kernel_rfl)
def pre_with_ : Shape := ⟨[.sg [.blk (.arr 64 (.int .u8))], .c (.dat (.int .u8))], []⟩
def post_with_ : List Shape := [⟨[.c (.ful (.int .u8))], []⟩]
def ann_with_ : Ann := (.two .no (.two (.two .no (.one (.loop ⟨[1, 2, 6], ⟨[.c (.dat (.int .u8)), .c (.arr 500 1), .c (.dat (.int .i64))], [(500, .row 48 (.int .u8))]⟩⟩ .no))) .no))
/-- what (turnstile/mac.block).with comes to. -/
def with_ (n : Nat) (x : (List Int) × Int) : Option (List Int) :=
  match x with
  | (x1, x2) =>
  (if 64 = x1.length then
  (loopF (X := Int × Int × List Int) (A := List Int) (fun rec3 y4 => match y4 with
  | (a5, (a6, a7)) =>
  (if (decide (a6 < (64 : Int))) = true then
  (if 64 = a7.length then
  (if 0 ≤ a6 ∧ a6 < (a7.length : Int) then
  (let u8 : Int := (bits .xor .u8 (a7.getD a6.toNat (0 : Int)) a5)
  (if 64 = a7.length then
  (if 0 ≤ a6 ∧ a6 < (a7.length : Int) then
  rec3 (a5, ((IntKind.wrap .i64 (a6 + (1 : Int))), (a7.set a6.toNat u8)))
  else none)
  else none))
  else none)
  else none)
  else
  (if 64 = a7.length then
  some a7
  else none))) n (x2, ((0 : Int), x1)))
  else none)
def sp_with_ (n : Nat) : Spec := ⟨pre_with_, post_with_, with_ n⟩
def env_with_ (n : Nat) : List (FuncId × Spec) := []
theorem run_with_ (n : Nat) (x : pre_with_.T) : fnRun Tryd.prog 74 (envG (env_with_ n) [99304] (fun _ => none)) n Tryd.f31 ann_with_ pre_with_ post_with_ x = with_ n x := by kernel_rfl
theorem ok_with_ (n : Nat) : FnOK Tryd.prog 74 LG 31 (sp_with_ n) :=
  fn_run mixed Tryd.func31 (sp_with_ n) n ann_with_ (env_with_ n) envOf_nil [99304] (fun _ => none) gl_none (run_with_ n) (by kernel_rfl)
def pre_hclone : Shape := ⟨[.c (.ref (.pair (.arr 8 (.int .u32)) (.pair (.arr 64 (.int .u8)) (.pair (.int .i64) (.pair (.int .i64) .unit)))))], []⟩
def post_hclone : List Shape := [⟨[.c (.ptr 0 0)], [(0, .segs 62 [.blk (.arr 8 (.int .u32)), .blk (.arr 64 (.int .u8)), .one (.dat (.int .i64)), .one (.dat (.int .i64))])]⟩]
def ann_hclone : Ann := .no
/-- what (turnstile/sha.Hash).Clone comes to. -/
def hclone (n : Nat) (x : (List Int × (List Int × (Int × (Int × Unit))))) : Option ((List Int) × (List Int) × Int × Int) :=
  some (x.1, (x.2.1, (x.2.2.1, x.2.2.2.1)))
def sp_hclone (n : Nat) : Spec := ⟨pre_hclone, post_hclone, hclone n⟩
def env_hclone (n : Nat) : List (FuncId × Spec) := []
theorem run_hclone (n : Nat) (x : pre_hclone.T) : fnRun Tryd.prog 74 (envG (env_hclone n) [] (fun _ => none)) n Tryd.f32 ann_hclone pre_hclone post_hclone x = hclone n x := by kernel_rfl
theorem ok_hclone (n : Nat) : FnOK Tryd.prog 74 LG 32 (sp_hclone n) :=
  fn_run mixed Tryd.func32 (sp_hclone n) n ann_hclone (env_hclone n) envOf_nil [] (fun _ => none) gl_none (run_hclone n) (by kernel_rfl)
def pre_hnew : Shape := ⟨[], []⟩
def post_hnew : List Shape := [⟨[.c (.ptr 0 0)], [(0, .segs 62 [.blk (.arr 8 (.int .u32)), .blk (.arr 64 (.int .u8)), .one (.dat (.int .i64)), .one (.dat (.int .i64))])]⟩]
def ann_hnew : Ann := .no
/-- what turnstile/sha.New comes to. -/
def hnew (n : Nat) (x : Unit) : Option ((List Int) × (List Int) × Int × Int) :=
  some (cF, ((List.replicate 64 (0 : Int)), ((0 : Int), (0 : Int))))
def sp_hnew (n : Nat) : Spec := ⟨pre_hnew, post_hnew, hnew n⟩
def env_hnew (n : Nat) : List (FuncId × Spec) := []
theorem run_hnew (n : Nat) (x : pre_hnew.T) : fnRun Tryd.prog 74 (envG (env_hnew n) [] (glOf GL)) n Tryd.f33 ann_hnew pre_hnew post_hnew x = hnew n x := by kernel_rfl
theorem ok_hnew (n : Nat) : FnOK Tryd.prog 74 LG 33 (sp_hnew n) :=
  fn_run mixed Tryd.func33 (sp_hnew n) n ann_hnew (env_hnew n) envOf_nil [] (glOf GL) (glOf_ok GL_ok) (run_hnew n) (by kernel_rfl)
def pre_rPad : Shape := ⟨[.c (.dat (.int .i64))], []⟩
def post_rPad : List Shape := [⟨[.c (.dat (.list (.int .u8))), .c (.dat (.int .i64))], []⟩]
def ann_rPad : Ann := (.two .no (.two .no (.two .no (.two .no (.two (.one (.loop ⟨[0, 4], ⟨[.c (.dat (.int .i64)), .c (.own 500)], [(500, .row 5 (.int .u8))]⟩⟩ .no)) (.two .no (.two (.two .no (.one (.loop ⟨[4, 5, 6], ⟨[.c (.own 500), .c (.dat (.int .u64)), .c (.dat (.int .i64))], [(500, .row 5 (.int .u8))]⟩⟩ .no))) .no)))))))
/-- what turnstile/turnstileref03.Pad comes to. -/
def rPad (n : Nat) (x : Int) : Option ((List Int) × Int) :=
  (if (decide (x < (0 : Int))) = true then
  some (([] : List Int), (1 : Int))
  else
  (if (decide (x > (1152921504606846976 : Int))) = true then
  some (([] : List Int), (1 : Int))
  else
  (loopF (X := Int × List Int) (A := (List Int) × Int) (fun rec2 y3 => match y3 with
  | (a4, a5) =>
  (let u6 : Int := (IntKind.wrap .i64 (a4 + (a5.length : Int)))
  (let u7 : Int := (Int.tmod (IntKind.wrap .i64 (u6 + (8 : Int))) (64 : Int))
  (if (u7 != (0 : Int)) = true then
  (if (a5.length + 1) * 1 ≤ 140737488355328 then
  rec2 (a4, (a5 ++ ([(0 : Int)] : List Int)))
  else none)
  else
  (let u8 : Int := (IntKind.wrap .u64 ((IntKind.wrap .u64 a4) * (8 : Int)))
  (loopF (X := Int × Int × List Int) (A := (List Int) × Int) (fun rec9 y10 => match y10 with
  | (a11, (a12, a13)) =>
  (if (decide (a12 ≥ (0 : Int))) = true then
  (let u14 : Int := (IntKind.wrap .i64 ((8 : Int) * a12))
  (if (IntKind.wrap .u64 u14) < 0 then none else (let u15 : Int := (Int.fdiv a11 (2 ^ (min (IntKind.wrap .u64 u14).toNat 64)))
  (if (a13.length + 1) * 1 ≤ 140737488355328 then
  (let u16 : List Int := (a13 ++ ([(IntKind.wrap .u8 u15)] : List Int))
  (let u17 : Int := (IntKind.wrap .i64 (a12 - (1 : Int)))
  rec9 (a11, (u17, u16))))
  else none))))
  else
  some (a13, (0 : Int)))) n (u8, ((7 : Int), a5)))))))) n (x, ([(128 : Int)] : List Int)))))
def sp_rPad (n : Nat) : Spec := ⟨pre_rPad, post_rPad, rPad n⟩
def env_rPad (n : Nat) : List (FuncId × Spec) := []
theorem run_rPad (n : Nat) (x : pre_rPad.T) : fnRun Tryd.prog 74 (envG (env_rPad n) [] (fun _ => none)) n Tryd.f34 ann_rPad pre_rPad post_rPad x = rPad n x := by kernel_rfl
theorem ok_rPad (n : Nat) : FnOK Tryd.prog 74 LG 34 (sp_rPad n) :=
  fn_run mixed Tryd.func34 (sp_rPad n) n ann_rPad (env_rPad n) envOf_nil [] (fun _ => none) gl_none (run_rPad n) (by kernel_rfl)
def pre_pad : Shape := ⟨[.c (.dat (.int .i64))], []⟩
def post_pad : List Shape := [⟨[.c (.dat (.list (.int .u8))), .c (.dat .err)], []⟩]
def ann_pad : Ann := (.two .no (.two .no (.two .no (.two .no (.two (.two .no (.one (.loop ⟨[0, 4, 21], ⟨[.c (.dat (.int .i64)), .c (.own 500), .c (.dat (.int .i64))], [(500, .row 5 (.int .u8))]⟩⟩ .no))) .no)))))
/-- what turnstile/sha.Pad comes to. -/
def pad (n : Nat) (x : Int) : Option ((List Int) × Int) :=
  (if (decide (x < (0 : Int))) = true then
  some (([] : List Int), (1 : Int))
  else
  (if (decide (x > (1152921504606846976 : Int))) = true then
  some (([] : List Int), (1 : Int))
  else
  (let u2 : Int := (Int.tmod (IntKind.wrap .i64 (x + (8 : Int))) (64 : Int))
  (let u3 : Int := (IntKind.wrap .i64 ((64 : Int) - u2))
  (if 0 ≤ (IntKind.wrap .i64 (u3 + (8 : Int))) ∧ (IntKind.wrap .i64 (u3 + (8 : Int))) ≤ (IntKind.wrap .i64 (u3 + (8 : Int))) ∧ (1 : Int) * (IntKind.wrap .i64 (u3 + (8 : Int))) ≤ 140737488355328 then
  (let u4 : List Int := (List.replicate (IntKind.wrap .i64 (u3 + (8 : Int))).toNat (0 : Int))
  (if 0 ≤ (0 : Int) ∧ (0 : Int) < (u4.length : Int) then
  (loopF (X := Int × Int × List Int) (A := (List Int) × Int) (fun rec5 y6 => match y6 with
  | (a7, (a8, a9)) =>
  (if (decide (a8 < (8 : Int))) = true then
  (let u10 : Int := (IntKind.wrap .i64 ((a9.length : Int) - (1 : Int)))
  (if (IntKind.wrap .i64 ((8 : Int) * a8)) < 0 then none else (let u11 : Int := (Int.fdiv (IntKind.wrap .i64 (a7 * 8)) (2 ^ (min (IntKind.wrap .i64 ((8 : Int) * a8)).toNat 64)))
  (if 0 ≤ (IntKind.wrap .i64 (u10 - a8)) ∧ (IntKind.wrap .i64 (u10 - a8)) < (a9.length : Int) then
  (let u12 : List Int := (a9.set (IntKind.wrap .i64 (u10 - a8)).toNat (IntKind.wrap .u8 u11))
  rec5 (a7, ((IntKind.wrap .i64 (a8 + (1 : Int))), u12)))
  else none))))
  else
  some (a9, (0 : Int)))) n (x, ((0 : Int), (u4.set 0 (128 : Int)))))
  else none))
  else none)))))
def sp_pad (n : Nat) : Spec := ⟨pre_pad, post_pad, pad n⟩
def env_pad (n : Nat) : List (FuncId × Spec) := []
theorem run_pad (n : Nat) (x : pre_pad.T) : fnRun Tryd.prog 74 (envG (env_pad n) [] (fun _ => none)) n Tryd.f39 ann_pad pre_pad post_pad x = pad n x := by kernel_rfl
theorem ok_pad (n : Nat) : FnOK Tryd.prog 74 LG 39 (sp_pad n) :=
  fn_run mixed Tryd.func39 (sp_pad n) n ann_pad (env_pad n) envOf_nil [] (fun _ => none) gl_none (run_pad n) (by kernel_rfl)
def pre_rPrime : Shape := ⟨[.c (.dat (.int .i64))], []⟩
def post_rPrime : List Shape := [⟨[.c (.dat (.int .u64))], []⟩]
def ann_rPrime : Ann := (.two .no (.two .no (.one (.loop ⟨[0, 3], ⟨[.c (.dat (.int .i64)), .c (.dat (.int .u64))], []⟩⟩ (.one (.two .no (.two (.two .no (.one (.loop ⟨[0, 3, 4, 5], ⟨[.c (.dat (.int .i64)), .c (.dat (.int .u64)), .c (.dat .bool), .c (.dat (.int .u64))], []⟩⟩ .no))) .no)))))))
/-- what turnstile/turnstileref03.prime comes to. -/
def rPrime (n : Nat) (x : Int) : Option (Int) :=
  (loopF (X := Int × Int) (A := Int) (fun rec2 y3 => match y3 with
  | (a4, a5) =>
  (loopF (X := Int × Int × Bool × Int) (A := Int) (fun rec6 y7 => match y7 with
  | (a8, (a9, (a10, a11))) =>
  (if (decide ((IntKind.wrap .u64 (a11 * a11)) ≤ a9)) = true then
  (if a10 = true then
  (if a11 = 0 then none else
  (let u12 : Int := (IntKind.wrap .u64 (a11 + (1 : Int)))
  rec6 (a8, (a9, (((Int.tmod a9 a11) != (0 : Int)), u12)))))
  else
  (let u13 : Int := (IntKind.wrap .u64 (a11 + (1 : Int)))
  rec6 (a8, (a9, (false, u13)))))
  else
  (if a10 = true then
  (if (a8 == (0 : Int)) = true then
  some a9
  else
  (if a10 = true then
  rec2 ((IntKind.wrap .i64 (a8 - (1 : Int))), (IntKind.wrap .u64 (a9 + (1 : Int))))
  else
  rec2 (a8, (IntKind.wrap .u64 (a9 + (1 : Int))))))
  else
  (if a10 = true then
  rec2 ((IntKind.wrap .i64 (a8 - (1 : Int))), (IntKind.wrap .u64 (a9 + (1 : Int))))
  else
  rec2 (a8, (IntKind.wrap .u64 (a9 + (1 : Int)))))))) n (a4, (a5, (true, (2 : Int)))))) n (x, (2 : Int)))
def sp_rPrime (n : Nat) : Spec := ⟨pre_rPrime, post_rPrime, rPrime n⟩
def env_rPrime (n : Nat) : List (FuncId × Spec) := []
theorem run_rPrime (n : Nat) (x : pre_rPrime.T) : fnRun Tryd.prog 74 (envG (env_rPrime n) [] (fun _ => none)) n Tryd.f41 ann_rPrime pre_rPrime post_rPrime x = rPrime n x := by kernel_rfl
theorem ok_rPrime (n : Nat) : FnOK Tryd.prog 74 LG 41 (sp_rPrime n) :=
  fn_run mixed Tryd.func41 (sp_rPrime n) n ann_rPrime (env_rPrime n) envOf_nil [] (fun _ => none) gl_none (run_rPrime n) (by kernel_rfl)
def pre_rRotr : Shape := ⟨[.c (.dat (.int .u32)), .c (.dat (.int .u64))], []⟩
def post_rRotr : List Shape := [⟨[.c (.dat (.int .u32))], []⟩]
def ann_rRotr : Ann := .no
/-- what turnstile/turnstileref03.rotr comes to. -/
def rRotr (n : Nat) (x : Int × Int) : Option (Int) :=
  match x with
  | (x1, x2) =>
  (if x2 < 0 then none else (let u3 : Int := (Int.fdiv x1 (2 ^ (min x2.toNat 32)))
  (let u4 : Int := (IntKind.wrap .u64 ((32 : Int) - x2))
  (if u4 < 0 then none else (let u5 : Int := (IntKind.wrap .u32 (x1 * 2 ^ (min u4.toNat 32)))
  some (bits .or .u32 u3 u5))))))
def sp_rRotr (n : Nat) : Spec := ⟨pre_rRotr, post_rRotr, rRotr n⟩
def env_rRotr (n : Nat) : List (FuncId × Spec) := []
theorem run_rRotr (n : Nat) (x : pre_rRotr.T) : fnRun Tryd.prog 74 (envG (env_rRotr n) [] (fun _ => none)) n Tryd.f44 ann_rRotr pre_rRotr post_rRotr x = rRotr n x := by kernel_rfl
theorem ok_rRotr (n : Nat) : FnOK Tryd.prog 74 LG 44 (sp_rRotr n) :=
  fn_run mixed Tryd.func44 (sp_rRotr n) n ann_rRotr (env_rRotr n) envOf_nil [] (fun _ => none) gl_none (run_rRotr n) (by kernel_rfl)
def pre_rTimes : Shape := ⟨[.c (.dat (.int .u64)), .c (.dat (.int .u64))], []⟩
def post_rTimes : List Shape := [⟨[.c (.dat (.int .u64)), .c (.dat (.int .u64))], []⟩]
def ann_rTimes : Ann := .no
/-- what turnstile/turnstileref03.times comes to. -/
def rTimes (n : Nat) (x : Int × Int) : Option (Int × Int) :=
  match x with
  | (x1, x2) =>
  (let u3 : Int := (bits .and .u64 x1 (4294967295 : Int))
  (let u4 : Int := (bits .and .u64 x2 (4294967295 : Int))
  (let u5 : Int := (IntKind.wrap .u64 ((Int.fdiv x1 4294967296) * u4))
  (let u6 : Int := (Int.fdiv (IntKind.wrap .u64 (u3 * u4)) 4294967296)
  (let u7 : Int := (IntKind.wrap .u64 (u3 * (Int.fdiv x2 4294967296)))
  (let u8 : Int := (bits .and .u64 (IntKind.wrap .u64 (u5 + u6)) (4294967295 : Int))
  (let u9 : Int := (IntKind.wrap .u64 ((Int.fdiv x1 4294967296) * (Int.fdiv x2 4294967296)))
  (let u10 : Int := (Int.fdiv (IntKind.wrap .u64 (u5 + u6)) 4294967296)
  (let u11 : Int := (Int.fdiv (IntKind.wrap .u64 (u7 + u8)) 4294967296)
  (let u12 : Int := (IntKind.wrap .u64 ((IntKind.wrap .u64 (u9 + u10)) + u11))
  (let u13 : Int := (IntKind.wrap .u64 ((IntKind.wrap .u64 (u7 + u8)) * 4294967296))
  (let u14 : Int := (bits .and .u64 (IntKind.wrap .u64 (u3 * u4)) (4294967295 : Int))
  some (u12, (bits .or .u64 u13 u14))))))))))))))
def sp_rTimes (n : Nat) : Spec := ⟨pre_rTimes, post_rTimes, rTimes n⟩
def env_rTimes (n : Nat) : List (FuncId × Spec) := []
theorem run_rTimes (n : Nat) (x : pre_rTimes.T) : fnRun Tryd.prog 74 (envG (env_rTimes n) [] (fun _ => none)) n Tryd.f47 ann_rTimes pre_rTimes post_rTimes x = rTimes n x := by kernel_rfl
theorem ok_rTimes (n : Nat) : FnOK Tryd.prog 74 LG 47 (sp_rTimes n) :=
  fn_run mixed Tryd.func47 (sp_rTimes n) n ann_rTimes (env_rTimes n) envOf_nil [] (fun _ => none) gl_none (run_rTimes n) (by kernel_rfl)
def pre_rotateLeft32 : Shape := ⟨[.c (.dat (.int .u32)), .c (.dat (.int .i64))], []⟩
def post_rotateLeft32 : List Shape := [⟨[.c (.dat (.int .u32))], []⟩]
def ann_rotateLeft32 : Ann := .no
/-- what math/bits.RotateLeft32 comes to. -/
def rotateLeft32 (n : Nat) (x : Int × Int) : Option (Int) :=
  match x with
  | (x1, x2) =>
  (let u3 : Int := (bits .and .u64 (IntKind.wrap .u64 x2) (31 : Int))
  (if u3 < 0 then none else (let u4 : Int := (IntKind.wrap .u32 (x1 * 2 ^ (min u3.toNat 32)))
  (let u5 : Int := (IntKind.wrap .u64 ((32 : Int) - u3))
  (if u5 < 0 then none else (let u6 : Int := (Int.fdiv x1 (2 ^ (min u5.toNat 32)))
  some (bits .or .u32 u4 u6)))))))
def sp_rotateLeft32 (n : Nat) : Spec := ⟨pre_rotateLeft32, post_rotateLeft32, rotateLeft32 n⟩
def env_rotateLeft32 (n : Nat) : List (FuncId × Spec) := []
theorem run_rotateLeft32 (n : Nat) (x : pre_rotateLeft32.T) : fnRun Tryd.prog 74 (envG (env_rotateLeft32 n) [] (fun _ => none)) n Tryd.f48 ann_rotateLeft32 pre_rotateLeft32 post_rotateLeft32 x = rotateLeft32 n x := by kernel_rfl
theorem ok_rotateLeft32 (n : Nat) : FnOK Tryd.prog 74 LG 48 (sp_rotateLeft32 n) :=
  fn_run mixed Tryd.func48 (sp_rotateLeft32 n) n ann_rotateLeft32 (env_rotateLeft32 n) envOf_nil [] (fun _ => none) gl_none (run_rotateLeft32 n) (by kernel_rfl)
def pre_hash : Shape := ⟨[.c (.dat .str)], []⟩
def post_hash : List Shape := [⟨[.c (.dat (.int .u64))], []⟩]
def ann_hash : Ann := .no
/-- what turnstile/mac.Hash comes to. -/
def hash (n : Nat) (x : List Int) : Option (Int) :=
  (Option.bind (hashed n ((14695981039346656037 : Int), x)) fun r2 =>
  some r2)
def sp_hash (n : Nat) : Spec := ⟨pre_hash, post_hash, hash n⟩
def env_hash (n : Nat) : List (FuncId × Spec) := [(27, sp_hashed n)]
theorem run_hash (n : Nat) (x : pre_hash.T) : fnRun Tryd.prog 74 (envG (env_hash n) [] (fun _ => none)) n Tryd.f7 ann_hash pre_hash post_hash x = hash n x := by kernel_rfl
theorem ok_hash (n : Nat) : FnOK Tryd.prog 74 LG 7 (sp_hash n) :=
  fn_run mixed Tryd.func7 (sp_hash n) n ann_hash (env_hash n) (envOf_cons (ok_hashed n) envOf_nil) [] (fun _ => none) gl_none (run_hash n) (by kernel_rfl)
def pre_hashAll : Shape := ⟨[.c (.dat (.list .str))], []⟩
def post_hashAll : List Shape := [⟨[.c (.dat (.int .u64))], []⟩]
def ann_hashAll : Ann := (.two .no (.two .no (.two (.two .no (.one (.loop ⟨[3, 6, 7, 8], ⟨[.c (.dat (.int .u64)), .c (.dat (.list .str)), .c (.dat (.int .i64)), .c (.dat (.int .i64))], []⟩⟩ .no))) .no)))
/-- what turnstile/mac.HashAll comes to. -/
def hashAll (n : Nat) (x : List (List Int)) : Option (Int) :=
  (loopF (X := Int × (List (List Int)) × Int × Int) (A := Int) (fun rec2 y3 => match y3 with
  | (a4, (a5, (a6, a7))) =>
  (if (decide (a7 < a6)) = true then
  (Option.bind (idx a5 a7) fun v8 =>
  (Option.bind (hashed n (a4, v8)) fun r9 =>
  (Option.bind (hashed n (r9, ([(0 : Int)] : List Int))) fun r10 =>
  rec2 (r10, (a5, (a6, (IntKind.wrap .i64 (a7 + (1 : Int)))))))))
  else
  some a4)) n ((14695981039346656037 : Int), (x, ((x.length : Int), (0 : Int)))))
def sp_hashAll (n : Nat) : Spec := ⟨pre_hashAll, post_hashAll, hashAll n⟩
def env_hashAll (n : Nat) : List (FuncId × Spec) := [(27, sp_hashed n)]
theorem run_hashAll (n : Nat) (x : pre_hashAll.T) : fnRun Tryd.prog 74 (envG (env_hashAll n) [] (fun _ => none)) n Tryd.f9 ann_hashAll pre_hashAll post_hashAll x = hashAll n x := by kernel_rfl
theorem ok_hashAll (n : Nat) : FnOK Tryd.prog 74 LG 9 (sp_hashAll n) :=
  fn_run mixed Tryd.func9 (sp_hashAll n) n ann_hashAll (env_hashAll n) (envOf_cons (ok_hashed n) envOf_nil) [] (fun _ => none) gl_none (run_hashAll n) (by kernel_rfl)
def pre_mclone : Shape := ⟨[.c (.ptr 0 0)], [(0, .segs 51 [.blk (.arr 64 (.int .u8)), .one (.ptr 1 0)]), (1, .segs 62 [.blk (.arr 8 (.int .u32)), .blk (.arr 64 (.int .u8)), .one (.dat (.int .i64)), .one (.dat (.int .i64))])]⟩
def post_mclone : List Shape := [⟨[.c (.ptr 2 0)], [(0, .segs 51 [.blk (.arr 64 (.int .u8)), .one (.ptr 1 0)]), (1, .segs 62 [.blk (.arr 8 (.int .u32)), .blk (.arr 64 (.int .u8)), .one (.dat (.int .i64)), .one (.dat (.int .i64))]), (2, .segs 51 [.blk (.arr 64 (.int .u8)), .one (.ptr 3 0)]), (3, .segs 62 [.blk (.arr 8 (.int .u32)), .blk (.arr 64 (.int .u8)), .one (.dat (.int .i64)), .one (.dat (.int .i64))])]⟩]
def ann_mclone : Ann := .no
/-- what (turnstile/mac.MAC).Clone comes to. -/
def mclone (n : Nat) (x : (List Int) × (List Int) × (List Int) × Int × Int) : Option ((List Int) × (List Int) × (List Int) × Int × Int × (List Int) × (List Int) × (List Int) × Int × Int) :=
  match x with
  | (x1, (x2, (x3, (x4, x5)))) =>
  (Option.bind (hclone n (x2, (x3, (x4, (x5, ()))))) fun r6 =>
  some (x1, (x2, (x3, (x4, (x5, (x1, (r6.1, (r6.2.1, (r6.2.2.1, r6.2.2.2))))))))))
def sp_mclone (n : Nat) : Spec := ⟨pre_mclone, post_mclone, mclone n⟩
def env_mclone (n : Nat) : List (FuncId × Spec) := [(32, sp_hclone n)]
theorem run_mclone (n : Nat) (x : pre_mclone.T) : fnRun Tryd.prog 74 (envG (env_mclone n) [] (fun _ => none)) n Tryd.f18 ann_mclone pre_mclone post_mclone x = mclone n x := by kernel_rfl
theorem ok_mclone (n : Nat) : FnOK Tryd.prog 74 LG 18 (sp_mclone n) :=
  fn_run mixed Tryd.func18 (sp_mclone n) n ann_mclone (env_mclone n) (envOf_cons (ok_hclone n) envOf_nil) [] (fun _ => none) gl_none (run_mclone n) (by kernel_rfl)
def pre_mclone0 : Shape := ⟨[.c (.nilp)], []⟩
def post_mclone0 : List Shape := [⟨[.c (.nilp)], []⟩]
def ann_mclone0 : Ann := .no
/-- what (turnstile/mac.MAC).Clone comes to. -/
def mclone0 (n : Nat) (x : Unit) : Option (Unit) :=
  some ()
def sp_mclone0 (n : Nat) : Spec := ⟨pre_mclone0, post_mclone0, mclone0 n⟩
def env_mclone0 (n : Nat) : List (FuncId × Spec) := [(32, sp_hclone n)]
theorem run_mclone0 (n : Nat) (x : pre_mclone0.T) : fnRun Tryd.prog 74 (envG (env_mclone0 n) [] (fun _ => none)) n Tryd.f18 ann_mclone0 pre_mclone0 post_mclone0 x = mclone0 n x := by kernel_rfl
theorem ok_mclone0 (n : Nat) : FnOK Tryd.prog 74 LG 18 (sp_mclone0 n) :=
  fn_run mixed Tryd.func18 (sp_mclone0 n) n ann_mclone0 (env_mclone0 n) (envOf_cons (ok_hclone n) envOf_nil) [] (fun _ => none) gl_none (run_mclone0 n) (by kernel_rfl)
def pre_rSquare : Shape := ⟨[.c (.dat (.int .u64))], []⟩
def post_rSquare : List Shape := [⟨[.c (.dat (.int .u32))], []⟩]
def ann_rSquare : Ann := (.two .no (.two .no (.two (.two .no (.one (.loop ⟨[0, 3, 4], ⟨[.c (.dat (.int .u64)), .c (.dat (.int .u64)), .c (.dat (.int .i64))], []⟩⟩ .no))) .no)))
/-- what turnstile/turnstileref03.square comes to. -/
def rSquare (n : Nat) (x : Int) : Option (Int) :=
  (loopF (X := Int × Int × Int) (A := Int) (fun rec2 y3 => match y3 with
  | (a4, (a5, a6)) =>
  (if (decide (a6 ≥ (0 : Int))) = true then
  (if (IntKind.wrap .u64 a6) < 0 then none else (let u7 : Int := (IntKind.wrap .u64 ((1 : Int) * 2 ^ (min (IntKind.wrap .u64 a6).toNat 64)))
  (Option.bind (rTimes n ((bits .or .u64 a5 u7), (bits .or .u64 a5 u7))) fun r8 =>
  (if (decide (r8.1 < a4)) = true then
  rec2 (a4, ((bits .or .u64 a5 u7), (IntKind.wrap .i64 (a6 - (1 : Int)))))
  else
  (if (r8.1 == a4) = true then
  (if (r8.2 == (0 : Int)) = true then
  rec2 (a4, ((bits .or .u64 a5 u7), (IntKind.wrap .i64 (a6 - (1 : Int)))))
  else
  rec2 (a4, (a5, (IntKind.wrap .i64 (a6 - (1 : Int))))))
  else
  rec2 (a4, (a5, (IntKind.wrap .i64 (a6 - (1 : Int))))))))))
  else
  some (IntKind.wrap .u32 a5))) n (x, ((0 : Int), (36 : Int))))
def sp_rSquare (n : Nat) : Spec := ⟨pre_rSquare, post_rSquare, rSquare n⟩
def env_rSquare (n : Nat) : List (FuncId × Spec) := [(47, sp_rTimes n)]
theorem run_rSquare (n : Nat) (x : pre_rSquare.T) : fnRun Tryd.prog 74 (envG (env_rSquare n) [] (fun _ => none)) n Tryd.f40 ann_rSquare pre_rSquare post_rSquare x = rSquare n x := by kernel_rfl
theorem ok_rSquare (n : Nat) : FnOK Tryd.prog 74 LG 40 (sp_rSquare n) :=
  fn_run mixed Tryd.func40 (sp_rSquare n) n ann_rSquare (env_rSquare n) (envOf_cons (ok_rTimes n) envOf_nil) [] (fun _ => none) gl_none (run_rSquare n) (by kernel_rfl)
def pre_rCube : Shape := ⟨[.c (.dat (.int .u64))], []⟩
def post_rCube : List Shape := [⟨[.c (.dat (.int .u32))], []⟩]
def ann_rCube : Ann := (.two .no (.two .no (.two (.two .no (.one (.loop ⟨[0, 3, 4], ⟨[.c (.dat (.int .u64)), .c (.dat (.int .u64)), .c (.dat (.int .i64))], []⟩⟩ .no))) .no)))
/-- what turnstile/turnstileref03.cube comes to. -/
def rCube (n : Nat) (x : Int) : Option (Int) :=
  (loopF (X := Int × Int × Int) (A := Int) (fun rec2 y3 => match y3 with
  | (a4, (a5, a6)) =>
  (if (decide (a6 ≥ (0 : Int))) = true then
  (if (IntKind.wrap .u64 a6) < 0 then none else (let u7 : Int := (IntKind.wrap .u64 ((1 : Int) * 2 ^ (min (IntKind.wrap .u64 a6).toNat 64)))
  (Option.bind (rTimes n ((bits .or .u64 a5 u7), (bits .or .u64 a5 u7))) fun r8 =>
  (Option.bind (rTimes n (r8.2, (bits .or .u64 a5 u7))) fun r9 =>
  (let u10 : Int := (IntKind.wrap .u64 (r8.1 * (bits .or .u64 a5 u7)))
  (let u11 : Int := (Int.fdiv (IntKind.wrap .u64 (u10 + r9.1)) 4294967296)
  (if (decide (u11 < a4)) = true then
  rec2 (a4, ((bits .or .u64 a5 u7), (IntKind.wrap .i64 (a6 - (1 : Int)))))
  else
  (let u12 : Int := (Int.fdiv (IntKind.wrap .u64 (u10 + r9.1)) 4294967296)
  (if (u12 == a4) = true then
  (let u13 : Int := (bits .and .u64 (IntKind.wrap .u64 (u10 + r9.1)) (4294967295 : Int))
  (if (u13 == (0 : Int)) = true then
  (if (r9.2 == (0 : Int)) = true then
  rec2 (a4, ((bits .or .u64 a5 u7), (IntKind.wrap .i64 (a6 - (1 : Int)))))
  else
  rec2 (a4, (a5, (IntKind.wrap .i64 (a6 - (1 : Int))))))
  else
  rec2 (a4, (a5, (IntKind.wrap .i64 (a6 - (1 : Int)))))))
  else
  rec2 (a4, (a5, (IntKind.wrap .i64 (a6 - (1 : Int))))))))))))))
  else
  some (IntKind.wrap .u32 a5))) n (x, ((0 : Int), (35 : Int))))
def sp_rCube (n : Nat) : Spec := ⟨pre_rCube, post_rCube, rCube n⟩
def env_rCube (n : Nat) : List (FuncId × Spec) := [(47, sp_rTimes n)]
theorem run_rCube (n : Nat) (x : pre_rCube.T) : fnRun Tryd.prog 74 (envG (env_rCube n) [] (fun _ => none)) n Tryd.f42 ann_rCube pre_rCube post_rCube x = rCube n x := by kernel_rfl
theorem ok_rCube (n : Nat) : FnOK Tryd.prog 74 LG 42 (sp_rCube n) :=
  fn_run mixed Tryd.func42 (sp_rCube n) n ann_rCube (env_rCube n) (envOf_cons (ok_rTimes n) envOf_nil) [] (fun _ => none) gl_none (run_rCube n) (by kernel_rfl)
def pre_rSchedule : Shape := ⟨[.c (.dat (.list (.int .u8)))], []⟩
def post_rSchedule : List Shape := [⟨[.c (.dat (.list (.int .u32)))], []⟩]
def ann_rSchedule : Ann := (.two .no (.two .no (.two (.two .no (.one (.loop ⟨[0, 3, 4], ⟨[.c (.dat (.list (.int .u8))), .c (.own 500), .c (.dat (.int .i64))], [(500, .row 59 (.int .u32))]⟩⟩ .no))) (.two (.two .no (.one (.loop ⟨[3, 5], ⟨[.c (.own 500), .c (.dat (.int .i64))], [(500, .row 59 (.int .u32))]⟩⟩ .no))) .no))))
/-- what turnstile/turnstileref03.Schedule comes to. -/
def rSchedule (n : Nat) (x : List Int) : Option (List Int) :=
  (loopF (X := (List Int) × Int × List Int) (A := List Int) (fun rec2 y3 => match y3 with
  | (a4, (a5, a6)) =>
  (if (decide (a5 < (16 : Int))) = true then
  (Option.bind (idx a4 (IntKind.wrap .i64 ((4 : Int) * a5))) fun v7 =>
  (let u8 : Int := (IntKind.wrap .u32 ((IntKind.wrap .u32 v7) * 16777216))
  (let u9 : Int := (IntKind.wrap .i64 ((IntKind.wrap .i64 ((4 : Int) * a5)) + (1 : Int)))
  (Option.bind (idx a4 u9) fun v10 =>
  (let u11 : Int := (IntKind.wrap .u32 ((IntKind.wrap .u32 v10) * 65536))
  (let u12 : Int := (IntKind.wrap .i64 ((IntKind.wrap .i64 ((4 : Int) * a5)) + (2 : Int)))
  (Option.bind (idx a4 u12) fun v13 =>
  (let u14 : Int := (IntKind.wrap .u32 ((IntKind.wrap .u32 v13) * 256))
  (let u15 : Int := (bits .or .u32 (bits .or .u32 u8 u11) u14)
  (let u16 : Int := (IntKind.wrap .i64 ((IntKind.wrap .i64 ((4 : Int) * a5)) + (3 : Int)))
  (Option.bind (idx a4 u16) fun v17 =>
  (let u18 : Int := (bits .or .u32 u15 (IntKind.wrap .u32 v17))
  (if (a6.length + 1) * 4 ≤ 140737488355328 then
  rec2 (a4, ((IntKind.wrap .i64 (a5 + (1 : Int))), (a6 ++ ([u18] : List Int))))
  else none)))))))))))))
  else
  (loopF (X := Int × List Int) (A := List Int) (fun rec19 y20 => match y20 with
  | (a21, a22) =>
  (if (decide (a21 < (64 : Int))) = true then
  (let u23 : Int := (IntKind.wrap .i64 (a21 - (2 : Int)))
  (if 0 ≤ u23 ∧ u23 < (a22.length : Int) then
  (let u24 : Int := (IntKind.wrap .i64 (a21 - (15 : Int)))
  (if 0 ≤ u24 ∧ u24 < (a22.length : Int) then
  (Option.bind (rRotr n ((a22.getD u23.toNat (0 : Int)), (17 : Int))) fun r25 =>
  (Option.bind (rRotr n ((a22.getD u23.toNat (0 : Int)), (19 : Int))) fun r26 =>
  (let u27 : Int := (Int.fdiv (a22.getD u23.toNat (0 : Int)) 1024)
  (let u28 : Int := (bits .xor .u32 (bits .xor .u32 r25 r26) u27)
  (Option.bind (rRotr n ((a22.getD u24.toNat (0 : Int)), (7 : Int))) fun r29 =>
  (Option.bind (rRotr n ((a22.getD u24.toNat (0 : Int)), (18 : Int))) fun r30 =>
  (let u31 : Int := (Int.fdiv (a22.getD u24.toNat (0 : Int)) 8)
  (let u32 : Int := (bits .xor .u32 (bits .xor .u32 r29 r30) u31)
  (let u33 : Int := (IntKind.wrap .i64 (a21 - (7 : Int)))
  (if 0 ≤ u33 ∧ u33 < (a22.length : Int) then
  (let u34 : Int := (IntKind.wrap .u32 (u28 + (a22.getD u33.toNat (0 : Int))))
  (let u35 : Int := (IntKind.wrap .i64 (a21 - (16 : Int)))
  (if 0 ≤ u35 ∧ u35 < (a22.length : Int) then
  (let u36 : Int := (IntKind.wrap .u32 ((IntKind.wrap .u32 (u34 + u32)) + (a22.getD u35.toNat (0 : Int))))
  (if (a22.length + 1) * 4 ≤ 140737488355328 then
  (let u37 : Int := (IntKind.wrap .i64 (a21 + (1 : Int)))
  rec19 (u37, (a22 ++ ([u36] : List Int))))
  else none))
  else none)))
  else none))))))))))
  else none))
  else none))
  else
  some a22)) n ((16 : Int), a6)))) n (x, ((0 : Int), ([] : List Int))))
def sp_rSchedule (n : Nat) : Spec := ⟨pre_rSchedule, post_rSchedule, rSchedule n⟩
def env_rSchedule (n : Nat) : List (FuncId × Spec) := [(44, sp_rRotr n)]
theorem run_rSchedule (n : Nat) (x : pre_rSchedule.T) : fnRun Tryd.prog 74 (envG (env_rSchedule n) [] (fun _ => none)) n Tryd.f43 ann_rSchedule pre_rSchedule post_rSchedule x = rSchedule n x := by kernel_rfl
theorem ok_rSchedule (n : Nat) : FnOK Tryd.prog 74 LG 43 (sp_rSchedule n) :=
  fn_run mixed Tryd.func43 (sp_rSchedule n) n ann_rSchedule (env_rSchedule n) (envOf_cons (ok_rRotr n) envOf_nil) [] (fun _ => none) gl_none (run_rSchedule n) (by kernel_rfl)
def pre_turn : Shape := ⟨[.c (.dat (.int .u32)), .c (.dat (.int .i64))], []⟩
def post_turn : List Shape := [⟨[.c (.dat (.int .u32))], []⟩]
def ann_turn : Ann := .no
/-- what turnstile/sha.turn comes to. -/
def turn (n : Nat) (x : Int × Int) : Option (Int) :=
  match x with
  | (x1, x2) =>
  (Option.bind (rotateLeft32 n (x1, (IntKind.wrap .i64 (0 - x2)))) fun r3 =>
  some r3)
def sp_turn (n : Nat) : Spec := ⟨pre_turn, post_turn, turn n⟩
def env_turn (n : Nat) : List (FuncId × Spec) := [(48, sp_rotateLeft32 n)]
theorem run_turn (n : Nat) (x : pre_turn.T) : fnRun Tryd.prog 74 (envG (env_turn n) [] (fun _ => none)) n Tryd.f46 ann_turn pre_turn post_turn x = turn n x := by kernel_rfl
theorem ok_turn (n : Nat) : FnOK Tryd.prog 74 LG 46 (sp_turn n) :=
  fn_run mixed Tryd.func46 (sp_turn n) n ann_turn (env_turn n) (envOf_cons (ok_rotateLeft32 n) envOf_nil) [] (fun _ => none) gl_none (run_turn n) (by kernel_rfl)
def pre_rFirst : Shape := ⟨[], []⟩
def post_rFirst : List Shape := [⟨[.c (.dat (.list (.int .u32)))], []⟩]
def ann_rFirst : Ann := (.two .no (.two .no (.two (.two .no (.one (.loop ⟨[1, 2], ⟨[.c (.own 500), .c (.dat (.int .i64))], [(500, .row 59 (.int .u32))]⟩⟩ .no))) .no)))
/-- what turnstile/turnstileref03.First comes to. -/
def rFirst (n : Nat) (x : Unit) : Option (List Int) :=
  (loopF (X := Int × List Int) (A := List Int) (fun rec1 y2 => match y2 with
  | (a3, a4) =>
  (if (decide (a3 < (8 : Int))) = true then
  (Option.bind (rPrime n a3) fun r5 =>
  (Option.bind (rSquare n r5) fun r6 =>
  (if (a4.length + 1) * 4 ≤ 140737488355328 then
  rec1 ((IntKind.wrap .i64 (a3 + (1 : Int))), (a4 ++ ([r6] : List Int)))
  else none)))
  else
  some a4)) n ((0 : Int), ([] : List Int)))
def sp_rFirst (n : Nat) : Spec := ⟨pre_rFirst, post_rFirst, rFirst n⟩
def env_rFirst (n : Nat) : List (FuncId × Spec) := [(41, sp_rPrime n), (40, sp_rSquare n)]
theorem run_rFirst (n : Nat) (x : pre_rFirst.T) : fnRun Tryd.prog 74 (envG (env_rFirst n) [] (fun _ => none)) n Tryd.f35 ann_rFirst pre_rFirst post_rFirst x = rFirst n x := by kernel_rfl
theorem ok_rFirst (n : Nat) : FnOK Tryd.prog 74 LG 35 (sp_rFirst n) :=
  fn_run mixed Tryd.func35 (sp_rFirst n) n ann_rFirst (env_rFirst n) (envOf_cons (ok_rPrime n) (envOf_cons (ok_rSquare n) envOf_nil)) [] (fun _ => none) gl_none (run_rFirst n) (by kernel_rfl)
def pre_rConstants : Shape := ⟨[], []⟩
def post_rConstants : List Shape := [⟨[.c (.dat (.list (.int .u32)))], []⟩]
def ann_rConstants : Ann := (.two .no (.two .no (.two (.two .no (.one (.loop ⟨[1, 2], ⟨[.c (.own 500), .c (.dat (.int .i64))], [(500, .row 59 (.int .u32))]⟩⟩ .no))) .no)))
/-- what turnstile/turnstileref03.Constants comes to. -/
def rConstants (n : Nat) (x : Unit) : Option (List Int) :=
  (loopF (X := Int × List Int) (A := List Int) (fun rec1 y2 => match y2 with
  | (a3, a4) =>
  (if (decide (a3 < (64 : Int))) = true then
  (Option.bind (rPrime n a3) fun r5 =>
  (Option.bind (rCube n r5) fun r6 =>
  (if (a4.length + 1) * 4 ≤ 140737488355328 then
  rec1 ((IntKind.wrap .i64 (a3 + (1 : Int))), (a4 ++ ([r6] : List Int)))
  else none)))
  else
  some a4)) n ((0 : Int), ([] : List Int)))
def sp_rConstants (n : Nat) : Spec := ⟨pre_rConstants, post_rConstants, rConstants n⟩
def env_rConstants (n : Nat) : List (FuncId × Spec) := [(41, sp_rPrime n), (42, sp_rCube n)]
theorem run_rConstants (n : Nat) (x : pre_rConstants.T) : fnRun Tryd.prog 74 (envG (env_rConstants n) [] (fun _ => none)) n Tryd.f36 ann_rConstants pre_rConstants post_rConstants x = rConstants n x := by kernel_rfl
theorem ok_rConstants (n : Nat) : FnOK Tryd.prog 74 LG 36 (sp_rConstants n) :=
  fn_run mixed Tryd.func36 (sp_rConstants n) n ann_rConstants (env_rConstants n) (envOf_cons (ok_rPrime n) (envOf_cons (ok_rCube n) envOf_nil)) [] (fun _ => none) gl_none (run_rConstants n) (by kernel_rfl)
def pre_rBlock : Shape := ⟨[.c (.dat (.list (.int .u32))), .c (.dat (.list (.int .u32))), .c (.dat (.list (.int .u8)))], []⟩
def post_rBlock : List Shape := [⟨[.c (.dat (.list (.int .u32)))], []⟩]
def ann_rBlock : Ann := (.two .no (.two .no (.two .no (.two (.two .no (.one (.loop ⟨[0, 1, 7, 8, 9], ⟨[.c (.dat (.list (.int .u32))), .c (.dat (.list (.int .u32))), .c (.dat (.list (.int .u32))), .c (.own 500), .c (.dat (.int .i64))], [(500, .row 59 (.int .u32))]⟩⟩ .no))) (.two .no (.two (.two .no (.one (.loop ⟨[0, 8, 17, 18], ⟨[.c (.dat (.list (.int .u32))), .c (.own 500), .c (.own 501), .c (.dat (.int .i64))], [(500, .row 59 (.int .u32)), (501, .row 59 (.int .u32))]⟩⟩ .no))) .no))))))
/-- what turnstile/turnstileref03.block comes to. -/
def rBlock (n : Nat) (x : (List Int) × (List Int) × List Int) : Option (List Int) :=
  match x with
  | (x1, (x2, x3)) =>
  (Option.bind (rSchedule n x3) fun r4 =>
  (Option.bind (idx x1 (0 : Int)) fun v5 =>
  (Option.bind (idx x1 (1 : Int)) fun v6 =>
  (Option.bind (idx x1 (2 : Int)) fun v7 =>
  (Option.bind (idx x1 (3 : Int)) fun v8 =>
  (Option.bind (idx x1 (4 : Int)) fun v9 =>
  (Option.bind (idx x1 (5 : Int)) fun v10 =>
  (Option.bind (idx x1 (6 : Int)) fun v11 =>
  (Option.bind (idx x1 (7 : Int)) fun v12 =>
  (loopF (X := (List Int) × (List Int) × (List Int) × Int × List Int) (A := List Int) (fun rec13 y14 => match y14 with
  | (a15, (a16, (a17, (a18, a19)))) =>
  (if (decide (a18 < (64 : Int))) = true then
  (if 0 ≤ (4 : Int) ∧ (4 : Int) < (a19.length : Int) then
  (Option.bind (rRotr n ((a19.getD 4 (0 : Int)), (6 : Int))) fun r20 =>
  (Option.bind (rRotr n ((a19.getD 4 (0 : Int)), (11 : Int))) fun r21 =>
  (Option.bind (rRotr n ((a19.getD 4 (0 : Int)), (25 : Int))) fun r22 =>
  (let u23 : Int := (bits .xor .u32 (bits .xor .u32 r20 r21) r22)
  (if 0 ≤ (5 : Int) ∧ (5 : Int) < (a19.length : Int) then
  (let u24 : Int := (bits .and .u32 (a19.getD 4 (0 : Int)) (a19.getD 5 (0 : Int)))
  (let u25 : Int := (bits .xor .u32 (4294967295) (a19.getD 4 (0 : Int)))
  (if 0 ≤ (6 : Int) ∧ (6 : Int) < (a19.length : Int) then
  (let u26 : Int := (bits .and .u32 u25 (a19.getD 6 (0 : Int)))
  (if 0 ≤ (7 : Int) ∧ (7 : Int) < (a19.length : Int) then
  (let u27 : Int := (IntKind.wrap .u32 ((a19.getD 7 (0 : Int)) + u23))
  (let u28 : Int := (IntKind.wrap .u32 (u27 + (bits .xor .u32 u24 u26)))
  (Option.bind (idx a16 a18) fun v29 =>
  (Option.bind (idx a17 a18) fun v30 =>
  (let u31 : Int := (IntKind.wrap .u32 ((IntKind.wrap .u32 (u28 + v29)) + v30))
  (if 0 ≤ (0 : Int) ∧ (0 : Int) < (a19.length : Int) then
  (Option.bind (rRotr n ((a19.getD 0 (0 : Int)), (2 : Int))) fun r32 =>
  (if 0 ≤ (0 : Int) ∧ (0 : Int) < (a19.length : Int) then
  (Option.bind (rRotr n ((a19.getD 0 (0 : Int)), (13 : Int))) fun r33 =>
  (if 0 ≤ (0 : Int) ∧ (0 : Int) < (a19.length : Int) then
  (Option.bind (rRotr n ((a19.getD 0 (0 : Int)), (22 : Int))) fun r34 =>
  (let u35 : Int := (bits .xor .u32 (bits .xor .u32 r32 r33) r34)
  (if 0 ≤ (0 : Int) ∧ (0 : Int) < (a19.length : Int) then
  (if 0 ≤ (1 : Int) ∧ (1 : Int) < (a19.length : Int) then
  (let u36 : Int := (bits .and .u32 (a19.getD 0 (0 : Int)) (a19.getD 1 (0 : Int)))
  (if 0 ≤ (0 : Int) ∧ (0 : Int) < (a19.length : Int) then
  (if 0 ≤ (2 : Int) ∧ (2 : Int) < (a19.length : Int) then
  (let u37 : Int := (bits .and .u32 (a19.getD 0 (0 : Int)) (a19.getD 2 (0 : Int)))
  (if 0 ≤ (1 : Int) ∧ (1 : Int) < (a19.length : Int) then
  (if 0 ≤ (2 : Int) ∧ (2 : Int) < (a19.length : Int) then
  (let u38 : Int := (bits .and .u32 (a19.getD 1 (0 : Int)) (a19.getD 2 (0 : Int)))
  (let u39 : Int := (bits .xor .u32 (bits .xor .u32 u36 u37) u38)
  (let u40 : Int := (IntKind.wrap .u32 (u31 + (IntKind.wrap .u32 (u35 + u39))))
  (if 0 ≤ (0 : Int) ∧ (0 : Int) < (a19.length : Int) then
  (if 0 ≤ (1 : Int) ∧ (1 : Int) < (a19.length : Int) then
  (if 0 ≤ (2 : Int) ∧ (2 : Int) < (a19.length : Int) then
  (if 0 ≤ (3 : Int) ∧ (3 : Int) < (a19.length : Int) then
  (let u41 : Int := (IntKind.wrap .u32 ((a19.getD 3 (0 : Int)) + u31))
  (if 0 ≤ (4 : Int) ∧ (4 : Int) < (a19.length : Int) then
  (if 0 ≤ (5 : Int) ∧ (5 : Int) < (a19.length : Int) then
  (if 0 ≤ (6 : Int) ∧ (6 : Int) < (a19.length : Int) then
  (let u42 : Int := (IntKind.wrap .i64 (a18 + (1 : Int)))
  rec13 (a15, (a16, (a17, (u42, ([u40, (a19.getD 0 (0 : Int)), (a19.getD 1 (0 : Int)), (a19.getD 2 (0 : Int)), u41, (a19.getD 4 (0 : Int)), (a19.getD 5 (0 : Int)), (a19.getD 6 (0 : Int))] : List Int))))))
  else none)
  else none)
  else none))
  else none)
  else none)
  else none)
  else none))))
  else none)
  else none))
  else none)
  else none))
  else none)
  else none)))
  else none))
  else none))
  else none))))))
  else none))
  else none)))
  else none)))))
  else none)
  else
  (loopF (X := (List Int) × Int × (List Int) × List Int) (A := List Int) (fun rec43 y44 => match y44 with
  | (a45, (a46, (a47, a48))) =>
  (if (decide (a46 < (8 : Int))) = true then
  (Option.bind (idx a45 a46) fun v49 =>
  (if 0 ≤ a46 ∧ a46 < (a47.length : Int) then
  (let u50 : Int := (IntKind.wrap .u32 (v49 + (a47.getD a46.toNat (0 : Int))))
  (if (a48.length + 1) * 4 ≤ 140737488355328 then
  (let u51 : Int := (IntKind.wrap .i64 (a46 + (1 : Int)))
  rec43 (a45, (u51, (a47, (a48 ++ ([u50] : List Int))))))
  else none))
  else none))
  else
  some a48)) n (a15, ((0 : Int), (a19, ([] : List Int))))))) n (x1, (x2, (r4, ((0 : Int), ([v5, v6, v7, v8, v9, v10, v11, v12] : List Int)))))))))))))))
def sp_rBlock (n : Nat) : Spec := ⟨pre_rBlock, post_rBlock, rBlock n⟩
def env_rBlock (n : Nat) : List (FuncId × Spec) := [(43, sp_rSchedule n), (44, sp_rRotr n)]
theorem run_rBlock (n : Nat) (x : pre_rBlock.T) : fnRun Tryd.prog 74 (envG (env_rBlock n) [] (fun _ => none)) n Tryd.f37 ann_rBlock pre_rBlock post_rBlock x = rBlock n x := by kernel_rfl
theorem ok_rBlock (n : Nat) : FnOK Tryd.prog 74 LG 37 (sp_rBlock n) :=
  fn_run mixed Tryd.func37 (sp_rBlock n) n ann_rBlock (env_rBlock n) (envOf_cons (ok_rSchedule n) (envOf_cons (ok_rRotr n) envOf_nil)) [] (fun _ => none) gl_none (run_rBlock n) (by kernel_rfl)
def pre_schedule : Shape := ⟨[.sg [.blk (.arr 64 (.int .u8))]], []⟩
def post_schedule : List Shape := [⟨[.sg [.blk (.arr 64 (.int .u32))]], []⟩]
def ann_schedule : Ann := (.two .no (.two .no (.two (.two .no (.one (.loop ⟨[1, 2, 3, 8], ⟨[.c (.arr 500 1), .c (.arr 501 1), .c (.arr 502 1), .c (.dat (.int .i64))], [(500, .row 47 (.int .u8)), (501, .row 71 (.int .u32)), (502, .row 71 (.int .u32))]⟩⟩ .no))) (.two (.two .no (.one (.loop ⟨[2, 3, 5], ⟨[.c (.arr 500 1), .c (.arr 501 1), .c (.dat (.int .i64))], [(500, .row 71 (.int .u32)), (501, .row 71 (.int .u32))]⟩⟩ .no))) .no))))
/-- what turnstile/sha.Schedule comes to. -/
def schedule (n : Nat) (x : List Int) : Option (List Int) :=
  (if 64 = x.length then
  (loopF (X := Int × (List Int) × (List Int) × List Int) (A := List Int) (fun rec2 y3 => match y3 with
  | (a4, (a5, (a6, a7))) =>
  (if (decide (a4 < (16 : Int))) = true then
  (if 64 = a5.length then
  (if 0 ≤ (IntKind.wrap .i64 ((4 : Int) * a4)) ∧ (IntKind.wrap .i64 ((4 : Int) * a4)) < (a5.length : Int) then
  (let u8 : Int := (a5.getD (IntKind.wrap .i64 ((4 : Int) * a4)).toNat (0 : Int))
  (let u9 : Int := (IntKind.wrap .u32 ((IntKind.wrap .u32 u8) * 16777216))
  (let u10 : Int := (IntKind.wrap .i64 ((IntKind.wrap .i64 ((4 : Int) * a4)) + (1 : Int)))
  (if 64 = a5.length then
  (if 0 ≤ u10 ∧ u10 < (a5.length : Int) then
  (let u11 : Int := (IntKind.wrap .u32 (a5.getD u10.toNat (0 : Int)))
  (let u12 : Int := (bits .or .u32 u9 (IntKind.wrap .u32 (u11 * 65536)))
  (let u13 : Int := (IntKind.wrap .i64 ((IntKind.wrap .i64 ((4 : Int) * a4)) + (2 : Int)))
  (if 64 = a5.length then
  (if 0 ≤ u13 ∧ u13 < (a5.length : Int) then
  (let u14 : Int := (IntKind.wrap .u32 (a5.getD u13.toNat (0 : Int)))
  (let u15 : Int := (bits .or .u32 u12 (IntKind.wrap .u32 (u14 * 256)))
  (let u16 : Int := (IntKind.wrap .i64 ((IntKind.wrap .i64 ((4 : Int) * a4)) + (3 : Int)))
  (if 64 = a5.length then
  (if 0 ≤ u16 ∧ u16 < (a5.length : Int) then
  (let u17 : Int := (IntKind.wrap .u32 (a5.getD u16.toNat (0 : Int)))
  (if 64 = a7.length then
  (if 0 ≤ a4 ∧ a4 < (a7.length : Int) then
  (let u18 : List Int := (a7.set a4.toNat (bits .or .u32 u15 u17))
  rec2 ((IntKind.wrap .i64 (a4 + (1 : Int))), (a5, (a6, u18))))
  else none)
  else none))
  else none)
  else none))))
  else none)
  else none))))
  else none)
  else none))))
  else none)
  else none)
  else
  (loopF (X := Int × (List Int) × List Int) (A := List Int) (fun rec19 y20 => match y20 with
  | (a21, (a22, a23)) =>
  (if (decide (a21 < (64 : Int))) = true then
  (let u24 : Int := (IntKind.wrap .i64 (a21 - (15 : Int)))
  (if 64 = a23.length then
  (if 0 ≤ u24 ∧ u24 < (a23.length : Int) then
  (let u25 : Int := (IntKind.wrap .i64 (a21 - (2 : Int)))
  (if 64 = a23.length then
  (if 0 ≤ u25 ∧ u25 < (a23.length : Int) then
  (Option.bind (turn n ((a23.getD u25.toNat (0 : Int)), (17 : Int))) fun r26 =>
  (Option.bind (turn n ((a23.getD u25.toNat (0 : Int)), (19 : Int))) fun r27 =>
  (let u28 : Int := (Int.fdiv (a23.getD u25.toNat (0 : Int)) 1024)
  (let u29 : Int := (bits .xor .u32 (bits .xor .u32 r26 r27) u28)
  (let u30 : Int := (IntKind.wrap .i64 (a21 - (7 : Int)))
  (if 64 = a23.length then
  (if 0 ≤ u30 ∧ u30 < (a23.length : Int) then
  (let u31 : Int := (IntKind.wrap .u32 (u29 + (a23.getD u30.toNat (0 : Int))))
  (Option.bind (turn n ((a23.getD u24.toNat (0 : Int)), (7 : Int))) fun r32 =>
  (Option.bind (turn n ((a23.getD u24.toNat (0 : Int)), (18 : Int))) fun r33 =>
  (let u34 : Int := (Int.fdiv (a23.getD u24.toNat (0 : Int)) 8)
  (let u35 : Int := (bits .xor .u32 (bits .xor .u32 r32 r33) u34)
  (let u36 : Int := (IntKind.wrap .i64 (a21 - (16 : Int)))
  (if 64 = a23.length then
  (if 0 ≤ u36 ∧ u36 < (a23.length : Int) then
  (let u37 : Int := (IntKind.wrap .u32 ((IntKind.wrap .u32 (u31 + u35)) + (a23.getD u36.toNat (0 : Int))))
  (if 64 = a23.length then
  (if 0 ≤ a21 ∧ a21 < (a23.length : Int) then
  (let u38 : Int := (IntKind.wrap .i64 (a21 + (1 : Int)))
  rec19 (u38, (a22, (a23.set a21.toNat u37))))
  else none)
  else none))
  else none)
  else none)))))))
  else none)
  else none))))))
  else none)
  else none))
  else none)
  else none))
  else
  (if 64 = a23.length then
  (if 64 = a22.length ∧ 64 = a23.length then
  (if 64 = a23.length then
  some a23
  else none)
  else none)
  else none))) n ((16 : Int), (a6, a7))))) n ((0 : Int), (x, (([(0 : Int), (0 : Int), (0 : Int), (0 : Int), (0 : Int), (0 : Int), (0 : Int), (0 : Int), (0 : Int), (0 : Int), (0 : Int), (0 : Int), (0 : Int), (0 : Int), (0 : Int), (0 : Int), (0 : Int), (0 : Int), (0 : Int), (0 : Int), (0 : Int), (0 : Int), (0 : Int), (0 : Int), (0 : Int), (0 : Int), (0 : Int), (0 : Int), (0 : Int), (0 : Int), (0 : Int), (0 : Int), (0 : Int), (0 : Int), (0 : Int), (0 : Int), (0 : Int), (0 : Int), (0 : Int), (0 : Int), (0 : Int), (0 : Int), (0 : Int), (0 : Int), (0 : Int), (0 : Int), (0 : Int), (0 : Int), (0 : Int), (0 : Int), (0 : Int), (0 : Int), (0 : Int), (0 : Int), (0 : Int), (0 : Int), (0 : Int), (0 : Int), (0 : Int), (0 : Int), (0 : Int), (0 : Int), (0 : Int), (0 : Int)] : List Int), ([(0 : Int), (0 : Int), (0 : Int), (0 : Int), (0 : Int), (0 : Int), (0 : Int), (0 : Int), (0 : Int), (0 : Int), (0 : Int), (0 : Int), (0 : Int), (0 : Int), (0 : Int), (0 : Int), (0 : Int), (0 : Int), (0 : Int), (0 : Int), (0 : Int), (0 : Int), (0 : Int), (0 : Int), (0 : Int), (0 : Int), (0 : Int), (0 : Int), (0 : Int), (0 : Int), (0 : Int), (0 : Int), (0 : Int), (0 : Int), (0 : Int), (0 : Int), (0 : Int), (0 : Int), (0 : Int), (0 : Int), (0 : Int), (0 : Int), (0 : Int), (0 : Int), (0 : Int), (0 : Int), (0 : Int), (0 : Int), (0 : Int), (0 : Int), (0 : Int), (0 : Int), (0 : Int), (0 : Int), (0 : Int), (0 : Int), (0 : Int), (0 : Int), (0 : Int), (0 : Int), (0 : Int), (0 : Int), (0 : Int), (0 : Int)] : List Int)))))
  else none)
def sp_schedule (n : Nat) : Spec := ⟨pre_schedule, post_schedule, schedule n⟩
def env_schedule (n : Nat) : List (FuncId × Spec) := [(46, sp_turn n)]
theorem run_schedule (n : Nat) (x : pre_schedule.T) : fnRun Tryd.prog 74 (envG (env_schedule n) [] (fun _ => none)) n Tryd.f45 ann_schedule pre_schedule post_schedule x = schedule n x := by kernel_rfl
theorem ok_schedule (n : Nat) : FnOK Tryd.prog 74 LG 45 (sp_schedule n) :=
  fn_run mixed Tryd.func45 (sp_schedule n) n ann_schedule (env_schedule n) (envOf_cons (ok_turn n) envOf_nil) [] (fun _ => none) gl_none (run_schedule n) (by kernel_rfl)
def pre_turnstileref03RSum : Shape := ⟨[.c (.dat (.list (.int .u8)))], []⟩
def post_turnstileref03RSum : List Shape := [⟨[.sg [.blk (.arr 32 (.int .u8))]], []⟩]
def ann_turnstileref03RSum : Ann := (.two .no (.two .no (.two .no (.two .no (.two .no (.two .no (.two (.two .no (.one (.loop ⟨[2, 3, 6, 7, 8], ⟨[.c (.arr 500 1), .c (.dat (.list (.int .u8))), .c (.dat (.list (.int .u32))), .c (.dat (.list (.int .u32))), .c (.dat (.int .i64))], [(500, .row 36 (.int .u8))]⟩⟩ .no))) (.two .no (.two (.two .no (.one (.loop ⟨[2, 6, 9, 10], ⟨[.c (.arr 500 1), .c (.dat (.list (.int .u32))), .c (.arr 501 1), .c (.dat (.int .i64))], [(500, .row 36 (.int .u8)), (501, .row 36 (.int .u8))]⟩⟩ .no))) .no)))))))))
/-- what turnstile/turnstileref03.Sum comes to. -/
def turnstileref03RSum (n : Nat) (x : List Int) : Option (List Int) :=
  (if x.length * 1 ≤ 140737488355328 then
  (Option.bind (rPad n (x.length : Int)) fun r2 =>
  (if (x.length + r2.1.length) * 1 ≤ 140737488355328 then
  (Option.bind (rFirst n ()) fun r3 =>
  (Option.bind (rConstants n ()) fun r4 =>
  (loopF (X := (List Int) × (List Int) × (List Int) × Int × List Int) (A := List Int) (fun rec5 y6 => match y6 with
  | (a7, (a8, (a9, (a10, a11)))) =>
  (if (decide (a10 < (a7.length : Int))) = true then
  (let u12 : Int := (IntKind.wrap .i64 (a10 + (64 : Int)))
  (if 0 ≤ a10 ∧ a10 ≤ u12 ∧ u12 ≤ (a7.length : Int) then
  (let u13 : List Int := ((a7.drop a10.toNat).take (u12.toNat - a10.toNat))
  (Option.bind (rBlock n (a8, (a9, u13))) fun r14 =>
  (let u15 : Int := (IntKind.wrap .i64 (a10 + (64 : Int)))
  rec5 (a7, (r14, (a9, (u15, a11)))))))
  else none))
  else
  (loopF (X := (List Int) × Int × (List Int) × List Int) (A := List Int) (fun rec16 y17 => match y17 with
  | (a18, (a19, (a20, a21))) =>
  (if (decide (a19 < (32 : Int))) = true then
  (let u22 : Int := (IntKind.wrap .i64 (Int.tdiv a19 (4 : Int)))
  (Option.bind (idx a18 u22) fun v23 =>
  (let u24 : Int := (IntKind.wrap .i64 ((8 : Int) * (Int.tmod a19 (4 : Int))))
  (let u25 : Int := (IntKind.wrap .i64 ((24 : Int) - u24))
  (if (IntKind.wrap .u64 u25) < 0 then none else (let u26 : Int := (Int.fdiv v23 (2 ^ (min (IntKind.wrap .u64 u25).toNat 32)))
  (if 32 = a21.length then
  (if 0 ≤ a19 ∧ a19 < (a21.length : Int) then
  (let u27 : List Int := (a21.set a19.toNat (IntKind.wrap .u8 u26))
  (let u28 : Int := (IntKind.wrap .i64 (a19 + (1 : Int)))
  rec16 (a18, (u28, (a20, u27)))))
  else none)
  else none)))))))
  else
  (if 32 = a21.length then
  (if 32 = a20.length ∧ 32 = a21.length then
  (if 32 = a21.length then
  some a21
  else none)
  else none)
  else none))) n (a8, ((0 : Int), (a11, ([(0 : Int), (0 : Int), (0 : Int), (0 : Int), (0 : Int), (0 : Int), (0 : Int), (0 : Int), (0 : Int), (0 : Int), (0 : Int), (0 : Int), (0 : Int), (0 : Int), (0 : Int), (0 : Int), (0 : Int), (0 : Int), (0 : Int), (0 : Int), (0 : Int), (0 : Int), (0 : Int), (0 : Int), (0 : Int), (0 : Int), (0 : Int), (0 : Int), (0 : Int), (0 : Int), (0 : Int), (0 : Int)] : List Int))))))) n ((x ++ r2.1), (r3, (r4, ((0 : Int), ([(0 : Int), (0 : Int), (0 : Int), (0 : Int), (0 : Int), (0 : Int), (0 : Int), (0 : Int), (0 : Int), (0 : Int), (0 : Int), (0 : Int), (0 : Int), (0 : Int), (0 : Int), (0 : Int), (0 : Int), (0 : Int), (0 : Int), (0 : Int), (0 : Int), (0 : Int), (0 : Int), (0 : Int), (0 : Int), (0 : Int), (0 : Int), (0 : Int), (0 : Int), (0 : Int), (0 : Int), (0 : Int)] : List Int))))))))
  else none))
  else none)
def sp_turnstileref03RSum (n : Nat) : Spec := ⟨pre_turnstileref03RSum, post_turnstileref03RSum, turnstileref03RSum n⟩
def env_turnstileref03RSum (n : Nat) : List (FuncId × Spec) := [(34, sp_rPad n), (35, sp_rFirst n), (36, sp_rConstants n), (37, sp_rBlock n)]
theorem run_turnstileref03RSum (n : Nat) (x : pre_turnstileref03RSum.T) : fnRun Tryd.prog 74 (envG (env_turnstileref03RSum n) [] (fun _ => none)) n Tryd.f26 ann_turnstileref03RSum pre_turnstileref03RSum post_turnstileref03RSum x = turnstileref03RSum n x := by kernel_rfl
theorem ok_turnstileref03RSum (n : Nat) : FnOK Tryd.prog 74 LG 26 (sp_turnstileref03RSum n) :=
  fn_run mixed Tryd.func26 (sp_turnstileref03RSum n) n ann_turnstileref03RSum (env_turnstileref03RSum n) (envOf_cons (ok_rPad n) (envOf_cons (ok_rFirst n) (envOf_cons (ok_rConstants n) (envOf_cons (ok_rBlock n) envOf_nil)))) [] (fun _ => none) gl_none (run_turnstileref03RSum n) (by kernel_rfl)
def pre_mix : Shape := ⟨[.c (.ptr 0 0)], [(0, .segs 62 [.blk (.arr 8 (.int .u32)), .blk (.arr 64 (.int .u8)), .one (.dat (.int .i64)), .one (.dat (.int .i64))])]⟩
def post_mix : List Shape := [⟨[], [(0, .segs 62 [.blk (.arr 8 (.int .u32)), .blk (.arr 64 (.int .u8)), .one (.dat (.int .i64)), .one (.dat (.int .i64))])]⟩]
def ann_mix : Ann := (.two .no (.two .no (.two (.two .no (.one (.loop ⟨[0, 2, 3, 19], ⟨[.c (.ptr 0 0), .c (.arr 500 1), .c (.arr 501 1), .c (.dat (.int .i64))], [(0, .segs 62 [.blk (.arr 8 (.int .u32)), .blk (.arr 64 (.int .u8)), .one (.dat (.int .i64)), .one (.dat (.int .i64))]), (500, .row 71 (.int .u32)), (501, .row 60 (.int .u32))]⟩⟩ .no))) (.two .no (.one (.loop ⟨[0, 3, 93], ⟨[.c (.ptr 0 0), .c (.arr 500 1), .c (.dat (.int .i64))], [(0, .segs 62 [.blk (.arr 8 (.int .u32)), .blk (.arr 64 (.int .u8)), .one (.dat (.int .i64)), .one (.dat (.int .i64))]), (500, .row 60 (.int .u32))]⟩⟩ .no))))))
/-- what (turnstile/sha.Hash).mix comes to. -/
def mix (n : Nat) (x : (List Int) × (List Int) × Int × Int) : Option ((List Int) × (List Int) × Int × Int) :=
  match x with
  | (x1, (x2, (x3, x4))) =>
  (Option.bind (schedule n x2) fun r5 =>
  (if 64 = 64 ∧ 64 = r5.length then
  (if 8 = 8 ∧ 8 = x1.length then
  (loopF (X := Int × (List Int) × (List Int) × Int × Int × (List Int) × List Int) (A := (List Int) × (List Int) × Int × Int) (fun rec6 y7 => match y7 with
  | (a8, (a9, (a10, (a11, (a12, (a13, a14)))))) =>
  (if (decide (a8 < (64 : Int))) = true then
  (if 8 = a14.length then
  (if 0 ≤ (0 : Int) ∧ (0 : Int) < (a14.length : Int) then
  (if 8 = a14.length then
  (if 0 ≤ (4 : Int) ∧ (4 : Int) < (a14.length : Int) then
  (if 8 = a14.length then
  (if 0 ≤ (7 : Int) ∧ (7 : Int) < (a14.length : Int) then
  (Option.bind (turn n ((a14.getD 4 (0 : Int)), (6 : Int))) fun r15 =>
  (Option.bind (turn n ((a14.getD 4 (0 : Int)), (11 : Int))) fun r16 =>
  (Option.bind (turn n ((a14.getD 4 (0 : Int)), (25 : Int))) fun r17 =>
  (let u18 : Int := (bits .xor .u32 (bits .xor .u32 r15 r16) r17)
  (let u19 : Int := (IntKind.wrap .u32 ((a14.getD 7 (0 : Int)) + u18))
  (if 8 = a14.length then
  (if 0 ≤ (5 : Int) ∧ (5 : Int) < (a14.length : Int) then
  (let u20 : Int := (bits .and .u32 (a14.getD 4 (0 : Int)) (a14.getD 5 (0 : Int)))
  (let u21 : Int := (bits .xor .u32 (4294967295) (a14.getD 4 (0 : Int)))
  (if 8 = a14.length then
  (if 0 ≤ (6 : Int) ∧ (6 : Int) < (a14.length : Int) then
  (let u22 : Int := (bits .and .u32 u21 (a14.getD 6 (0 : Int)))
  (let u23 : Int := (IntKind.wrap .u32 (u19 + (bits .xor .u32 u20 u22)))
  (Option.bind (idx cK a8) fun v24 =>
  (if 64 = a13.length then
  (if 0 ≤ a8 ∧ a8 < (a13.length : Int) then
  (let u25 : Int := (IntKind.wrap .u32 ((IntKind.wrap .u32 (u23 + v24)) + (a13.getD a8.toNat (0 : Int))))
  (Option.bind (turn n ((a14.getD 0 (0 : Int)), (2 : Int))) fun r26 =>
  (Option.bind (turn n ((a14.getD 0 (0 : Int)), (13 : Int))) fun r27 =>
  (Option.bind (turn n ((a14.getD 0 (0 : Int)), (22 : Int))) fun r28 =>
  (let u29 : Int := (bits .xor .u32 (bits .xor .u32 r26 r27) r28)
  (if 8 = a14.length then
  (if 0 ≤ (1 : Int) ∧ (1 : Int) < (a14.length : Int) then
  (let u30 : Int := (bits .and .u32 (a14.getD 0 (0 : Int)) (a14.getD 1 (0 : Int)))
  (if 8 = a14.length then
  (if 0 ≤ (2 : Int) ∧ (2 : Int) < (a14.length : Int) then
  (let u31 : Int := (bits .and .u32 (a14.getD 0 (0 : Int)) (a14.getD 2 (0 : Int)))
  (if 8 = a14.length then
  (if 0 ≤ (1 : Int) ∧ (1 : Int) < (a14.length : Int) then
  (if 8 = a14.length then
  (if 0 ≤ (2 : Int) ∧ (2 : Int) < (a14.length : Int) then
  (let u32 : Int := (bits .and .u32 (a14.getD 1 (0 : Int)) (a14.getD 2 (0 : Int)))
  (let u33 : Int := (bits .xor .u32 (bits .xor .u32 u30 u31) u32)
  (if 8 = a14.length then
  (if 8 = a14.length then
  (let u34 : Int := ((min (8 - 1) ((a14.drop 0).take (7 - 0)).length : Nat) : Int)
  let u35 : List Int := (a14.take 1 ++ ((a14.drop 0).take (7 - 0)).take (8 - 1) ++ a14.drop (1 + min (8 - 1) ((a14.drop 0).take (7 - 0)).length))
  (if 8 = u35.length then
  (if 0 ≤ (4 : Int) ∧ (4 : Int) < (u35.length : Int) then
  (let u36 : Int := (IntKind.wrap .u32 ((u35.getD 4 (0 : Int)) + u25))
  (if 8 = u35.length then
  (if 0 ≤ (4 : Int) ∧ (4 : Int) < (u35.length : Int) then
  (let u37 : Int := (IntKind.wrap .u32 (u25 + (IntKind.wrap .u32 (u29 + u33))))
  (if 8 = (u35.set 4 u36).length then
  (if 0 ≤ (0 : Int) ∧ (0 : Int) < ((u35.set 4 u36).length : Int) then
  rec6 ((IntKind.wrap .i64 (a8 + (1 : Int))), (a9, (a10, (a11, (a12, (a13, ((u35.set 4 u36).set 0 u37)))))))
  else none)
  else none))
  else none)
  else none))
  else none)
  else none))
  else none)
  else none)))
  else none)
  else none)
  else none)
  else none))
  else none)
  else none))
  else none)
  else none))))))
  else none)
  else none))))
  else none)
  else none)))
  else none)
  else none))))))
  else none)
  else none)
  else none)
  else none)
  else none)
  else none)
  else
  (loopF (X := Int × (List Int) × (List Int) × Int × Int × List Int) (A := (List Int) × (List Int) × Int × Int) (fun rec38 y39 => match y39 with
  | (a40, (a41, (a42, (a43, (a44, a45))))) =>
  (if (decide (a40 < (8 : Int))) = true then
  (if 0 ≤ a40 ∧ a40 < (8 : Int) then
  (if a40.toNat < List.length a41 then
  (if 8 = a45.length then
  (if 0 ≤ a40 ∧ a40 < (a45.length : Int) then
  (let u46 : Int := (IntKind.wrap .u32 ((List.getD a41 a40.toNat (0 : Int)) + (a45.getD a40.toNat (0 : Int))))
  (if 0 ≤ a40 ∧ a40 < (8 : Int) then
  (if a40.toNat < List.length a41 then
  (let u47 : Int := (IntKind.wrap .i64 (a40 + (1 : Int)))
  rec38 (u47, ((List.set a41 a40.toNat u46), (a42, (a43, (a44, a45))))))
  else none)
  else none))
  else none)
  else none)
  else none)
  else none)
  else
  some (a41, (a42, (a43, a44))))) n ((0 : Int), (a9, (a10, (a11, (a12, a14)))))))) n ((0 : Int), (x1, (x2, (x3, (x4, (r5, x1)))))))
  else none)
  else none))
def sp_mix (n : Nat) : Spec := ⟨pre_mix, post_mix, mix n⟩
def env_mix (n : Nat) : List (FuncId × Spec) := [(45, sp_schedule n), (46, sp_turn n)]
theorem run_mix (n : Nat) (x : pre_mix.T) : fnRun Tryd.prog 74 (envG (env_mix n) [] (glOf GL)) n Tryd.f38 ann_mix pre_mix post_mix x = mix n x := by kernel_rfl
theorem ok_mix (n : Nat) : FnOK Tryd.prog 74 LG 38 (sp_mix n) :=
  fn_run mixed Tryd.func38 (sp_mix n) n ann_mix (env_mix n) (envOf_cons (ok_schedule n) (envOf_cons (ok_turn n) envOf_nil)) [] (glOf GL) (glOf_ok GL_ok) (run_mix n) (by kernel_rfl)
def pre_rSum : Shape := ⟨[.c (.dat (.list (.int .u8))), .c (.dat (.list (.int .u8)))], []⟩
def post_rSum : List Shape := [⟨[.sg [.blk (.arr 32 (.int .u8))]], []⟩]
def ann_rSum : Ann := (.two .no (.two .no (.two (.join ⟨[1, 4, 5], ⟨[.c (.dat (.list (.int .u8))), .c (.arr 500 1), .c (.arr 501 1)], [(500, .row 36 (.int .u8)), (501, .row 47 (.int .u8))]⟩⟩ (.two .no (.two (.two .no (.two .no (.one (.loop ⟨[1, 4, 5, 6, 7], ⟨[.c (.dat (.list (.int .u8))), .c (.arr 500 1), .c (.arr 501 1), .c (.arr 502 1), .c (.dat (.int .i64))], [(500, .row 36 (.int .u8)), (501, .row 47 (.int .u8)), (502, .row 36 (.int .u8))]⟩⟩ .no)))) (.two .no (.one (.loop ⟨[0, 1, 4, 5, 8], ⟨[.c (.dat (.list (.int .u8))), .c (.dat (.list (.int .u8))), .c (.arr 500 1), .c (.arr 501 1), .c (.dat (.int .i64))], [(500, .row 36 (.int .u8)), (501, .row 47 (.int .u8))]⟩⟩ .no)))))) (.two .no (.two (.two .no (.one (.loop ⟨[1, 4, 5, 9, 10, 11], ⟨[.c (.dat (.list (.int .u8))), .c (.arr 500 1), .c (.arr 501 1), .c (.own 502), .c (.own 503), .c (.dat (.int .i64))], [(500, .row 36 (.int .u8)), (501, .row 47 (.int .u8)), (502, .row 5 (.int .u8)), (503, .row 5 (.int .u8))]⟩⟩ .no))) (.two .no (.two (.two .no (.one (.loop ⟨[4, 10, 12, 13], ⟨[.c (.arr 500 1), .c (.own 501), .c (.arr 502 1), .c (.dat (.int .i64))], [(500, .row 36 (.int .u8)), (501, .row 5 (.int .u8)), (502, .row 36 (.int .u8))]⟩⟩ .no))) .no)))))))
/-- what turnstile/turnstileref04.Sum comes to. -/
def rSum (n : Nat) (x : (List Int) × List Int) : Option (List Int) :=
  match x with
  | (x1, x2) =>
  (Option.bind (α := Out ((List Int) × (List Int) × List Int) (List Int)) ((if (decide ((x1.length : Int) > (64 : Int))) = true then
  (Option.bind (turnstileref03RSum n x1) fun r3 =>
  (if 32 = 32 ∧ 32 = r3.length then
  (loopF (X := (List Int) × Int × (List Int) × (List Int) × List Int) (A := Out ((List Int) × (List Int) × List Int) (List Int)) (fun rec4 y5 => match y5 with
  | (a6, (a7, (a8, (a9, a10)))) =>
  (if (decide (a7 < (32 : Int))) = true then
  (if 32 = a10.length then
  (if 0 ≤ a7 ∧ a7 < (a10.length : Int) then
  (if 64 = a9.length then
  (if 0 ≤ a7 ∧ a7 < (a9.length : Int) then
  (let u11 : List Int := (a9.set a7.toNat (a10.getD a7.toNat (0 : Int)))
  rec4 (a6, ((IntKind.wrap .i64 (a7 + (1 : Int))), (a8, (u11, a10)))))
  else none)
  else none)
  else none)
  else none)
  else
  (some (Out.go (a6, (a8, a9)))))) n (x2, ((0 : Int), (([(0 : Int), (0 : Int), (0 : Int), (0 : Int), (0 : Int), (0 : Int), (0 : Int), (0 : Int), (0 : Int), (0 : Int), (0 : Int), (0 : Int), (0 : Int), (0 : Int), (0 : Int), (0 : Int), (0 : Int), (0 : Int), (0 : Int), (0 : Int), (0 : Int), (0 : Int), (0 : Int), (0 : Int), (0 : Int), (0 : Int), (0 : Int), (0 : Int), (0 : Int), (0 : Int), (0 : Int), (0 : Int)] : List Int), (([(0 : Int), (0 : Int), (0 : Int), (0 : Int), (0 : Int), (0 : Int), (0 : Int), (0 : Int), (0 : Int), (0 : Int), (0 : Int), (0 : Int), (0 : Int), (0 : Int), (0 : Int), (0 : Int), (0 : Int), (0 : Int), (0 : Int), (0 : Int), (0 : Int), (0 : Int), (0 : Int), (0 : Int), (0 : Int), (0 : Int), (0 : Int), (0 : Int), (0 : Int), (0 : Int), (0 : Int), (0 : Int), (0 : Int), (0 : Int), (0 : Int), (0 : Int), (0 : Int), (0 : Int), (0 : Int), (0 : Int), (0 : Int), (0 : Int), (0 : Int), (0 : Int), (0 : Int), (0 : Int), (0 : Int), (0 : Int), (0 : Int), (0 : Int), (0 : Int), (0 : Int), (0 : Int), (0 : Int), (0 : Int), (0 : Int), (0 : Int), (0 : Int), (0 : Int), (0 : Int), (0 : Int), (0 : Int), (0 : Int), (0 : Int)] : List Int), r3)))))
  else none))
  else
  (loopF (X := (List Int) × (List Int) × Int × (List Int) × List Int) (A := Out ((List Int) × (List Int) × List Int) (List Int)) (fun rec12 y13 => match y13 with
  | (a14, (a15, (a16, (a17, a18)))) =>
  (if (decide (a16 < (a14.length : Int))) = true then
  (Option.bind (idx a14 a16) fun v19 =>
  (if 64 = a18.length then
  (if 0 ≤ a16 ∧ a16 < (a18.length : Int) then
  (let u20 : Int := (IntKind.wrap .i64 (a16 + (1 : Int)))
  rec12 (a14, (a15, (u20, (a17, (a18.set a16.toNat v19))))))
  else none)
  else none))
  else
  (some (Out.go (a15, (a17, a18)))))) n (x1, (x2, ((0 : Int), (([(0 : Int), (0 : Int), (0 : Int), (0 : Int), (0 : Int), (0 : Int), (0 : Int), (0 : Int), (0 : Int), (0 : Int), (0 : Int), (0 : Int), (0 : Int), (0 : Int), (0 : Int), (0 : Int), (0 : Int), (0 : Int), (0 : Int), (0 : Int), (0 : Int), (0 : Int), (0 : Int), (0 : Int), (0 : Int), (0 : Int), (0 : Int), (0 : Int), (0 : Int), (0 : Int), (0 : Int), (0 : Int)] : List Int), ([(0 : Int), (0 : Int), (0 : Int), (0 : Int), (0 : Int), (0 : Int), (0 : Int), (0 : Int), (0 : Int), (0 : Int), (0 : Int), (0 : Int), (0 : Int), (0 : Int), (0 : Int), (0 : Int), (0 : Int), (0 : Int), (0 : Int), (0 : Int), (0 : Int), (0 : Int), (0 : Int), (0 : Int), (0 : Int), (0 : Int), (0 : Int), (0 : Int), (0 : Int), (0 : Int), (0 : Int), (0 : Int), (0 : Int), (0 : Int), (0 : Int), (0 : Int), (0 : Int), (0 : Int), (0 : Int), (0 : Int), (0 : Int), (0 : Int), (0 : Int), (0 : Int), (0 : Int), (0 : Int), (0 : Int), (0 : Int), (0 : Int), (0 : Int), (0 : Int), (0 : Int), (0 : Int), (0 : Int), (0 : Int), (0 : Int), (0 : Int), (0 : Int), (0 : Int), (0 : Int), (0 : Int), (0 : Int), (0 : Int), (0 : Int)] : List Int)))))))) fun o => match o with
  | .go (z22, (z23, z24)) =>
  (loopF (X := (List Int) × Int × (List Int) × (List Int) × (List Int) × List Int) (A := List Int) (fun rec25 y26 => match y26 with
  | (a27, (a28, (a29, (a30, (a31, a32))))) =>
  (if (decide (a28 < (64 : Int))) = true then
  (if 64 = a30.length then
  (if 0 ≤ a28 ∧ a28 < (a30.length : Int) then
  (let u33 : Int := (bits .xor .u8 (a30.getD a28.toNat (0 : Int)) (54 : Int))
  (if (a31.length + 1) * 1 ≤ 140737488355328 then
  (if 64 = a30.length then
  (if 0 ≤ a28 ∧ a28 < (a30.length : Int) then
  (let u34 : Int := (bits .xor .u8 (a30.getD a28.toNat (0 : Int)) (92 : Int))
  (if (a32.length + 1) * 1 ≤ 140737488355328 then
  (let u35 : Int := (IntKind.wrap .i64 (a28 + (1 : Int)))
  rec25 (a27, (u35, (a29, (a30, ((a31 ++ ([u33] : List Int)), (a32 ++ ([u34] : List Int))))))))
  else none))
  else none)
  else none)
  else none))
  else none)
  else none)
  else
  (if (a31.length + a27.length) * 1 ≤ 140737488355328 then
  (Option.bind (turnstileref03RSum n (a31 ++ a27)) fun r36 =>
  (if 32 = 32 ∧ 32 = r36.length then
  (loopF (X := Int × (List Int) × (List Int) × List Int) (A := List Int) (fun rec37 y38 => match y38 with
  | (a39, (a40, (a41, a42))) =>
  (if (decide (a39 < (32 : Int))) = true then
  (if 32 = a42.length then
  (if 0 ≤ a39 ∧ a39 < (a42.length : Int) then
  (if (a41.length + 1) * 1 ≤ 140737488355328 then
  (let u43 : List Int := (a41 ++ ([(a42.getD a39.toNat (0 : Int))] : List Int))
  (let u44 : Int := (IntKind.wrap .i64 (a39 + (1 : Int)))
  rec37 (u44, (a40, (u43, a42)))))
  else none)
  else none)
  else none)
  else
  (Option.bind (turnstileref03RSum n a41) fun r45 =>
  (if 32 = a40.length ∧ 32 = r45.length then
  (if 32 = r45.length then
  some r45
  else none)
  else none)))) n ((0 : Int), (a29, (a32, r36))))
  else none))
  else none))) n (z22, ((0 : Int), (z23, (z24, (([] : List Int), ([] : List Int)))))))
  | .ret r46 => some r46)
def sp_rSum (n : Nat) : Spec := ⟨pre_rSum, post_rSum, rSum n⟩
def env_rSum (n : Nat) : List (FuncId × Spec) := [(26, sp_turnstileref03RSum n)]
theorem run_rSum (n : Nat) (x : pre_rSum.T) : fnRun Tryd.prog 74 (envG (env_rSum n) [] (fun _ => none)) n Tryd.f21 ann_rSum pre_rSum post_rSum x = rSum n x := by kernel_rfl
theorem ok_rSum (n : Nat) : FnOK Tryd.prog 74 LG 21 (sp_rSum n) :=
  fn_run mixed Tryd.func21 (sp_rSum n) n ann_rSum (env_rSum n) (envOf_cons (ok_turnstileref03RSum n) envOf_nil) [] (fun _ => none) gl_none (run_rSum n) (by kernel_rfl)
def pre_rVerify : Shape := ⟨[.c (.dat (.list (.int .u8))), .c (.dat (.list (.int .u8))), .c (.dat (.list (.int .u8)))], []⟩
def post_rVerify : List Shape := [⟨[.c (.dat .bool)], []⟩]
def ann_rVerify : Ann := (.two .no (.two .no (.two .no (.two (.two .no (.one (.loop ⟨[2, 7, 8], ⟨[.c (.dat (.list (.int .u8))), .c (.arr 500 1), .c (.dat (.int .i64))], [(500, .row 36 (.int .u8))]⟩⟩ .no))) .no))))
/-- what turnstile/turnstileref04.Verify comes to. -/
def rVerify (n : Nat) (x : (List Int) × (List Int) × List Int) : Option (Bool) :=
  match x with
  | (x1, (x2, x3)) =>
  (Option.bind (rSum n (x1, x2)) fun r4 =>
  (if 32 = 32 ∧ 32 = r4.length then
  (if ((x3.length : Int) != (32 : Int)) = true then
  some false
  else
  (loopF (X := (List Int) × Int × List Int) (A := Bool) (fun rec5 y6 => match y6 with
  | (a7, (a8, a9)) =>
  (if (decide (a8 < (32 : Int))) = true then
  (Option.bind (idx a7 a8) fun v10 =>
  (if 32 = a9.length then
  (if 0 ≤ a8 ∧ a8 < (a9.length : Int) then
  (if (v10 != (a9.getD a8.toNat (0 : Int))) = true then
  some false
  else
  rec5 (a7, ((IntKind.wrap .i64 (a8 + (1 : Int))), a9)))
  else none)
  else none))
  else
  some true)) n (x3, ((0 : Int), r4))))
  else none))
def sp_rVerify (n : Nat) : Spec := ⟨pre_rVerify, post_rVerify, rVerify n⟩
def env_rVerify (n : Nat) : List (FuncId × Spec) := [(21, sp_rSum n)]
theorem run_rVerify (n : Nat) (x : pre_rVerify.T) : fnRun Tryd.prog 74 (envG (env_rVerify n) [] (fun _ => none)) n Tryd.f23 ann_rVerify pre_rVerify post_rVerify x = rVerify n x := by kernel_rfl
theorem ok_rVerify (n : Nat) : FnOK Tryd.prog 74 LG 23 (sp_rVerify n) :=
  fn_run mixed Tryd.func23 (sp_rVerify n) n ann_rVerify (env_rVerify n) (envOf_cons (ok_rSum n) envOf_nil) [] (fun _ => none) gl_none (run_rVerify n) (by kernel_rfl)
def pre_hwriteK : Shape := ⟨[.c (.ptr 0 0), .c (.own 250)], [(0, .segs 62 [.blk (.arr 8 (.int .u32)), .blk (.arr 64 (.int .u8)), .one (.dat (.int .i64)), .one (.dat (.int .i64))]), (250, .row 5 (.int .u8))]⟩
def post_hwriteK : List Shape := [⟨[], [(0, .segs 62 [.blk (.arr 8 (.int .u32)), .blk (.arr 64 (.int .u8)), .one (.dat (.int .i64)), .one (.dat (.int .i64))]), (250, .row 5 (.int .u8))]⟩]
def ann_hwriteK : Ann := (.two .no (.two .no (.one (.loop ⟨[0, 1], ⟨[.c (.ptr 0 0), .c (.part 250 1)], [(0, .segs 62 [.blk (.arr 8 (.int .u32)), .blk (.arr 64 (.int .u8)), .one (.dat (.int .i64)), .one (.dat (.int .i64))]), (250, .row 5 (.int .u8))]⟩⟩ .no))))
/-- what (turnstile/sha.Hash).Write comes to. -/
def hwriteK (n : Nat) (x : (List Int) × (List Int) × Int × Int × List Int) : Option ((List Int) × (List Int) × Int × Int × List Int) :=
  match x with
  | (x1, (x2, (x3, (x4, x5)))) =>
  (let u6 : Int := (IntKind.wrap .i64 (x4 + (x5.length : Int)))
  (loopF (X := Int × Int × (List Int) × (List Int) × Int × Int × List Int) (A := (List Int) × (List Int) × Int × Int × List Int) (fun rec7 y8 => match y8 with
  | (a9, (a10, (a11, (a12, (a13, (a14, a15)))))) =>
  (if (decide (((a10.toNat : Nat) : Int) > (0 : Int))) = true then
  (if 0 ≤ a13 ∧ a13 ≤ (64 : Int) ∧ (64 : Int) ≤ (64 : Int) then
  (if a13.toNat + (64 - a13.toNat) ≤ List.length a12 then
  (let u16 : Int := ((min (64 - a13.toNat) ((a15.drop a9.toNat).take a10.toNat).length : Nat) : Int)
  let u17 : List Int := (List.take a13.toNat a12 ++ ((a15.drop a9.toNat).take a10.toNat).take (64 - a13.toNat) ++ List.drop (a13.toNat + min (64 - a13.toNat) ((a15.drop a9.toNat).take a10.toNat).length) a12)
  (if 0 ≤ u16 ∧ u16 ≤ ((a10.toNat : Nat) : Int) ∧ ((a10.toNat : Nat) : Int) ≤ ((a10.toNat : Nat) : Int) then
  (if ((IntKind.wrap .i64 (a13 + u16)) == (64 : Int)) = true then
  (Option.bind (mix n (a11, (u17, ((IntKind.wrap .i64 (a13 + u16)), a14)))) fun r18 =>
  rec7 ((((a9.toNat + u16.toNat) : Nat) : Int), (((((((a10.toNat : Nat) : Int)).toNat - u16.toNat) : Nat) : Int), (r18.1, (r18.2.1, ((0 : Int), (r18.2.2.2, a15)))))))
  else
  rec7 ((((a9.toNat + u16.toNat) : Nat) : Int), (((((((a10.toNat : Nat) : Int)).toNat - u16.toNat) : Nat) : Int), (a11, (u17, ((IntKind.wrap .i64 (a13 + u16)), (a14, a15)))))))
  else none))
  else none)
  else none)
  else
  some (a11, (a12, (a13, (a14, a15)))))) n ((0 : Int), ((x5.length : Int), (x1, (x2, (x3, (u6, x5))))))))
def sp_hwriteK (n : Nat) : Spec := ⟨pre_hwriteK, post_hwriteK, hwriteK n⟩
def env_hwriteK (n : Nat) : List (FuncId × Spec) := [(38, sp_mix n)]
theorem run_hwriteK (n : Nat) (x : pre_hwriteK.T) : fnRun Tryd.prog 74 (envG (env_hwriteK n) [] (fun _ => none)) n Tryd.f29 ann_hwriteK pre_hwriteK post_hwriteK x = hwriteK n x := by kernel_rfl
theorem ok_hwriteK (n : Nat) : FnOK Tryd.prog 74 LG 29 (sp_hwriteK n) :=
  fn_run mixed Tryd.func29 (sp_hwriteK n) n ann_hwriteK (env_hwriteK n) (envOf_cons (ok_mix n) envOf_nil) [] (fun _ => none) gl_none (run_hwriteK n) (by kernel_rfl)
def pre_hwrite : Shape := ⟨[.c (.ptr 0 0), .c (.dat (.list (.int .u8)))], [(0, .segs 62 [.blk (.arr 8 (.int .u32)), .blk (.arr 64 (.int .u8)), .one (.dat (.int .i64)), .one (.dat (.int .i64))])]⟩
def post_hwrite : List Shape := [⟨[], [(0, .segs 62 [.blk (.arr 8 (.int .u32)), .blk (.arr 64 (.int .u8)), .one (.dat (.int .i64)), .one (.dat (.int .i64))])]⟩]
def ann_hwrite : Ann := (.two .no (.two .no (.one (.loop ⟨[0, 1], ⟨[.c (.ptr 0 0), .c (.dat (.list (.int .u8)))], [(0, .segs 62 [.blk (.arr 8 (.int .u32)), .blk (.arr 64 (.int .u8)), .one (.dat (.int .i64)), .one (.dat (.int .i64))])]⟩⟩ .no))))
/-- what (turnstile/sha.Hash).Write comes to. -/
def hwrite (n : Nat) (x : (List Int) × (List Int) × (List Int) × Int × Int) : Option ((List Int) × (List Int) × Int × Int) :=
  match x with
  | (x1, (x2, (x3, (x4, x5)))) =>
  (let u6 : Int := (IntKind.wrap .i64 (x5 + (x1.length : Int)))
  (loopF (X := (List Int) × (List Int) × (List Int) × Int × Int) (A := (List Int) × (List Int) × Int × Int) (fun rec7 y8 => match y8 with
  | (a9, (a10, (a11, (a12, a13)))) =>
  (if (decide ((a9.length : Int) > (0 : Int))) = true then
  (if 0 ≤ a12 ∧ a12 ≤ (64 : Int) ∧ (64 : Int) ≤ (64 : Int) then
  (if a12.toNat + (64 - a12.toNat) ≤ List.length a11 then
  (let u14 : Int := ((min (64 - a12.toNat) a9.length : Nat) : Int)
  let u15 : List Int := (List.take a12.toNat a11 ++ a9.take (64 - a12.toNat) ++ List.drop (a12.toNat + min (64 - a12.toNat) a9.length) a11)
  (if 0 ≤ u14 ∧ u14 ≤ (a9.length : Int) ∧ (a9.length : Int) ≤ (a9.length : Int) then
  (let u16 : List Int := ((a9.drop u14.toNat).take (((a9.length : Int)).toNat - u14.toNat))
  (if ((IntKind.wrap .i64 (a12 + u14)) == (64 : Int)) = true then
  (Option.bind (mix n (a10, (u15, ((IntKind.wrap .i64 (a12 + u14)), a13)))) fun r17 =>
  rec7 (u16, (r17.1, (r17.2.1, ((0 : Int), r17.2.2.2)))))
  else
  rec7 (u16, (a10, (u15, ((IntKind.wrap .i64 (a12 + u14)), a13))))))
  else none))
  else none)
  else none)
  else
  some (a10, (a11, (a12, a13))))) n (x1, (x2, (x3, (x4, u6))))))
def sp_hwrite (n : Nat) : Spec := ⟨pre_hwrite, post_hwrite, hwrite n⟩
def env_hwrite (n : Nat) : List (FuncId × Spec) := [(38, sp_mix n)]
theorem run_hwrite (n : Nat) (x : pre_hwrite.T) : fnRun Tryd.prog 74 (envG (env_hwrite n) [] (fun _ => none)) n Tryd.f29 ann_hwrite pre_hwrite post_hwrite x = hwrite n x := by kernel_rfl
theorem ok_hwrite (n : Nat) : FnOK Tryd.prog 74 LG 29 (sp_hwrite n) :=
  fn_run mixed Tryd.func29 (sp_hwrite n) n ann_hwrite (env_hwrite n) (envOf_cons (ok_mix n) envOf_nil) [] (fun _ => none) gl_none (run_hwrite n) (by kernel_rfl)
def pre_hsum : Shape := ⟨[.c (.ref (.pair (.arr 8 (.int .u32)) (.pair (.arr 64 (.int .u8)) (.pair (.int .i64) (.pair (.int .i64) .unit)))))], []⟩
def post_hsum : List Shape := [⟨[.sg [.blk (.arr 32 (.int .u8))]], []⟩]
def ann_hsum : Ann := (.two .no (.two .no (.two .no (.two .no (.two .no (.two .no (.two (.two .no (.one (.loop ⟨[2, 3, 27, 28], ⟨[.c (.arr 500 1), .c (.arr 501 1), .sg [.blk (.arr 8 (.int .u32))], .c (.dat (.int .i64))], [(500, .row 36 (.int .u8)), (501, .row 36 (.int .u8))]⟩⟩ (.two .no (.two .no (.two (.one (.two .no (.two .no (.one (.loop ⟨[2, 3, 7, 8, 27, 28, 32], ⟨[.c (.arr 500 1), .c (.arr 501 1), .c (.dat (.int .i64)), .c (.dat (.int .u32)), .sg [.blk (.arr 8 (.int .u32))], .c (.dat (.int .i64)), .c (.dat (.int .i64))], [(500, .row 36 (.int .u8)), (501, .row 36 (.int .u8))]⟩⟩ .no))))) .no)))))) .no)))))))
/-- what (turnstile/sha.Hash).Sum comes to. -/
def hsum (n : Nat) (x : (List Int × (List Int × (Int × (Int × Unit))))) : Option (List Int) :=
  (Option.bind (pad n x.2.2.2.1) fun r2 =>
  (Option.bind (hwrite n (r2.1, (x.1, (x.2.1, (x.2.2.1, x.2.2.2.1))))) fun r3 =>
  (loopF (X := (List Int) × Int × (List Int) × List Int) (A := List Int) (fun rec4 y5 => match y5 with
  | (a6, (a7, (a8, a9))) =>
  (if (decide (a7 < (8 : Int))) = true then
  (Option.bind (idx a6 a7) fun v10 =>
  (loopF (X := Int × Int × (List Int) × Int × Int × (List Int) × List Int) (A := List Int) (fun rec11 y12 => match y12 with
  | (a13, (a14, (a15, (a16, (a17, (a18, a19)))))) =>
  (if (decide (a17 < (4 : Int))) = true then
  (let u20 : Int := (IntKind.wrap .i64 ((4 : Int) * a13))
  (let u21 : Int := (IntKind.wrap .i64 ((8 : Int) * a17))
  (let u22 : Int := (IntKind.wrap .i64 ((24 : Int) - u21))
  (if u22 < 0 then none else (let u23 : Int := (Int.fdiv a14 (2 ^ (min u22.toNat 32)))
  (if 32 = a19.length then
  (if 0 ≤ (IntKind.wrap .i64 (u20 + a17)) ∧ (IntKind.wrap .i64 (u20 + a17)) < (a19.length : Int) then
  (let u24 : List Int := (a19.set (IntKind.wrap .i64 (u20 + a17)).toNat (IntKind.wrap .u8 u23))
  (let u25 : Int := (IntKind.wrap .i64 (a17 + (1 : Int)))
  rec11 (a13, (a14, (a15, (a16, (u25, (a18, u24))))))))
  else none)
  else none))))))
  else
  (let u26 : Int := (IntKind.wrap .i64 (a16 + (1 : Int)))
  rec4 (a15, (u26, (a18, a19)))))) n (a7, (v10, (a6, (a7, ((0 : Int), (a8, a9))))))))
  else
  (if 32 = a9.length then
  (if 32 = a8.length ∧ 32 = a9.length then
  (if 32 = a9.length then
  some a9
  else none)
  else none)
  else none))) n (r3.1, ((0 : Int), (([(0 : Int), (0 : Int), (0 : Int), (0 : Int), (0 : Int), (0 : Int), (0 : Int), (0 : Int), (0 : Int), (0 : Int), (0 : Int), (0 : Int), (0 : Int), (0 : Int), (0 : Int), (0 : Int), (0 : Int), (0 : Int), (0 : Int), (0 : Int), (0 : Int), (0 : Int), (0 : Int), (0 : Int), (0 : Int), (0 : Int), (0 : Int), (0 : Int), (0 : Int), (0 : Int), (0 : Int), (0 : Int)] : List Int), ([(0 : Int), (0 : Int), (0 : Int), (0 : Int), (0 : Int), (0 : Int), (0 : Int), (0 : Int), (0 : Int), (0 : Int), (0 : Int), (0 : Int), (0 : Int), (0 : Int), (0 : Int), (0 : Int), (0 : Int), (0 : Int), (0 : Int), (0 : Int), (0 : Int), (0 : Int), (0 : Int), (0 : Int), (0 : Int), (0 : Int), (0 : Int), (0 : Int), (0 : Int), (0 : Int), (0 : Int), (0 : Int)] : List Int)))))))
def sp_hsum (n : Nat) : Spec := ⟨pre_hsum, post_hsum, hsum n⟩
def env_hsum (n : Nat) : List (FuncId × Spec) := [(39, sp_pad n), (29, sp_hwriteK n), (29, sp_hwrite n)]
theorem run_hsum (n : Nat) (x : pre_hsum.T) : fnRun Tryd.prog 74 (envG (env_hsum n) [] (fun _ => none)) n Tryd.f30 ann_hsum pre_hsum post_hsum x = hsum n x := by kernel_rfl
theorem ok_hsum (n : Nat) : FnOK Tryd.prog 74 LG 30 (sp_hsum n) :=
  fn_run mixed Tryd.func30 (sp_hsum n) n ann_hsum (env_hsum n) (envOf_cons (ok_pad n) (envOf_cons (ok_hwriteK n) (envOf_cons (ok_hwrite n) envOf_nil))) [] (fun _ => none) gl_none (run_hsum n) (by kernel_rfl)
def pre_mwrite : Shape := ⟨[.c (.ptr 0 0), .c (.dat (.list (.int .u8)))], [(0, .segs 51 [.blk (.arr 64 (.int .u8)), .one (.ptr 1 0)]), (1, .segs 62 [.blk (.arr 8 (.int .u32)), .blk (.arr 64 (.int .u8)), .one (.dat (.int .i64)), .one (.dat (.int .i64))])]⟩
def post_mwrite : List Shape := [⟨[], [(0, .segs 51 [.blk (.arr 64 (.int .u8)), .one (.ptr 1 0)]), (1, .segs 62 [.blk (.arr 8 (.int .u32)), .blk (.arr 64 (.int .u8)), .one (.dat (.int .i64)), .one (.dat (.int .i64))])]⟩]
def ann_mwrite : Ann := .no
/-- what (turnstile/mac.MAC).Write comes to. -/
def mwrite (n : Nat) (x : (List Int) × (List Int) × (List Int) × (List Int) × Int × Int) : Option ((List Int) × (List Int) × (List Int) × Int × Int) :=
  match x with
  | (x1, (x2, (x3, (x4, (x5, x6))))) =>
  (Option.bind (hwrite n (x1, (x3, (x4, (x5, x6))))) fun r7 =>
  some (x2, (r7.1, (r7.2.1, (r7.2.2.1, r7.2.2.2)))))
def sp_mwrite (n : Nat) : Spec := ⟨pre_mwrite, post_mwrite, mwrite n⟩
def env_mwrite (n : Nat) : List (FuncId × Spec) := [(29, sp_hwriteK n), (29, sp_hwrite n)]
theorem run_mwrite (n : Nat) (x : pre_mwrite.T) : fnRun Tryd.prog 74 (envG (env_mwrite n) [] (fun _ => none)) n Tryd.f16 ann_mwrite pre_mwrite post_mwrite x = mwrite n x := by kernel_rfl
theorem ok_mwrite (n : Nat) : FnOK Tryd.prog 74 LG 16 (sp_mwrite n) :=
  fn_run mixed Tryd.func16 (sp_mwrite n) n ann_mwrite (env_mwrite n) (envOf_cons (ok_hwriteK n) (envOf_cons (ok_hwrite n) envOf_nil)) [] (fun _ => none) gl_none (run_mwrite n) (by kernel_rfl)
def pre_mwrite0 : Shape := ⟨[.c (.nilp), .c (.dat (.list (.int .u8)))], []⟩
def post_mwrite0 : List Shape := [⟨[], []⟩]
def ann_mwrite0 : Ann := .no
/-- what (turnstile/mac.MAC).Write comes to. -/
def mwrite0 (n : Nat) (x : List Int) : Option (Unit) :=
  some ()
def sp_mwrite0 (n : Nat) : Spec := ⟨pre_mwrite0, post_mwrite0, mwrite0 n⟩
def env_mwrite0 (n : Nat) : List (FuncId × Spec) := [(29, sp_hwriteK n), (29, sp_hwrite n)]
theorem run_mwrite0 (n : Nat) (x : pre_mwrite0.T) : fnRun Tryd.prog 74 (envG (env_mwrite0 n) [] (fun _ => none)) n Tryd.f16 ann_mwrite0 pre_mwrite0 post_mwrite0 x = mwrite0 n x := by kernel_rfl
theorem ok_mwrite0 (n : Nat) : FnOK Tryd.prog 74 LG 16 (sp_mwrite0 n) :=
  fn_run mixed Tryd.func16 (sp_mwrite0 n) n ann_mwrite0 (env_mwrite0 n) (envOf_cons (ok_hwriteK n) (envOf_cons (ok_hwrite n) envOf_nil)) [] (fun _ => none) gl_none (run_mwrite0 n) (by kernel_rfl)
def pre_mreset : Shape := ⟨[.c (.ptr 0 0)], [(0, .segs 51 [.blk (.arr 64 (.int .u8)), .one (.ptr 1 0)]), (1, .segs 62 [.blk (.arr 8 (.int .u32)), .blk (.arr 64 (.int .u8)), .one (.dat (.int .i64)), .one (.dat (.int .i64))])]⟩
def post_mreset : List Shape := [⟨[], [(0, .segs 51 [.blk (.arr 64 (.int .u8)), .one (.ptr 2 0)]), (2, .segs 62 [.blk (.arr 8 (.int .u32)), .blk (.arr 64 (.int .u8)), .one (.dat (.int .i64)), .one (.dat (.int .i64))])]⟩]
def ann_mreset : Ann := .no
/-- what (turnstile/mac.MAC).Reset comes to. -/
def mreset (n : Nat) (x : (List Int) × (List Int) × (List Int) × Int × Int) : Option ((List Int) × (List Int) × (List Int) × Int × Int) :=
  match x with
  | (x1, (x2, (x3, (x4, x5)))) =>
  (Option.bind (hnew n ()) fun r6 =>
  (Option.bind (with_ n (x1, (54 : Int))) fun r7 =>
  (Option.bind (hwrite n (r7, (r6.1, (r6.2.1, (r6.2.2.1, r6.2.2.2))))) fun r8 =>
  some (x1, (r8.1, (r8.2.1, (r8.2.2.1, r8.2.2.2)))))))
def sp_mreset (n : Nat) : Spec := ⟨pre_mreset, post_mreset, mreset n⟩
def env_mreset (n : Nat) : List (FuncId × Spec) := [(33, sp_hnew n), (31, sp_with_ n), (29, sp_hwriteK n), (29, sp_hwrite n)]
theorem run_mreset (n : Nat) (x : pre_mreset.T) : fnRun Tryd.prog 74 (envG (env_mreset n) [] (fun _ => none)) n Tryd.f20 ann_mreset pre_mreset post_mreset x = mreset n x := by kernel_rfl
theorem ok_mreset (n : Nat) : FnOK Tryd.prog 74 LG 20 (sp_mreset n) :=
  fn_run mixed Tryd.func20 (sp_mreset n) n ann_mreset (env_mreset n) (envOf_cons (ok_hnew n) (envOf_cons (ok_with_ n) (envOf_cons (ok_hwriteK n) (envOf_cons (ok_hwrite n) envOf_nil)))) [] (fun _ => none) gl_none (run_mreset n) (by kernel_rfl)
def pre_mresetN : Shape := ⟨[.c (.ptr 0 0)], [(0, .segs 51 [.blk (.arr 64 (.int .u8)), .one (.nilp)])]⟩
def post_mresetN : List Shape := [⟨[], [(0, .segs 51 [.blk (.arr 64 (.int .u8)), .one (.ptr 2 0)]), (2, .segs 62 [.blk (.arr 8 (.int .u32)), .blk (.arr 64 (.int .u8)), .one (.dat (.int .i64)), .one (.dat (.int .i64))])]⟩]
def ann_mresetN : Ann := .no
/-- what (turnstile/mac.MAC).Reset comes to. -/
def mresetN (n : Nat) (x : List Int) : Option ((List Int) × (List Int) × (List Int) × Int × Int) :=
  (Option.bind (hnew n ()) fun r2 =>
  (Option.bind (with_ n (x, (54 : Int))) fun r3 =>
  (Option.bind (hwrite n (r3, (r2.1, (r2.2.1, (r2.2.2.1, r2.2.2.2))))) fun r4 =>
  some (x, (r4.1, (r4.2.1, (r4.2.2.1, r4.2.2.2)))))))
def sp_mresetN (n : Nat) : Spec := ⟨pre_mresetN, post_mresetN, mresetN n⟩
def env_mresetN (n : Nat) : List (FuncId × Spec) := [(33, sp_hnew n), (31, sp_with_ n), (29, sp_hwriteK n), (29, sp_hwrite n)]
theorem run_mresetN (n : Nat) (x : pre_mresetN.T) : fnRun Tryd.prog 74 (envG (env_mresetN n) [] (fun _ => none)) n Tryd.f20 ann_mresetN pre_mresetN post_mresetN x = mresetN n x := by kernel_rfl
theorem ok_mresetN (n : Nat) : FnOK Tryd.prog 74 LG 20 (sp_mresetN n) :=
  fn_run mixed Tryd.func20 (sp_mresetN n) n ann_mresetN (env_mresetN n) (envOf_cons (ok_hnew n) (envOf_cons (ok_with_ n) (envOf_cons (ok_hwriteK n) (envOf_cons (ok_hwrite n) envOf_nil)))) [] (fun _ => none) gl_none (run_mresetN n) (by kernel_rfl)
def pre_mreset0 : Shape := ⟨[.c (.nilp)], []⟩
def post_mreset0 : List Shape := [⟨[], []⟩]
def ann_mreset0 : Ann := .no
/-- what (turnstile/mac.MAC).Reset comes to. -/
def mreset0 (n : Nat) (x : Unit) : Option (Unit) :=
  some ()
def sp_mreset0 (n : Nat) : Spec := ⟨pre_mreset0, post_mreset0, mreset0 n⟩
def env_mreset0 (n : Nat) : List (FuncId × Spec) := [(33, sp_hnew n), (31, sp_with_ n), (29, sp_hwriteK n), (29, sp_hwrite n)]
theorem run_mreset0 (n : Nat) (x : pre_mreset0.T) : fnRun Tryd.prog 74 (envG (env_mreset0 n) [] (fun _ => none)) n Tryd.f20 ann_mreset0 pre_mreset0 post_mreset0 x = mreset0 n x := by kernel_rfl
theorem ok_mreset0 (n : Nat) : FnOK Tryd.prog 74 LG 20 (sp_mreset0 n) :=
  fn_run mixed Tryd.func20 (sp_mreset0 n) n ann_mreset0 (env_mreset0 n) (envOf_cons (ok_hnew n) (envOf_cons (ok_with_ n) (envOf_cons (ok_hwriteK n) (envOf_cons (ok_hwrite n) envOf_nil)))) [] (fun _ => none) gl_none (run_mreset0 n) (by kernel_rfl)
def pre_shaSumK : Shape := ⟨[.c (.own 250)], [(250, .row 5 (.int .u8))]⟩
def post_shaSumK : List Shape := [⟨[.sg [.blk (.arr 32 (.int .u8))]], [(250, .row 5 (.int .u8))]⟩]
def ann_shaSumK : Ann := .no
/-- what turnstile/sha.Sum comes to. -/
def shaSumK (n : Nat) (x : List Int) : Option ((List Int) × List Int) :=
  (Option.bind (hnew n ()) fun r2 =>
  (Option.bind (hwriteK n (r2.1, (r2.2.1, (r2.2.2.1, (r2.2.2.2, x))))) fun r3 =>
  (Option.bind (hsum n (r3.1, (r3.2.1, (r3.2.2.1, (r3.2.2.2.1, ()))))) fun r4 =>
  (if 32 = 32 ∧ 32 = r4.length then
  (if 32 = r4.length then
  some (r4, r3.2.2.2.2)
  else none)
  else none))))
def sp_shaSumK (n : Nat) : Spec := ⟨pre_shaSumK, post_shaSumK, shaSumK n⟩
def env_shaSumK (n : Nat) : List (FuncId × Spec) := [(33, sp_hnew n), (29, sp_hwriteK n), (29, sp_hwrite n), (30, sp_hsum n)]
theorem run_shaSumK (n : Nat) (x : pre_shaSumK.T) : fnRun Tryd.prog 74 (envG (env_shaSumK n) [] (fun _ => none)) n Tryd.f28 ann_shaSumK pre_shaSumK post_shaSumK x = shaSumK n x := by kernel_rfl
theorem ok_shaSumK (n : Nat) : FnOK Tryd.prog 74 LG 28 (sp_shaSumK n) :=
  fn_run mixed Tryd.func28 (sp_shaSumK n) n ann_shaSumK (env_shaSumK n) (envOf_cons (ok_hnew n) (envOf_cons (ok_hwriteK n) (envOf_cons (ok_hwrite n) (envOf_cons (ok_hsum n) envOf_nil)))) [] (fun _ => none) gl_none (run_shaSumK n) (by kernel_rfl)
def pre_shaSum : Shape := ⟨[.c (.dat (.list (.int .u8)))], []⟩
def post_shaSum : List Shape := [⟨[.sg [.blk (.arr 32 (.int .u8))]], []⟩]
def ann_shaSum : Ann := .no
/-- what turnstile/sha.Sum comes to. -/
def shaSum (n : Nat) (x : List Int) : Option (List Int) :=
  (Option.bind (hnew n ()) fun r2 =>
  (Option.bind (hwrite n (x, (r2.1, (r2.2.1, (r2.2.2.1, r2.2.2.2))))) fun r3 =>
  (Option.bind (hsum n (r3.1, (r3.2.1, (r3.2.2.1, (r3.2.2.2, ()))))) fun r4 =>
  (if 32 = 32 ∧ 32 = r4.length then
  (if 32 = r4.length then
  some r4
  else none)
  else none))))
def sp_shaSum (n : Nat) : Spec := ⟨pre_shaSum, post_shaSum, shaSum n⟩
def env_shaSum (n : Nat) : List (FuncId × Spec) := [(33, sp_hnew n), (29, sp_hwriteK n), (29, sp_hwrite n), (30, sp_hsum n)]
theorem run_shaSum (n : Nat) (x : pre_shaSum.T) : fnRun Tryd.prog 74 (envG (env_shaSum n) [] (fun _ => none)) n Tryd.f28 ann_shaSum pre_shaSum post_shaSum x = shaSum n x := by kernel_rfl
theorem ok_shaSum (n : Nat) : FnOK Tryd.prog 74 LG 28 (sp_shaSum n) :=
  fn_run mixed Tryd.func28 (sp_shaSum n) n ann_shaSum (env_shaSum n) (envOf_cons (ok_hnew n) (envOf_cons (ok_hwriteK n) (envOf_cons (ok_hwrite n) (envOf_cons (ok_hsum n) envOf_nil)))) [] (fun _ => none) gl_none (run_shaSum n) (by kernel_rfl)
def pre_mnewK : Shape := ⟨[.c (.own 250)], [(250, .row 5 (.int .u8))]⟩
def post_mnewK : List Shape := [⟨[.c (.ptr 0 0)], [(0, .segs 51 [.blk (.arr 64 (.int .u8)), .one (.ptr 1 0)]), (1, .segs 62 [.blk (.arr 8 (.int .u32)), .blk (.arr 64 (.int .u8)), .one (.dat (.int .i64)), .one (.dat (.int .i64))]), (250, .row 5 (.int .u8))]⟩]
def ann_mnewK : Ann := .no
/-- what turnstile/mac.New comes to. -/
def mnewK (n : Nat) (x : List Int) : Option ((List Int) × (List Int) × (List Int) × Int × Int × List Int) :=
  (if (decide ((x.length : Int) > (64 : Int))) = true then
  (Option.bind (shaSumK n x) fun r2 =>
  (if 32 = 32 ∧ 32 = r2.1.length then
  (if 32 = r2.1.length then
  (if 0 + (64 - 0) ≤ List.length (List.replicate 64 (0 : Int)) then
  (let u3 : Int := ((min (64 - 0) ((r2.1.drop 0).take (32 - 0)).length : Nat) : Int)
  let u4 : List Int := (List.take 0 (List.replicate 64 (0 : Int)) ++ ((r2.1.drop 0).take (32 - 0)).take (64 - 0) ++ List.drop (0 + min (64 - 0) ((r2.1.drop 0).take (32 - 0)).length) (List.replicate 64 (0 : Int)))
  (Option.bind (mresetN n u4) fun r5 =>
  some (r5.1, (r5.2.1, (r5.2.2.1, (r5.2.2.2.1, (r5.2.2.2.2, r2.2)))))))
  else none)
  else none)
  else none))
  else
  (if 0 + (64 - 0) ≤ List.length (List.replicate 64 (0 : Int)) then
  (let u6 : Int := ((min (64 - 0) x.length : Nat) : Int)
  let u7 : List Int := (List.take 0 (List.replicate 64 (0 : Int)) ++ x.take (64 - 0) ++ List.drop (0 + min (64 - 0) x.length) (List.replicate 64 (0 : Int)))
  (Option.bind (mresetN n u7) fun r8 =>
  some (r8.1, (r8.2.1, (r8.2.2.1, (r8.2.2.2.1, (r8.2.2.2.2, x)))))))
  else none))
def sp_mnewK (n : Nat) : Spec := ⟨pre_mnewK, post_mnewK, mnewK n⟩
def env_mnewK (n : Nat) : List (FuncId × Spec) := [(28, sp_shaSumK n), (28, sp_shaSum n), (20, sp_mreset n), (20, sp_mresetN n), (20, sp_mreset0 n)]
theorem run_mnewK (n : Nat) (x : pre_mnewK.T) : fnRun Tryd.prog 74 (envG (env_mnewK n) [] (fun _ => none)) n Tryd.f15 ann_mnewK pre_mnewK post_mnewK x = mnewK n x := by kernel_rfl
theorem ok_mnewK (n : Nat) : FnOK Tryd.prog 74 LG 15 (sp_mnewK n) :=
  fn_run mixed Tryd.func15 (sp_mnewK n) n ann_mnewK (env_mnewK n) (envOf_cons (ok_shaSumK n) (envOf_cons (ok_shaSum n) (envOf_cons (ok_mreset n) (envOf_cons (ok_mresetN n) (envOf_cons (ok_mreset0 n) envOf_nil))))) [] (fun _ => none) gl_none (run_mnewK n) (by kernel_rfl)
def pre_mnew : Shape := ⟨[.c (.dat (.list (.int .u8)))], []⟩
def post_mnew : List Shape := [⟨[.c (.ptr 0 0)], [(0, .segs 51 [.blk (.arr 64 (.int .u8)), .one (.ptr 1 0)]), (1, .segs 62 [.blk (.arr 8 (.int .u32)), .blk (.arr 64 (.int .u8)), .one (.dat (.int .i64)), .one (.dat (.int .i64))])]⟩]
def ann_mnew : Ann := .no
/-- what turnstile/mac.New comes to. -/
def mnew (n : Nat) (x : List Int) : Option ((List Int) × (List Int) × (List Int) × Int × Int) :=
  (if (decide ((x.length : Int) > (64 : Int))) = true then
  (Option.bind (shaSum n x) fun r2 =>
  (if 32 = 32 ∧ 32 = r2.length then
  (if 32 = r2.length then
  (if 0 + (64 - 0) ≤ List.length (List.replicate 64 (0 : Int)) then
  (let u3 : Int := ((min (64 - 0) ((r2.drop 0).take (32 - 0)).length : Nat) : Int)
  let u4 : List Int := (List.take 0 (List.replicate 64 (0 : Int)) ++ ((r2.drop 0).take (32 - 0)).take (64 - 0) ++ List.drop (0 + min (64 - 0) ((r2.drop 0).take (32 - 0)).length) (List.replicate 64 (0 : Int)))
  (Option.bind (mresetN n u4) fun r5 =>
  some (r5.1, (r5.2.1, (r5.2.2.1, (r5.2.2.2.1, r5.2.2.2.2))))))
  else none)
  else none)
  else none))
  else
  (if 0 + (64 - 0) ≤ List.length (List.replicate 64 (0 : Int)) then
  (let u6 : Int := ((min (64 - 0) x.length : Nat) : Int)
  let u7 : List Int := (List.take 0 (List.replicate 64 (0 : Int)) ++ x.take (64 - 0) ++ List.drop (0 + min (64 - 0) x.length) (List.replicate 64 (0 : Int)))
  (Option.bind (mresetN n u7) fun r8 =>
  some (r8.1, (r8.2.1, (r8.2.2.1, (r8.2.2.2.1, r8.2.2.2.2))))))
  else none))
def sp_mnew (n : Nat) : Spec := ⟨pre_mnew, post_mnew, mnew n⟩
def env_mnew (n : Nat) : List (FuncId × Spec) := [(28, sp_shaSumK n), (28, sp_shaSum n), (20, sp_mreset n), (20, sp_mresetN n), (20, sp_mreset0 n)]
theorem run_mnew (n : Nat) (x : pre_mnew.T) : fnRun Tryd.prog 74 (envG (env_mnew n) [] (fun _ => none)) n Tryd.f15 ann_mnew pre_mnew post_mnew x = mnew n x := by kernel_rfl
theorem ok_mnew (n : Nat) : FnOK Tryd.prog 74 LG 15 (sp_mnew n) :=
  fn_run mixed Tryd.func15 (sp_mnew n) n ann_mnew (env_mnew n) (envOf_cons (ok_shaSumK n) (envOf_cons (ok_shaSum n) (envOf_cons (ok_mreset n) (envOf_cons (ok_mresetN n) (envOf_cons (ok_mreset0 n) envOf_nil))))) [] (fun _ => none) gl_none (run_mnew n) (by kernel_rfl)
def pre_msum : Shape := ⟨[.c (.ptr 0 0)], [(0, .segs 51 [.blk (.arr 64 (.int .u8)), .one (.ptr 1 0)]), (1, .segs 62 [.blk (.arr 8 (.int .u32)), .blk (.arr 64 (.int .u8)), .one (.dat (.int .i64)), .one (.dat (.int .i64))])]⟩
def post_msum : List Shape := [⟨[.sg [.blk (.arr 32 (.int .u8))]], [(0, .segs 51 [.blk (.arr 64 (.int .u8)), .one (.ptr 1 0)]), (1, .segs 62 [.blk (.arr 8 (.int .u32)), .blk (.arr 64 (.int .u8)), .one (.dat (.int .i64)), .one (.dat (.int .i64))])]⟩]
def ann_msum : Ann := .no
/-- what (turnstile/mac.MAC).Sum comes to. -/
def msum (n : Nat) (x : (List Int) × (List Int) × (List Int) × Int × Int) : Option ((List Int) × (List Int) × (List Int) × (List Int) × Int × Int) :=
  match x with
  | (x1, (x2, (x3, (x4, x5)))) =>
  (Option.bind (hsum n (x2, (x3, (x4, (x5, ()))))) fun r6 =>
  (if 32 = 32 ∧ 32 = r6.length then
  (Option.bind (with_ n (x1, (92 : Int))) fun r7 =>
  (if 32 = r6.length then
  (if (r7.length + ((r6.drop 0).take (32 - 0)).length) * 1 ≤ 140737488355328 ∧ ((r6.drop 0).take (32 - 0)).length ≠ 0 then
  (Option.bind (shaSumK n (r7 ++ ((r6.drop 0).take (32 - 0)))) fun r8 =>
  (if 32 = 32 ∧ 32 = r8.1.length then
  (if 32 = r8.1.length then
  some (r8.1, (x1, (x2, (x3, (x4, x5)))))
  else none)
  else none))
  else none)
  else none))
  else none))
def sp_msum (n : Nat) : Spec := ⟨pre_msum, post_msum, msum n⟩
def env_msum (n : Nat) : List (FuncId × Spec) := [(30, sp_hsum n), (31, sp_with_ n), (28, sp_shaSumK n), (28, sp_shaSum n)]
theorem run_msum (n : Nat) (x : pre_msum.T) : fnRun Tryd.prog 74 (envG (env_msum n) [] (fun _ => none)) n Tryd.f17 ann_msum pre_msum post_msum x = msum n x := by kernel_rfl
theorem ok_msum (n : Nat) : FnOK Tryd.prog 74 LG 17 (sp_msum n) :=
  fn_run mixed Tryd.func17 (sp_msum n) n ann_msum (env_msum n) (envOf_cons (ok_hsum n) (envOf_cons (ok_with_ n) (envOf_cons (ok_shaSumK n) (envOf_cons (ok_shaSum n) envOf_nil)))) [] (fun _ => none) gl_none (run_msum n) (by kernel_rfl)
def pre_msum0 : Shape := ⟨[.c (.nilp)], []⟩
def post_msum0 : List Shape := [⟨[.sg [.blk (.arr 32 (.int .u8))]], []⟩]
def ann_msum0 : Ann := .no
/-- what (turnstile/mac.MAC).Sum comes to. -/
def msum0 (n : Nat) (x : Unit) : Option (List Int) :=
  some ([(0 : Int), (0 : Int), (0 : Int), (0 : Int), (0 : Int), (0 : Int), (0 : Int), (0 : Int), (0 : Int), (0 : Int), (0 : Int), (0 : Int), (0 : Int), (0 : Int), (0 : Int), (0 : Int), (0 : Int), (0 : Int), (0 : Int), (0 : Int), (0 : Int), (0 : Int), (0 : Int), (0 : Int), (0 : Int), (0 : Int), (0 : Int), (0 : Int), (0 : Int), (0 : Int), (0 : Int), (0 : Int)] : List Int)
def sp_msum0 (n : Nat) : Spec := ⟨pre_msum0, post_msum0, msum0 n⟩
def env_msum0 (n : Nat) : List (FuncId × Spec) := [(30, sp_hsum n), (31, sp_with_ n), (28, sp_shaSumK n), (28, sp_shaSum n)]
theorem run_msum0 (n : Nat) (x : pre_msum0.T) : fnRun Tryd.prog 74 (envG (env_msum0 n) [] (fun _ => none)) n Tryd.f17 ann_msum0 pre_msum0 post_msum0 x = msum0 n x := by kernel_rfl
theorem ok_msum0 (n : Nat) : FnOK Tryd.prog 74 LG 17 (sp_msum0 n) :=
  fn_run mixed Tryd.func17 (sp_msum0 n) n ann_msum0 (env_msum0 n) (envOf_cons (ok_hsum n) (envOf_cons (ok_with_ n) (envOf_cons (ok_shaSumK n) (envOf_cons (ok_shaSum n) envOf_nil)))) [] (fun _ => none) gl_none (run_msum0 n) (by kernel_rfl)
def pre_sum : Shape := ⟨[.c (.dat (.list (.int .u8))), .c (.dat (.list (.int .u8)))], []⟩
def post_sum : List Shape := [⟨[.sg [.blk (.arr 32 (.int .u8))]], []⟩]
def ann_sum : Ann := .no
/-- what turnstile/mac.Sum comes to. -/
def sum (n : Nat) (x : (List Int) × List Int) : Option (List Int) :=
  match x with
  | (x1, x2) =>
  (Option.bind (mnew n x1) fun r3 =>
  (Option.bind (mwrite n (x2, (r3.1, (r3.2.1, (r3.2.2.1, (r3.2.2.2.1, r3.2.2.2.2)))))) fun r4 =>
  (Option.bind (msum n (r4.1, (r4.2.1, (r4.2.2.1, (r4.2.2.2.1, r4.2.2.2.2))))) fun r5 =>
  (if 32 = 32 ∧ 32 = r5.1.length then
  (if 32 = r5.1.length then
  some r5.1
  else none)
  else none))))
def sp_sum (n : Nat) : Spec := ⟨pre_sum, post_sum, sum n⟩
def env_sum (n : Nat) : List (FuncId × Spec) := [(15, sp_mnewK n), (15, sp_mnew n), (16, sp_mwrite n), (16, sp_mwrite0 n), (17, sp_msum n), (17, sp_msum0 n)]
theorem run_sum (n : Nat) (x : pre_sum.T) : fnRun Tryd.prog 74 (envG (env_sum n) [] (fun _ => none)) n Tryd.f19 ann_sum pre_sum post_sum x = sum n x := by kernel_rfl
theorem ok_sum (n : Nat) : FnOK Tryd.prog 74 LG 19 (sp_sum n) :=
  fn_run mixed Tryd.func19 (sp_sum n) n ann_sum (env_sum n) (envOf_cons (ok_mnewK n) (envOf_cons (ok_mnew n) (envOf_cons (ok_mwrite n) (envOf_cons (ok_mwrite0 n) (envOf_cons (ok_msum n) (envOf_cons (ok_msum0 n) envOf_nil)))))) [] (fun _ => none) gl_none (run_sum n) (by kernel_rfl)
def pre_verify : Shape := ⟨[.c (.dat (.list (.int .u8))), .c (.dat (.list (.int .u8))), .c (.dat (.list (.int .u8)))], []⟩
def post_verify : List Shape := [⟨[.c (.dat .bool)], []⟩]
def ann_verify : Ann := .no
/-- what turnstile/mac.Verify comes to. -/
def verify (n : Nat) (x : (List Int) × (List Int) × List Int) : Option (Bool) :=
  match x with
  | (x1, (x2, x3)) =>
  (Option.bind (sum n (x1, x2)) fun r4 =>
  (if 32 = 32 ∧ 32 = r4.length then
  (if 32 = r4.length then
  (Option.bind (same n (((r4.drop 0).take (32 - 0)), x3)) fun r5 =>
  some r5)
  else none)
  else none))
def sp_verify (n : Nat) : Spec := ⟨pre_verify, post_verify, verify n⟩
def env_verify (n : Nat) : List (FuncId × Spec) := [(19, sp_sum n), (24, sp_same n)]
theorem run_verify (n : Nat) (x : pre_verify.T) : fnRun Tryd.prog 74 (envG (env_verify n) [] (fun _ => none)) n Tryd.f22 ann_verify pre_verify post_verify x = verify n x := by kernel_rfl
theorem ok_verify (n : Nat) : FnOK Tryd.prog 74 LG 22 (sp_verify n) :=
  fn_run mixed Tryd.func22 (sp_verify n) n ann_verify (env_verify n) (envOf_cons (ok_sum n) (envOf_cons (ok_same n) envOf_nil)) [] (fun _ => none) gl_none (run_verify n) (by kernel_rfl)
def pre_works : Shape := ⟨[], []⟩
def post_works : List Shape := [⟨[.c (.dat .bool)], []⟩]
def ann_works : Ann := .no
/-- what turnstile/turnstilelaw04.works comes to. -/
def works (n : Nat) (x : Unit) : Option (Bool) :=
  (Option.bind (sum n (([(107 : Int), (101 : Int), (121 : Int)] : List Int), ([(84 : Int), (104 : Int), (101 : Int), (32 : Int), (113 : Int), (117 : Int), (105 : Int), (99 : Int), (107 : Int), (32 : Int), (98 : Int), (114 : Int), (111 : Int), (119 : Int), (110 : Int), (32 : Int), (102 : Int), (111 : Int), (120 : Int), (32 : Int), (106 : Int), (117 : Int), (109 : Int), (112 : Int), (115 : Int), (32 : Int), (111 : Int), (118 : Int), (101 : Int), (114 : Int), (32 : Int), (116 : Int), (104 : Int), (101 : Int), (32 : Int), (108 : Int), (97 : Int), (122 : Int), (121 : Int), (32 : Int), (100 : Int), (111 : Int), (103 : Int)] : List Int))) fun r1 =>
  (if 32 = 32 ∧ 32 = r1.length then
  (if 32 = r1.length then
  (if 0 ≤ (0 : Int) ∧ (0 : Int) < (r1.length : Int) then
  (if ((r1.getD 0 (0 : Int)) == (247 : Int)) = true then
  (if 32 = r1.length then
  (if 0 ≤ (1 : Int) ∧ (1 : Int) < (r1.length : Int) then
  (if ((r1.getD 1 (0 : Int)) == (188 : Int)) = true then
  (if 32 = r1.length then
  (if 0 ≤ (31 : Int) ∧ (31 : Int) < (r1.length : Int) then
  (if ((r1.getD 31 (0 : Int)) == (216 : Int)) = true then
  (Option.bind (hash n ([] : List Int)) fun r2 =>
  (if (r2 == (14695981039346656037 : Int)) = true then
  (Option.bind (hash n ([(97 : Int)] : List Int)) fun r3 =>
  (if (r3 == (12638187200555641996 : Int)) = true then
  (Option.bind (bytes n (258 : Int)) fun r4 =>
  (if List.length r4 = 8 ∧ List.length ([(0 : Int), (0 : Int), (0 : Int), (0 : Int), (0 : Int), (0 : Int), (1 : Int), (2 : Int)] : List Int) = 8 then
  some (r4 == ([(0 : Int), (0 : Int), (0 : Int), (0 : Int), (0 : Int), (0 : Int), (1 : Int), (2 : Int)] : List Int))
  else none))
  else
  some false))
  else
  some false))
  else
  some false)
  else none)
  else none)
  else
  some false)
  else none)
  else none)
  else
  some false)
  else none)
  else none)
  else none))
def sp_works (n : Nat) : Spec := ⟨pre_works, post_works, works n⟩
def env_works (n : Nat) : List (FuncId × Spec) := [(19, sp_sum n), (7, sp_hash n), (11, sp_bytes n)]
theorem run_works (n : Nat) (x : pre_works.T) : fnRun Tryd.prog 74 (envG (env_works n) [] (fun _ => none)) n Tryd.f13 ann_works pre_works post_works x = works n x := by kernel_rfl
theorem ok_works (n : Nat) : FnOK Tryd.prog 74 LG 13 (sp_works n) :=
  fn_run mixed Tryd.func13 (sp_works n) n ann_works (env_works n) (envOf_cons (ok_sum n) (envOf_cons (ok_hash n) (envOf_cons (ok_bytes n) envOf_nil))) [] (fun _ => none) gl_none (run_works n) (by kernel_rfl)
def pre_macHashes : Shape := ⟨[.c (.dat .str), .c (.dat (.list .str)), .c (.dat (.int .u64))], []⟩
def post_macHashes : List Shape := [⟨[.c (.dat .bool)], []⟩]
def ann_macHashes : Ann := .no
/-- what turnstile/turnstilelaw04.MacHashes comes to. -/
def macHashes (n : Nat) (x : (List Int) × (List (List Int)) × Int) : Option (Bool) :=
  match x with
  | (x1, (x2, x3)) =>
  (if x2.length * 16 ≤ 140737488355328 then
  (Option.bind (hash n x1) fun r4 =>
  (Option.bind (rHash n x1) fun r5 =>
  (if (r4 == r5) = true then
  (Option.bind (hashAll n x2) fun r6 =>
  (Option.bind (rHashAll n x2) fun r7 =>
  (if (r6 == r7) = true then
  (Option.bind (bytes n x3) fun r8 =>
  (Option.bind (rBytes n x3) fun r9 =>
  (if List.length r8 = 8 ∧ List.length r9 = 8 then
  (if (r8 == r9) = true then
  (Option.bind (works n ()) fun r10 =>
  some r10)
  else
  some false)
  else none)))
  else
  some false)))
  else
  some false)))
  else none)
def sp_macHashes (n : Nat) : Spec := ⟨pre_macHashes, post_macHashes, macHashes n⟩
def env_macHashes (n : Nat) : List (FuncId × Spec) := [(7, sp_hash n), (8, sp_rHash n), (9, sp_hashAll n), (10, sp_rHashAll n), (11, sp_bytes n), (12, sp_rBytes n), (13, sp_works n)]
theorem run_macHashes (n : Nat) (x : pre_macHashes.T) : fnRun Tryd.prog 74 (envG (env_macHashes n) [] (fun _ => none)) n Tryd.f3 ann_macHashes pre_macHashes post_macHashes x = macHashes n x := by kernel_rfl
theorem ok_macHashes (n : Nat) : FnOK Tryd.prog 74 LG 3 (sp_macHashes n) :=
  fn_run mixed Tryd.func3 (sp_macHashes n) n ann_macHashes (env_macHashes n) (envOf_cons (ok_hash n) (envOf_cons (ok_rHash n) (envOf_cons (ok_hashAll n) (envOf_cons (ok_rHashAll n) (envOf_cons (ok_bytes n) (envOf_cons (ok_rBytes n) (envOf_cons (ok_works n) envOf_nil))))))) [] (fun _ => none) gl_none (run_macHashes n) (by kernel_rfl)
def pre_macPieces : Shape := ⟨[.c (.dat (.list (.int .u8))), .c (.dat (.list (.int .u8))), .c (.dat (.list (.int .i64)))], []⟩
def post_macPieces : List Shape := [⟨[.c (.dat .bool)], []⟩]
def ann_macPieces : Ann := (.two .no (.two .no (.two .no (.two .no (.two (.two .no (.one (.loop ⟨[0, 1, 2, 7, 8, 9], ⟨[.c (.dat (.list (.int .u8))), .c (.dat (.list (.int .u8))), .c (.dat (.list (.int .i64))), .c (.own 500), .c (.ptr 501 0), .c (.dat (.int .i64))], [(500, .row 5 (.int .u8)), (501, .segs 51 [.blk (.arr 64 (.int .u8)), .one (.ptr 502 0)]), (502, .segs 62 [.blk (.arr 8 (.int .u32)), .blk (.arr 64 (.int .u8)), .one (.dat (.int .i64)), .one (.dat (.int .i64))])]⟩⟩ .no))) (.two .no (.two (.two .no (.one (.loop ⟨[0, 1, 2, 8, 10, 11], ⟨[.c (.dat (.list (.int .u8))), .c (.dat (.list (.int .u8))), .c (.dat (.list (.int .i64))), .c (.ptr 500 0), .c (.dat (.int .i64)), .c (.dat (.int .i64))], [(500, .segs 51 [.blk (.arr 64 (.int .u8)), .one (.ptr 501 0)]), (501, .segs 62 [.blk (.arr 8 (.int .u32)), .blk (.arr 64 (.int .u8)), .one (.dat (.int .i64)), .one (.dat (.int .i64))])]⟩⟩ (.two (.two (.join ⟨[0, 1, 2, 8, 10, 11, 44], ⟨[.c (.dat (.list (.int .u8))), .c (.dat (.list (.int .u8))), .c (.dat (.list (.int .i64))), .c (.ptr 500 0), .c (.dat (.int .i64)), .c (.dat (.int .i64)), .c (.dat .bool)], [(500, .segs 51 [.blk (.arr 64 (.int .u8)), .one (.ptr 501 0)]), (501, .segs 62 [.blk (.arr 8 (.int .u32)), .blk (.arr 64 (.int .u8)), .one (.dat (.int .i64)), .one (.dat (.int .i64))])]⟩⟩ .no) .no) .no)))) .no)))))))
/-- what turnstile/turnstilelaw04.MacPieces comes to. -/
def macPieces (n : Nat) (x : (List Int) × (List Int) × List Int) : Option (Bool) :=
  match x with
  | (x1, (x2, x3)) =>
  (Option.bind (twin n x1) fun r4 =>
  (Option.bind (mnewK n r4) fun r5 =>
  (loopF (X := (List Int) × (List Int) × (List Int) × Int × (List Int) × (List Int) × (List Int) × (List Int) × Int × Int) (A := Bool) (fun rec6 y7 => match y7 with
  | (a8, (a9, (a10, (a11, (a12, (a13, (a14, (a15, (a16, a17))))))))) =>
  (if (decide (a11 < (a12.length : Int))) = true then
  (if 0 ≤ a11 ∧ a11 < (a12.length : Int) then
  (let u18 : Int := (IntKind.wrap .i64 (a11 + (1 : Int)))
  rec6 (a8, (a9, (a10, (u18, ((a12.set a11.toNat (33 : Int)), (a13, (a14, (a15, (a16, a17))))))))))
  else none)
  else
  (loopF (X := (List Int) × (List Int) × (List Int) × Int × Int × (List Int) × (List Int) × (List Int) × Int × Int) (A := Bool) (fun rec19 y20 => match y20 with
  | (a21, (a22, (a23, (a24, (a25, (a26, (a27, (a28, (a29, a30))))))))) =>
  (Option.bind (α := Out ((List Int) × (List Int) × (List Int) × Int × Int × Bool × (List Int) × (List Int) × (List Int) × Int × Int) (Bool)) ((if (decide (a25 < (a23.length : Int))) = true then
  (if (decide (a25 < (100 : Int))) = true then
  (some (Out.go (a21, (a22, (a23, (a24, (a25, ((decide (a24 < (a22.length : Int))), (a26, (a27, (a28, (a29, a30))))))))))))
  else
  (some (Out.go (a21, (a22, (a23, (a24, (a25, (false, (a26, (a27, (a28, (a29, a30)))))))))))))
  else
  (some (Out.go (a21, (a22, (a23, (a24, (a25, (false, (a26, (a27, (a28, (a29, a30)))))))))))))) fun o => match o with
  | .go (z32, (z33, (z34, (z35, (z36, (z37, (z38, (z39, (z40, (z41, z42)))))))))) =>
  (if z37 = true then
  (Option.bind (idx z34 z36) fun v43 =>
  (let u44 : Int := (IntKind.wrap .i64 ((Int.tmod v43 (90 : Int)) + (90 : Int)))
  (let u45 : Int := (IntKind.wrap .i64 ((z33.length : Int) - z35))
  (let u46 : Int := (if u45 < (Int.tmod u44 (90 : Int)) then u45 else (Int.tmod u44 (90 : Int)))
  (if 0 ≤ z35 ∧ z35 ≤ (IntKind.wrap .i64 (z35 + u46)) ∧ (IntKind.wrap .i64 (z35 + u46)) ≤ (z33.length : Int) then
  (let u47 : List Int := ((z33.drop z35.toNat).take ((IntKind.wrap .i64 (z35 + u46)).toNat - z35.toNat))
  (Option.bind (twin n u47) fun r48 =>
  (Option.bind (mwrite n (r48, (z38, (z39, (z40, (z41, z42)))))) fun r49 =>
  (Option.bind (msum n (r49.1, (r49.2.1, (r49.2.2.1, (r49.2.2.2.1, r49.2.2.2.2))))) fun r50 =>
  (let u51 : Int := (IntKind.wrap .i64 (z36 + (1 : Int)))
  rec19 (z32, (z33, (z34, ((IntKind.wrap .i64 (z35 + u46)), (u51, (r50.2.1, (r50.2.2.1, (r50.2.2.2.1, (r50.2.2.2.2.1, r50.2.2.2.2.2))))))))))))))
  else none)))))
  else
  (Option.bind (mclone n (z38, (z39, (z40, (z41, z42))))) fun r52 =>
  (if 0 ≤ z35 ∧ z35 ≤ (z33.length : Int) ∧ (z33.length : Int) ≤ (z33.length : Int) then
  (let u53 : List Int := ((z33.drop z35.toNat).take (((z33.length : Int)).toNat - z35.toNat))
  (Option.bind (twin n u53) fun r54 =>
  (Option.bind (mwrite n (r54, (r52.1, (r52.2.1, (r52.2.2.1, (r52.2.2.2.1, r52.2.2.2.2.1)))))) fun r55 =>
  (Option.bind (mwrite n (([(97 : Int), (110 : Int), (111 : Int), (116 : Int), (104 : Int), (101 : Int), (114 : Int), (32 : Int), (119 : Int), (97 : Int), (121 : Int)] : List Int), (r52.2.2.2.2.2.1, (r52.2.2.2.2.2.2.1, (r52.2.2.2.2.2.2.2.1, (r52.2.2.2.2.2.2.2.2.1, r52.2.2.2.2.2.2.2.2.2)))))) fun r56 =>
  (Option.bind (sum n (z32, z33)) fun r57 =>
  (if 32 = 32 ∧ 32 = r57.length then
  (Option.bind (msum n (r55.1, (r55.2.1, (r55.2.2.1, (r55.2.2.2.1, r55.2.2.2.2))))) fun r58 =>
  (if 32 = r57.length then
  (if List.length r58.1 = 32 ∧ List.length r57 = 32 then
  (if (!(r58.1 == r57)) = true then
  some false
  else
  (Option.bind (msum n (r58.2.1, (r58.2.2.1, (r58.2.2.2.1, (r58.2.2.2.2.1, r58.2.2.2.2.2))))) fun r59 =>
  (if 32 = r57.length then
  (if List.length r59.1 = 32 ∧ List.length r57 = 32 then
  (if (!(r59.1 == r57)) = true then
  some false
  else
  (Option.bind (mreset n (r59.2.1, (r59.2.2.1, (r59.2.2.2.1, (r59.2.2.2.2.1, r59.2.2.2.2.2))))) fun r60 =>
  (Option.bind (twin n z33) fun r61 =>
  (Option.bind (mwrite n (r61, (r60.1, (r60.2.1, (r60.2.2.1, (r60.2.2.2.1, r60.2.2.2.2)))))) fun r62 =>
  (Option.bind (mwrite0 n z33) fun r63 =>
  (Option.bind (mreset0 n ()) fun r64 =>
  (Option.bind (msum n (r62.1, (r62.2.1, (r62.2.2.1, (r62.2.2.2.1, r62.2.2.2.2))))) fun r65 =>
  (if 32 = r57.length then
  (if List.length r65.1 = 32 ∧ List.length r57 = 32 then
  (if (r65.1 == r57) = true then
  (Option.bind (msum0 n ()) fun r66 =>
  (if List.length r66 = 32 ∧ List.length ([(0 : Int), (0 : Int), (0 : Int), (0 : Int), (0 : Int), (0 : Int), (0 : Int), (0 : Int), (0 : Int), (0 : Int), (0 : Int), (0 : Int), (0 : Int), (0 : Int), (0 : Int), (0 : Int), (0 : Int), (0 : Int), (0 : Int), (0 : Int), (0 : Int), (0 : Int), (0 : Int), (0 : Int), (0 : Int), (0 : Int), (0 : Int), (0 : Int), (0 : Int), (0 : Int), (0 : Int), (0 : Int)] : List Int) = 32 then
  (if (r66 == ([(0 : Int), (0 : Int), (0 : Int), (0 : Int), (0 : Int), (0 : Int), (0 : Int), (0 : Int), (0 : Int), (0 : Int), (0 : Int), (0 : Int), (0 : Int), (0 : Int), (0 : Int), (0 : Int), (0 : Int), (0 : Int), (0 : Int), (0 : Int), (0 : Int), (0 : Int), (0 : Int), (0 : Int), (0 : Int), (0 : Int), (0 : Int), (0 : Int), (0 : Int), (0 : Int), (0 : Int), (0 : Int)] : List Int)) = true then
  (Option.bind (mclone0 n ()) fun r67 =>
  (Option.bind (works n ()) fun r68 =>
  some r68))
  else
  some false)
  else none))
  else
  some false)
  else none)
  else none))))))))
  else none)
  else none)))
  else none)
  else none))
  else none))))))
  else none)))
  | .ret r69 => some r69)) n (a8, (a9, (a10, ((0 : Int), ((0 : Int), (a13, (a14, (a15, (a16, a17)))))))))))) n (x1, (x2, (x3, ((0 : Int), (r5.2.2.2.2.2, (r5.1, (r5.2.1, (r5.2.2.1, (r5.2.2.2.1, r5.2.2.2.2.1))))))))))))
def sp_macPieces (n : Nat) : Spec := ⟨pre_macPieces, post_macPieces, macPieces n⟩
def env_macPieces (n : Nat) : List (FuncId × Spec) := [(14, sp_twin n), (15, sp_mnewK n), (15, sp_mnew n), (16, sp_mwrite n), (16, sp_mwrite0 n), (17, sp_msum n), (17, sp_msum0 n), (18, sp_mclone n), (18, sp_mclone0 n), (19, sp_sum n), (20, sp_mreset n), (20, sp_mresetN n), (20, sp_mreset0 n), (13, sp_works n)]
theorem run_macPieces (n : Nat) (x : pre_macPieces.T) : fnRun Tryd.prog 74 (envG (env_macPieces n) [] (fun _ => none)) n Tryd.f4 ann_macPieces pre_macPieces post_macPieces x = macPieces n x := by kernel_rfl
theorem ok_macPieces (n : Nat) : FnOK Tryd.prog 74 LG 4 (sp_macPieces n) :=
  fn_run mixed Tryd.func4 (sp_macPieces n) n ann_macPieces (env_macPieces n) (envOf_cons (ok_twin n) (envOf_cons (ok_mnewK n) (envOf_cons (ok_mnew n) (envOf_cons (ok_mwrite n) (envOf_cons (ok_mwrite0 n) (envOf_cons (ok_msum n) (envOf_cons (ok_msum0 n) (envOf_cons (ok_mclone n) (envOf_cons (ok_mclone0 n) (envOf_cons (ok_sum n) (envOf_cons (ok_mreset n) (envOf_cons (ok_mresetN n) (envOf_cons (ok_mreset0 n) (envOf_cons (ok_works n) envOf_nil)))))))))))))) [] (fun _ => none) gl_none (run_macPieces n) (by kernel_rfl)
def pre_macSums : Shape := ⟨[.c (.dat (.list (.int .u8))), .c (.dat (.list (.int .u8))), .c (.dat (.list (.int .u8)))], []⟩
def post_macSums : List Shape := [⟨[.c (.dat .bool)], []⟩]
def ann_macSums : Ann := .no
/-- what turnstile/turnstilelaw04.MacSums comes to. -/
def macSums (n : Nat) (x : (List Int) × (List Int) × List Int) : Option (Bool) :=
  match x with
  | (x1, (x2, x3)) =>
  (Option.bind (twin n x1) fun r4 =>
  (Option.bind (twin n x2) fun r5 =>
  (Option.bind (twin n x3) fun r6 =>
  (Option.bind (sum n (r4, r5)) fun r7 =>
  (if 32 = 32 ∧ 32 = r7.length then
  (if 32 = r7.length then
  (Option.bind (rSum n (x1, x2)) fun r8 =>
  (if List.length r7 = 32 ∧ List.length r8 = 32 then
  (if (!(r7 == r8)) = true then
  some false
  else
  (if (!(r4 == x1)) = true then
  some false
  else
  (if (!(r5 == x2)) = true then
  some false
  else
  (Option.bind (verify n (r4, (r5, r6))) fun r9 =>
  (Option.bind (rVerify n (x1, (x2, x3))) fun r10 =>
  (if (r9 == r10) = true then
  (if 32 = r7.length then
  (Option.bind (verify n (r4, (r5, ((r7.drop 0).take (32 - 0))))) fun r11 =>
  (if r11 = true then
  (Option.bind (same n (r5, r6)) fun r12 =>
  (Option.bind (rSame n (x2, x3)) fun r13 =>
  (if (r12 == r13) = true then
  (Option.bind (twin n x2) fun r14 =>
  (Option.bind (same n (r5, r14)) fun r15 =>
  (if r15 = true then
  (Option.bind (works n ()) fun r16 =>
  some r16)
  else
  some false)))
  else
  some false)))
  else
  some false))
  else none)
  else
  some false))))))
  else none))
  else none)
  else none)))))
def sp_macSums (n : Nat) : Spec := ⟨pre_macSums, post_macSums, macSums n⟩
def env_macSums (n : Nat) : List (FuncId × Spec) := [(14, sp_twin n), (19, sp_sum n), (21, sp_rSum n), (22, sp_verify n), (23, sp_rVerify n), (24, sp_same n), (25, sp_rSame n), (13, sp_works n)]
theorem run_macSums (n : Nat) (x : pre_macSums.T) : fnRun Tryd.prog 74 (envG (env_macSums n) [] (fun _ => none)) n Tryd.f5 ann_macSums pre_macSums post_macSums x = macSums n x := by kernel_rfl
theorem ok_macSums (n : Nat) : FnOK Tryd.prog 74 LG 5 (sp_macSums n) :=
  fn_run mixed Tryd.func5 (sp_macSums n) n ann_macSums (env_macSums n) (envOf_cons (ok_twin n) (envOf_cons (ok_sum n) (envOf_cons (ok_rSum n) (envOf_cons (ok_verify n) (envOf_cons (ok_rVerify n) (envOf_cons (ok_same n) (envOf_cons (ok_rSame n) (envOf_cons (ok_works n) envOf_nil)))))))) [] (fun _ => none) gl_none (run_macSums n) (by kernel_rfl)
def pre_macKeys : Shape := ⟨[.c (.dat (.list (.int .u8))), .c (.dat (.list (.int .u8))), .c (.dat (.int .i64))], []⟩
def post_macKeys : List Shape := [⟨[.c (.dat .bool)], []⟩]
def ann_macKeys : Ann := (.two .no (.two .no (.two (.two .no (.two .no (.one (.loop ⟨[0, 1, 2, 7], ⟨[.c (.dat (.list (.int .u8))), .c (.dat (.list (.int .u8))), .c (.dat (.int .i64)), .c (.own 500)], [(500, .row 5 (.int .u8))]⟩⟩ .no)))) .no)))
/-- what turnstile/turnstilelaw04.MacKeys comes to. -/
def macKeys (n : Nat) (x : (List Int) × (List Int) × Int) : Option (Bool) :=
  match x with
  | (x1, (x2, x3)) =>
  (Option.bind (twin n x1) fun r4 =>
  (if (decide ((x1.length : Int) > (64 : Int))) = true then
  (Option.bind (turnstileref03RSum n x1) fun r5 =>
  (if 32 = 32 ∧ 32 = r5.length then
  (if 32 = r5.length then
  (Option.bind (sum n (x1, x2)) fun r6 =>
  (if 32 = 32 ∧ 32 = r6.length then
  (if 32 = r6.length then
  (Option.bind (sum n (((r5.drop 0).take (32 - 0)), x2)) fun r7 =>
  (if List.length r6 = 32 ∧ List.length r7 = 32 then
  (if (!(r6 == r7)) = true then
  some false
  else
  (let u8 : Int := (IntKind.wrap .i64 ((Int.tmod x3 (256 : Int)) + (256 : Int)))
  (if 32 = r6.length then
  (if 32 = 32 ∧ 32 = r6.length then
  (let u9 : Int := (IntKind.wrap .i64 (Int.tdiv (Int.tmod u8 (256 : Int)) (8 : Int)))
  (let u10 : Int := (IntKind.wrap .i64 (Int.tdiv (Int.tmod u8 (256 : Int)) (8 : Int)))
  (if 32 = r6.length then
  (if 0 ≤ u10 ∧ u10 < (r6.length : Int) then
  (let u11 : Int := (Int.tmod (Int.tmod u8 (256 : Int)) (8 : Int))
  (if (IntKind.wrap .u64 u11) < 0 then none else (let u12 : Int := (IntKind.wrap .u8 ((1 : Int) * 2 ^ (min (IntKind.wrap .u64 u11).toNat 8)))
  (let u13 : Int := (bits .xor .u8 (r6.getD u10.toNat (0 : Int)) u12)
  (if 32 = r6.length then
  (if 0 ≤ u9 ∧ u9 < (r6.length : Int) then
  (if 32 = r6.length then
  (Option.bind (verify n (x1, (x2, ((r6.drop 0).take (32 - 0))))) fun r14 =>
  (if r14 = true then
  (if 32 = (r6.set u9.toNat u13).length then
  (Option.bind (verify n (x1, (x2, (((r6.set u9.toNat u13).drop 0).take (32 - 0))))) fun r15 =>
  (if (!r15) = true then
  (if 32 = r6.length then
  (Option.bind (verify n (x1, (x2, ((r6.drop 0).take (31 - 0))))) fun r16 =>
  (if (!r16) = true then
  (if 32 = r6.length then
  (if 32 = (r6.set u9.toNat u13).length then
  (Option.bind (same n (((r6.drop 0).take (32 - 0)), (((r6.set u9.toNat u13).drop 0).take (32 - 0)))) fun r17 =>
  (if (!r17) = true then
  (Option.bind (works n ()) fun r18 =>
  some r18)
  else
  some false))
  else none)
  else none)
  else
  some false))
  else none)
  else
  some false))
  else none)
  else
  some false))
  else none)
  else none)
  else none)))))
  else none)
  else none)))
  else none)
  else none)))
  else none))
  else none)
  else none))
  else none)
  else none))
  else
  (loopF (X := (List Int) × (List Int) × Int × List Int) (A := Bool) (fun rec19 y20 => match y20 with
  | (a21, (a22, (a23, a24))) =>
  (if (decide ((a24.length : Int) < (64 : Int))) = true then
  (if (a24.length + 1) * 1 ≤ 140737488355328 then
  rec19 (a21, (a22, (a23, (a24 ++ ([(0 : Int)] : List Int)))))
  else none)
  else
  (Option.bind (sum n (a21, a22)) fun r25 =>
  (if 32 = 32 ∧ 32 = r25.length then
  (if 32 = r25.length then
  (Option.bind (sum n (a24, a22)) fun r26 =>
  (if List.length r25 = 32 ∧ List.length r26 = 32 then
  (if (!(r25 == r26)) = true then
  some false
  else
  (let u27 : Int := (IntKind.wrap .i64 ((Int.tmod a23 (256 : Int)) + (256 : Int)))
  (if 32 = r25.length then
  (if 32 = 32 ∧ 32 = r25.length then
  (let u28 : Int := (IntKind.wrap .i64 (Int.tdiv (Int.tmod u27 (256 : Int)) (8 : Int)))
  (let u29 : Int := (IntKind.wrap .i64 (Int.tdiv (Int.tmod u27 (256 : Int)) (8 : Int)))
  (if 32 = r25.length then
  (if 0 ≤ u29 ∧ u29 < (r25.length : Int) then
  (let u30 : Int := (Int.tmod (Int.tmod u27 (256 : Int)) (8 : Int))
  (if (IntKind.wrap .u64 u30) < 0 then none else (let u31 : Int := (IntKind.wrap .u8 ((1 : Int) * 2 ^ (min (IntKind.wrap .u64 u30).toNat 8)))
  (let u32 : Int := (bits .xor .u8 (r25.getD u29.toNat (0 : Int)) u31)
  (if 32 = r25.length then
  (if 0 ≤ u28 ∧ u28 < (r25.length : Int) then
  (if 32 = r25.length then
  (Option.bind (verify n (a21, (a22, ((r25.drop 0).take (32 - 0))))) fun r33 =>
  (if r33 = true then
  (if 32 = (r25.set u28.toNat u32).length then
  (Option.bind (verify n (a21, (a22, (((r25.set u28.toNat u32).drop 0).take (32 - 0))))) fun r34 =>
  (if (!r34) = true then
  (if 32 = r25.length then
  (Option.bind (verify n (a21, (a22, ((r25.drop 0).take (31 - 0))))) fun r35 =>
  (if (!r35) = true then
  (if 32 = r25.length then
  (if 32 = (r25.set u28.toNat u32).length then
  (Option.bind (same n (((r25.drop 0).take (32 - 0)), (((r25.set u28.toNat u32).drop 0).take (32 - 0)))) fun r36 =>
  (if (!r36) = true then
  (Option.bind (works n ()) fun r37 =>
  some r37)
  else
  some false))
  else none)
  else none)
  else
  some false))
  else none)
  else
  some false))
  else none)
  else
  some false))
  else none)
  else none)
  else none)))))
  else none)
  else none)))
  else none)
  else none)))
  else none))
  else none)
  else none)))) n (x1, (x2, (x3, r4))))))
def sp_macKeys (n : Nat) : Spec := ⟨pre_macKeys, post_macKeys, macKeys n⟩
def env_macKeys (n : Nat) : List (FuncId × Spec) := [(14, sp_twin n), (26, sp_turnstileref03RSum n), (19, sp_sum n), (22, sp_verify n), (24, sp_same n), (13, sp_works n)]
theorem run_macKeys (n : Nat) (x : pre_macKeys.T) : fnRun Tryd.prog 74 (envG (env_macKeys n) [] (fun _ => none)) n Tryd.f6 ann_macKeys pre_macKeys post_macKeys x = macKeys n x := by kernel_rfl
theorem ok_macKeys (n : Nat) : FnOK Tryd.prog 74 LG 6 (sp_macKeys n) :=
  fn_run mixed Tryd.func6 (sp_macKeys n) n ann_macKeys (env_macKeys n) (envOf_cons (ok_twin n) (envOf_cons (ok_turnstileref03RSum n) (envOf_cons (ok_sum n) (envOf_cons (ok_verify n) (envOf_cons (ok_same n) (envOf_cons (ok_works n) envOf_nil)))))) [] (fun _ => none) gl_none (run_macKeys n) (by kernel_rfl)
end Go.Sx.YtfgkjcpcljfpdaaDoor
