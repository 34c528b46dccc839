/- Part of a proof by a small interpreter on plain values; no condition. -/
import Derived.Test.YtmbakmdgmccgiabDoorSx4
import Derived.Laws.Closers25b
/-! Sx5: operations on values alone. -/
namespace Go.Sx
open Go
set_option autoImplicit false
set_option linter.unusedSimpArgs false
set_option linter.unusedVariables false
section
variable {E : TypeId} {R : Part} {g : Gh} {P : Program}

theorem bytesL_inj {a b : ByteArray} (h : bytesL a = bytesL b) : a = b := by
  obtain ⟨⟨x⟩⟩ := a
  obtain ⟨⟨y⟩⟩ := b
  have h : x.map (fun b => (b.toNat : Int)) = y.map (fun b => (b.toNat : Int)) := h
  have : x = y := by
    rename_i h0
    clear h0
    induction x generalizing y with
    | nil => cases y with
      | nil => rfl
      | cons => simp at h
    | cons a r ih => cases y with
      | nil => simp at h
      | cons b s =>
        simp only [List.map_cons, List.cons.injEq] at h
        have e : a = b := UInt8.toNat_inj.1 (by omega)
        rw [e, ih s h.2]
  rw [this]
theorem bytesL_beq (a b : ByteArray) : (a.toList == b.toList) = (bytesL a == bytesL b) := by
  rw [ByteArray.toList_eq, ByteArray.toList_eq, Bool.eq_iff_iff, beq_iff_eq, beq_iff_eq]
  constructor
  · intro h; unfold bytesL; rw [h]
  · intro h; rw [bytesL_inj h]
theorem bytesL_lt (a b : ByteArray) : Op.bytesLess a.toList b.toList = ltL (bytesL a) (bytesL b) := by
  rw [ByteArray.toList_eq, ByteArray.toList_eq]
  unfold bytesL
  generalize a.data.toList = x
  generalize b.data.toList = y
  induction x generalizing y with
  | nil => cases y <;> simp [Op.bytesLess, ltL]
  | cons c r ih =>
    cases y with
    | nil => simp [Op.bytesLess, ltL]
    | cons d s =>
      simp only [Op.bytesLess, List.map_cons, ltL, ih s]
      have e1 : decide (c < d) = decide ((c.toNat : Int) < (d.toNat : Int)) := by
        rw [decide_eq_decide, UInt8.lt_iff_toNat_lt]; omega
      have e2 : (c == d) = ((c.toNat : Int) == (d.toNat : Int)) := by
        rw [Bool.eq_iff_iff, beq_iff_eq, beq_iff_eq]
        constructor
        · intro h; rw [h]
        · intro h; exact UInt8.toNat_inj.1 (by omega)
      rw [e1, e2]
theorem bytesL_len (a : ByteArray) : (bytesL a).length = a.size := by simp [bytesL]
theorem bytesL_app (a b : ByteArray) : bytesL (a ++ b) = bytesL a ++ bytesL b := by
  simp [bytesL]
/-- a number of a kind. -/
theorem rel_int {k : IntKind} {n : Int} (h1 : k.min ≤ n) (h2 : n ≤ k.max) : SVRel E R g (.r (.c (.dat (.int k) n))) (.int k n) := ⟨rfl, h1, h2⟩
theorem rel_bool (b : Bool) : SVRel E R g (.r (.c (.dat .bool b))) (.bool b) := rfl
theorem rel_wrap (k : IntKind) (n : Int) : SVRel E R g (.r (.c (.dat (.int k) (k.wrap n)))) (.int k (k.wrap n)) := rel_int (wrap_within k n).1 (wrap_within k n).2
/-- what a computed value is. -/
def Comp (E : TypeId) (R : Part) (g : Gh) (P : Program) (S : Sem Value) (δ : Delta) : Prop :=
  ∃ sv u, δ = ⟨some sv, []⟩ ∧ SVRel E R g sv u ∧ ∀ w, S.run P w = .ok u w
theorem tmod_range {k : IntKind} {x y : Int} (h1 : k.min ≤ x) (h2 : x ≤ k.max) : k.min ≤ x.tmod y ∧ x.tmod y ≤ k.max := by
  have hz : k.min ≤ 0 ∧ 0 ≤ k.max := by cases k <;> decide
  have h3 := Int.natAbs_tmod x y
  have h4 := Nat.mod_le x.natAbs y.natAbs
  rcases Int.lt_or_le x 0 with h | h
  · have h5 := Int.tmod_nonneg (a := -x) y (by omega)
    rw [Int.neg_tmod] at h5
    omega
  · have h5 := Int.tmod_nonneg y h
    omega
theorem bits_run (op : BinOp) (k : IntKind) (x y : Int) (w : World) (h : op = .and ∨ op = .or ∨ op = .xor ∨ op = .andNot) : (Op.intBits op k x y).run P w = .ok (.int k (bits op k x y)) w := by
  rcases h with rfl | rfl | rfl | rfl <;> rfl
theorem intOp_ok {op : BinOp} {k : IntKind} {x y : Int} {t : TypeId} {A : Type} {f : Delta → Option A} {r : A} (hs : op ≠ .shl ∧ op ≠ .shr) (h : intOp op k x y f = some r) :
    ∃ δ, f δ = some r ∧ (k.min ≤ x ∧ x ≤ k.max → ∀ R g, Comp E R g P (binOp op t (.int k x) (.int k y)) δ) := by
  cases op <;> simp only [intOp] at h
  case add => exact ⟨_, h, fun hx R g => ⟨_, _, rfl, rel_wrap k _, fun w => by simp [binOp, Op.intArith]⟩⟩
  case sub => exact ⟨_, h, fun hx R g => ⟨_, _, rfl, rel_wrap k _, fun w => by simp [binOp, Op.intArith]⟩⟩
  case mul => exact ⟨_, h, fun hx R g => ⟨_, _, rfl, rel_wrap k _, fun w => by simp [binOp, Op.intArith]⟩⟩
  case quo =>
    split at h
    · cases h
    · rename_i h0
      exact ⟨_, h, fun hx R g => ⟨_, _, rfl, rel_wrap k _, fun w => by simp [binOp, Op.intDiv, h0]⟩⟩
  case rem =>
    split at h
    · cases h
    · rename_i h0
      exact ⟨_, h, fun hx R g => ⟨_, _, rfl, rel_int (tmod_range hx.1 hx.2).1 (tmod_range hx.1 hx.2).2, fun w => by simp [binOp, Op.intDiv, h0]⟩⟩
  case and => exact ⟨_, h, fun hx R g => ⟨_, _, rfl, rel_int (wrap_within k _).1 (wrap_within k _).2, fun w => by simp [binOp]; exact bits_run .and k x y w (by simp)⟩⟩
  case or => exact ⟨_, h, fun hx R g => ⟨_, _, rfl, rel_int (wrap_within k _).1 (wrap_within k _).2, fun w => by simp [binOp]; exact bits_run .or k x y w (by simp)⟩⟩
  case xor => exact ⟨_, h, fun hx R g => ⟨_, _, rfl, rel_int (wrap_within k _).1 (wrap_within k _).2, fun w => by simp [binOp]; exact bits_run .xor k x y w (by simp)⟩⟩
  case andNot => exact ⟨_, h, fun hx R g => ⟨_, _, rfl, rel_int (wrap_within k _).1 (wrap_within k _).2, fun w => by simp [binOp]; exact bits_run .andNot k x y w (by simp)⟩⟩
  case eql => exact ⟨_, h, fun hx R g => ⟨_, _, rfl, rel_bool _, fun w => by simp [binOp, Op.intCmp]⟩⟩
  case neq => exact ⟨_, h, fun hx R g => ⟨_, _, rfl, rel_bool _, fun w => by simp [binOp, Op.intCmp]⟩⟩
  case lss => exact ⟨_, h, fun hx R g => ⟨_, _, rfl, rel_bool _, fun w => by simp [binOp, Op.intCmp]⟩⟩
  case leq => exact ⟨_, h, fun hx R g => ⟨_, _, rfl, rel_bool _, fun w => by simp [binOp, Op.intCmp]⟩⟩
  case gtr => exact ⟨_, h, fun hx R g => ⟨_, _, rfl, rel_bool _, fun w => by simp [binOp, Op.intCmp]⟩⟩
  case geq => exact ⟨_, h, fun hx R g => ⟨_, _, rfl, rel_bool _, fun w => by simp [binOp, Op.intCmp]⟩⟩
  case shl => exact absurd rfl hs.1
  case shr => exact absurd rfl hs.2
theorem fdiv_range {k : IntKind} {x : Int} (n : Nat) (h1 : k.min ≤ x) (h2 : x ≤ k.max) : k.min ≤ x.fdiv (2 ^ n) ∧ x.fdiv (2 ^ n) ≤ k.max := by
  have hz : k.min ≤ 0 ∧ 0 ≤ k.max := by cases k <;> decide
  have hp : (0 : Int) < 2 ^ n := Int.pow_pos (by omega)
  rw [Int.fdiv_eq_ediv_of_nonneg _ (by omega)]
  generalize (2 : Int) ^ n = d at *
  rcases Int.lt_or_le x 0 with h | h
  · have h3 : x / d < 0 := Int.ediv_neg_of_neg_of_pos h hp
    have h4 : x ≤ x / d := by
      rw [Int.le_ediv_iff_mul_le hp]
      have : x * d ≤ x * 1 := Int.mul_le_mul_of_nonpos_left (by omega) (by omega)
      omega
    omega
  · have h3 : 0 ≤ x / d := Int.ediv_nonneg h (by omega)
    have h4 : x / d ≤ x := Int.ediv_le_self _ h
    omega
theorem shiftOp_ok {op : BinOp} {k k' : IntKind} {x y : Int} {t : TypeId} {A : Type} {f : Delta → Option A} {r : A} (h : shiftOp op k x y f = some r) :
    ∃ δ, f δ = some r ∧ (k.min ≤ x ∧ x ≤ k.max → ∀ R g, Comp E R g P (binOp op t (.int k x) (.int k' y)) δ) := by
  unfold shiftOp at h
  split at h
  · cases h
  · rename_i h0
    cases op <;> simp only [reduceCtorEq] at h
    case shl => exact ⟨_, h, fun hx R g => ⟨_, _, rfl, rel_wrap k _, fun w => by simp [binOp, Op.shift, h0]⟩⟩
    case shr => exact ⟨_, h, fun hx R g => ⟨_, _, rfl, rel_int (fdiv_range _ hx.1 hx.2).1 (fdiv_range _ hx.1 hx.2).2, fun w => by simp [binOp, Op.shift, h0]⟩⟩
theorem strOp_ok {op : BinOp} {x y : List Int} {t : TypeId} {A : Type} {f : Delta → Option A} {r : A} (h : strOp op x y f = some r) :
    ∃ δ, f δ = some r ∧ ∀ a b : ByteArray, x = bytesL a → y = bytesL b → ∀ R g, Comp E R g P (binOp op t (.string a) (.string b)) δ := by
  cases op <;> simp only [strOp, reduceCtorEq] at h
  case add =>
    split at h
    · rename_i h0
      refine ⟨_, h, fun a b ea eb R g => ?_⟩
      subst ea
      subst eb
      rw [bytesL_len, bytesL_len] at h0
      refine ⟨_, .string (a ++ b), rfl, ⟨a ++ b, rfl, (bytesL_app a b).symm, ?_⟩, fun w => ?_⟩
      · rw [ByteArray.size_append]; unfold lim; omega
      · have : ¬ (((a.size + b.size : Nat) : Int) > IntKind.i64.max) := by
          rw [k_max_eq]; show ¬ _ > (9223372036854775807 : Int); omega
        simp only [binOp, Op.stringOp]
        rw [if_neg this]
        rfl
    · cases h
  case eql => exact ⟨_, h, fun a b ea eb R g => ⟨_, _, rfl, rel_bool _, fun w => by subst ea; subst eb; simp only [binOp, Op.stringOp]; rw [bytesL_beq]; rfl⟩⟩
  case neq => exact ⟨_, h, fun a b ea eb R g => ⟨_, _, rfl, rel_bool _, fun w => by subst ea; subst eb; simp only [binOp, Op.stringOp]; rw [bytesL_beq]; rfl⟩⟩
  case lss => exact ⟨_, h, fun a b ea eb R g => ⟨_, _, rfl, rel_bool _, fun w => by subst ea; subst eb; simp only [binOp, Op.stringOp]; rw [bytesL_lt]; rfl⟩⟩
  case leq => exact ⟨_, h, fun a b ea eb R g => ⟨_, _, rfl, rel_bool _, fun w => by subst ea; subst eb; simp only [binOp, Op.stringOp]; rw [bytesL_lt, bytesL_beq]; rfl⟩⟩
  case gtr => exact ⟨_, h, fun a b ea eb R g => ⟨_, _, rfl, rel_bool _, fun w => by subst ea; subst eb; simp only [binOp, Op.stringOp]; rw [bytesL_lt, bytesL_beq]; rfl⟩⟩
  case geq => exact ⟨_, h, fun a b ea eb R g => ⟨_, _, rfl, rel_bool _, fun w => by subst ea; subst eb; simp only [binOp, Op.stringOp]; rw [bytesL_lt]; rfl⟩⟩
theorem eqGuard_run {op : BinOp} {t : TypeId} {x y : Operand} {a b : Value} (w : World) (h1 : ¬ (a = .nilIface ∧ b = .nilIface)) (h2 : ∀ c, a ≠ .agg c) : (eqGuard op t x y a b).run P w = .ok () w := by
  cases a with
  | nilIface =>
    cases b with
    | nilIface => exact absurd ⟨rfl, rfl⟩ h1
    | _ => cases op <;> rfl
  | agg c => exact absurd rfl (h2 c)
  | _ => cases op <;> rfl
theorem eqGuard_cst {op : BinOp} {t : TypeId} {x y : Operand} {a b : Value} (w : World) (h1 : (isConstB x || isConstB y) = true) (h2 : ∀ c, a ≠ .agg c) : (eqGuard op t x y a b).run P w = .ok () w := by
  cases a with
  | nilIface =>
    cases b with
    | nilIface => cases x <;> cases y <;> first | (simp [isConstB] at h1; done) | (cases op <;> rfl)
    | _ => cases op <;> rfl
  | agg c => exact absurd rfl (h2 c)
  | _ => cases op <;> rfl
theorem Comp.guard {op : BinOp} {t : TypeId} {x y : Operand} {va vb : Value} {δ : Delta} (hg : ∀ w, (eqGuard op t x y va vb).run P w = .ok () w) (h : Comp E R g P (binOp op t va vb) δ) : Comp E R g P (do eqGuard op t x y va vb; binOp op t va vb) δ := by
  obtain ⟨sv, u, h1, h2, h3⟩ := h
  exact ⟨sv, u, h1, h2, fun w => by simp [hg w, h3 w]⟩
theorem eq_run {op : BinOp} {n r : Bool} {t : TypeId} {va vb : Value} (hn : isEq op = some n) (hb1 : ∀ k i, va ≠ .int k i) (hb2 : ∀ s, va ≠ .string s) (hb3 : ∀ k i, va ≠ .float k i) (hb4 : ∀ k i j, va ≠ .complex k i j)
    (he : ∀ w, (Op.equal t va vb).run P w = .ok r w) (w : World) : (binOp op t va vb).run P w = .ok (.bool (eqOp n r)) w := by
  cases op <;> simp only [isEq, reduceCtorEq, Option.some.injEq] at hn <;> subst hn
  · have : binOp .eql t va vb = (do pure (.bool (← Op.equal t va vb)) : Sem Value) := by
      cases va <;> first | rfl | (exact absurd rfl (hb1 _ _)) | (exact absurd rfl (hb2 _)) | (exact absurd rfl (hb3 _ _)) | (exact absurd rfl (hb4 _ _ _))
    rw [this]; simp [he w, eqOp]
  · have : binOp .neq t va vb = (do pure (.bool (!(← Op.equal t va vb))) : Sem Value) := by
      cases va <;> first | rfl | (exact absurd rfl (hb1 _ _)) | (exact absurd rfl (hb2 _)) | (exact absurd rfl (hb3 _ _)) | (exact absurd rfl (hb4 _ _ _))
    rw [this]; simp [he w, eqOp]
theorem equalIn_bool (d : Nat) {t : TypeId} (hu : P.underlying t = some .bool) (x y : Bool) (w : World) : (Op.equalIn (d + 1) t (.bool x) (.bool y)).run P w = .ok (x == y) w := by
  simp [Op.equalIn, run_under hu]
theorem equal_bool {t : TypeId} (h : isBoolD (P.underlying t) = true) (x y : Bool) (w : World) : (Op.equal t (.bool x) (.bool y)).run P w = .ok (x == y) w := by
  cases hu : P.underlying t with
  | none => rw [hu] at h; cases h
  | some d =>
    rw [hu] at h
    cases d <;> first | (cases h; done) | exact equalIn_bool 9999 hu x y w
theorem equalIn_ptr (d : Nat) {t e : TypeId} (hu : P.underlying t = some (.pointer e)) (a b : Option Addr) (hab : a = none ∨ b = none) (w : World) : (Op.equalIn (d + 1) t (.pointer a) (.pointer b)).run P w = .ok (a.isNone && b.isNone) w := by
  cases a <;> cases b <;> simp [Op.equalIn, run_under hu] at hab ⊢
theorem equal_ptr {t : TypeId} (h : isPtrD (P.underlying t) = true) (a b : Option Addr) (hab : a = none ∨ b = none) (w : World) : (Op.equal t (.pointer a) (.pointer b)).run P w = .ok (a.isNone && b.isNone) w := by
  cases hu : P.underlying t with
  | none => rw [hu] at h; cases h
  | some d =>
    rw [hu] at h
    cases d <;> first | (cases h; done) | exact equalIn_ptr 9999 hu a b hab w
theorem equalIn_slice (d : Nat) {t e : TypeId} (hu : P.underlying t = some (.slice e)) (a b : Option Addr) (n c m k : Nat) (hab : a = none ∨ b = none) (w : World) : (Op.equalIn (d + 1) t (.slice a n c) (.slice b m k)).run P w = .ok (a.isNone && b.isNone) w := by
  cases a <;> cases b <;> simp [Op.equalIn, run_under hu] at hab ⊢
theorem equal_slice {t : TypeId} (h : isSliceD (P.underlying t) = true) (a b : Option Addr) (n c m k : Nat) (hab : a = none ∨ b = none) (w : World) : (Op.equal t (.slice a n c) (.slice b m k)).run P w = .ok (a.isNone && b.isNone) w := by
  cases hu : P.underlying t with
  | none => rw [hu] at h; cases h
  | some d =>
    rw [hu] at h
    cases d <;> first | (cases h; done) | exact equalIn_slice 9999 hu a b n c m k hab w
theorem errOk_spec (h : errOk P E = true) : P.underlying E = some (.int .i64) ∧ ∃ i, P.info? E = some i ∧ i.comparable = true ∧ i.zero = some (.int .i64 0) := by
  unfold errOk at h
  rw [Bool.and_eq_true] at h
  constructor
  · have h1 := h.1
    unfold isI64D at h1
    split at h1
    · assumption
    · cases h1
  · have h2 := h.2
    split at h2
    · rename_i i hi
      rw [Bool.and_eq_true] at h2
      refine ⟨i, hi, h2.1, ?_⟩
      have h3 := h2.2
      unfold isZeroI64 at h3
      split at h3
      · rename_i n hz
        rw [beq_iff_eq] at h3
        rw [hz, h3]
      · cases h3
    · cases h2
theorem equalIn_iface (n : Nat) {t u : TypeId} {ms : Array (String × TypeId)} {i : TypeInfo} (hu : P.underlying t = some (.interface ms)) (hi : P.info? u = some i) (hc : i.comparable = true) {vx vy : Value} {r : Bool} {w : World} (hin : (Op.equalIn n u vx vy).run P w = .ok r w) :
    (Op.equalIn (n + 1) t (.iface u vx) (.iface u vy)).run P w = .ok r w := by
  simp [Op.equalIn, run_under hu, run_tinfo hi, hc, hin]
theorem equalIn_err (d : Nat) {t : TypeId} {ms : Array (String × TypeId)} (hu : P.underlying t = some (.interface ms)) (he : errOk P E = true) (x y : Int) (va vb : Value) (ha : (K.err).Rd E R x [va]) (hb : (K.err).Rd E R y [vb]) (w : World) :
    (Op.equalIn (d + 1 + 1) t va vb).run P w = .ok (x == y) w := by
  obtain ⟨hE, i, hi, hcmp, _⟩ := errOk_spec he
  rcases ha with ⟨rfl, ha⟩ | ⟨h1, _, ha⟩ <;> rcases hb with ⟨rfl, hb⟩ | ⟨h2, _, hb⟩ <;> injection ha with ha _ <;> injection hb with hb _ <;> subst ha <;> subst hb
  · simp [Op.equalIn, run_under hu]
  · simp [Op.equalIn, run_under hu]; exact fun e => h2 e.symm
  · simp [Op.equalIn, run_under hu, h1]
  · have hin : (Op.equalIn (d + 1) E (.int .i64 x) (.int .i64 y)).run P w = .ok (x == y) w := by simp [Op.equalIn, run_under hE]
    exact equalIn_iface (d + 1) hu hi hcmp hin
theorem equal_err (R : Part) {t : TypeId} (h : isIfaceD (P.underlying t) = true) (he : errOk P E = true) (x y : Int) (va vb : Value) (ha : (K.err).Rd E R x [va]) (hb : (K.err).Rd E R y [vb]) (w : World) : (Op.equal t va vb).run P w = .ok (x == y) w := by
  cases hu : P.underlying t with
  | none => rw [hu] at h; cases h
  | some d =>
    rw [hu] at h
    cases d <;> first | (cases h; done) | exact equalIn_err 9998 hu he x y va vb ha hb w
theorem cvBin_ok {op : BinOp} {t : TypeId} {x y : Operand} {a b : CV} {A : Type} {f : Delta → Option A} {r : A}
    (h : cvBin P E t (isConstB x || isConstB y) op a b f = some r) : ∃ δ, f δ = some r ∧ ∀ R g va vb, CVRel E R g a va → CVRel E R g b vb → Comp E R g P (do eqGuard op t x y va vb; binOp op t va vb) δ := by
  have ptrs : ∀ (a b : CV), (if isPtrD (P.underlying t) then (isEq op).bind fun n => (nilCmp a b).bind fun r => f (just (dB (eqOp n r))) else if isSliceD (P.underlying t) then (isEq op).bind fun n => nilSl a b (fun r => f (just (dB (eqOp n r)))) else none) = some r →
      ∃ δ, f δ = some r ∧ ∀ R g va vb, CVRel E R g a va → CVRel E R g b vb → Comp E R g P (do eqGuard op t x y va vb; binOp op t va vb) δ := by
    intro a b h
    split at h
    · rename_i hp
      rw [Option.bind_eq_some_iff] at h
      obtain ⟨n, hn, h⟩ := h
      rw [Option.bind_eq_some_iff] at h
      obtain ⟨q, hq, h⟩ := h
      refine ⟨_, h, fun R g va vb ha hb => ?_⟩
      have : ∃ A B, va = .pointer A ∧ vb = .pointer B ∧ (A = none ∨ B = none) ∧ q = (A.isNone && B.isNone) := by
        cases a <;> cases b <;> simp only [nilCmp, reduceCtorEq, Option.some.injEq] at hq
        · exact ⟨none, none, ha, hb, .inl rfl, hq.symm⟩
        · obtain ⟨b', _, e⟩ := hb; exact ⟨none, _, ha, e, .inl rfl, hq.symm⟩
        · obtain ⟨_, _, _, _, _, _, e, _⟩ := hb; exact ⟨none, _, ha, e, .inl rfl, hq.symm⟩
        · obtain ⟨b', _, e⟩ := ha; exact ⟨_, none, e, hb, .inr rfl, hq.symm⟩
        · obtain ⟨_, _, _, _, _, _, e, _⟩ := ha; exact ⟨_, none, e, hb, .inr rfl, hq.symm⟩
        · rcases ha with ⟨hx, e⟩ | ⟨hx, _, _, _, _, _, e⟩
          · exact ⟨none, none, e, hb, .inr rfl, by rw [← hq]; simp [hx]⟩
          · exact ⟨_, none, e, hb, .inr rfl, by rw [← hq]; simp [hx]⟩
      obtain ⟨A', B', rfl, rfl, hAB, rfl⟩ := this
      exact Comp.guard (fun w => eqGuard_run w (by simp) (by simp)) ⟨_, _, rfl, rel_bool _, fun w => eq_run hn (by simp) (by simp) (by simp) (by simp) (fun w => equal_ptr hp _ _ hAB w) w⟩
    · split at h
      · rename_i hp
        rw [Option.bind_eq_some_iff] at h
        obtain ⟨n, hn, h⟩ := h
        have spec : ∃ q, f (just (dB (eqOp n q))) = some r ∧ ∀ R g va vb, CVRel E R g a va → CVRel E R g b vb → ∃ A B n1 c1 n2 c2, va = .slice A n1 c1 ∧ vb = .slice B n2 c2 ∧ (A = none ∨ B = none) ∧ q = (A.isNone && B.isNone) := by
          unfold nilSl at h
          split at h
          · exact ⟨_, h, fun R g va vb ha hb => ⟨none, none, 0, 0, 0, 0, ha, hb, .inl rfl, rfl⟩⟩
          · exact ⟨_, h, fun R g va vb ha hb => by obtain ⟨c', e⟩ := ha; exact ⟨none, none, _, _, 0, 0, e, hb, .inl rfl, rfl⟩⟩
          · exact ⟨_, h, fun R g va vb ha hb => by obtain ⟨⟨a', n', c', e⟩, _⟩ := ha; exact ⟨_, none, _, _, 0, 0, e, hb, .inr rfl, rfl⟩⟩
          · exact ⟨_, h, fun R g va vb ha hb => by obtain ⟨⟨a', n', c', e⟩, _⟩ := hb; exact ⟨none, _, 0, 0, _, _, ha, e, .inl rfl, rfl⟩⟩
          · rename_i κ' x'
            split at h
            · cases h
            · rename_i hne
              refine ⟨_, h, fun R g va vb ha hb => ?_⟩
              obtain ⟨A, c', e, _, hx⟩ := ha
              injection e with e _
              obtain ⟨b', off, _, _, _, rfl, _⟩ := hx (by intro e0; apply hne; rw [e0]; rfl)
              exact ⟨_, none, _, _, 0, 0, e, hb, .inr rfl, rfl⟩
          · cases h
        obtain ⟨q, h, hq⟩ := spec
        refine ⟨_, h, fun R g va vb ha hb => ?_⟩
        have := hq R g va vb ha hb
        obtain ⟨A', B', n1, c1, n2, c2, rfl, rfl, hAB, rfl⟩ := this
        exact Comp.guard (fun w => eqGuard_run w (by simp) (by simp)) ⟨_, _, rfl, rel_bool _, fun w => eq_run hn (by simp) (by simp) (by simp) (by simp) (fun w => equal_slice hp _ _ _ _ _ _ hAB w) w⟩
      · cases h
  unfold cvBin at h
  split at h
  · rename_i k x' k' y'
    have gd : ∀ w, (eqGuard op t x y (.int k x') (.int k' y')).run P w = .ok () w := fun w => eqGuard_run w (by simp) (by simp)
    have fin : (∃ δ, f δ = some r ∧ (k.min ≤ x' ∧ x' ≤ k.max → ∀ R g, Comp E R g P (binOp op t (.int k x') (.int k' y')) δ)) →
        ∃ δ, f δ = some r ∧ ∀ R g va vb, CVRel E R g (.dat (.int k) x') va → CVRel E R g (.dat (.int k') y') vb → Comp E R g P (do eqGuard op t x y va vb; binOp op t va vb) δ := by
      rintro ⟨δ, h1, h2⟩
      refine ⟨δ, h1, fun R g va vb ha hb => ?_⟩
      obtain ⟨e1, hx⟩ := ha
      obtain ⟨e2, hy⟩ := hb
      injection e1 with e1 _
      injection e2 with e2 _
      subst e1
      subst e2
      exact (h2 hx R g).guard gd
    split at h
    · exact fin (shiftOp_ok h)
    · exact fin (shiftOp_ok h)
    · rename_i hs1 hs2
      split at h
      · rename_i e
        subst e
        exact fin (intOp_ok ⟨hs1, hs2⟩ h)
      · cases h
  · split at h
    · rename_i hp
      rw [Option.bind_eq_some_iff] at h
      obtain ⟨n, hn, h⟩ := h
      refine ⟨_, h, fun R g va vb ha hb => ?_⟩
      obtain ⟨e1⟩ := ha
      obtain ⟨e2⟩ := hb
      exact Comp.guard (fun w => eqGuard_run w (by simp) (by simp)) ⟨_, _, rfl, rel_bool _, fun w => eq_run hn (by simp) (by simp) (by simp) (by simp) (fun w => equal_bool hp _ _ w) w⟩
    · cases h
  · obtain ⟨δ, h1, h2⟩ := strOp_ok (E := E) (P := P) (t := t) h
    refine ⟨δ, h1, fun R g va vb ha hb => ?_⟩
    obtain ⟨s1, e1, ea, _⟩ := ha
    obtain ⟨s2, e2, eb, _⟩ := hb
    injection e1 with e1 _
    injection e2 with e2 _
    subst e1
    subst e2
    exact (h2 s1 s2 ea eb R g).guard (fun w => eqGuard_run w (by simp) (by simp))
  · rename_i x' y'
    split at h
    · rename_i hp
      rw [Bool.and_eq_true] at hp
      rw [Option.bind_eq_some_iff] at h
      obtain ⟨n, hn, h⟩ := h
      have shape : ∀ (R : Part) (g : Gh) (z : Int) (v : Value), CVRel E R g (.dat .err z) v → (v = .nilIface ∧ z = 0) ∨ (∃ u, v = .iface E u) ∧ z ≠ 0 := fun R g z v hz => by
        rcases hz with ⟨e, h⟩ | ⟨e, _, h⟩ <;> injection h with h _
        · exact .inl ⟨h, e⟩
        · exact .inr ⟨⟨_, h⟩, e⟩
      have nint : ∀ (R : Part) (g : Gh) (z : Int) (v : Value), CVRel E R g (.dat .err z) v → (∀ k i, v ≠ .int k i) ∧ (∀ s, v ≠ .string s) ∧ (∀ k i, v ≠ .float k i) ∧ (∀ k i j, v ≠ .complex k i j) ∧ ∀ c, v ≠ .agg c := fun R g z v hz => by
        rcases shape R g z v hz with ⟨rfl, _⟩ | ⟨⟨u, rfl⟩, _⟩ <;> simp
      have run : ∀ (R : Part) (g : Gh) (va vb : Value), CVRel E R g (.dat .err x') va → CVRel E R g (.dat .err y') vb → ∀ w, (binOp op t va vb).run P w = .ok (.bool (eqOp n (x' == y'))) w := fun R g va vb ha hb w => by
        obtain ⟨n1, n2, n3, n4, n5⟩ := nint R g x' va ha
        exact eq_run hn n1 n2 n3 n4 (fun w => equal_err R hp.1 hp.2 x' y' va vb ha hb w) w
      split at h
      · rename_i hc
        exact ⟨_, h, fun R g va vb ha hb => Comp.guard (fun w => eqGuard_cst w hc (nint R g x' va ha).2.2.2.2) ⟨_, _, rfl, rel_bool _, run R g va vb ha hb⟩⟩
      · split at h
        · cases h
        · rename_i h0
          refine ⟨_, h, fun R g va vb ha hb => Comp.guard (fun w => eqGuard_run w (fun e => h0 ?_) (nint R g x' va ha).2.2.2.2) ⟨_, _, rfl, rel_bool _, run R g va vb ha hb⟩⟩
          rcases shape R g x' va ha with ⟨_, ex⟩ | ⟨⟨u, e1⟩, _⟩
          · rcases shape R g y' vb hb with ⟨_, ey⟩ | ⟨⟨u, e2⟩, _⟩
            · exact ⟨ex, ey⟩
            · rw [e.2] at e2; cases e2
          · rw [e.1] at e1; cases e1
    · cases h
  · exact ptrs _ _ h
end
end Go.Sx
