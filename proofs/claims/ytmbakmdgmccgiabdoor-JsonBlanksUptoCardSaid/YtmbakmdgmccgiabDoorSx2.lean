/- Part of a proof by a small interpreter on plain values; no condition. -/
import Derived.Test.YtmbakmdgmccgiabDoorSx1
import Derived.Laws.Cells
import Derived.Laws.IdiomCopy
/-! Sx2: what pure values say of a frame and a world. -/
namespace Go.Sx
open Go
set_option autoImplicit false
set_option linter.unusedSimpArgs false
set_option linter.unusedVariables false

/-- what is read only, and where the nodes of the pools lie. -/
structure Part where
  ob : Nat → Option Obj
  nd : Nat → Nat → Nat → Prop
instance : CoeFun Part (fun _ => Nat → Option Obj) := ⟨Part.ob⟩
/-- the whole heap of a world, and no pool. -/
def heapP (w : World) : Part := ⟨fun b => w.heap[b]?, fun _ _ _ => False⟩
def Part.nil : Part := ⟨fun _ => none, fun _ _ _ => False⟩
inductive All2 {α β : Type} (r : α → β → Prop) : List α → List β → Prop
  | nil : All2 r [] []
  | cons {a : α} {b : β} {l : List α} {m : List β} : r a b → All2 r l m → All2 r (a :: l) (b :: m)
namespace All2
variable {α β : Type} {r r' : α → β → Prop}
theorem imp (h : ∀ a b, r a b → r' a b) {l : List α} {m : List β} (x : All2 r l m) : All2 r' l m := by
  induction x with
  | nil => exact .nil
  | cons hx _ ih => exact .cons (h _ _ hx) ih
theorem len {l : List α} {m : List β} (x : All2 r l m) : l.length = m.length := by
  induction x with
  | nil => rfl
  | cons _ _ ih => simp [ih]
theorem get {l : List α} {m : List β} (x : All2 r l m) (i : Nat) (a : α) (h : l[i]? = some a) : ∃ b, m[i]? = some b ∧ r a b := by
  induction x generalizing i with
  | nil => simp at h
  | cons hx _ ih =>
    cases i with
    | zero => simp at h; subst h; exact ⟨_, by simp, hx⟩
    | succ i => simp at h; simpa using ih i h
theorem app {l l' : List α} {m m' : List β} (x : All2 r l m) (y : All2 r l' m') : All2 r (l ++ l') (m ++ m') := by
  induction x with
  | nil => exact y
  | cons hx _ ih => exact .cons hx ih
theorem take {l : List α} {m : List β} (x : All2 r l m) (n : Nat) : All2 r (l.take n) (m.take n) := by
  induction x generalizing n with
  | nil => simp; exact .nil
  | cons hx _ ih => cases n with
    | zero => simp; exact .nil
    | succ n => simp; exact .cons hx (ih n)
theorem drop {l : List α} {m : List β} (x : All2 r l m) (n : Nat) : All2 r (l.drop n) (m.drop n) := by
  induction x generalizing n with
  | nil => simp; exact .nil
  | cons hx h ih => cases n with
    | zero => simp; exact .cons hx h
    | succ n => simp; exact ih n
theorem map1 {γ : Type} {f : γ → α} {l : List γ} {m : List β} (x : All2 (fun a b => r (f a) b) l m) : All2 r (l.map f) m := by
  induction x with
  | nil => exact .nil
  | cons hx _ ih => exact .cons hx ih
end All2

/-! ### reading -/
mutual
/-- cells that read a tree of values. -/
def JV.Rd (E : TypeId) (R : Part) : JV → List Value → Prop
  | .mk k b t n w l ns, cs => ∃ (s : ByteArray) (A A' : Option Addr) (c c' : Nat), cs = [.int .i64 k, .bool b, .string s, .int .i64 n, .bool w, .slice A l.length c, .slice A' ns.length c'] ∧
      (IntKind.i64.min ≤ k ∧ k ≤ IntKind.i64.max) ∧ (t = bytesL s ∧ s.size ≤ lim) ∧ (IntKind.i64.min ≤ n ∧ n ≤ IntKind.i64.max) ∧
      ((l.length ≤ lim ∧ l.length ≤ c) ∧ (l ≠ [] → ∃ bl off arr ty fr, A = some ⟨bl, off, none⟩ ∧ R bl = some (.cells arr ty fr) ∧ JV.RdL E R l (arr.toList.drop off))) ∧
      ((ns.length ≤ lim ∧ ns.length ≤ c') ∧ (ns ≠ [] → ∃ bl off arr ty fr, A' = some ⟨bl, off, none⟩ ∧ R bl = some (.cells arr ty fr) ∧ ∀ (j : Nat) (x : List Int), ns[j]? = some x → ∃ s : ByteArray, (arr.toList.drop (off + j * 1)).take 1 = [.string s] ∧ x = bytesL s ∧ s.size ≤ lim))
def JV.RdL (E : TypeId) (R : Part) : List JV → List Value → Prop
  | [], _ => True
  | x :: r, cs => JV.Rd E R x (cs.take 7) ∧ JV.RdL E R r (cs.drop 7)
end
theorem JV.RdL_get {E : TypeId} {R : Part} : ∀ {l : List JV} {cs : List Value}, JV.RdL E R l cs ↔ ∀ (j : Nat) (x : JV), l[j]? = some x → JV.Rd E R x ((cs.drop (j * 7)).take 7)
  | [], cs => by simp [JV.RdL]
  | y :: r, cs => by
    rw [JV.RdL, JV.RdL_get]
    constructor
    · rintro ⟨h1, h2⟩ j x hj
      cases j with
      | zero => simp at hj; subst hj; simpa using h1
      | succ j =>
        have := h2 j x (by simpa using hj)
        rw [List.drop_drop] at this
        rw [show (j + 1) * 7 = 7 + j * 7 from by omega]
        exact this
    · intro h
      refine ⟨by have := h 0 y rfl; simpa using this, fun j x hj => ?_⟩
      have := h (j + 1) x (by simpa using hj)
      rw [List.drop_drop]
      rw [show (j + 1) * 7 = 7 + j * 7 from by omega] at this
      exact this
@[reducible] def K.Rd (E : TypeId) (R : Part) : (κ : K) → κ.T → List Value → Prop
  | .int k, x, cs => cs = [.int k x] ∧ k.min ≤ x ∧ x ≤ k.max
  | .bool, b, cs => cs = [.bool b]
  | .str, l, cs => ∃ s : ByteArray, cs = [.string s] ∧ l = bytesL s ∧ s.size ≤ lim
  | .err, x, cs => (x = (0 : Int) ∧ cs = [.nilIface]) ∨ (x ≠ (0 : Int) ∧ (IntKind.i64.min ≤ x ∧ x ≤ IntKind.i64.max) ∧ cs = [.iface E (.int .i64 x)])
  | .unit, _, cs => cs = []
  | .pair a b, x, cs => ∃ c1 c2, cs = c1 ++ c2 ∧ K.Rd E R a x.1 c1 ∧ K.Rd E R b x.2 c2
  | .list a, xs, cs => ∃ (A : Option Addr) (c : Nat), cs = [.slice A (List.length xs) c] ∧ (List.length xs ≤ lim ∧ List.length xs ≤ c) ∧
      (xs ≠ [] → ∃ b off arr ty fr, A = some ⟨b, off, none⟩ ∧ R b = some (.cells arr ty fr) ∧ ∀ (j : Nat) (x : a.T), xs[j]? = some x → K.Rd E R a x ((arr.toList.drop (off + j * a.sz)).take a.sz))
  | .arr n a, xs, cs => List.length xs = n ∧ cs.length = n * a.sz ∧ (∀ v ∈ cs, v.oneCell' = true) ∧ ∀ (j : Nat) (x : a.T), xs[j]? = some x → K.Rd E R a x ((cs.drop (j * a.sz)).take a.sz)
  | .js, x, cs => JV.Rd E R x cs
  | .nd p, x, cs => (x < (0 : Int) ∧ cs = [.pointer none]) ∨ (¬ x < (0 : Int) ∧ ∃ b, R.nd p (Int.toNat x) b ∧ cs = [.pointer (some ⟨b, 0, none⟩)])

/-- a tree of values, by its parts. -/
theorem js_rd {E : TypeId} {R : Part} {x : JV} {cs : List Value} : K.js.Rd E R x cs ↔ ∃ c1 c2 c3 c4 c5 c6 c7, cs = [c1, c2, c3, c4, c5, c6, c7] ∧ (K.int .i64).Rd E R x.kind [c1] ∧ K.bool.Rd E R x.b [c2] ∧ K.str.Rd E R x.text [c3] ∧ (K.int .i64).Rd E R x.n [c4] ∧ K.bool.Rd E R x.whole [c5] ∧
    (K.list .js).Rd E R x.list [c6] ∧ (K.list .str).Rd E R x.names [c7] := by
  obtain ⟨k, b, t, n, w, l, ns⟩ := x
  show JV.Rd E R (.mk k b t n w l ns) cs ↔ _
  rw [JV.Rd]
  constructor
  · rintro ⟨s, A, A', c, c', rfl, h1, h2, h3, ⟨h4, h5⟩, ⟨h6, h7⟩⟩
    refine ⟨_, _, _, _, _, _, _, rfl, ⟨rfl, h1⟩, rfl, ⟨s, rfl, h2⟩, ⟨rfl, h3⟩, rfl, ⟨A, c, rfl, h4, fun hne => ?_⟩, ⟨A', c', rfl, h6, h7⟩⟩
    obtain ⟨bl, off, arr, ty, fr, q1, q2, q3⟩ := h5 hne
    refine ⟨bl, off, arr, ty, fr, q1, q2, fun j y hy => ?_⟩
    have := JV.RdL_get.1 q3 j y hy
    rw [List.drop_drop] at this
    exact this
  · rintro ⟨c1, c2, c3, c4, c5, c6, c7, rfl, ⟨e1, h1⟩, e2, ⟨s, e3, h2⟩, ⟨e4, h3⟩, e5, ⟨A, c, e6, h4, h5⟩, ⟨A', c', e7, h6, h7⟩⟩
    injection e1 with e1
    injection e3 with e3
    injection e4 with e4
    injection e6 with e6
    injection e7 with e7
    have e2 : [c2] = [Value.bool b] := e2
    have e5 : [c5] = [Value.bool w] := e5
    injection e2 with e2
    injection e5 with e5
    subst e1 e2 e3 e4 e5 e6 e7
    refine ⟨s, A, A', c, c', rfl, h1, h2, h3, ⟨h4, fun hne => ?_⟩, ⟨h6, h7⟩⟩
    obtain ⟨bl, off, arr, ty, fr, q1, q2, q3⟩ := h5 hne
    refine ⟨bl, off, arr, ty, fr, q1, q2, JV.RdL_get.2 fun j y hy => ?_⟩
    have := q3 j y hy
    rw [List.drop_drop]
    exact this
theorem K.Rd_len {E : TypeId} {R : Part} : ∀ (κ : K) (x : κ.T) (cs : List Value), κ.Rd E R x cs → cs.length = κ.sz
  | .int k, x, cs, h => by rw [h.1]; rfl
  | .bool, x, cs, h => by rw [show cs = _ from h]; rfl
  | .str, x, cs, h => by obtain ⟨s, rfl, _⟩ := h; rfl
  | .err, x, cs, h => by rcases h with ⟨_, rfl⟩ | ⟨_, _, rfl⟩ <;> rfl
  | .unit, x, cs, h => by rw [show cs = _ from h]; rfl
  | .pair a b, x, cs, h => by
    obtain ⟨c1, c2, rfl, h1, h2⟩ := h
    simp [K.sz, K.Rd_len a _ _ h1, K.Rd_len b _ _ h2]
  | .list a, x, cs, h => by obtain ⟨A, c, rfl, _⟩ := h; rfl
  | .arr n a, x, cs, h => h.2.1
  | .nd p, x, cs, h => by rcases h with ⟨_, rfl⟩ | ⟨_, b, _, rfl⟩ <;> rfl
  | .js, x, cs, h => by obtain ⟨c1, c2, c3, c4, c5, c6, c7, rfl, _⟩ := js_rd.1 h; rfl
theorem K.Rd_one {E : TypeId} {R : Part} : ∀ (κ : K) (x : κ.T) (cs : List Value), κ.Rd E R x cs → ∀ v ∈ cs, v.oneCell' = true
  | .int k, x, cs, h => by rw [h.1]; simp [Value.oneCell']
  | .bool, x, cs, h => by rw [show cs = _ from h]; simp [Value.oneCell']
  | .str, x, cs, h => by obtain ⟨s, rfl, _⟩ := h; simp [Value.oneCell']
  | .err, x, cs, h => by rcases h with ⟨_, rfl⟩ | ⟨_, _, rfl⟩ <;> simp [Value.oneCell']
  | .unit, x, cs, h => by rw [show cs = _ from h]; simp
  | .pair a b, x, cs, h => by
    obtain ⟨c1, c2, rfl, h1, h2⟩ := h
    intro v hv
    rcases List.mem_append.1 hv with hv | hv
    · exact K.Rd_one a _ _ h1 v hv
    · exact K.Rd_one b _ _ h2 v hv
  | .list a, x, cs, h => by obtain ⟨A, c, rfl, _⟩ := h; simp [Value.oneCell']
  | .arr n a, x, cs, h => h.2.2.1
  | .nd p, x, cs, h => by rcases h with ⟨_, rfl⟩ | ⟨_, b, _, rfl⟩ <;> simp [Value.oneCell']
  | .js, x, cs, h => by
    obtain ⟨k, b, t, n, w, l, ns⟩ := x
    have h : JV.Rd E R (.mk k b t n w l ns) cs := h
    rw [JV.Rd] at h
    obtain ⟨s, A, A', c, c', rfl, _⟩ := h
    simp [Value.oneCell']
structure Part.le (R R' : Part) : Prop where
  ob : ∀ b o, R b = some o → R' b = some o
  nd : ∀ p j b, R.nd p j b → R'.nd p j b
instance {R R' : Part} : CoeFun (R.le R') (fun _ => ∀ b o, R b = some o → R' b = some o) := ⟨Part.le.ob⟩
theorem Part.le_refl (R : Part) : R.le R := ⟨fun _ _ h => h, fun _ _ _ h => h⟩
theorem Part.le.trans {R R' R'' : Part} (h : R.le R') (k : R'.le R'') : R.le R'' := ⟨fun b o x => k b o (h b o x), fun p j b x => k.nd p j b (h.nd p j b x)⟩
mutual
theorem JV.Rd_mono {E : TypeId} {R R' : Part} (hR : R.le R') : ∀ (x : JV) (cs : List Value), JV.Rd E R x cs → JV.Rd E R' x cs
  | .mk k b t n w l ns, cs, h => by
    rw [JV.Rd] at h ⊢
    obtain ⟨s, A, A', c, c', e, h1, h2, h3, ⟨h4, h5⟩, ⟨h6, h7⟩⟩ := h
    refine ⟨s, A, A', c, c', e, h1, h2, h3, ⟨h4, fun hne => ?_⟩, ⟨h6, fun hne => ?_⟩⟩
    · obtain ⟨bl, off, arr, ty, fr, q1, q2, q3⟩ := h5 hne
      exact ⟨bl, off, arr, ty, fr, q1, hR _ _ q2, JV.RdL_mono hR l _ q3⟩
    · obtain ⟨bl, off, arr, ty, fr, q1, q2, q3⟩ := h7 hne
      exact ⟨bl, off, arr, ty, fr, q1, hR _ _ q2, q3⟩
theorem JV.RdL_mono {E : TypeId} {R R' : Part} (hR : R.le R') : ∀ (l : List JV) (cs : List Value), JV.RdL E R l cs → JV.RdL E R' l cs
  | [], cs, h => trivial
  | x :: r, cs, h => by
    rw [JV.RdL] at h ⊢
    exact ⟨JV.Rd_mono hR x _ h.1, JV.RdL_mono hR r _ h.2⟩
end
theorem K.Rd_mono {E : TypeId} {R R' : Part} (hR : R.le R') : ∀ (κ : K) (x : κ.T) (cs : List Value), κ.Rd E R x cs → κ.Rd E R' x cs
  | .int k, x, cs, h => h
  | .bool, x, cs, h => h
  | .str, x, cs, h => h
  | .err, x, cs, h => h
  | .unit, x, cs, h => h
  | .pair a b, x, cs, h => by
    obtain ⟨c1, c2, e, h1, h2⟩ := h
    exact ⟨c1, c2, e, K.Rd_mono hR a _ _ h1, K.Rd_mono hR b _ _ h2⟩
  | .list a, x, cs, h => by
    obtain ⟨A, c, e, hl, h⟩ := h
    refine ⟨A, c, e, hl, fun hx => ?_⟩
    obtain ⟨b, off, arr, ty, fr, hA, hb, hj⟩ := h hx
    exact ⟨b, off, arr, ty, fr, hA, hR _ _ hb, fun j y hy => K.Rd_mono hR a _ _ (hj j y hy)⟩
  | .arr n a, x, cs, h => ⟨h.1, h.2.1, h.2.2.1, fun j y hy => K.Rd_mono hR a _ _ (h.2.2.2 j y hy)⟩
  | .js, x, cs, h => JV.Rd_mono hR x cs h
  | .nd p, x, cs, h => by
    rcases h with h | ⟨h0, b, h1, h2⟩
    · exact .inl h
    · exact .inr ⟨h0, b, hR.nd _ _ _ h1, h2⟩
theorem K.sub_rd {E : TypeId} {R : Part} : ∀ (κ : K) (off n : Nat) (p : Σ κ' : K, κ.T → κ'.T) (x : κ.T) (cs : List Value), K.sub κ off n = some p → κ.Rd E R x cs →
    p.1.sz = n ∧ p.1.Rd E R (p.2 x) ((cs.drop off).take n) := by
  have base : ∀ (κ : K) (off n : Nat) (p : Σ κ' : K, κ.T → κ'.T) (x : κ.T) (cs : List Value), (if off = 0 && κ.sz == n then some (⟨κ, fun x => x⟩ : Σ κ' : K, κ.T → κ'.T) else none) = some p → κ.Rd E R x cs →
      p.1.sz = n ∧ p.1.Rd E R (p.2 x) ((cs.drop off).take n) := by
    intro κ off n p x cs h hr
    split at h
    · rename_i hc
      simp only [Bool.and_eq_true, decide_eq_true_eq, beq_iff_eq] at hc
      obtain ⟨rfl, rfl⟩ := hc
      injection h with h
      subst h
      refine ⟨rfl, ?_⟩
      rw [List.drop_zero, List.take_of_length_le (by rw [K.Rd_len κ x cs hr]; exact Nat.le_refl _)]
      exact hr
    · cases h
  intro κ
  induction κ with
  | pair a b iha ihb =>
    intro off n p x cs h hr
    obtain ⟨c1, c2, rfl, h1, h2⟩ := hr
    have hl1 := K.Rd_len a _ _ h1
    unfold K.sub at h
    split at h
    · rename_i hc
      simp only [Bool.and_eq_true, decide_eq_true_eq, beq_iff_eq] at hc
      obtain ⟨rfl, rfl⟩ := hc
      injection h with h
      subst h
      refine ⟨rfl, ?_⟩
      rw [List.drop_zero, ← hl1, List.take_left']
      · exact h1
      · rfl
    · split at h
      · rename_i hle
        rw [Option.map_eq_some_iff] at h
        obtain ⟨q, hq, rfl⟩ := h
        have := ihb (off - a.sz) n q x.2 c2 hq h2
        refine ⟨this.1, ?_⟩
        have e : (c1 ++ c2).drop off = c2.drop (off - a.sz) := by rw [List.drop_append, List.drop_eq_nil_of_le (by omega), List.nil_append, hl1]
        rw [e]
        exact this.2
      · rename_i hle
        rw [Option.map_eq_some_iff] at h
        obtain ⟨q, hq, rfl⟩ := h
        have := iha off n q x.1 c1 hq h1
        refine ⟨this.1, ?_⟩
        have hlen := K.Rd_len _ _ _ this.2
        rw [List.length_take, List.length_drop, this.1] at hlen
        have e : ((c1 ++ c2).drop off).take n = (c1.drop off).take n := by
          rw [List.drop_append_of_le_length (by omega), List.take_append_of_le_length (by rw [List.length_drop]; omega)]
        rw [e]
        exact this.2
  | int k => exact base _
  | bool => exact base _
  | str => exact base _
  | err => exact base _
  | unit => exact base _
  | list a _ => exact base _
  | arr n a _ => exact base _
  | nd p => exact base _
  | js =>
    intro off n p x cs h hr
    have hlen := K.Rd_len _ _ _ hr
    obtain ⟨c1, c2, c3, c4, c5, c6, c7, rfl, h1, h2, h3, h4, h5, h6, h7⟩ := js_rd.1 hr
    unfold K.sub at h
    split at h
    · rename_i hn
      subst hn
      split at h <;> first | (injection h with h; subst h; refine ⟨rfl, ?_⟩; assumption) | cases h
    · split at h
      · rename_i hc
        obtain ⟨rfl, rfl⟩ := hc
        injection h with h
        subst h
        exact ⟨rfl, hr⟩
      · cases h

/-! ### cells -/
abbrev Gh := Nat → Option Value
def Gh.le (g g' : Gh) : Prop := ∀ h v, g h = some v → g' h = some v
theorem Gh.le_refl (g : Gh) : g.le g := fun _ _ h => h
theorem Gh.le.trans {a b c : Gh} (h : a.le b) (k : b.le c) : a.le c := fun i v x => k i v (h i v x)
/-- a variable that a function value holds. -/
def CapRel (g : Gh) : Option Nat → Value → Prop
  | none, v => v = .pointer none
  | some h, v => ∃ b, g h = some (.pointer (some ⟨b, 0, none⟩)) ∧ v = .pointer (some ⟨b, 0, none⟩)
def CVRel (E : TypeId) (R : Part) (g : Gh) : CV → Value → Prop
  | .dat κ x, v => κ.Rd E R x [v]
  | .nilp, v => v = .pointer none
  | .nils, v => v = .slice none 0 0
  | .nilm, v => v = .map none
  | .ptr h off, v => ∃ b, g h = some (.pointer (some ⟨b, 0, none⟩)) ∧ v = .pointer (some ⟨b, off, none⟩)
  | .elt h sz i off, v => ∃ b n c, g h = some (.slice (some ⟨b, 0, none⟩) n c) ∧ i < n ∧ v = .pointer (some ⟨b, i * sz + off, none⟩)
  | .roA κ x, v => ∃ b off arr ty fr, R b = some (.cells arr ty fr) ∧ v = .pointer (some ⟨b, off, none⟩) ∧ κ.Rd E R x ((arr.toList.drop off).take κ.sz)
  | .own h, v => g h = some v ∧ v.oneCell' = true
  | .sub h sz lo n, v => ∃ A c, v = .slice A n c ∧ (n ≤ lim ∧ n ≤ c) ∧ (n ≠ 0 → ∃ b m cp, g h = some (.slice (some ⟨b, 0, none⟩) m cp) ∧ A = some ⟨b, lo * sz, none⟩ ∧ lo + n ≤ m)
  | .fn f, v => v = .func (.func f) #[] #[]
  | .clo f hs, v => ∃ us : List Value, v = .func (.func f) #[] us.toArray ∧ All2 (CapRel g) hs us
  | .slf h, v => v = .pointer none ∨ ∃ b, g h = some (.pointer (some ⟨b, 0, none⟩)) ∧ v = .pointer (some ⟨b, 0, none⟩)
  | .nl, v => ∃ c, v = .slice none 0 c
  | .nn κ x, v => (∃ a n c, v = .slice (some a) n c) ∧ (K.list κ).Rd E R x [v]
  | .ful κ x, v => (∃ A n, v = .slice A n n) ∧ (K.list κ).Rd E R x [v]
  | .pel h off sz i, v => ∃ b, g h = some (.pointer (some ⟨b, 0, none⟩)) ∧ v = .pointer (some ⟨b, off + i * sz, none⟩)
  | .oel h sz x, v => (x < 0 ∧ v = .pointer none) ∨ (¬ x < 0 ∧ ∃ b n c, g h = some (.slice (some ⟨b, 0, none⟩) n c) ∧ x.toNat < n ∧ v = .pointer (some ⟨b, x.toNat * sz + 0, none⟩))
  | .ndf p i off, v => ∃ b, R.nd p i b ∧ v = .pointer (some ⟨b, off, none⟩)
  | .psub h off sz lo n, v => ∃ b c, g h = some (.pointer (some ⟨b, 0, none⟩)) ∧ (n ≤ lim ∧ n ≤ c) ∧ ∃ A, v = .slice A n c ∧ (n ≠ 0 → A = some ⟨b, off + lo * sz, none⟩)
section
variable {E : TypeId} {R R' : Part} {g g' : Gh}
theorem CVRel.one {c : CV} {v : Value} (h : CVRel E R g c v) : v.oneCell' = true := by
  cases c <;> simp only [CVRel] at h
  case dat κ x => exact K.Rd_one κ x _ h v (by simp)
  case nilp => subst h; rfl
  case nils => subst h; rfl
  case nilm => subst h; rfl
  case ptr => obtain ⟨_, _, rfl⟩ := h; rfl
  case elt => obtain ⟨_, _, _, _, _, rfl⟩ := h; rfl
  case roA => obtain ⟨_, _, _, _, _, _, rfl, _⟩ := h; rfl
  case own => exact h.2
  case sub => obtain ⟨_, _, rfl, _⟩ := h; rfl
  case fn => subst h; rfl
  case clo => obtain ⟨_, rfl, _⟩ := h; rfl
  case slf => rcases h with rfl | ⟨_, _, rfl⟩ <;> rfl
  case nn κ x => exact K.Rd_one (.list κ) x _ h.2 v (by simp)
  case nl => obtain ⟨_, rfl⟩ := h; rfl
  case pel => obtain ⟨_, _, rfl⟩ := h; rfl
  case ful κ x => exact K.Rd_one (.list κ) x _ h.2 v (by simp)
  case psub => obtain ⟨_, _, _, _, _, rfl, _⟩ := h; rfl
  case ndf => obtain ⟨_, _, rfl⟩ := h; rfl
  case oel => rcases h with ⟨_, rfl⟩ | ⟨_, _, _, _, _, _, rfl⟩ <;> rfl
theorem CVRel.mono (hR : R.le R') (hg : g.le g') {c : CV} {v : Value} (h : CVRel E R g c v) : CVRel E R' g' c v := by
  cases c <;> simp only [CVRel] at h ⊢
  case dat κ x => exact K.Rd_mono hR κ x _ h
  case nilp => exact h
  case nils => exact h
  case nilm => exact h
  case ptr => obtain ⟨b, h1, h2⟩ := h; exact ⟨b, hg _ _ h1, h2⟩
  case elt => obtain ⟨b, n, c, h1, h2⟩ := h; exact ⟨b, n, c, hg _ _ h1, h2⟩
  case roA κ x => obtain ⟨b, off, arr, ty, fr, h1, h2, h3⟩ := h; exact ⟨b, off, arr, ty, fr, hR _ _ h1, h2, K.Rd_mono hR κ x _ h3⟩
  case own => exact ⟨hg _ _ h.1, h.2⟩
  case sub =>
    obtain ⟨A, c, h1, hl, h2⟩ := h
    refine ⟨A, c, h1, hl, fun hn => ?_⟩
    obtain ⟨b, m, cp, h3, h4⟩ := h2 hn
    exact ⟨b, m, cp, hg _ _ h3, h4⟩
  case clo =>
    obtain ⟨us, e, ha⟩ := h
    refine ⟨us, e, All2.imp (fun x v hx => ?_) ha⟩
    cases x with
    | none => exact hx
    | some h => obtain ⟨b, h1, h2⟩ := hx; exact ⟨b, hg _ _ h1, h2⟩
  case fn => exact h
  case slf =>
    rcases h with h | ⟨b, h1, h2⟩
    · exact .inl h
    · exact .inr ⟨b, hg _ _ h1, h2⟩
  case nn κ x => exact ⟨h.1, K.Rd_mono hR (.list κ) x _ h.2⟩
  case nl => exact h
  case pel => obtain ⟨b, h1, h2⟩ := h; exact ⟨b, hg _ _ h1, h2⟩
  case ndf => obtain ⟨b, h1, h2⟩ := h; exact ⟨b, hR.nd _ _ _ h1, h2⟩
  case psub => obtain ⟨b, c, h1, h2⟩ := h; exact ⟨b, c, hg _ _ h1, h2⟩
  case ful κ x => exact ⟨h.1, K.Rd_mono hR (.list κ) x _ h.2⟩
  case oel =>
    rcases h with h | ⟨h0, b, n, c, h1, h2⟩
    · exact .inl h
    · exact .inr ⟨h0, b, n, c, hg _ _ h1, h2⟩
theorem CVRel.renm {f : Nat → Nat} (hg : ∀ h v, g h = some v → g' (f h) = some v) {c : CV} {v : Value} (h : CVRel E R g c v) : CVRel E R g' (c.ren f) v := by
  cases c <;> simp only [CVRel, CV.ren] at h ⊢
  case dat κ x => exact h
  case nilp => exact h
  case nils => exact h
  case nilm => exact h
  case ptr => obtain ⟨b, h1, h2⟩ := h; exact ⟨b, hg _ _ h1, h2⟩
  case elt => obtain ⟨b, n, c, h1, h2⟩ := h; exact ⟨b, n, c, hg _ _ h1, h2⟩
  case roA κ x => exact h
  case own => exact ⟨hg _ _ h.1, h.2⟩
  case sub =>
    obtain ⟨A, c, h1, hl, h2⟩ := h
    refine ⟨A, c, h1, hl, fun hn => ?_⟩
    obtain ⟨b, m, cp, h3, h4⟩ := h2 hn
    exact ⟨b, m, cp, hg _ _ h3, h4⟩
  case clo =>
    obtain ⟨us, e, ha⟩ := h
    refine ⟨us, e, All2.map1 (All2.imp (fun x v hx => ?_) ha)⟩
    cases x with
    | none => exact hx
    | some h => obtain ⟨b, h1, h2⟩ := hx; exact ⟨b, hg _ _ h1, h2⟩
  case fn => exact h
  case slf =>
    rcases h with h | ⟨b, h1, h2⟩
    · exact .inl h
    · exact .inr ⟨b, hg _ _ h1, h2⟩
  case nn κ x => exact h
  case nl => exact h
  case pel => obtain ⟨b, h1, h2⟩ := h; exact ⟨b, hg _ _ h1, h2⟩
  case ndf => exact h
  case psub => obtain ⟨b, c, h1, h2⟩ := h; exact ⟨b, c, hg _ _ h1, h2⟩
  case ful => exact h
  case oel =>
    rcases h with h | ⟨h0, b, n, c, h1, h2⟩
    · exact .inl h
    · exact .inr ⟨h0, b, n, c, hg _ _ h1, h2⟩
theorem All2.renm {f : Nat → Nat} (hg : ∀ h v, g h = some v → g' (f h) = some v) {cs : List CV} {vs : List Value} (h : All2 (CVRel E R g) cs vs) : All2 (CVRel E R g') (cs.map (·.ren f)) vs :=
  All2.map1 (All2.imp (fun _ _ x => CVRel.renm hg x) h)
theorem All2.cv_mono (hR : R.le R') (hg : g.le g') {cs : List CV} {vs : List Value} (h : All2 (CVRel E R g) cs vs) : All2 (CVRel E R' g') cs vs := All2.imp (fun _ _ x => CVRel.mono hR hg x) h
theorem All2.cv_one {cs : List CV} {vs : List Value} (h : All2 (CVRel E R g) cs vs) : ∀ v ∈ vs, v.oneCell' = true := by
  induction h with
  | nil => simp
  | cons hx _ ih =>
    intro v hv
    rcases List.mem_cons.1 hv with rfl | hv
    · exact hx.one
    · exact ih v hv
/-- cells in parts. -/
inductive SegsRel (E : TypeId) (R : Part) (g : Gh) : List Seg → List Value → Prop
  | nil : SegsRel E R g [] []
  | one {c : CV} {v : Value} {ss : List Seg} {vs : List Value} : CVRel E R g c v → SegsRel E R g ss vs → SegsRel E R g (.one c :: ss) (v :: vs)
  | blk {κ : K} {x : κ.T} {cs : List Value} {ss : List Seg} {vs : List Value} : κ.Rd E R x cs → SegsRel E R g ss vs → SegsRel E R g (.blk κ x :: ss) (cs ++ vs)
namespace SegsRel
theorem mono (hR : R.le R') (hg : g.le g') {ss : List Seg} {vs : List Value} (h : SegsRel E R g ss vs) : SegsRel E R' g' ss vs := by
  induction h with
  | nil => exact .nil
  | one h _ ih => exact .one (h.mono hR hg) ih
  | blk h _ ih => exact .blk (K.Rd_mono hR _ _ _ h) ih
theorem renm {f : Nat → Nat} (hg : ∀ h v, g h = some v → g' (f h) = some v) {ss : List Seg} {vs : List Value} (h : SegsRel E R g ss vs) : SegsRel E R g' (ss.map (·.ren f)) vs := by
  induction h with
  | nil => exact .nil
  | one h _ ih => exact .one (h.renm hg) ih
  | blk h _ ih => exact .blk h ih
theorem len {ss : List Seg} {vs : List Value} (h : SegsRel E R g ss vs) : vs.length = sizeS ss := by
  induction h with
  | nil => rfl
  | one h _ ih => simp [sizeS, Seg.size, ih]; omega
  | blk h _ ih => simp [sizeS, Seg.size, ih, K.Rd_len _ _ _ h]
theorem oneC {ss : List Seg} {vs : List Value} (h : SegsRel E R g ss vs) : ∀ v ∈ vs, v.oneCell' = true := by
  induction h with
  | nil => simp
  | one h _ ih =>
    intro v hv
    rcases List.mem_cons.1 hv with rfl | hv
    · exact h.one
    · exact ih v hv
  | blk h _ ih =>
    intro v hv
    rcases List.mem_append.1 hv with hv | hv
    · exact K.Rd_one _ _ _ h v hv
    · exact ih v hv
theorem app {ss ss' : List Seg} {vs vs' : List Value} (h : SegsRel E R g ss vs) (h' : SegsRel E R g ss' vs') : SegsRel E R g (ss ++ ss') (vs ++ vs') := by
  induction h with
  | nil => exact h'
  | one h _ ih => exact .one h ih
  | blk h _ ih => rw [List.append_assoc]; exact .blk h ih
theorem ofOnes {cs : List CV} {vs : List Value} (h : All2 (CVRel E R g) cs vs) : SegsRel E R g (cs.map .one) vs := by
  induction h with
  | nil => exact .nil
  | cons h _ ih => exact .one h ih
theorem ones : ∀ {ss : List Seg} {vs : List Value} {cs : List CV}, SegsRel E R g ss vs → onesS ss = some cs → All2 (CVRel E R g) cs vs := by
  intro ss vs cs h
  induction h generalizing cs with
  | nil => intro e; simp [onesS] at e; subst e; exact .nil
  | one h _ ih =>
    intro e
    simp only [onesS, Option.map_eq_some_iff] at e
    obtain ⟨cs', e, rfl⟩ := e
    exact .cons h (ih e)
  | blk h _ ih => intro e; simp [onesS] at e
theorem cut : ∀ {ss : List Seg} {vs : List Value} {n : Nat} {p : List Seg × List Seg}, SegsRel E R g ss vs → cutS n ss = some p → SegsRel E R g p.1 (vs.take n) ∧ SegsRel E R g p.2 (vs.drop n) ∧ n ≤ vs.length := by
  intro ss vs n p h
  induction h generalizing n p with
  | nil =>
    intro e
    cases n with
    | zero => simp [cutS] at e; subst e; exact ⟨.nil, .nil, Nat.le_refl _⟩
    | succ n => simp [cutS] at e
  | one h hr ih =>
    intro e
    cases n with
    | zero => simp [cutS] at e; subst e; exact ⟨.nil, .one h hr, Nat.zero_le _⟩
    | succ n =>
      simp only [cutS] at e
      rw [if_pos (show (Seg.one _).size ≤ n + 1 from Nat.succ_le_succ (Nat.zero_le n)), Option.map_eq_some_iff] at e
      obtain ⟨q, e, rfl⟩ := e
      obtain ⟨h1, h2, h3⟩ := ih e
      change SegsRel E R g q.1 (List.take n _) at h1
      change SegsRel E R g q.2 (List.drop n _) at h2
      change n ≤ _ at h3
      refine ⟨?_, ?_, by simp; omega⟩
      · rw [List.take_succ_cons]; exact .one h h1
      · rw [List.drop_succ_cons]; exact h2
  | @blk κ x cs ss vs h hr ih =>
    intro e
    cases n with
    | zero => simp [cutS] at e; subst e; exact ⟨.nil, .blk h hr, Nat.zero_le _⟩
    | succ n =>
      simp only [cutS] at e
      split at e
      · rename_i hle
        rw [Option.map_eq_some_iff] at e
        obtain ⟨q, e, rfl⟩ := e
        obtain ⟨h1, h2, h3⟩ := ih e
        have hl := K.Rd_len _ _ _ h
        change SegsRel E R g q.1 (List.take (n + 1 - κ.sz) _) at h1
        change SegsRel E R g q.2 (List.drop (n + 1 - κ.sz) _) at h2
        change n + 1 - κ.sz ≤ _ at h3
        change κ.sz ≤ n + 1 at hle
        refine ⟨?_, ?_, by simp; omega⟩
        · rw [List.take_append, List.take_of_length_le (by omega), hl]; exact .blk h h1
        · rw [List.drop_append, List.drop_eq_nil_of_le (by omega), List.nil_append, hl]; exact h2
      · cases e
theorem mid {ss : List Seg} {vs : List Value} {off n : Nat} {p : List Seg × List Seg × List Seg} (h : SegsRel E R g ss vs) (e : midS off n ss = some p) :
    SegsRel E R g p.1 (vs.take off) ∧ SegsRel E R g p.2.1 ((vs.drop off).take n) ∧ SegsRel E R g p.2.2 (vs.drop (off + n)) ∧ off + n ≤ vs.length := by
  unfold midS at e
  simp only [Option.bind_eq_some_iff, Option.map_eq_some_iff] at e
  obtain ⟨q, e1, q', e2, rfl⟩ := e
  obtain ⟨h1, h2, h3⟩ := h.cut e1
  obtain ⟨h4, h5, h6⟩ := h2.cut e2
  rw [List.drop_drop] at h5
  rw [List.length_drop] at h6
  exact ⟨h1, h4, h5, by omega⟩
end SegsRel
/-- a value: one cell, or a struct's cells. -/
def RVRel (E : TypeId) (R : Part) (g : Gh) : RV → Value → Prop
  | .c x, v => CVRel E R g x v
  | .a cs, v => ∃ vs : List Value, v = .agg vs.toArray ∧ All2 (CVRel E R g) cs vs
  | .sg ss, v => ∃ vs : List Value, v = .agg vs.toArray ∧ SegsRel E R g ss vs
def SVRel (E : TypeId) (R : Part) (g : Gh) : SV → Value → Prop
  | .r x, v => RVRel E R g x v
  | .t xs, v => ∃ vs : List Value, v = .tuple vs.toArray ∧ All2 (RVRel E R g) xs vs
  | .u, v => v = undef
theorem RVRel.mono (hR : R.le R') (hg : g.le g') {c : RV} {v : Value} (h : RVRel E R g c v) : RVRel E R' g' c v := by
  cases c with
  | c x => exact CVRel.mono hR hg h
  | a cs => obtain ⟨vs, e, h⟩ := h; exact ⟨vs, e, h.cv_mono hR hg⟩
  | sg ss => obtain ⟨vs, e, h⟩ := h; exact ⟨vs, e, h.mono hR hg⟩
theorem SVRel.mono (hR : R.le R') (hg : g.le g') {c : SV} {v : Value} (h : SVRel E R g c v) : SVRel E R' g' c v := by
  cases c with
  | r x => exact RVRel.mono hR hg h
  | t cs => obtain ⟨vs, e, h⟩ := h; exact ⟨vs, e, All2.imp (fun _ _ x => RVRel.mono hR hg x) h⟩
  | u => exact h
theorem RVRel.renm {f : Nat → Nat} (hg : ∀ h v, g h = some v → g' (f h) = some v) {c : RV} {v : Value} (h : RVRel E R g c v) : RVRel E R g' (c.ren f) v := by
  cases c with
  | c x => exact CVRel.renm hg h
  | a cs => obtain ⟨vs, e, h⟩ := h; exact ⟨vs, e, h.renm hg⟩
  | sg ss => obtain ⟨vs, e, h⟩ := h; exact ⟨vs, e, h.renm hg⟩
theorem isV_false {c : RV} (h : isV c = false) : (∃ x, c = .c x) ∨ ∃ cs, c = .a cs := by
  cases c with
  | c x => exact .inl ⟨x, rfl⟩
  | a cs => exact .inr ⟨cs, rfl⟩
  | sg => cases h
/-- the cells of a value. -/
theorem explode_rel : ∀ (κ : K) (x : κ.T) (cs : List Value), κ.Rd E R x cs → All2 (CVRel E R g) (explode κ x) cs
  | .int k, x, cs, h => by obtain ⟨rfl, hb⟩ := h; exact .cons ⟨rfl, hb⟩ .nil
  | .bool, x, cs, h => by obtain rfl := h; exact .cons rfl .nil
  | .str, x, cs, h => by obtain ⟨s, rfl, hb⟩ := h; exact .cons ⟨s, rfl, hb⟩ .nil
  | .err, x, cs, h => by
    have hh : ∃ v, cs = [v] := by rcases h with ⟨_, rfl⟩ | ⟨_, _, rfl⟩ <;> exact ⟨_, rfl⟩
    obtain ⟨v, rfl⟩ := hh
    exact .cons h .nil
  | .unit, x, cs, h => by obtain rfl := h; exact .nil
  | .pair a b, x, cs, h => by
    obtain ⟨c1, c2, rfl, h1, h2⟩ := h
    exact All2.app (explode_rel a _ _ h1) (explode_rel b _ _ h2)
  | .list a, x, cs, h => by
    have hh : ∃ v, cs = [v] := by obtain ⟨A, c, rfl, _⟩ := h; exact ⟨_, rfl⟩
    obtain ⟨v, rfl⟩ := hh
    exact .cons h .nil
  | .js, x, cs, h => by
    obtain ⟨c1, c2, c3, c4, c5, c6, c7, rfl, h1, h2, h3, h4, h5, h6, h7⟩ := js_rd.1 h
    exact .cons h1 (.cons h2 (.cons h3 (.cons h4 (.cons h5 (.cons h6 (.cons h7 .nil))))))
  | .nd p, x, cs, h => by
    have hh : ∃ v, cs = [v] := by rcases h with ⟨_, rfl⟩ | ⟨_, b, _, rfl⟩ <;> exact ⟨_, rfl⟩
    obtain ⟨v, rfl⟩ := hh
    exact .cons h .nil
  | .arr n a, xs, cs, h => by
    obtain ⟨h1, h2, _, h3⟩ := h
    have key : ∀ (xs : List a.T) (cs : List Value), cs.length = xs.length * a.sz → (∀ (j : Nat) (x : a.T), xs[j]? = some x → a.Rd E R x ((cs.drop (j * a.sz)).take a.sz)) → All2 (CVRel E R g) (xs.flatMap fun y => explode a y) cs := by
      intro xs
      induction xs with
      | nil => intro cs hl _; simp at hl; subst hl; exact .nil
      | cons y xs ih =>
        intro cs hl hx
        rw [List.flatMap_cons]
        have hy := hx 0 y (by simp)
        rw [Nat.zero_mul, List.drop_zero] at hy
        have e : cs = cs.take a.sz ++ cs.drop a.sz := (List.take_append_drop _ _).symm
        rw [e]
        refine All2.app (explode_rel a y _ hy) (ih _ ?_ fun j x hj => ?_)
        · rw [List.length_drop, hl, List.length_cons, Nat.add_mul, Nat.one_mul]; omega
        · have := hx (j + 1) x (by simpa using hj)
          rw [List.drop_drop]
          rw [Nat.add_mul, Nat.one_mul, Nat.add_comm] at this
          exact this
    exact key xs cs (by rw [h2, ← h1]) h3
theorem Seg_cells {ss : List Seg} {vs : List Value} (h : SegsRel E R g ss vs) : All2 (CVRel E R g) (ss.flatMap Seg.cells) vs := by
  induction h with
  | nil => exact .nil
  | one h _ ih => rw [List.flatMap_cons]; exact .cons h ih
  | blk h _ ih => rw [List.flatMap_cons]; exact All2.app (explode_rel _ _ _ h) ih
theorem RVRel.cells {c : RV} {v : Value} (h : RVRel E R g c v) : All2 (CVRel E R g) c.cells v.cells.toList := by
  cases c with
  | c x =>
    have h1 := CVRel.one h
    cases v <;> first
      | (simp [Value.oneCell'] at h1; done)
      | (simp only [RV.cells, Value.cells]; exact .cons h .nil)
  | a cs => obtain ⟨vs, rfl, h⟩ := h; simpa [RV.cells, Value.cells] using h
  | sg ss => obtain ⟨vs, rfl, h⟩ := h; simpa [RV.cells, Value.cells] using Seg_cells h
theorem RVRel.segs {c : RV} {v : Value} (h : RVRel E R g c v) : SegsRel E R g c.segs v.cells.toList := by
  cases c with
  | c x => simpa [RV.segs, RV.cells] using SegsRel.ofOnes (RVRel.cells (c := .c x) h)
  | a cs => simpa [RV.segs, RV.cells] using SegsRel.ofOnes (RVRel.cells (c := .a cs) h)
  | sg ss => obtain ⟨vs, rfl, h⟩ := h; simpa [RV.segs, Value.cells] using h
theorem explodeS_rel : ∀ (κ : K) (x : κ.T) (cs : List Value), κ.Rd E R x cs → SegsRel E R g (explodeS κ x) cs
  | .pair a b, x, cs, h => by
    obtain ⟨c1, c2, rfl, h1, h2⟩ := h
    exact SegsRel.app (explodeS_rel a _ _ h1) (explodeS_rel b _ _ h2)
  | .arr n a, x, cs, h => by
    have := SegsRel.blk (g := g) h .nil
    rwa [List.append_nil] at this
  | .int k, x, cs, h => SegsRel.ofOnes (explode_rel (.int k) x cs h)
  | .bool, x, cs, h => SegsRel.ofOnes (explode_rel .bool x cs h)
  | .nd p, x, cs, h => SegsRel.ofOnes (explode_rel (.nd p) x cs h)
  | .js, x, cs, h => SegsRel.ofOnes (explode_rel .js x cs h)
  | .str, x, cs, h => SegsRel.ofOnes (explode_rel .str x cs h)
  | .err, x, cs, h => SegsRel.ofOnes (explode_rel .err x cs h)
  | .unit, x, cs, h => SegsRel.ofOnes (explode_rel .unit x cs h)
  | .list a, x, cs, h => SegsRel.ofOnes (explode_rel (.list a) x cs h)
theorem aggS_rel {ss : List Seg} {vs : List Value} (h : SegsRel E R g ss vs) : RVRel E R g (aggS ss) (.agg vs.toArray) := by
  unfold aggS
  split
  · rename_i cs e
    exact ⟨vs, rfl, h.ones e⟩
  · exact ⟨vs, rfl, h⟩
end

/-! ### objects -/
def Unf (fr : Nat × Nat) (n : Nat) : Prop := fr.1 = fr.2 ∨ n ≤ fr.1
theorem Unf.at {fr : Nat × Nat} {n : Nat} (h : Unf fr n) (o : Nat) (ho : o < n) : (decide (fr.1 ≤ o) && decide (o < fr.2)) = false := by
  rcases h with h | h
  · rw [← h]
    by_cases c : fr.1 ≤ o
    · simp [c]; try omega
    · simp [c]
  · simp; omega
def blk : Value → Option Nat
  | .pointer (some a) => some a.block
  | .slice (some a) _ _ => some a.block
  | .map r => r
  | _ => none
/-- the blocks that are an object's. -/
def own (R : Part) (v : Value) (b : Nat) : Prop := blk v = some b ∨ ∃ (p j : Nat), v = .int .i64 (p : Int) ∧ R.nd p j b
theorem own_ptr {R : Part} {A : Option Addr} {b : Nat} (h : own R (.pointer A) b) : blk (.pointer A) = some b := h.elim id (fun ⟨_, _, e, _⟩ => nomatch e)
theorem own_sl {R : Part} {A : Option Addr} {n c b : Nat} (h : own R (.slice A n c) b) : blk (.slice A n c) = some b := h.elim id (fun ⟨_, _, e, _⟩ => nomatch e)
def RowRd (E : TypeId) (R : Part) (κ : K) (xs : List κ.T) (cells : List Value) : Prop := ∀ (j : Nat) (x : κ.T), xs[j]? = some x → κ.Rd E R x ((cells.drop (j * κ.sz)).take κ.sz)
/-- the nodes of a pool: so many, each in a block of its own. -/
def PoolOk (R : Part) (h n : Nat) : Prop := ∀ j b, R.nd h j b → j < n ∧ ∀ j' b', R.nd h j' b' → (j = j' ↔ b = b')
/-- a value that is not spread out in cells: a key or an element of a map. -/
def KV (E : TypeId) (R : Part) (κ : K) (x : κ.T) (v : Value) : Prop := κ.Rd E R x v.cells.toList ∧ (κ.agg = false → v.oneCell' = true) ∧ (κ.agg = true → ∃ a, v = .agg a)
theorem KV.mono {E : TypeId} {R R' : Part} (hR : R.le R') {κ : K} {x : κ.T} {v : Value} (h : KV E R κ x v) : KV E R' κ x v := ⟨K.Rd_mono hR κ x _ h.1, h.2⟩
def EntRel (E : TypeId) (R : Part) (g : Gh) (w : World) : Ent → Value → Prop
  | .cells ty cs, v => ∃ b arr fr, v = .pointer (some ⟨b, 0, none⟩) ∧ w.heap[b]? = some (.cells arr ty fr) ∧ Unf fr arr.size ∧ All2 (CVRel E R g) cs arr.toList
  | .row ety κ xs, v => (v = .slice none 0 0 ∧ xs = []) ∨
      ∃ b c arr fr, v = .slice (some ⟨b, 0, none⟩) xs.length c ∧ w.heap[b]? = some (.cells arr ety fr) ∧ Unf fr arr.size ∧ xs.length ≤ c ∧ c * κ.sz ≤ arr.size ∧ xs.length ≤ lim ∧ arr.toList.all Value.oneCell' = true ∧ RowRd E R κ xs arr.toList
  | .segs ty ss, v => ∃ b arr fr, v = .pointer (some ⟨b, 0, none⟩) ∧ w.heap[b]? = some (.cells arr ty fr) ∧ Unf fr arr.size ∧ SegsRel E R g ss arr.toList
  | .it s pos, v => ∃ b bs, v = .pointer (some ⟨b, 0, none⟩) ∧ w.heap[b]? = some (.stringIter bs pos) ∧ s = bytesL bs ∧ bs.size ≤ lim
  | .mp κk κv l, v => ∃ b es clk, v = .map (some b) ∧ w.heap[b]? = some (.map es clk) ∧ All2 (fun (p : κk.T × κv.T) (e : MapEntry) => KV E R κk p.1 e.key ∧ KV E R κv p.2 e.val) l es.toList
  | .pool ty κ xs, v => ∃ p : Nat, v = .int .i64 (p : Int) ∧ ∀ (j : Nat) (x : κ.T), xs[j]? = some x → ∃ b arr fr, R.nd p j b ∧ w.heap[b]? = some (.cells arr ty fr) ∧ Unf fr arr.size ∧ κ.Rd E R x arr.toList
section
variable {E : TypeId} {R R' : Part} {g g' : Gh} {w w' : World}
theorem EntRel.mono (hR : R.le R') (hg : g.le g') {e : Ent} {v : Value} (hb : ∀ b, own R v b → w'.heap[b]? = w.heap[b]?) (h : EntRel E R g w e v) : EntRel E R' g' w' e v := by
  cases e with
  | cells ty cs =>
    obtain ⟨b, arr, fr, rfl, h1, h2, h3⟩ := h
    exact ⟨b, arr, fr, rfl, (hb b (.inl rfl)).trans h1, h2, h3.cv_mono hR hg⟩
  | segs ty cs =>
    obtain ⟨b, arr, fr, rfl, h1, h2, h3⟩ := h
    exact ⟨b, arr, fr, rfl, (hb b (.inl rfl)).trans h1, h2, h3.mono hR hg⟩
  | it s pos =>
    obtain ⟨b, bs, rfl, h1, h2⟩ := h
    exact ⟨b, bs, rfl, (hb b (.inl rfl)).trans h1, h2⟩
  | mp κk κv l =>
    obtain ⟨b, es, clk, rfl, h1, h2⟩ := h
    exact ⟨b, es, clk, rfl, (hb b (.inl rfl)).trans h1, h2.imp fun _ _ h => ⟨h.1.mono hR, h.2.mono hR⟩⟩
  | row ety κ xs =>
    rcases h with h | ⟨b, c, arr, fr, rfl, h1, h2, h3, h4, h5, h6, h7⟩
    · exact .inl h
    · exact .inr ⟨b, c, arr, fr, rfl, (hb b (.inl rfl)).trans h1, h2, h3, h4, h5, h6, fun j x hx => K.Rd_mono hR κ x _ (h7 j x hx)⟩
  | pool ty κ xs =>
    obtain ⟨p, rfl, h1⟩ := h
    refine ⟨p, rfl, fun j x hx => ?_⟩
    obtain ⟨b, arr, fr, h2, h3, h4, h5⟩ := h1 j x hx
    exact ⟨b, arr, fr, hR.nd _ _ _ h2, (hb b (.inr ⟨p, j, rfl, h2⟩)).trans h3, h4, K.Rd_mono hR κ x _ h5⟩
theorem EntRel.renm {f : Nat → Nat} (hg : ∀ h v, g h = some v → g' (f h) = some v) {e : Ent} {v : Value} (h : EntRel E R g w e v) : EntRel E R g' w (e.ren f) v := by
  cases e with
  | cells ty cs =>
    obtain ⟨b, arr, fr, rfl, h1, h2, h3⟩ := h
    exact ⟨b, arr, fr, rfl, h1, h2, h3.renm hg⟩
  | segs ty cs =>
    obtain ⟨b, arr, fr, rfl, h1, h2, h3⟩ := h
    exact ⟨b, arr, fr, rfl, h1, h2, h3.renm hg⟩
  | mp κk κv l => exact h
  | it s pos => exact h
  | row ety κ xs => exact h
  | pool ty κ xs => exact h
theorem EntRel.lt {e : Ent} {v : Value} (h : EntRel E R g w e v) {b : Nat} (hb : blk v = some b) : b < w.heap.size := by
  cases e with
  | it s pos =>
    obtain ⟨b', bs, rfl, h1, h2⟩ := h
    injection hb with hb
    subst hb
    exact (Array.getElem?_eq_some_iff.1 h1).1
  | mp κk κv l =>
    obtain ⟨b', es, clk, rfl, h1, h2⟩ := h
    injection hb with hb
    subst hb
    exact (Array.getElem?_eq_some_iff.1 h1).1
  | segs ty cs =>
    obtain ⟨b', arr, fr, rfl, h1, h2, h3⟩ := h
    injection hb with hb
    subst hb
    exact (Array.getElem?_eq_some_iff.1 h1).1
  | cells ty cs =>
    obtain ⟨b', arr, fr, rfl, h1, h2, h3⟩ := h
    injection hb with hb
    subst hb
    exact (Array.getElem?_eq_some_iff.1 h1).1
  | row ety κ xs =>
    rcases h with ⟨rfl, _⟩ | ⟨b', c, arr, fr, rfl, h1, h2⟩
    · cases hb
    · injection hb with hb
      subst hb
      exact (Array.getElem?_eq_some_iff.1 h1).1
  | pool ty κ xs => obtain ⟨p, rfl, _⟩ := h; cases hb
theorem EntRel.own {e : Ent} {v : Value} (h : EntRel E R g w e v) (hp : e.isPool = false) {b : Nat} (hb : Sx.own R' v b) : blk v = some b := by
  rcases hb with hb | ⟨p, j, rfl, _⟩
  · exact hb
  · exfalso
    cases e with
    | cells ty cs => obtain ⟨b', arr, fr, h, _⟩ := h; cases h
    | segs ty cs => obtain ⟨b', arr, fr, h, _⟩ := h; cases h
    | mp κk κv l => obtain ⟨b', es, clk, h, _⟩ := h; cases h
    | it s pos => obtain ⟨b', bs, h, _⟩ := h; cases h
    | row ety κ xs => rcases h with ⟨h, _⟩ | ⟨b', c, arr, fr, h, _⟩ <;> cases h
    | pool ty κ xs => cases hp
theorem EntRel.one {e : Ent} {v : Value} (h : EntRel E R g w e v) : v.oneCell' = true := by
  cases e with
  | cells ty cs => obtain ⟨b', arr, fr, rfl, _⟩ := h; rfl
  | segs ty cs => obtain ⟨b', arr, fr, rfl, _⟩ := h; rfl
  | mp κk κv l => obtain ⟨b', es, clk, rfl, _⟩ := h; rfl
  | it s pos => obtain ⟨b', bs, rfl, _⟩ := h; rfl
  | row ety κ xs => rcases h with ⟨rfl, _⟩ | ⟨b', c, arr, fr, rfl, _⟩ <;> rfl
  | pool ty κ xs => obtain ⟨p, rfl, _⟩ := h; rfl
/-- a row whose block is read only from now on: what it reads. -/
theorem EntRel.reads {ety : TypeId} {κ : K} {xs : List κ.T} {v : Value} (h : EntRel E R g w (.row ety κ xs) v) (hR : R.le R') (hb : ∀ b o, blk v = some b → w.heap[b]? = some o → R' b = some o) : (K.list κ).Rd E R' xs [v] := by
  rcases h with ⟨rfl, rfl⟩ | ⟨b, c, arr, fr, rfl, h1, h2, h3, h4, h5, h6, h7⟩
  · exact ⟨none, 0, rfl, ⟨by simp [lim], by simp⟩, fun h => absurd rfl h⟩
  · refine ⟨some ⟨b, 0, none⟩, c, rfl, ⟨h5, h3⟩, fun _ => ⟨b, 0, arr, ety, fr, rfl, hb b _ rfl h1, fun j x hx => ?_⟩⟩
    rw [Nat.zero_add]
    exact K.Rd_mono hR κ x _ (h7 j x hx)
end

/-! ### the whole -/
structure Ctx where
  P : Program
  E : TypeId
  N : Nat
  W0 : World
  R0 : Part
  S0 : Nat → Prop
  g0 : Gh
  L : Part → Prop
  gl : Nat → Option CV
  PL : Nat → Prop                    -- the pools that were handed in
  lay : ∀ R : Part, R0.le R → L R
  hsub : ∀ b o, R0 b = some o → W0.heap[b]? = some o
  hS0 : ∀ b o, R0 b = some o → ¬ S0 b
def Ctx.mine (C : Ctx) (b : Nat) : Prop := C.W0.heap.size ≤ b ∨ C.S0 b
/-- what was there before and is not the call's own is as it was. -/
structure Kept (C : Ctx) (w : World) : Prop where
  os : w.os = C.W0.os
  tape : w.tape = C.W0.tape
  output : w.output = C.W0.output
  size : C.W0.heap.size ≤ w.heap.size
  block : ∀ b, b < C.W0.heap.size → ¬ C.S0 b → w.heap[b]? = C.W0.heap[b]?
structure Inv (C : Ctx) (R : Part) (g : Gh) (en : Nat → EnS) (w : World) : Prop where
  sub : ∀ b o, R b = some o → w.heap[b]? = some o
  live : ∀ h e, en h = .live e → ∃ v, g h = some v ∧ EntRel C.E R g w e v
  ro : ∀ h κ xs, en h = .ro κ xs → ∃ v, g h = some v ∧ (K.list κ).Rd C.E R xs [v]
  free : ∀ h, en h = .free → 500 ≤ h ∧ g h = none
  mine : ∀ h e v b, en h = .live e → g h = some v → own R v b → R b = none ∧ C.mine b
  sep : ∀ h h' e e' v v' b, h ≠ h' → en h = .live e → en h' = .live e' → g h = some v → g h' = some v' → own R v b → own R v' b → False
  newR : ∀ b o, R b = some o → C.R0 b = some o ∨ C.mine b
  kept : Kept C w
  keep : ∀ h v, h < 500 → g h = some v → C.g0 h = some v
  pl : ∀ h ty κ xs, en h = .live (.pool ty κ xs) → g h = some (.int .i64 (h : Int)) ∧ C.PL h ∧ PoolOk R h xs.length
  oldN : ∀ p j b, C.R0.nd p j b → R.nd p j b
  newN : ∀ p j b, R.nd p j b → C.R0.nd p j b ∨ C.PL p
theorem Inv.own_lt {C : Ctx} {R : Part} {g : Gh} {en : Nat → EnS} {w : World} (hi : Inv C R g en w) {h : Nat} {e : Ent} {v : Value} {b : Nat} (hl : en h = .live e) (hg : g h = some v) (hb : own R v b) : b < w.heap.size := by
  obtain ⟨u, hu, hr⟩ := hi.live h e hl
  rw [hg] at hu
  injection hu with hu
  subst hu
  cases hp : e.isPool with
  | false => exact hr.lt (hr.own hp hb)
  | true =>
    cases e with
    | pool ty κ xs =>
      obtain ⟨h1, _, h2⟩ := hi.pl h ty κ xs hl
      rw [hg] at h1
      injection h1 with h1
      subst h1
      rcases hb with hb | ⟨p, j, e1, hn⟩
      · cases hb
      · obtain ⟨p', e2, h3⟩ := hr
        injection e1 with _ e1
        injection e2 with _ e2
        obtain rfl : h = p := by omega
        obtain rfl : h = p' := by omega
        obtain ⟨hj, hf⟩ := h2 j b hn
        obtain ⟨b', arr, fr, q1, q2, _⟩ := h3 j _ (List.getElem?_eq_getElem hj)
        obtain rfl := (hf j b' q1).1 rfl
        exact (Array.getElem?_eq_some_iff.1 q2).1
    | cells => cases hp
    | segs => cases hp
    | mp => cases hp
    | it => cases hp
    | row => cases hp
theorem Inv.int_key {C : Ctx} {R : Part} {g : Gh} {en : Nat → EnS} {w : World} (hi : Inv C R g en w) {h p : Nat} {e : Ent} (hl : en h = .live e) (hg : g h = some (.int .i64 (p : Int))) : h = p ∧ ∃ ty κ xs, e = .pool ty κ xs := by
  obtain ⟨u, hu, hr⟩ := hi.live h e hl
  rw [hg] at hu
  injection hu with hu
  subst hu
  cases e with
  | cells ty cs => obtain ⟨b', arr, fr, h, _⟩ := hr; cases h
  | segs ty cs => obtain ⟨b', arr, fr, h, _⟩ := hr; cases h
  | mp κk κv l => obtain ⟨b', es, clk, h, _⟩ := hr; cases h
  | it s pos => obtain ⟨b', bs, h, _⟩ := hr; cases h
  | row ety κ xs => rcases hr with ⟨h, _⟩ | ⟨b', c, arr, fr, h, _⟩ <;> cases h
  | pool ty κ xs =>
    obtain ⟨h1, _⟩ := hi.pl h ty κ xs hl
    rw [hg] at h1
    injection h1 with h1
    injection h1 with _ h1
    exact ⟨by omega, ty, κ, xs, rfl⟩
structure Rel (C : Ctx) (s : VSt) (a : Act) (w : World) (R : Part) (g : Gh) : Prop where
  inv : Inv C R g s.en w
  slots : ∀ t sv, s.sl t = some sv → ∃ v, a.tmps[t]? = some v ∧ SVRel C.E R g sv v
  defers : a.defers = []
  size : a.tmps.size = C.N
  glob : ∀ x c, C.gl x = some c → ∀ g', CVRel C.E R g' c (.pointer (some ⟨x, 0, none⟩))
  gleq : s.gl = C.gl
def RelE (C : Ctx) (s : VSt) (a : Act) (w : World) : Prop := ∃ R g, Rel C s a w R g
/-- what was read only at the start is so still. -/
theorem Rel.more {C : Ctx} {s : VSt} {a : Act} {w : World} {R : Part} {g : Gh} (hr : Rel C s a w R g) : ∃ R', C.R0.le R' ∧ Rel C s a w R' g := by
  have hold : ∀ b o, C.R0 b = some o → b < C.W0.heap.size ∧ w.heap[b]? = some o := fun b o h => by
    have h1 := C.hsub b o h
    have hlt : b < C.W0.heap.size := by
      rcases Nat.lt_or_ge b C.W0.heap.size with h2 | h2
      · exact h2
      · rw [Array.getElem?_eq_none h2] at h1; cases h1
    exact ⟨hlt, (hr.inv.kept.block b hlt (C.hS0 b o h)).trans h1⟩
  let R' : Part := ⟨fun b => match R b with | some o => some o | none => C.R0 b, R.nd⟩
  have hR : R.le R' := ⟨fun b o h => by show (match R b with | some o => some o | none => C.R0 b) = some o; rw [h], fun _ _ _ h => h⟩
  have hcase : ∀ b o, R' b = some o → R b = some o ∨ (R b = none ∧ C.R0 b = some o) := fun b o h => by
    change (match R b with | some o => some o | none => C.R0 b) = some o at h
    cases hb : R b with
    | some o' => rw [hb] at h; exact .inl h
    | none => rw [hb] at h; exact .inr ⟨rfl, h⟩
  refine ⟨R', ⟨fun b o h => ?_, hr.inv.oldN⟩, ⟨⟨fun b o h => ?_, fun h e he => ?_, fun h κ xs he => ?_, hr.inv.free, fun h e v b he hg hb => ?_, hr.inv.sep, fun b o h => ?_, hr.inv.kept, hr.inv.keep, hr.inv.pl, hr.inv.oldN, hr.inv.newN⟩, fun t sv h => ?_, hr.defers, hr.size, fun x c h g' => (hr.glob x c h g').mono hR (Gh.le_refl _), hr.gleq⟩⟩
  · cases hb : R b with
    | some o' =>
      have h1 := hr.inv.sub b o' hb
      rw [(hold b o h).2] at h1
      injection h1 with h1
      subst h1
      exact hR b o hb
    | none => show (match R b with | some o => some o | none => C.R0 b) = some o; rw [hb]; exact h
  · rcases hcase b o h with h | ⟨_, h⟩
    · exact hr.inv.sub b o h
    · exact (hold b o h).2
  · obtain ⟨v, h1, h2⟩ := hr.inv.live h e he
    exact ⟨v, h1, h2.mono hR (Gh.le_refl _) (fun _ _ => rfl)⟩
  · obtain ⟨v, h1, h2⟩ := hr.inv.ro h κ xs he
    exact ⟨v, h1, K.Rd_mono hR (.list κ) xs _ h2⟩
  · obtain ⟨h1, h2⟩ := hr.inv.mine h e v b he hg hb
    refine ⟨?_, h2⟩
    show (match R b with | some o => some o | none => C.R0 b) = none
    rw [h1]
    cases h3 : C.R0 b with
    | none => rfl
    | some o =>
      rcases h2 with h2 | h2
      · have := (hold b o h3).1; omega
      · exact absurd h2 (C.hS0 b o h3)
  · rcases hcase b o h with h | ⟨_, h⟩
    · exact hr.inv.newR b o h
    · exact .inl h
  · obtain ⟨v, h1, h2⟩ := hr.slots t sv h
    exact ⟨v, h1, h2.mono hR (Gh.le_refl _)⟩

theorem upd_same {α : Type} (f : Nat → α) (i : Nat) (v : α) : upd f i v i = v := by simp [upd]
theorem upd_ne {α : Type} (f : Nat → α) {i j : Nat} (v : α) (h : j ≠ i) : upd f i v j = f j := by
  have : Nat.beq j i = false := by
    cases hb : Nat.beq j i with
    | false => rfl
    | true => exact absurd (Nat.eq_of_beq_eq_true hb) h
  simp [upd, this]
theorem upd_eq {α : Type} (f : Nat → α) (i : Nat) (v : α) (j : Nat) : upd f i v j = if j = i then v else f j := by
  by_cases h : j = i
  · subst h; simp [upd_same]
  · simp [upd_ne f v h, h]
def updg (g : Gh) (h : Nat) (v : Value) : Gh := fun j => if j = h then some v else g j
theorem updg_same (g : Gh) (h : Nat) (v : Value) : updg g h v h = some v := by simp [updg]
theorem updg_le {g : Gh} {h : Nat} {v : Value} (hf : (500 ≤ h ∧ g h = none) ∨ g h = some v) : g.le (updg g h v) := by
  intro j u hj
  unfold updg
  split
  · rename_i e
    subst e
    rcases hf with ⟨_, hf⟩ | hf
    · rw [hf] at hj; cases hj
    · rw [hf] at hj; exact hj
  · exact hj

section
variable {C : Ctx} {R R' : Part} {g g' : Gh} {en en' : Nat → EnS} {w w' : World}
/-- less is known of the objects. -/
theorem Inv.less (h : Inv C R g en w) (hl : ∀ i, en' i = en i ∨ en' i = .dead) : Inv C R g en' w := by
  have f : ∀ i e, en' i = e → e ≠ .dead → en i = e := fun i e he hd => by
    rcases hl i with x | x
    · rw [← x]; exact he
    · exact absurd (he.symm.trans x) hd
  refine ⟨h.sub, fun i e x => h.live i e (f i _ x (by simp)), fun i κ xs x => h.ro i κ xs (f i _ x (by simp)), fun i x => h.free i (f i _ x (by simp)), fun i e v b x => h.mine i e v b (f i _ x (by simp)), fun i j e e' v v' b hn x y => h.sep i j e e' v v' b hn (f i _ x (by simp)) (f j _ y (by simp)), h.newR, h.kept, h.keep, fun i ty κ xs x => h.pl i ty κ xs (f i _ x (by simp)), h.oldN, h.newN⟩
/-- the world has been turned where nobody looks: the heap is as it was. -/
theorem Inv.same (h : Inv C R g en w) (h1 : w'.heap = w.heap) (h2 : w'.os = w.os) (h3 : w'.tape = w.tape) (h4 : w'.output = w.output) : Inv C R g en w' := by
  refine ⟨fun b o x => by rw [h1]; exact h.sub b o x, fun i e x => ?_, h.ro, h.free, h.mine, h.sep, h.newR, ⟨h2.trans h.kept.os, h3.trans h.kept.tape, h4.trans h.kept.output, by rw [h1]; exact h.kept.size, fun b hb hs => by rw [h1]; exact h.kept.block b hb hs⟩, h.keep, h.pl, h.oldN, h.newN⟩
  obtain ⟨v, hv, he⟩ := h.live i e x
  exact ⟨v, hv, he.mono (Part.le_refl _) (Gh.le_refl _) (fun b _ => by rw [h1])⟩
/-- An object is put at number h: new, or in the place of what h was. -/
theorem Inv.put (hi : Inv C R g en w) (h : Nat) (e : Ent) (v : Value) (hf : (500 ≤ h ∧ g h = none) ∨ g h = some v) (hsize : w.heap.size ≤ w'.heap.size) (hos : w'.os = w.os) (htape : w'.tape = w.tape) (hout : w'.output = w.output)
    (hsame : ∀ b, b < w.heap.size → blk v ≠ some b → w'.heap[b]? = w.heap[b]?)
    (hb : ∀ b, blk v = some b → R b = none ∧ C.mine b ∧ ∀ j e' u, j ≠ h → en j = .live e' → g j = some u → ¬ own R u b)
    (he : EntRel C.E R (updg g h v) w' e v) (hnp : e.isPool = false := by rfl) : Inv C R (updg g h v) (upd en h (.live e)) w' := by
  have hle := updg_le hf
  have gne : ∀ j, j ≠ h → updg g h v j = g j := fun j hj => by simp [updg, hj]
  have Rlt : ∀ b o, R b = some o → b < w.heap.size := fun b o x => (Array.getElem?_eq_some_iff.1 (hi.sub b o x)).1
  refine ⟨fun b o x => ?_, fun j e' x => ?_, fun j κ xs x => ?_, fun j x => ?_, fun j e' u b x y z => ?_, fun i j e1 e2 v1 v2 b hn x y x' y' z z' => ?_, hi.newR, ?_, fun j u hj hu => ?_, fun j ty κ xs x => ?_, hi.oldN, hi.newN⟩
  · rw [hsame b (Rlt b o x) (fun hv => by rw [(hb b hv).1] at x; cases x)]
    exact hi.sub b o x
  · by_cases hj : j = h
    · subst hj
      rw [upd_same] at x
      injection x with x
      subst x
      exact ⟨v, updg_same _ _ _, he⟩
    · rw [upd_ne _ _ hj] at x
      obtain ⟨u, hu, hr⟩ := hi.live j e' x
      refine ⟨u, by rw [gne j hj]; exact hu, hr.mono (Part.le_refl _) hle (fun b hbu => ?_)⟩
      exact hsame b (hi.own_lt x hu hbu) (fun hv => (hb b hv).2.2 j e' u hj x hu hbu)
  · by_cases hj : j = h
    · subst hj; rw [upd_same] at x; cases x
    · rw [upd_ne _ _ hj] at x
      obtain ⟨u, hu, hr⟩ := hi.ro j κ xs x
      exact ⟨u, by rw [gne j hj]; exact hu, hr⟩
  · by_cases hj : j = h
    · subst hj; rw [upd_same] at x; cases x
    · rw [upd_ne _ _ hj] at x
      rw [gne j hj]; exact hi.free j x
  · by_cases hj : j = h
    · subst hj
      rw [updg_same] at y
      injection y with y
      subst y
      rw [upd_same] at x
      injection x with x
      subst x
      have z' := he.own hnp z
      exact ⟨(hb b z').1, (hb b z').2.1⟩
    · rw [upd_ne _ _ hj] at x
      rw [gne j hj] at y
      exact hi.mine j e' u b x y z
  · by_cases hih : i = h
    · subst hih
      have hjh : j ≠ i := fun e => hn e.symm
      rw [updg_same] at x'
      injection x' with x'
      subst x'
      rw [upd_ne _ _ hjh] at y
      rw [gne j hjh] at y'
      rw [upd_same] at x
      injection x with x
      subst x
      exact (hb b (he.own hnp z)).2.2 j e2 v2 hjh y y' z'
    · rw [upd_ne _ _ hih] at x
      rw [gne i hih] at x'
      by_cases hjh : j = h
      · subst hjh
        rw [updg_same] at y'
        injection y' with y'
        subst y'
        rw [upd_same] at y
        injection y with y
        subst y
        exact (hb b (he.own hnp z')).2.2 i e1 v1 hih x x' z
      · rw [upd_ne _ _ hjh] at y
        rw [gne j hjh] at y'
        exact hi.sep i j e1 e2 v1 v2 b hn x y x' y' z z'
  · refine ⟨hos.trans hi.kept.os, htape.trans hi.kept.tape, hout.trans hi.kept.output, Nat.le_trans hi.kept.size hsize, fun b hlt hs => ?_⟩
    rw [hsame b (Nat.lt_of_lt_of_le hlt hi.kept.size) (fun hv => ?_)]
    · exact hi.kept.block b hlt hs
    · rcases (hb b hv).2.1 with h1 | h1
      · omega
      · exact hs h1
  · by_cases hjh : j = h
    · subst hjh
      rw [updg_same] at hu
      rcases hf with hf | hf
      · omega
      · exact hi.keep j u hj (hf.trans hu)
    · rw [gne j hjh] at hu
      exact hi.keep j u hj hu
  · by_cases hjh : j = h
    · subst hjh
      rw [upd_same] at x
      injection x with x
      subst x
      cases hnp
    · rw [upd_ne _ _ hjh] at x
      rw [gne j hjh]
      exact hi.pl j ty κ xs x
/-- A row is read only from now on. -/
theorem Inv.leak (hi : Inv C R g en w) {h : Nat} {ety : TypeId} {κ : K} {xs : List κ.T} (hl : en h = .live (.row ety κ xs)) : ∃ R', R.le R' ∧ R'.nd = R.nd ∧ Inv C R' g (upd en h (.ro κ xs)) w := by
  obtain ⟨v, hv, he⟩ := hi.live h _ hl
  let R' : Part := ⟨fun b => if blk v = some b then w.heap[b]? else R b, R.nd⟩
  have hle : R.le R' := ⟨fun b o x => by
    show (if blk v = some b then w.heap[b]? else R b) = some o
    split
    · rename_i hb
      rw [(hi.mine h _ v b hl hv (.inl hb)).1] at x
      cases x
    · exact x, fun _ _ _ x => x⟩
  have hin : ∀ b o, blk v = some b → w.heap[b]? = some o → R' b = some o := fun b o hb x => by
    show (if blk v = some b then w.heap[b]? else R b) = some o
    rw [if_pos hb]; exact x
  refine ⟨R', hle, rfl, fun b o x => ?_, fun j e' x => ?_, fun j κ' ys x => ?_, fun j x => ?_, fun j e' u b x y z => ?_, fun i j e1 e2 v1 v2 b hn x y => ?_, fun b o x => ?_, hi.kept, hi.keep, fun j ty κ' ys x => ?_, hi.oldN, hi.newN⟩
  · change (if blk v = some b then w.heap[b]? else R b) = some o at x
    split at x
    · exact x
    · exact hi.sub b o x
  · by_cases hj : j = h
    · subst hj; rw [upd_same] at x; cases x
    · rw [upd_ne _ _ hj] at x
      obtain ⟨u, hu, hr⟩ := hi.live j e' x
      exact ⟨u, hu, hr.mono hle (Gh.le_refl _) (fun _ _ => rfl)⟩
  · by_cases hj : j = h
    · subst hj
      rw [upd_same] at x
      injection x with x1 x2
      subst x1
      obtain rfl := eq_of_heq x2
      exact ⟨v, hv, he.reads hle hin⟩
    · rw [upd_ne _ _ hj] at x
      obtain ⟨u, hu, hr⟩ := hi.ro j κ' ys x
      exact ⟨u, hu, K.Rd_mono hle (.list κ') ys _ hr⟩
  · by_cases hj : j = h
    · subst hj; rw [upd_same] at x; cases x
    · rw [upd_ne _ _ hj] at x
      exact hi.free j x
  · by_cases hj : j = h
    · subst hj; rw [upd_same] at x; cases x
    · rw [upd_ne _ _ hj] at x
      obtain ⟨m1, m2⟩ := hi.mine j e' u b x y z
      refine ⟨?_, m2⟩
      show (if blk v = some b then w.heap[b]? else R b) = none
      rw [if_neg (fun hb => hi.sep j h e' _ u v b hj x hl y hv z (.inl hb))]
      exact m1
  · have hx : i ≠ h := fun e => by subst e; rw [upd_same] at x; cases x
    have hy : j ≠ h := fun e => by subst e; rw [upd_same] at y; cases y
    rw [upd_ne _ _ hx] at x
    rw [upd_ne _ _ hy] at y
    exact hi.sep i j e1 e2 v1 v2 b hn x y
  · change (if blk v = some b then w.heap[b]? else R b) = some o at x
    split at x
    · rename_i hb
      exact .inr (hi.mine h _ v b hl hv (.inl hb)).2
    · exact hi.newR b o x
  · have hj : j ≠ h := fun e => by subst e; rw [upd_same] at x; cases x
    rw [upd_ne _ _ hj] at x
    exact hi.pl j ty κ' ys x
end
end Go.Sx
