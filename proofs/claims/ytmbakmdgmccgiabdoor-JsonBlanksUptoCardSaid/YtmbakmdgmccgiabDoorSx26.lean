/- Part of a proof by a small interpreter on plain values; no condition. -/
import Derived.Test.YtmbakmdgmccgiabDoorSx9
/-! Sx26: maps: a new one, what is at a key, a write. -/
namespace Go.Sx
open Go
set_option autoImplicit false
set_option linter.unusedSimpArgs false
set_option linter.unusedVariables false
theorem ba_eq (s t : ByteArray) : (s == t) = (s.data == t.data) := by
  cases s; cases t; rfl
theorem ba_self (s : ByteArray) : (s == s) = true := by rw [ba_eq]; simp
theorem ba_ne {s t : ByteArray} (h : s ≠ t) : (s == t) = false := by
  rw [ba_eq]
  have : s.data ≠ t.data := fun e => h (by cases s; cases t; simp at e; rw [e])
  simpa using this
theorem all2_set {α β : Type} {r : α → β → Prop} : ∀ {l : List α} {m : List β}, All2 r l m → ∀ (i : Nat) {a : α} {b : β}, r a b → All2 r (l.set i a) (m.set i b)
  | _, _, .nil, _, _, _, _ => .nil
  | _, _, .cons _ ht, 0, _, _, h => .cons h ht
  | _, _, .cons h0 ht, i + 1, _, _, h => .cons h0 (all2_set ht i h)
theorem run_getMap {P : Program} {w : World} {b : Nat} {es : Array MapEntry} {clk : Nat} (h : w.heap[b]? = some (.map es clk)) : (getObj b).run P w = .ok (.map es clk) w := by
  simp only [getObj, Sem.run, h]
theorem run_setMap {P : Program} {w : World} {b : Nat} {es : Array MapEntry} {clk : Nat} (h : w.heap[b]? = some (.map es clk)) (o : Obj) : (setObj b o).run P w = .ok () { w with heap := w.heap.setIfInBounds b o } := by
  simp only [setObj, Sem.run, h]
theorem KV.one {E : TypeId} {R : Part} {κ : K} {x : κ.T} {v : Value} (ha : κ.agg = false) (h : KV E R κ x v) : κ.Rd E R x [v] := by
  have h1 := h.2.1 ha
  have e : v.cells.toList = [v] := by cases v <;> first | rfl | (cases h1; done)
  rw [← e]
  exact h.1
theorem KV.of {E : TypeId} {R : Part} {κ : K} {x : κ.T} {v : Value} (ha : κ.agg = false) (h : κ.Rd E R x [v]) : KV E R κ x v := by
  have h1 := K.Rd_one κ x _ h v (List.mem_singleton.2 rfl)
  have e : v.cells.toList = [v] := by cases v <;> first | rfl | (cases h1; done)
  refine ⟨by rw [e]; exact h, fun _ => h1, fun h2 => by rw [ha] at h2; cases h2⟩
theorem primK_spec {P : Program} {t : TypeId} {κ : K} (h : primK P t κ = true) : κ.agg = false ∧ ∃ d, P.underlying t = some d ∧ ((∃ k, d = .int k ∧ κ = .int k) ∨ (d = .bool ∧ κ = .bool) ∨ (d = .string ∧ κ = .str)) := by
  unfold primK at h
  split at h
  · rename_i k k' hu
    obtain rfl : k = k' := by simpa using h
    exact ⟨rfl, _, hu, .inl ⟨k, rfl, rfl⟩⟩
  · rename_i hu
    exact ⟨rfl, _, hu, .inr (.inl ⟨rfl, rfl⟩)⟩
  · rename_i hu
    exact ⟨rfl, _, hu, .inr (.inr ⟨rfl, rfl⟩)⟩
  · cases h
/-- two keys are held against one another as their plain values are. -/
theorem same_now {E : TypeId} {R : Part} {κ : K} {d : TypeDesc} (hd : (∃ k, d = .int k ∧ κ = .int k) ∨ (d = .bool ∧ κ = .bool) ∨ (d = .string ∧ κ = .str)) {x y : κ.T} {u v : Value} (hx : κ.Rd E R x [u]) (hy : κ.Rd E R y [v]) :
    Instr.sameNow d u v = some (κ.eqb x y) ∧ (κ.eqb x y = true → u = v) := by
  rcases hd with ⟨k, rfl, rfl⟩ | ⟨rfl, rfl⟩ | ⟨rfl, rfl⟩
  · obtain ⟨e1, _⟩ := hx
    obtain ⟨e2, _⟩ := hy
    injection e1 with e1 _
    injection e2 with e2 _
    subst e1 e2
    refine ⟨by simp [Instr.sameNow, K.eqb, eqI], fun h => ?_⟩
    have : (show Int from x) = (show Int from y) := by simpa [K.eqb, eqI] using h
    rw [show x = y from this]
  · injection (show [u] = [Value.bool x] from hx) with e1 _
    injection (show [v] = [Value.bool y] from hy) with e2 _
    subst e1 e2
    refine ⟨by simp [Instr.sameNow, K.eqb, eqB], fun h => ?_⟩
    have : (show Bool from x) = (show Bool from y) := by simpa [K.eqb, eqB] using h
    rw [show x = y from this]
  · obtain ⟨s, e1, rfl, _⟩ := hx
    obtain ⟨s', e2, rfl, _⟩ := hy
    injection e1 with e1 _
    injection e2 with e2 _
    subst e1 e2
    have hiff : (s == s') = (bytesL s == bytesL s') := by
      by_cases h : s = s'
      · subst h; rw [ba_self]; simp
      · rw [ba_ne h, show (bytesL s == bytesL s') = false from by simpa using fun e => h (bytesL_inj e)]
    refine ⟨by simp only [Instr.sameNow, hiff]; rfl, fun h => ?_⟩
    have : bytesL s = bytesL s' := by simpa [K.eqb, eqS] using h
    rw [bytesL_inj this]
theorem find_now {E : TypeId} {R : Part} {κk κv : K} {d : TypeDesc} (hd : (∃ k, d = .int k ∧ κk = .int k) ∨ (d = .bool ∧ κk = .bool) ∨ (d = .string ∧ κk = .str)) (ha : κk.agg = false) {k : κk.T} {u : Value} (hk : κk.Rd E R k [u]) :
    ∀ {l : List (κk.T × κv.T)} {es : List MapEntry}, All2 (fun (p : κk.T × κv.T) (e : MapEntry) => KV E R κk p.1 e.key ∧ KV E R κv p.2 e.val) l es → ∀ i : Nat,
      (Instr.findNow d u es i = some none ∧ mget κk.eqb k l = none ∧ (∀ v, mput κk.eqb k v l = l ++ [(k, v)]) ∧ mdel κk.eqb k l = l) ∨
      ∃ (j : Nat) (p : κk.T × κv.T) (e : MapEntry), Instr.findNow d u es i = some (some (i + j, e.val)) ∧ l[j]? = some p ∧ es[j]? = some e ∧ mget κk.eqb k l = some p.2 ∧ u = e.key ∧ (∀ v, mput κk.eqb k v l = l.set j (k, v)) ∧ mdel κk.eqb k l = l.eraseIdx j
  | _, _, .nil, i => .inl ⟨rfl, rfl, fun _ => rfl, rfl⟩
  | p :: l, e :: es, .cons h hr, i => by
    obtain ⟨h1, h2⟩ := same_now hd hk (h.1.one ha)
    cases hq : κk.eqb k p.1 with
    | true =>
      rw [hq] at h1
      refine .inr ⟨0, p, e, ?_, rfl, rfl, ?_, h2 hq, fun v => ?_, ?_⟩
      · simp only [Instr.findNow, h1, Nat.add_zero]
      · simp only [mget, hq, if_true]
      · simp only [mput, hq, if_true]
        rfl
      · simp only [mdel, hq, if_true]; rfl
    | false =>
      rw [hq] at h1
      rcases find_now hd ha hk hr (i + 1) with ⟨q1, q2, q3, q7⟩ | ⟨j, p', e', q1, q2, q3, q4, q5, q6, q7⟩
      · refine .inl ⟨?_, ?_, fun v => ?_, ?_⟩
        · simp only [Instr.findNow, h1, q1]
        · simp only [mget, hq, Bool.false_eq_true, if_false, q2]
        · simp only [mput, hq, Bool.false_eq_true, if_false, q3]
          rfl
        · simp only [mdel, hq, Bool.false_eq_true, if_false, q7]
      · refine .inr ⟨j + 1, p', e', ?_, by simpa using q2, by simpa using q3, ?_, q5, fun v => ?_, ?_⟩
        · simp only [Instr.findNow, h1, q1]
          rw [show i + 1 + j = i + (j + 1) from by omega]
        · simp only [mget, hq, Bool.false_eq_true, if_false, q4]
        · simp only [mput, hq, Bool.false_eq_true, if_false, q6]
          rfl
        · simp only [mdel, hq, Bool.false_eq_true, if_false, q7]; rfl
theorem check_key {P : Program} {κ : K} {t : TypeId} {d : TypeDesc} (hu : P.underlying t = some d) (hd : (∃ k, d = .int k ∧ κ = .int k) ∨ (d = .bool ∧ κ = .bool) ∨ (d = .string ∧ κ = .str)) (b : Bool) (n : Nat) (v : Value) (w : World) :
    (Instr.checkKey b (n + 1) t v).run P w = .ok () w := by
  unfold Instr.checkKey
  rcases hd with ⟨k, rfl, _⟩ | ⟨rfl, _⟩ | ⟨rfl, _⟩ <;> simp [run_under hu]
theorem sameBits_self {κ : K} {E : TypeId} {R : Part} {d : TypeDesc} (hd : (∃ k, d = .int k ∧ κ = .int k) ∨ (d = .bool ∧ κ = .bool) ∨ (d = .string ∧ κ = .str)) {x : κ.T} {u : Value} (hx : κ.Rd E R x [u]) (n : Nat) : Instr.sameBits n u u = true := by
  rcases hd with ⟨k, rfl, rfl⟩ | ⟨rfl, rfl⟩ | ⟨rfl, rfl⟩
  · obtain ⟨e1, _⟩ := hx
    injection e1 with e1 _
    subst e1
    cases n <;> simp [Instr.sameBits]
  · injection (show [u] = [Value.bool x] from hx) with e1 _
    subst e1
    cases n <;> simp [Instr.sameBits]
  · obtain ⟨s, e1, rfl, _⟩ := hx
    injection e1 with e1 _
    subst e1
    cases n <;> simp [Instr.sameBits, ba_self]
theorem datOf_spec {κ : K} {c : Option CV} {x : κ.T} (h : datOf κ c = some x) : c = some (.dat κ x) := by
  unfold datOf at h
  split at h
  · obtain ⟨rfl, rfl⟩ := K.conv_eq h
    rfl
  · cases h
/-! struct keys -/
theorem prim_cases {P : Program} {t : TypeId} {κ : K} (h : primK P t κ = true) : (∃ k, κ = .int k) ∨ κ = .bool ∨ κ = .str := by
  obtain ⟨_, d, _, ⟨k, _, h⟩ | ⟨_, h⟩ | ⟨_, h⟩⟩ := primK_spec h
  · exact .inl ⟨k, h⟩
  · exact .inr (.inl h)
  · exact .inr (.inr h)
theorem keyOf_prim {κ : K} (h : (∃ k, κ = .int k) ∨ κ = .bool ∨ κ = .str) {cs : List CV} {p : κ.T × List CV} (hp : keyOf κ cs = some p) : cs = .dat κ p.1 :: p.2 := by
  cases cs with
  | nil => rcases h with ⟨k, rfl⟩ | rfl | rfl <;> simp [keyOf] at hp
  | cons c r =>
    have hp' : (datOf κ (some c)).map (fun x => (x, r)) = some p := by rcases h with ⟨k, rfl⟩ | rfl | rfl <;> exact hp
    rw [Option.map_eq_some_iff] at hp'
    obtain ⟨x, hx, rfl⟩ := hp'
    have := datOf_spec hx
    injection this with this
    rw [this]
theorem explode_prim {κ : K} (h : (∃ k, κ = .int k) ∨ κ = .bool ∨ κ = .str) (x : κ.T) : explode κ x = [.dat κ x] := by
  rcases h with ⟨k, rfl⟩ | rfl | rfl <;> rfl
theorem keyOf_spec {P : Program} : ∀ {fs : List Field} {off : Nat} {κ : K}, keyFs P fs off κ = true → ∀ {cs : List CV} {p : κ.T × List CV}, keyOf κ cs = some p → cs = explode κ p.1 ++ p.2
  | [], _, .unit, _, cs, p, h => by
    simp only [keyOf, Option.some.injEq] at h
    subst h
    rfl
  | f :: fs, off, .pair a b, hk, cs, p, h => by
    simp only [keyFs, Bool.and_eq_true] at hk
    obtain ⟨⟨_, hp⟩, hr⟩ := hk
    simp only [keyOf, Option.bind_eq_some_iff, Option.map_eq_some_iff] at h
    obtain ⟨q, hq, q2, hq2, rfl⟩ := h
    have e1 := keyOf_prim (prim_cases hp) hq
    have e2 := keyOf_spec hr hq2
    rw [e1, e2]
    show _ = explode a q.1 ++ explode b q2.1 ++ q2.2
    rw [explode_prim (prim_cases hp), List.append_assoc]
    rfl
theorem key_rd {P : Program} {E : TypeId} {R : Part} {g : Gh} : ∀ {fs : List Field} {off : Nat} {κ : K}, keyFs P fs off κ = true → ∀ {x : κ.T} {vs : List Value}, All2 (CVRel E R g) (explode κ x) vs → κ.Rd E R x vs
  | [], _, .unit, _, x, vs, h => by
    cases h
    rfl
  | f :: fs, off, .pair a b, hk, x, vs, h => by
    simp only [keyFs, Bool.and_eq_true] at hk
    obtain ⟨⟨_, hp⟩, hr⟩ := hk
    have e : explode (.pair a b) x = .dat a x.1 :: explode b x.2 := by
      show explode a x.1 ++ explode b x.2 = _
      rw [explode_prim (prim_cases hp)]
      rfl
    rw [e] at h
    cases h with
    | cons h1 h2 => exact ⟨[_], _, rfl, h1, key_rd hr h2⟩
/-- of two struct keys: are they one? -/
theorem key_eqFs {P : Program} {d : Nat} : ∀ {fs : List Field} {off : Nat} {κ : K}, keyFs P fs off κ = true → ∀ (x y : κ.T) (pre pre' : List CV), pre.length = off → pre'.length = off →
    eqFs P (eqRV P (d + 1)) (pre ++ explode κ x) (pre' ++ explode κ y) fs = some (κ.eqb x y)
  | [], _, .unit, _, x, y, pre, pre', _, _ => rfl
  | f :: fs, off, .pair a b, hk, x, y, pre, pre', h1, h2 => by
    simp only [keyFs, Bool.and_eq_true] at hk
    obtain ⟨⟨⟨⟨⟨hn, ho⟩, hc⟩, ha⟩, hp⟩, hr⟩ := hk
    have hn' : ¬ f.name = "_" := by simpa using hn
    have ho' : f.offset = off := Nat.eq_of_beq_eq_true ho
    have hc' : P.cellsOf f.type = 1 := Nat.eq_of_beq_eq_true hc
    have ha' : aggOf P f.type = some false := by
      split at ha
      · assumption
      · cases ha
    have e : ∀ z : (K.pair a b).T, explode (.pair a b) z = .dat a z.1 :: explode b z.2 := fun z => by
      show explode a z.1 ++ explode b z.2 = _
      rw [explode_prim (prim_cases hp)]
      rfl
    have one : ∀ (q : List CV) (z : (K.pair a b).T), q.length = off → rvOf (aggOf P f.type) (P.cellsOf f.type) (((q ++ explode (.pair a b) z).drop f.offset).take (P.cellsOf f.type)) = some (.c (.dat a z.1)) := by
      intro q z hq
      rw [ha', hc', ho', ← hq, List.drop_left, e z]
      rfl
    have hq : eqRV P (d + 1) f.type (.c (.dat a x.1)) (.c (.dat a y.1)) = some (a.eqb x.1 y.1) := by
      obtain ⟨_, dd, hu, ⟨k, rfl, rfl⟩ | ⟨rfl, rfl⟩ | ⟨rfl, rfl⟩⟩ := primK_spec hp
      · simp only [eqRV, hu, if_true]; rfl
      · simp only [eqRV, hu]; rfl
      · simp only [eqRV, hu]; rfl
    have ih := key_eqFs (d := d) hr x.2 y.2 (pre ++ [.dat a x.1]) (pre' ++ [.dat a y.1]) (by rw [List.length_append, h1]; rfl) (by rw [List.length_append, h2]; rfl)
    rw [List.append_assoc, List.append_assoc] at ih
    unfold eqFs
    rw [if_neg hn', one pre x h1, one pre' y h2]
    simp only [Option.bind_some, hq, e]
    rw [show pre ++ CV.dat a x.1 :: explode b x.2 = pre ++ ([CV.dat a x.1] ++ explode b x.2) from rfl, show pre' ++ CV.dat a y.1 :: explode b y.2 = pre' ++ ([CV.dat a y.1] ++ explode b y.2) from rfl, ih]
    rfl
theorem key_det {P : Program} {E : TypeId} {R : Part} : ∀ {fs : List Field} {off : Nat} {κ : K}, keyFs P fs off κ = true → ∀ {x y : κ.T} {us vs : List Value}, κ.Rd E R x us → κ.Rd E R y vs → (κ.eqb x y = true → us = vs) ∧ ∀ n, (us.zip us).all (fun p => Instr.sameBits n p.1 p.2) = true
  | [], _, .unit, _, x, y, us, vs, h1, h2 => by
    rw [show us = [] from h1, show vs = [] from h2]
    exact ⟨fun _ => rfl, fun _ => rfl⟩
  | f :: fs, off, .pair a b, hk, x, y, us, vs, h1, h2 => by
    simp only [keyFs, Bool.and_eq_true] at hk
    obtain ⟨⟨_, hp⟩, hr⟩ := hk
    obtain ⟨hag, d, _, hdd⟩ := primK_spec hp
    obtain ⟨c1, c2, rfl, q1, q2⟩ := h1
    obtain ⟨e1, e2, rfl, r1, r2⟩ := h2
    have one : ∀ {z : a.T} {cs : List Value}, a.Rd E R z cs → ∃ u, cs = [u] := by
      intro z cs hz
      rcases hdd with ⟨k, _, rfl⟩ | ⟨_, rfl⟩ | ⟨_, rfl⟩
      · exact ⟨_, hz.1⟩
      · exact ⟨_, hz⟩
      · obtain ⟨s, e, _⟩ := hz; exact ⟨_, e⟩
    obtain ⟨u, rfl⟩ := one q1
    obtain ⟨w, rfl⟩ := one r1
    obtain ⟨i1, i2⟩ := key_det hr q2 r2
    refine ⟨fun h => ?_, fun n => ?_⟩
    · have h' : a.eqb x.1 y.1 = true ∧ b.eqb x.2 y.2 = true := by
        have : (a.eqb x.1 y.1 && b.eqb x.2 y.2) = true := h
        simpa using this
      rw [(same_now hdd q1 r1).2 h'.1, i1 h'.2]
    · show ((u :: c2).zip (u :: c2)).all _ = true
      rw [List.zip_cons_cons, List.all_cons, sameBits_self hdd q1, i2 n]
      rfl
/-- what the three operations ask of a key. -/
structure KeyLaw (P : Program) (E : TypeId) (R : Part) (t : TypeId) (κ : K) (k : κ.T) (u : Value) : Prop where
  kv : KV E R κ k u
  check : ∀ b w, (Instr.checkKey b 10000 t u).run P w = .ok () w
  find : ∀ {κv : K} {l : List (κ.T × κv.T)} {es : List MapEntry}, All2 (fun (p : κ.T × κv.T) (e : MapEntry) => KV E R κ p.1 e.key ∧ KV E R κv p.2 e.val) l es → ∀ w,
      ((Instr.findKey t u es).run P w = .ok none w ∧ mget κ.eqb k l = none ∧ (∀ v, mput κ.eqb k v l = l ++ [(k, v)]) ∧ mdel κ.eqb k l = l) ∨
      ∃ (j : Nat) (p : κ.T × κv.T) (e : MapEntry), (Instr.findKey t u es).run P w = .ok (some (j, e.val)) w ∧ l[j]? = some p ∧ es[j]? = some e ∧ mget κ.eqb k l = some p.2 ∧ u = e.key ∧ (∀ v, mput κ.eqb k v l = l.set j (k, v)) ∧ mdel κ.eqb k l = l.eraseIdx j
  same : Instr.sameBits 10000 u u = true
theorem law_prim {P : Program} {E : TypeId} {R : Part} {t : TypeId} {κ : K} {k : κ.T} {u : Value} (hp : primK P t κ = true) (hk : κ.Rd E R k [u]) : KeyLaw P E R t κ k u := by
  obtain ⟨hak, d, hkt, hdd⟩ := primK_spec hp
  refine ⟨.of hak hk, fun b w => check_key hkt hdd b 9999 u w, fun {κv l es} h2 w => ?_, sameBits_self hdd hk 10000⟩
  rcases find_now hdd hak hk h2 0 with ⟨q1, q2, q3⟩ | ⟨j, p, e, q1, q2, q3, q4, q5, q6⟩
  · refine .inl ⟨?_, q2, q3⟩
    simp only [Instr.findKey, Sem.run_bind, run_under hkt, Result.andThen_ok, q1, Sem.run_pure]
  · refine .inr ⟨j, p, e, ?_, q2, q3, q4, q5, q6⟩
    rw [Nat.zero_add] at q1
    simp only [Instr.findKey, Sem.run_bind, run_under hkt, Result.andThen_ok, q1, Sem.run_pure]
theorem find_asking {P : Program} {E : TypeId} {R : Part} {t : TypeId} {fs : Array Field} {a b : K} (hu : P.underlying t = some (.struct fs)) (hst : P.stoodInHeld t = false) (hf : keyFs P fs.toList 0 (.pair a b) = true) {k : (K.pair a b).T} {u : Value} (hk : KV E R (.pair a b) k u) {κv : K} (w : World) :
    ∀ {l : List ((K.pair a b).T × κv.T)} {es : List MapEntry}, All2 (fun (p : (K.pair a b).T × κv.T) (e : MapEntry) => KV E R (.pair a b) p.1 e.key ∧ KV E R κv p.2 e.val) l es → ∀ i : Nat,
      ((Instr.findAsking t u es i).run P w = .ok none w ∧ mget (K.pair a b).eqb k l = none ∧ (∀ v, mput (K.pair a b).eqb k v l = l ++ [(k, v)]) ∧ mdel (K.pair a b).eqb k l = l) ∨
      ∃ (j : Nat) (p : (K.pair a b).T × κv.T) (e : MapEntry), (Instr.findAsking t u es i).run P w = .ok (some (i + j, e.val)) w ∧ l[j]? = some p ∧ es[j]? = some e ∧ mget (K.pair a b).eqb k l = some p.2 ∧ u = e.key ∧ (∀ v, mput (K.pair a b).eqb k v l = l.set j (k, v)) ∧ mdel (K.pair a b).eqb k l = l.eraseIdx j
  | _, _, .nil, i => .inl ⟨by simp [Instr.findAsking], rfl, fun _ => rfl, rfl⟩
  | p :: l, e :: es, .cons h hr, i => by
    obtain ⟨cu, rfl⟩ := hk.2.2 rfl
    obtain ⟨ce, he⟩ := h.1.2.2 rfl
    have hRk : (K.pair a b).Rd E R k cu.toList := hk.1
    have hRe : (K.pair a b).Rd E R p.1 ce.toList := by have := h.1.1; rw [he] at this; exact this
    have hq : (Op.equal t (.agg cu) e.key).run P w = .ok ((K.pair a b).eqb k p.1) w := by
      rw [he]
      refine eqRV_ok (E := E) (R := R) (g := fun _ => none) 2 Op.maxDepth t (.a (explode (.pair a b) k)) (.a (explode (.pair a b) p.1)) (.agg cu) (.agg ce) _ w (by decide) ?_ ⟨cu.toList, rfl, explode_rel _ _ _ hRk⟩ ⟨ce.toList, rfl, explode_rel _ _ _ hRe⟩
      simp only [eqRV, hu, hst, Bool.false_eq_true, if_false]
      exact key_eqFs (d := 0) hf k p.1 [] [] rfl rfl
    cases hb : (K.pair a b).eqb k p.1 with
    | true =>
      rw [hb] at hq
      refine .inr ⟨0, p, e, ?_, rfl, rfl, ?_, ?_, fun v => ?_, ?_⟩
      · simp only [Instr.findAsking, Sem.run_bind, hq, Result.andThen_ok, if_true, Sem.run_pure, Nat.add_zero]
      · simp only [mget, hb, if_true]
      · rw [he]
        have := (key_det hf hRk hRe).1 hb
        rw [show cu = ce from Array.ext' this]
      · simp only [mput, hb, if_true]
        rfl
      · simp only [mdel, hb, if_true]; rfl
    | false =>
      rw [hb] at hq
      rcases find_asking hu hst hf hk w hr (i + 1) with ⟨q1, q2, q3, q7⟩ | ⟨j, p', e', q1, q2, q3, q4, q5, q6, q7⟩
      · refine .inl ⟨?_, ?_, fun v => ?_, ?_⟩
        · simp only [Instr.findAsking, Sem.run_bind, hq, Result.andThen_ok, Bool.false_eq_true, if_false, q1]
        · simp only [mget, hb, Bool.false_eq_true, if_false, q2]
        · simp only [mput, hb, Bool.false_eq_true, if_false, q3]
          rfl
        · simp only [mdel, hb, Bool.false_eq_true, if_false, q7]
      · refine .inr ⟨j + 1, p', e', ?_, by simpa using q2, by simpa using q3, ?_, q5, fun v => ?_, ?_⟩
        · simp only [Instr.findAsking, Sem.run_bind, hq, Result.andThen_ok, Bool.false_eq_true, if_false, q1]
          rw [show i + 1 + j = i + (j + 1) from by omega]
        · simp only [mget, hb, Bool.false_eq_true, if_false, q4]
        · simp only [mput, hb, Bool.false_eq_true, if_false, q6]
          rfl
        · simp only [mdel, hb, Bool.false_eq_true, if_false, q7]; rfl
theorem check_struct {P : Program} {E : TypeId} {R : Part} {t : TypeId} {fs : Array Field} {a b : K} (hu : P.underlying t = some (.struct fs)) (hf : keyFs P fs.toList 0 (.pair a b) = true) {k : (K.pair a b).T} {u : Value} (hk : KV E R (.pair a b) k u) (em : Bool) (w : World) :
    (Instr.checkKey em 10000 t u).run P w = .ok () w := by
  obtain ⟨cu, rfl⟩ := hk.2.2 rfl
  have hRk : (K.pair a b).Rd E R k cu.toList := hk.1
  show (Instr.checkKey em (9999 + 1) t (.agg cu)).run P w = .ok () w
  unfold Instr.checkKey
  simp only [Sem.run_bind, run_under hu, Result.andThen_ok]
  rw [← Array.forIn_toList]
  have key : ∀ (l : List Field) (off : Nat) (κ : K), keyFs P l off κ = true → ∀ (x : κ.T) (cs : List Value), κ.Rd E R x cs → (∃ pre : List Value, pre.length = off ∧ cu.toList = pre ++ cs) →
      (forIn l PUnit.unit (fun f r => do
        if f.name ≠ "_" then Instr.checkKey em 9999 f.type (← part f.type cu f.offset)
        pure (ForInStep.yield PUnit.unit)) : Sem PUnit).run P w = .ok PUnit.unit w := by
    intro l
    induction l with
    | nil => intro off κ _ x cs _ _; simp
    | cons f l ih =>
      intro off κ hk2 x cs hx hpre
      cases κ <;> simp only [keyFs, Bool.false_eq_true] at hk2
      rename_i a b
      simp only [Bool.and_eq_true] at hk2
      obtain ⟨⟨⟨⟨⟨hn, ho⟩, hc⟩, ha⟩, hp⟩, hr⟩ := hk2
      have hn' : f.name ≠ "_" := by simpa using hn
      have ho' : f.offset = off := Nat.eq_of_beq_eq_true ho
      obtain ⟨pre, hpl, hcu⟩ := hpre
      obtain ⟨c1, c2, rfl, q1, q2⟩ := hx
      obtain ⟨hag, d, hd, hdd⟩ := primK_spec hp
      have one : ∃ v, c1 = [v] := by
        rcases hdd with ⟨k, _, rfl⟩ | ⟨_, rfl⟩ | ⟨_, rfl⟩
        · exact ⟨_, q1.1⟩
        · exact ⟨_, q1⟩
        · obtain ⟨s, e, _⟩ := q1; exact ⟨_, e⟩
      obtain ⟨v, rfl⟩ := one
      have hat : cu[f.offset]? = some v := by
        rw [← Array.getElem?_toList, hcu, ho', ← hpl, List.getElem?_append_right (Nat.le_refl _), Nat.sub_self]
        rfl
      have hpart : (part f.type cu f.offset).run P w = .ok v w := by
        rcases hdd with ⟨k, rfl, _⟩ | ⟨rfl, _⟩ | ⟨rfl, _⟩ <;> simp [part, isAgg, run_under hd, hat]
      have hch := check_key hd hdd em 9998 v w
      have := ih (off + 1) b hr x.2 c2 q2 ⟨pre ++ [v], by rw [List.length_append, hpl]; rfl, by rw [hcu, List.append_assoc]⟩
      rw [List.forIn_cons]
      simp only [hn', ne_eq, not_false_eq_true, if_true, Sem.run_bind, hpart, Result.andThen_ok, hch, Sem.run_pure, this]
  have := key fs.toList 0 (.pair a b) hf k cu.toList hRk ⟨[], rfl, rfl⟩
  simp at this
  simp
  rw [this]
  rfl
theorem law_struct {P : Program} {E : TypeId} {R : Part} {t : TypeId} {a b : K} (hs : structK P t (.pair a b) = true) {k : (K.pair a b).T} {u : Value} (hk : KV E R (.pair a b) k u) : KeyLaw P E R t (.pair a b) k u := by
  unfold structK at hs
  split at hs
  · rename_i fs a' b' hu he
    obtain ⟨rfl, rfl⟩ : a = a' ∧ b = b' := by injection he with h1 h2; exact ⟨h1, h2⟩
    simp only [Bool.and_eq_true] at hs
    obtain ⟨hst, hf⟩ := hs
    have hst' : P.stoodInHeld t = false := by simpa using hst
    refine ⟨hk, fun em w => check_struct hu hf hk em w, fun {κv l es} h2 w => ?_, ?_⟩
    · have base : (Instr.findKey t u es).run P w = (Instr.findAsking t u es 0).run P w ∨ es = [] := by
        cases es with
        | nil => exact .inr rfl
        | cons e es =>
          refine .inl ?_
          simp only [Instr.findKey, Sem.run_bind, run_under hu, Result.andThen_ok, Instr.findNow, Instr.sameNow]
      rcases base with base | rfl
      · rcases find_asking hu hst' hf hk w h2 0 with ⟨q1, q2, q3⟩ | ⟨j, p, e, q1, q2, q3, q4, q5, q6⟩
        · exact .inl ⟨base.trans q1, q2, q3⟩
        · rw [Nat.zero_add] at q1
          exact .inr ⟨j, p, e, base.trans q1, q2, q3, q4, q5, q6⟩
      · cases h2
        refine .inl ⟨?_, rfl, fun _ => rfl, rfl⟩
        simp only [Instr.findKey, Sem.run_bind, run_under hu, Result.andThen_ok, Instr.findNow, Sem.run_pure]
    · obtain ⟨cu, rfl⟩ := hk.2.2 rfl
      have hRk : (K.pair a b).Rd E R k cu.toList := hk.1
      have := (key_det hf hRk hRk).2 9999
      simp only [Instr.sameBits, beq_self_eq_true, Bool.true_and]
      exact this
  · cases hs
theorem law_key {P : Program} {E : TypeId} {R : Part} {g : Gh} {t : TypeId} {κ : K} {rv : Option RV} {k : κ.T} (hk : keyAt P t κ rv = some k) {u : Value} (hu : ∀ x, rv = some x → RVRel E R g x u) : KeyLaw P E R t κ k u := by
  unfold keyAt at hk
  split at hk
  · rename_i c
    split at hk
    · rename_i hp
      have e := datOf_spec hk
      injection e with e
      subst e
      exact law_prim hp (hu _ rfl)
    · cases hk
  · rename_i cs
    split at hk
    · rename_i hs
      rw [Option.bind_eq_some_iff] at hk
      obtain ⟨p, hp, hk⟩ := hk
      split at hk
      · rename_i he
        injection hk with hk
        subst hk
        obtain ⟨a, b, rfl⟩ : ∃ a b, κ = .pair a b := by
          unfold structK at hs
          split at hs
          · exact ⟨_, _, rfl⟩
          · cases hs
        have hf : ∃ fs, keyFs P fs 0 (.pair a b) = true := by
          have hs' := hs
          unfold structK at hs'
          split at hs'
          · rename_i fs a' b' _ e
            obtain ⟨rfl, rfl⟩ : a = a' ∧ b = b' := by injection e with h1 h2; exact ⟨h1, h2⟩
            simp only [Bool.and_eq_true] at hs'
            exact ⟨_, hs'.2⟩
          · cases hs'
        obtain ⟨fs, hf⟩ := hf
        have e1 := keyOf_spec hf hp
        have e2 : p.2 = [] := by simpa using he
        rw [e2, List.append_nil] at e1
        subst e1
        obtain ⟨vs, rfl, hvs⟩ := hu _ rfl
        have hrd := key_rd hf hvs
        exact law_struct (k := p.1) (u := .agg vs.toArray) hs (show KV E R (.pair a b) p.1 (.agg vs.toArray) from ⟨hrd, (fun h => by cases h), (fun _ => ⟨vs.toArray, rfl⟩)⟩)
      · cases hk
    · cases hk
  · cases hk
section
variable {C : Ctx} {env : Env} {kn : List (Nat × Bool)} {base : Nat} {o : Oper} {v : VSt} {A : Type} {f : Delta → Option A} {r : A}
theorem ok_makeMap (hd : ∀ t, o.dst = some t → t < C.N) {t : TypeId} (hop : o.op = .makeMap t none) (h : stepO C.P C.E env kn base o v f = some r) : Done C kn o v f r := by
  unfold stepO at h
  rw [hop] at h
  simp only at h
  split at h
  · rename_i kt vt hu
    simp only [Option.bind_eq_some_iff] at h
    obtain ⟨κk, hk, κv, hv, h⟩ := h
    split at h
    · rename_i hfree
      refine ⟨_, h, fun s a w R g hv hk hr next Q hn => ?_⟩
      have hf := en_free hv hfree
      have hle := updg_le (g := g) (h := base) (v := .map (some w.heap.size)) (.inl (hr.inv.free base hf))
      have h1 := hr.inv.make base hf (.mp κk κv []) (.map (some w.heap.size)) (w' := w.alloc (.map #[] 0)) (fun b hb => Nat.le_of_eq (by injection hb)) (by simp) rfl rfl rfl (fun b hb => heap_alloc_old w _ hb)
        ⟨w.heap.size, #[], 0, rfl, heap_alloc_new w _, .nil⟩
      refine wp_val (u := .map (some w.heap.size)) (w' := w.alloc (.map #[] 0)) ?_ (hn _ _ (hr.app (δ := ⟨some (.r (.c (.own base))), [(base, .live (.mp κk κv []))]⟩) hd (Part.le_refl R) hle h1 (some_r ⟨updg_same _ _ _, rfl⟩)))
      simp only [execOp, hop]
      exact run_v rfl
    · cases h
  · cases h
theorem ok_lookup (hd : ∀ t, o.dst = some t → t < C.N) {t : TypeId} {x y : Operand} {ok : Bool} (hop : o.op = .lookup t x y ok) (h : stepO C.P C.E env kn base o v f = some r) : Done C kn o v f r := by
  unfold stepO at h
  rw [hop] at h
  simp only at h
  split at h
  · rename_i kt vt hu
    simp only [Option.bind_eq_some_iff] at h
    obtain ⟨i, hi, z, hz, h⟩ := h
    split at h
    · rename_i hh hc
      split at h
      · rename_i κk κv l hen
        rw [Option.bind_eq_some_iff] at h
        obtain ⟨k, hk, h⟩ := h
        split at h
        · rename_i hcond
          obtain ⟨hav, hzb⟩ := hcond
          refine ⟨_, h, .pure hd rfl fun s a w R g hv hkn hr => ?_⟩
          obtain ⟨hg, _⟩ := evc_rel hv hr hc
          obtain ⟨u, hu', b, es, clk, rfl, h1, h2⟩ := hr.inv.live hh _ (en_live hv hen)
          rw [hg] at hu'
          injection hu' with hu'
          have hlaw := law_key hk (u := a.eval y) fun rv hrv => evr_rel hv hr hrv
          have hzero := zeroCellB_rd (E := C.E) (R := R) κv z hzb
          rcases hlaw.find h2 w with ⟨q1, q2, _⟩ | ⟨j, p, e, q1, q2, q3, q4, _, _⟩
          · refine ⟨if ok then .tuple #[z, .bool false] else z, ?_, some_r ?_⟩
            · simp only [execOp, hop, hu']
              refine run_v ?_
              simp only [Instr.lookup, Sem.run_bind, run_under hu, Result.andThen_ok, run_getMap h1, Sem.run_pure, hlaw.check, q1, run_zero hi hz]
            · rw [q2]
              cases ok
              · exact hzero
              · exact ⟨[z, .bool false], rfl, .cons hzero (.cons rfl .nil)⟩
          · obtain ⟨e', he', hkv⟩ := h2.get j p q2
            rw [q3] at he'
            injection he' with he'
            subst he'
            have hval := hkv.2.one hav
            refine ⟨if ok then .tuple #[e.val, .bool true] else e.val, ?_, some_r ?_⟩
            · simp only [execOp, hop, hu']
              refine run_v ?_
              simp only [Instr.lookup, Sem.run_bind, run_under hu, Result.andThen_ok, run_getMap h1, Sem.run_pure, hlaw.check, q1]
            · rw [q4]
              cases ok
              · exact hval
              · exact ⟨[e.val, .bool true], rfl, .cons hval (.cons rfl .nil)⟩
        · cases h
      · cases h
    · cases h
  · cases h
theorem ok_mapUpdate (hd : ∀ t, o.dst = some t → t < C.N) {t : TypeId} {x y z : Operand} (hop : o.op = .mapUpdate t x y z) (h : stepO C.P C.E env kn base o v f = some r) : Done C kn o v f r := by
  unfold stepO at h
  rw [hop] at h
  simp only at h
  split at h
  · rename_i kt vt hu
    split at h
    · rename_i hh hc
      split at h
      · rename_i κk κv l hen
        simp only [Option.bind_eq_some_iff] at h
        obtain ⟨k, hk, e0, he0, h⟩ := h
        split at h
        · rename_i hcond
          have hav := hcond
          refine ⟨_, h, fun s a w R g hv hkn hr next Q hn => ?_⟩
          have hlive := en_live hv hen
          obtain ⟨hg, _⟩ := evc_rel hv hr hc
          obtain ⟨u, hu', b, es, clk, rfl, h1, h2⟩ := hr.inv.live hh _ hlive
          rw [hg] at hu'
          injection hu' with hu'
          rw [hu'] at hg
          have hlaw := law_key hk (u := a.eval y) fun rv hrv => evr_rel hv hr hrv
          have hval := evc_rel hv hr (datOf_spec he0)
          have hblt : b < w.heap.size := (Array.getElem?_eq_some_iff.1 h1).1
          have hgu : updg g hh (.map (some b)) = g := by
            funext j; unfold updg; split
            · rename_i e; rw [e, hg]
            · rfl
          have fin : ∀ (es' : Array MapEntry) (clk' : Nat), (Instr.mapUpdate t (a.eval x) (a.eval y) (a.eval z)).run C.P w = .ok () { w with heap := w.heap.setIfInBounds b (.map es' clk') } →
              All2 (fun (p : κk.T × κv.T) (e : MapEntry) => KV C.E R κk p.1 e.key ∧ KV C.E R κv p.2 e.val) (mput κk.eqb k e0 l) es'.toList → o.wp C.P a w next Q := by
            intro es' clk' hrun hrel
            have hput := hr.inv.put hh (.mp κk κv (mput κk.eqb k e0 l)) (.map (some b)) (w' := { w with heap := w.heap.setIfInBounds b (.map es' clk') }) (.inr hg) (by simp) rfl rfl rfl
              (fun b' hlt hne => by
                show (w.heap.setIfInBounds b _)[b']? = _
                rw [Array.getElem?_setIfInBounds, if_neg (fun e => hne (by rw [← e]; rfl))])
              (fun b' hb => by
                obtain ⟨m1, m2⟩ := hr.inv.mine hh _ _ b' hlive hg (.inl hb)
                exact ⟨m1, m2, fun j e' u hj hlj hgj hbl => hr.inv.sep j hh e' _ u _ b' hj hlj hlive hgj hg hbl (.inl hb)⟩)
              (by
                rw [hgu]
                exact ⟨b, es', clk', rfl, by show (w.heap.setIfInBounds b _)[b]? = _; rw [Array.getElem?_setIfInBounds, if_pos rfl, if_pos hblt], hrel⟩)
            rw [hgu] at hput
            refine wp_skp (w' := { w with heap := w.heap.setIfInBounds b (.map es' clk') }) ?_ (hn _ _ (hr.app (δ := ⟨none, [(hh, .live (.mp κk κv (mput κk.eqb k e0 l)))]⟩) hd (Part.le_refl R) (Gh.le_refl g) hput (fun sv hsv => by cases hsv)))
            simp only [execOp, hop]
            exact run_u hrun
          rcases hlaw.find h2 w with ⟨q1, _, q3, _⟩ | ⟨j, p, e, q1, q2, q3, _, q5, q6, _⟩
          · refine fin (es.push { key := a.eval y, val := a.eval z, born := clk }) (clk + 1) ?_ ?_
            · simp only [Instr.mapUpdate, Sem.run_bind, run_under hu, Result.andThen_ok, hu', run_getMap h1, hlaw.check, q1, Sem.run_pure, run_setMap h1]
            · rw [q3, Array.toList_push]
              exact h2.app (.cons ⟨hlaw.kv, .of hav hval⟩ .nil)
          · have hes : es[j]? = some e := by rw [← Array.getElem?_toList]; exact q3
            refine fin (es.modify j fun e' => { e' with key := a.eval y, val := a.eval z }) clk ?_ ?_
            · simp only [Instr.mapUpdate, Sem.run_bind, run_under hu, Result.andThen_ok, hu', run_getMap h1, hlaw.check, q1, Sem.run_pure, run_setMap h1, hes, Option.map_some, Option.getD_some, ← q5, Instr.keyThatStays, hlaw.same, if_true]
            · rw [q6]
              have e1 : (es.modify j fun e' => { e' with key := a.eval y, val := a.eval z }).toList = es.toList.set j { e with key := a.eval y, val := a.eval z } := by
                apply List.ext_getElem?
                intro m
                rw [Array.getElem?_toList, Array.getElem?_modify, List.getElem?_set, Array.getElem?_toList]
                by_cases hm : j = m
                · subst hm
                  have hlt := (Array.getElem?_eq_some_iff.1 hes).1
                  rw [if_pos rfl, if_pos rfl, hes, if_pos (by rw [Array.length_toList]; exact hlt)]
                  rfl
                · rw [if_neg hm, if_neg hm]
              rw [e1]
              exact all2_set h2 j ⟨hlaw.kv, .of hav hval⟩
        · cases h
      · cases h
    · cases h
  · cases h
end
end Go.Sx
