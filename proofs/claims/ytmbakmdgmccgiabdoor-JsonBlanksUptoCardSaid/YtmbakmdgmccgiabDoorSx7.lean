/- Part of a proof by a small interpreter on plain values; no condition. -/
import Derived.Test.YtmbakmdgmccgiabDoorSx6
import Derived.Laws.Append
import Derived.Laws.NewFold
import Derived.Laws.BitsLemmas
/-! Sx7: operations that make or write memory. -/
namespace Go.Sx
open Go
set_option autoImplicit false
set_option linter.unusedVariables false
set_option linter.unusedSimpArgs false
section
variable {C : Ctx} {env : Env} {kn : List (Nat × Bool)} {base : Nat} {o : Oper} {v : VSt} {A : Type} {f : Delta → Option A} {r : A}

/-! ### zero values -/
theorem zeroCellB_rd {E : TypeId} {R : Part} : ∀ (κ : K) (u : Value), zeroCellB κ u = true → κ.Rd E R κ.zero [u]
  | .int k, u, h => by
    cases u <;> simp [zeroCellB] at h
    obtain ⟨rfl, rfl⟩ := h
    exact ⟨rfl, by cases k <;> decide, by cases k <;> decide⟩
  | .bool, u, h => by
    cases u <;> simp [zeroCellB] at h
    subst h; rfl
  | .str, u, h => by
    cases u <;> simp [zeroCellB] at h
    rename_i s
    subst h
    exact ⟨_, rfl, rfl, by simp [lim]⟩
  | .err, u, h => by
    cases u <;> simp [zeroCellB] at h
    exact .inl ⟨rfl, rfl⟩
  | .list a, u, h => by
    cases u <;> simp [zeroCellB] at h
    rename_i A n c
    cases A with
    | none =>
      cases n <;> cases c <;> simp [zeroCellB] at h
      exact ⟨none, 0, rfl, ⟨by simp [K.zero, lim], by simp [K.zero]⟩, fun h => absurd rfl h⟩
    | some => simp [zeroCellB] at h
  | .js, u, h => by simp [zeroCellB] at h
  | .nd p, u, h => by
    cases u <;> simp [zeroCellB] at h
    rename_i A
    cases A with
    | none => exact .inl ⟨(by decide : (-1 : Int) < 0), rfl⟩
    | some => simp [zeroCellB] at h
  | .unit, u, h => by cases u <;> simp [zeroCellB] at h
  | .pair a b, u, h => by cases u <;> simp [zeroCellB] at h
  | .arr n a, u, h => by cases u <;> simp [zeroCellB] at h
theorem arr_cons {E : TypeId} {R : Part} {n : Nat} {a : K} {x : a.T} {xs : List a.T} {p q : List Value} (hp : a.Rd E R x p) (hq : (K.arr n a).Rd E R xs q) : (K.arr (n + 1) a).Rd E R (x :: xs) (p ++ q) := by
  obtain ⟨h1, h2, h3, h4⟩ := hq
  have hl := K.Rd_len _ _ _ hp
  refine ⟨by rw [List.length_cons, h1], by rw [List.length_append, hl, h2, Nat.add_mul, Nat.one_mul, Nat.add_comm], fun v hv => ?_, fun j y hy => ?_⟩
  · rcases List.mem_append.1 hv with hv | hv
    · exact K.Rd_one _ _ _ hp v hv
    · exact h3 v hv
  · cases j with
    | zero =>
      simp at hy
      subst hy
      rw [Nat.zero_mul, List.drop_zero, List.take_append, List.take_of_length_le (by omega), hl, Nat.sub_self, List.take_zero, List.append_nil]
      exact hp
    | succ j =>
      have := h4 j y (by simpa using hy)
      rw [Nat.add_mul, Nat.one_mul, List.drop_append, List.drop_eq_nil_of_le (by omega), List.nil_append, hl, Nat.add_sub_cancel]
      exact this
theorem zeroB_rd {E : TypeId} {R : Part} : ∀ (κ : K) (cs rest : List Value), zeroB κ cs = some rest → ∃ pre, cs = pre ++ rest ∧ κ.Rd E R κ.zero pre := by
  have one : ∀ (κ : K) (cs rest : List Value), (∀ c r, cs = c :: r → zeroB κ cs = if zeroCellB κ c then some r else none) → (cs = [] → zeroB κ cs = none) → zeroB κ cs = some rest → ∃ pre, cs = pre ++ rest ∧ κ.Rd E R κ.zero pre := by
    intro κ cs rest h1 h2 h
    cases cs with
    | nil => rw [h2 rfl] at h; cases h
    | cons c r =>
      rw [h1 c r rfl] at h
      split at h
      · rename_i hz
        injection h with h
        subst h
        exact ⟨[c], rfl, zeroCellB_rd κ c hz⟩
      · cases h
  intro κ
  induction κ with
  | pair a b iha ihb =>
    intro cs rest h
    simp only [zeroB, Option.bind_eq_some_iff] at h
    obtain ⟨m, h1, h2⟩ := h
    obtain ⟨p, rfl, hp⟩ := iha cs m h1
    obtain ⟨q, rfl, hq⟩ := ihb m rest h2
    exact ⟨p ++ q, by simp, p, q, rfl, hp, hq⟩
  | unit =>
    intro cs rest h
    simp only [zeroB, Option.some.injEq] at h
    exact ⟨[], by simp [h], rfl⟩
  | int k => intro cs rest h; exact one _ cs rest (fun c r e => by subst e; rfl) (fun e => by subst e; rfl) h
  | bool => intro cs rest h; exact one _ cs rest (fun c r e => by subst e; rfl) (fun e => by subst e; rfl) h
  | str => intro cs rest h; exact one _ cs rest (fun c r e => by subst e; rfl) (fun e => by subst e; rfl) h
  | err => intro cs rest h; exact one _ cs rest (fun c r e => by subst e; rfl) (fun e => by subst e; rfl) h
  | list a _ => intro cs rest h; exact one _ cs rest (fun c r e => by subst e; rfl) (fun e => by subst e; rfl) h
  | nd p => intro cs rest h; exact one _ cs rest (fun c r e => by subst e; rfl) (fun e => by subst e; rfl) h
  | js =>
    intro cs rest h
    rcases cs with _ | ⟨c1, _ | ⟨c2, _ | ⟨c3, _ | ⟨c4, _ | ⟨c5, _ | ⟨c6, _ | ⟨c7, r⟩⟩⟩⟩⟩⟩⟩
    all_goals first | (simp [zeroB] at h; done) | skip
    simp only [zeroB] at h
    split at h
    · rename_i hz
      injection h with h
      subst h
      simp only [Bool.and_eq_true] at hz
      obtain ⟨z1, z2, z3, z4, z5, z6, z7⟩ := hz
      exact ⟨[c1, c2, c3, c4, c5, c6, c7], rfl, js_rd.2 ⟨c1, c2, c3, c4, c5, c6, c7, rfl, zeroCellB_rd _ _ z1, zeroCellB_rd _ _ z2, zeroCellB_rd _ _ z3, zeroCellB_rd _ _ z4, zeroCellB_rd _ _ z5, zeroCellB_rd _ _ z6, zeroCellB_rd _ _ z7⟩⟩
    · cases h
  | arr n a ih =>
    intro cs rest h
    change repB (zeroB a) n cs = some rest at h
    induction n generalizing cs with
    | zero =>
      simp only [repB, Option.some.injEq] at h
      exact ⟨[], by simp [h], rfl, by simp, by simp, fun j x hx => by simp [K.zero] at hx⟩
    | succ n ihn =>
      simp only [repB, Option.bind_eq_some_iff] at h
      obtain ⟨m, h1, h2⟩ := h
      obtain ⟨p, rfl, hp⟩ := ih cs m h1
      obtain ⟨q, rfl, hq⟩ := ihn m h2
      exact ⟨p ++ q, by simp, arr_cons hp hq⟩
theorem zeroS_rel {C : Ctx} {R : Part} {g : Gh} : ∀ {l : List (Option K)} {vs : List Value} {ss : List Seg}, zeroS l vs = some ss → SegsRel C.E R g ss vs
  | [], [], ss, h => by simp [zeroS] at h; subst h; exact .nil
  | [], _ :: _, ss, h => by simp [zeroS] at h
  | none :: r, [], ss, h => by simp [zeroS] at h
  | none :: r, v :: vs, ss, h => by
    simp only [zeroS, Option.bind_eq_some_iff, Option.map_eq_some_iff] at h
    obtain ⟨c, hc, ss', hs, rfl⟩ := h
    exact .one (constCV_rel hc) (zeroS_rel hs)
  | some κ :: r, vs, ss, h => by
    simp only [zeroS, Option.bind_eq_some_iff, Option.map_eq_some_iff] at h
    obtain ⟨vs', hc, ss', hs, rfl⟩ := h
    obtain ⟨p, rfl, hp⟩ := zeroB_rd κ vs vs' hc
    exact .blk hp (zeroS_rel hs)
theorem rowKind_spec {P : Program} {E : TypeId} {t : TypeId} {κ : K} (h : rowKind P E t = some κ) : ∃ i z, P.info? t = some i ∧ i.zero = some z ∧ i.size = κ.sz ∧ 0 < κ.sz ∧ 0 < i.bytes ∧ ∀ R, κ.Rd E R κ.zero z.cells.toList := by
  unfold rowKind at h
  simp only [Option.bind_eq_some_iff] at h
  obtain ⟨κ', _, i, hi, z, hz, h⟩ := h
  split at h
  · rename_i hc
    injection h with h
    subst h
    refine ⟨i, z, hi, hz, hc.1, hc.2.1, hc.2.2.1, fun R => ?_⟩
    have h4 := hc.2.2.2
    cases hb : zeroB κ' z.cells.toList with
    | none => rw [hb] at h4; simp at h4
    | some rest =>
      rw [hb] at h4
      have e : rest = [] := by simpa using h4
      subst e
      obtain ⟨p, hp, hr⟩ := zeroB_rd (E := E) (R := R) κ' _ _ hb
      rw [List.append_nil] at hp
      rw [hp]
      exact hr
  · cases h
/-- so many zero elements. -/
theorem zeros_seg {z : Array Value} {sz : Nat} (hz : z.size = sz) (hsz : 0 < sz) (n j : Nat) (hj : j < n) :
    ((((Array.range (n * sz)).map (z[· % z.size]!)).toList.drop (j * sz)).take sz) = z.toList := by
  apply List.ext_getElem?
  intro k
  simp only [Array.toList_map, Array.toList_range, List.getElem?_take, List.getElem?_drop, List.getElem?_map]
  split
  · rename_i hk
    have hlt : j * sz + k < n * sz := by
      have : (j + 1) * sz ≤ n * sz := Nat.mul_le_mul_right sz hj
      rw [Nat.add_mul] at this
      omega
    rw [List.getElem?_range hlt]
    have e : (j * sz + k) % sz = k := by rw [Nat.mul_comm, Nat.mul_add_mod, Nat.mod_eq_of_lt hk]
    simp only [Option.map_some, hz, e]
    have hk' : k < z.size := by omega
    rw [getElem!_pos z k hk']
    simp [hk']
  · rename_i hk
    rw [List.getElem?_eq_none (by simp; omega)]
theorem zeros_one {z : Array Value} {n : Nat} (h : ∀ v ∈ z.toList, v.oneCell' = true) (hz : 0 < z.size) : ((Array.range n).map (z[· % z.size]!)).toList.all Value.oneCell' = true := by
  rw [List.all_eq_true]
  intro u hu
  simp only [Array.toList_map, Array.toList_range, List.mem_map, List.mem_range] at hu
  obtain ⟨k, _, rfl⟩ := hu
  have hk : k % z.size < z.size := Nat.mod_lt _ hz
  rw [getElem!_pos z _ hk]
  exact h _ (by simp)

/-! ### a new object -/
theorem heap_alloc_old (w : World) (ob : Obj) {b : Nat} (h : b < w.heap.size) : (w.alloc ob).heap[b]? = w.heap[b]? := by
  show (w.heap.push ob)[b]? = _
  rw [Array.getElem?_push, if_neg (by omega)]
theorem heap_alloc_new (w : World) (ob : Obj) : (w.alloc ob).heap[w.heap.size]? = some ob := by
  show (w.heap.push ob)[w.heap.size]? = _
  simp
theorem Unf_zero (n : Nat) : Unf (0, 0) n := .inl rfl
/-- an object in a new block, or in none. -/
theorem Inv.make {R : Part} {g : Gh} {en : Nat → EnS} {w w' : World} (hi : Inv C R g en w) (h : Nat) (hf : en h = .free) (e : Ent) (u : Value) (hblk : ∀ b, blk u = some b → w.heap.size ≤ b) (hsize : w.heap.size ≤ w'.heap.size) (hos : w'.os = w.os) (htape : w'.tape = w.tape) (hout : w'.output = w.output)
    (hsame : ∀ b, b < w.heap.size → w'.heap[b]? = w.heap[b]?) (he : EntRel C.E R (updg g h u) w' e u) (hnp : e.isPool = false := by rfl) : Inv C R (updg g h u) (upd en h (.live e)) w' := by
  refine hi.put h e u (.inl (hi.free h hf)) hsize hos htape hout (fun b hb _ => hsame b hb) (fun b hb => ⟨?_, .inl ?_, fun j e' y hj hl hg hbl => ?_⟩) he hnp
  · cases hR : R b with
    | none => rfl
    | some ob =>
      have := (Array.getElem?_eq_some_iff.1 (hi.sub b ob hR)).1
      have := hblk b hb
      omega
  · exact Nat.le_trans hi.kept.size (hblk b hb)
  · have := hi.own_lt hl hg hbl
    have := hblk b hb
    omega
theorem newCells_spec {base : Nat} {ty : TypeId} {cs : List CV} {en : Nat → EnS} {δ : Delta} (h : newCells base ty cs en = some δ) :
    en base = .free ∧ δ = ⟨some (.r (.c (.ptr base 0))), [(base, .live (.cells ty cs))]⟩ := by
  unfold newCells at h
  split at h
  · injection h with h; exact ⟨by assumption, h.symm⟩
  · cases h
/-- the end of an operation that makes a row. -/
theorem row_end {s : VSt} {a : Act} {w w' : World} {R R' : Part} {g : Gh} {enS : Nat → EnS} (hd : ∀ t, o.dst = some t → t < C.N) (hr : Rel C s a w R g) (hR : R.le R') (hi : Inv C R' g enS w) {ety : TypeId} {κ : K} {xs : List κ.T} {log : List (Nat × EnS)}
    (hlog : ∀ i, upds s.en log i = enS i ∨ upds s.en log i = .dead) (hf : enS base = .free) (u : Value) (hblk : ∀ b, blk u = some b → w.heap.size ≤ b) (hsize : w.heap.size ≤ w'.heap.size) (hos : w'.os = w.os) (htape : w'.tape = w.tape) (hout : w'.output = w.output)
    (hsame : ∀ b, b < w.heap.size → w'.heap[b]? = w.heap[b]?) (he : ∀ g', EntRel C.E R' g' w' (.row ety κ xs) u) : RelE C (s.app o.dst ⟨some (.r (.c (.own base))), log ++ [(base, .live (.row ety κ xs))]⟩) (a.put o.dst u) w' := by
  have h1 := hi.make base hf (.row ety κ xs) u hblk hsize hos htape hout hsame (he _)
  refine hr.app hd hR (updg_le (.inl (hi.free base hf))) (h1.less fun i => ?_) (some_r ⟨updg_same _ _ _, (he g).one⟩)
  show upds s.en (log ++ [(base, .live (.row ety κ xs))]) i = _ ∨ upds s.en (log ++ [(base, .live (.row ety κ xs))]) i = _
  rw [upds_snoc]
  by_cases hb : i = base
  · subst hb; rw [upd_same, upd_same]; exact .inl rfl
  · rw [upd_ne _ _ hb, upd_ne _ _ hb]; exact hlog i
theorem i64_of {v : VSt} {x : Operand} {i : Int} (h : i64Of? (svCV (v.ev x)) = some i) : svCV (v.ev x) = some (.dat (.int .i64) i) := by
  unfold i64Of? at h
  split at h
  · injection h with h; subst h; assumption
  · cases h
theorem wrap_i64_in {n : Int} (h1 : IntKind.i64.min ≤ n) (h2 : n ≤ IntKind.i64.max) : IntKind.i64.wrap n = n := by
  rw [k_min_eq] at h1
  rw [k_max_eq] at h2
  change (-9223372036854775808 : Int) ≤ n at h1
  change n ≤ (9223372036854775807 : Int) at h2
  rw [IntKind.wrap_i64]
  omega
theorem ok_makeSlice (hd : ∀ t, o.dst = some t → t < C.N) {t : TypeId} {l c : Operand} (hop : o.op = .makeSlice t l c) (h : stepO C.P C.E env kn base o v f = some r) : Done C kn o v f r := by
  unfold stepO at h
  rw [hop] at h
  simp only [Option.bind_eq_some_iff] at h
  obtain ⟨e, he, κ, hk, n, hn, m, hm, h⟩ := h
  have hu := slice_elem he
  obtain ⟨i, z, hi, hz, hsize, hsz, hby, hzero⟩ := rowKind_spec hk
  split at h
  · rename_i hb
    obtain ⟨δ, hδ, h⟩ := Option.bind_eq_some_iff.1 h
    obtain ⟨hfree, rfl⟩ := newRow_spec hδ
    refine ⟨_, h, fun s a w R g hv hkn hr next Q hnx => ?_⟩
    obtain ⟨el, l1, l2⟩ := evc_rel hv hr (i64_of hn)
    obtain ⟨ec, c1, c2⟩ := evc_rel hv hr (i64_of hm)
    injection el with el _
    injection ec with ec _
    have hbytes : C.P.bytesOf e = i.bytes := by simp [Program.bytesOf, hi]
    rw [hbytes] at hb
    have hzsz : z.cells.size = κ.sz := by have := K.Rd_len κ _ _ (hzero Part.nil); simpa using this
    have hcs : C.P.cellsOf e = κ.sz := by simp [Program.cellsOf, hi, hsize]
    let arr : Array Value := (Array.range (m.toNat * κ.sz)).map (z.cells[· % z.cells.size]!)
    have hrun : (Instr.makeSlice t (.int .i64 n) (.int .i64 m)).run C.P w = .ok (.slice (some ⟨w.heap.size, 0, none⟩) n.toNat m.toNat) (w.alloc (.cells arr e)) := by
      have h1 : (i.bytes : Int) * m ≤ 281474976710656 := by omega
      have h2 : ¬ m < 0 := by omega
      have h3 : ¬ n < 0 := by omega
      have h4 : ¬ n > m := by omega
      have h5 : ¬ ((i.bytes : Int) * m > 281474976710656) := by omega
      simp only [Instr.makeSlice, Sem.run_bind, run_under hu, Result.andThen_ok, asInt, asIntOf, Sem.run_pure, run_tinfo hi, wrap_i64_in l1 l2, wrap_i64_in c1 c2]
      simp only [h2, h3, h4, show (2 : Int) ^ 48 = 281474976710656 from by decide, h5, decide_false, Bool.or_false, Bool.false_or, Bool.false_eq_true, if_false, Sem.run_pure, Result.andThen_ok, run_askRoom, Sem.run_bind, run_size hi, hcs]
      by_cases hm0 : m.toNat * κ.sz = 0
      · have harr : arr = #[] := by simp [arr, hm0]
        simp only [hm0, if_true, Sem.run_pure, Result.andThen_ok, Go.newRow, Sem.run_bind, run_newObj, harr]
        have e0 : (Array.map (fun x : Nat => (#[] : Array Value)[x % (#[] : Array Value).size]!) (Array.range 0)) = #[] := by simp
        rw [e0]
        rfl
      · simp only [if_neg hm0, Sem.run_bind, run_zero hi hz, Sem.run_pure, Result.andThen_ok, Go.newRow, run_newObj]
        rfl
    refine wp_val (u := _) (w' := w.alloc (.cells arr e)) ?_ (hnx _ _ (row_end (base := base) hd hr (Part.le_refl R) hr.inv (log := []) (fun i => .inl rfl) (en_free hv hfree) (.slice (some ⟨w.heap.size, 0, none⟩) n.toNat m.toNat) (fun b hb => Nat.le_of_eq (by injection hb)) (by simp) rfl rfl rfl (fun b hb => heap_alloc_old w _ hb) (fun g' => ?_)))
    · simp only [execOp, hop, el, ec]
      exact run_v hrun
    · refine .inr ⟨w.heap.size, m.toNat, arr, (0, 0), by simp, heap_alloc_new w _, Unf_zero _, by simp; omega, by simp [arr], ?_, zeros_one (fun u hu => K.Rd_one κ _ _ (hzero R) u hu) (by omega), fun j x hx => ?_⟩
      · simp only [List.length_replicate]
        unfold lim
        rw [k_max_eq] at l2
        change n ≤ (9223372036854775807 : Int) at l2
        omega
      · have hj := (List.getElem?_eq_some_iff.1 hx).1
        rw [List.length_replicate] at hj
        have hx' : x = κ.zero := by
          have := (List.getElem?_eq_some_iff.1 hx).2
          simpa using this.symm
        subst hx'
        show κ.Rd C.E R κ.zero (((((Array.range (m.toNat * κ.sz)).map (z.cells[· % z.cells.size]!)).toList.drop (j * κ.sz)).take κ.sz))
        rw [zeros_seg hzsz hsz m.toNat j (by omega)]
        exact hzero R
  · cases h
theorem cells_end {s : VSt} {a : Act} {w w' : World} {R : Part} {g : Gh} (hd : ∀ t, o.dst = some t → t < C.N) (hr : Rel C s a w R g) {ty : TypeId} {cs : List CV} (hf : s.en base = .free) (arr : Array Value) (hw : w' = w.alloc (.cells arr ty)) (hcs : All2 (CVRel C.E R g) cs arr.toList) :
    RelE C (s.app o.dst ⟨some (.r (.c (.ptr base 0))), [(base, .live (.cells ty cs))]⟩) (a.put o.dst (.pointer (some ⟨w.heap.size, 0, none⟩))) w' := by
  subst hw
  have hle := updg_le (g := g) (h := base) (v := .pointer (some ⟨w.heap.size, 0, none⟩)) (.inl (hr.inv.free base hf))
  have h1 := hr.inv.make base hf (.cells ty cs) (.pointer (some ⟨w.heap.size, 0, none⟩)) (w' := w.alloc (.cells arr ty)) (fun b hb => Nat.le_of_eq (by injection hb)) (by simp) rfl rfl rfl (fun b hb => heap_alloc_old w _ hb)
    ⟨w.heap.size, arr, (0, 0), rfl, heap_alloc_new w _, Unf_zero _, hcs.cv_mono (Part.le_refl R) hle⟩
  exact hr.app (δ := ⟨some (.r (.c (.ptr base 0))), [(base, .live (.cells ty cs))]⟩) hd (Part.le_refl R) hle h1 (some_r ⟨w.heap.size, updg_same _ _ _, rfl⟩)
theorem newSegs_spec {ty : TypeId} {ss : List Seg} {en : Nat → EnS} {δ : Delta} (h : newSegs base ty ss en = some δ) :
    en base = .free ∧ δ = ⟨some (.r (.c (.ptr base 0))), [(base, .live (.segs ty ss))]⟩ := by
  unfold newSegs at h
  split at h
  · injection h with h; exact ⟨by assumption, h.symm⟩
  · cases h
theorem segs_end {s : VSt} {a : Act} {w w' : World} {R : Part} {g : Gh} (hd : ∀ t, o.dst = some t → t < C.N) (hr : Rel C s a w R g) {ty : TypeId} {ss : List Seg} (hf : s.en base = .free) (arr : Array Value) (hw : w' = w.alloc (.cells arr ty)) (hcs : SegsRel C.E R g ss arr.toList) :
    RelE C (s.app o.dst ⟨some (.r (.c (.ptr base 0))), [(base, .live (.segs ty ss))]⟩) (a.put o.dst (.pointer (some ⟨w.heap.size, 0, none⟩))) w' := by
  subst hw
  have hle := updg_le (g := g) (h := base) (v := .pointer (some ⟨w.heap.size, 0, none⟩)) (.inl (hr.inv.free base hf))
  have h1 := hr.inv.make base hf (.segs ty ss) (.pointer (some ⟨w.heap.size, 0, none⟩)) (w' := w.alloc (.cells arr ty)) (fun b hb => Nat.le_of_eq (by injection hb)) (by simp) rfl rfl rfl (fun b hb => heap_alloc_old w _ hb)
    ⟨w.heap.size, arr, (0, 0), rfl, heap_alloc_new w _, Unf_zero _, hcs.mono (Part.le_refl R) hle⟩
  exact hr.app (δ := ⟨some (.r (.c (.ptr base 0))), [(base, .live (.segs ty ss))]⟩) hd (Part.le_refl R) hle h1 (some_r ⟨w.heap.size, updg_same _ _ _, rfl⟩)
theorem arr_end {s : VSt} {a : Act} {w w' : World} {R : Part} {g : Gh} (hd : ∀ t, o.dst = some t → t < C.N) (hr : Rel C s a w R g) {ty : TypeId} {κ : K} {xs : List κ.T} (hf : s.en base = .free) (h0 : 0 < xs.length) (arr : Array Value) (hw : w' = w.alloc (.cells arr ty))
    (he : ∀ g', EntRel C.E R g' w' (.row ty κ xs) (.slice (some ⟨w.heap.size, 0, none⟩) xs.length xs.length)) :
    RelE C (s.app o.dst ⟨some (.r (.c (.elt base κ.sz 0 0))), [(base, .live (.row ty κ xs))]⟩) (a.put o.dst (.pointer (some ⟨w.heap.size, 0, none⟩))) w' := by
  subst hw
  have hle := updg_le (g := g) (h := base) (v := .slice (some ⟨w.heap.size, 0, none⟩) xs.length xs.length) (.inl (hr.inv.free base hf))
  have h1 := hr.inv.make base hf (.row ty κ xs) (.slice (some ⟨w.heap.size, 0, none⟩) xs.length xs.length) (w' := w.alloc (.cells arr ty)) (fun b hb => Nat.le_of_eq (by injection hb)) (by simp) rfl rfl rfl (fun b hb => heap_alloc_old w _ hb) (he _)
  exact hr.app (δ := ⟨some (.r (.c (.elt base κ.sz 0 0))), [(base, .live (.row ty κ xs))]⟩) hd (Part.le_refl R) hle h1 (some_r ⟨w.heap.size, _, _, updg_same _ _ _, h0, by simp⟩)
theorem newArr_spec {ty : TypeId} {κ : K} {xs : List κ.T} {en : Nat → EnS} {δ : Delta} (h : newArr base ty κ xs en = some δ) :
    en base = .free ∧ 0 < xs.length ∧ xs.length ≤ lim ∧ δ = ⟨some (.r (.c (.elt base κ.sz 0 0))), [(base, .live (.row ty κ xs))]⟩ := by
  unfold newArr at h
  split at h
  · split at h
    · rename_i hc; injection h with h; exact ⟨by assumption, hc.1, hc.2, h.symm⟩
    · cases h
  · cases h
theorem dats_row {E : TypeId} {R : Part} {g : Gh} {κ : K} (hsz : κ.sz = 1) {cs : List CV} {xs : List κ.T} {vs : List Value} (h : datsOf κ cs = some xs) (hr : All2 (CVRel E R g) cs vs) : xs.length = vs.length ∧ RowRd E R κ xs vs := by
  obtain ⟨h1, h2⟩ := datsOf_get h
  refine ⟨by rw [h1, hr.len], fun j x hx => ?_⟩
  obtain ⟨u, hu, hrel⟩ := hr.get j _ (h2 j x hx)
  rw [hsz, Nat.mul_one]
  have hlt := (List.getElem?_eq_some_iff.1 hu).1
  have e1 : (vs.drop j).take 1 = [u] := by
    rw [List.drop_eq_getElem_cons hlt, List.take_succ_cons, List.take_zero]
    congr 1
    exact (List.getElem?_eq_some_iff.1 hu).2
  rw [e1]
  exact hrel
theorem ok_alloc (hd : ∀ t, o.dst = some t → t < C.N) {t : TypeId} (hop : o.op = .alloc t) (h : stepO C.P C.E env kn base o v f = some r) : Done C kn o v f r := by
  unfold stepO at h
  rw [hop] at h
  simp only [Option.bind_eq_some_iff] at h
  obtain ⟨δ, ⟨i, hi, z, hz, cs, hcs, hδ⟩, h⟩ := h
  have hrun : ∀ {a : Act} {w : World}, (execOp a.eval o).run C.P w = .ok (.value (.pointer (some ⟨w.heap.size, 0, none⟩))) (w.alloc (.cells z.cells t)) := by
    intro a w
    simp only [execOp, hop]
    exact run_v (by simp [Instr.alloc, run_zero hi hz, newVar, Go.newRow])
  split at hδ
  · rename_i n e κ x0 rest _
    split at hδ
    · rename_i hsz
      rw [Option.bind_eq_some_iff] at hδ
      obtain ⟨xs, hxs, hδ⟩ := hδ
      obtain ⟨hfree, h0, hlim, rfl⟩ := newArr_spec hδ
      refine ⟨_, h, fun s a w R g hv hkn hr next Q hnx => ?_⟩
      refine wp_val (u := .pointer (some ⟨w.heap.size, 0, none⟩)) (w' := w.alloc (.cells z.cells t)) hrun (hnx _ _ (arr_end (base := base) hd hr (en_free hv hfree) h0 z.cells rfl (fun g' => ?_)))
      have hrel : All2 (CVRel C.E R g) _ z.cells.toList := constCVs_rel hcs
      obtain ⟨hl, hrow⟩ := dats_row hsz hxs hrel
      have hl' : xs.length = z.cells.size := by rw [hl]; simp
      refine .inr ⟨w.heap.size, xs.length, z.cells, (0, 0), rfl, heap_alloc_new w _, Unf_zero _, Nat.le_refl _, by rw [hsz]; omega, hlim, ?_, hrow⟩
      rw [List.all_eq_true]
      exact hrel.cv_one
    · cases hδ
  · split at hδ
    · rw [Option.bind_eq_some_iff] at hδ
      obtain ⟨ss, hss, hδ⟩ := hδ
      obtain ⟨hfree, rfl⟩ := newSegs_spec hδ
      refine ⟨_, h, fun s a w R g hv hkn hr next Q hnx => ?_⟩
      exact wp_val (u := .pointer (some ⟨w.heap.size, 0, none⟩)) (w' := w.alloc (.cells z.cells t)) hrun (hnx _ _ (segs_end (base := base) hd hr (en_free hv hfree) z.cells rfl (zeroS_rel hss)))
    obtain ⟨hfree, rfl⟩ := newCells_spec hδ
    refine ⟨_, h, fun s a w R g hv hkn hr next Q hnx => ?_⟩
    exact wp_val (u := .pointer (some ⟨w.heap.size, 0, none⟩)) (w' := w.alloc (.cells z.cells t)) hrun (hnx _ _ (cells_end (base := base) hd hr (en_free hv hfree) z.cells rfl (constCVs_rel hcs)))
theorem ok_box (hd : ∀ t, o.dst = some t → t < C.N) {t : TypeId} {x : Operand} (hop : o.op = .box t x) (h : stepO C.P C.E env kn base o v f = some r) : Done C kn o v f r := by
  unfold stepO at h
  rw [hop] at h
  simp only [Option.bind_eq_some_iff] at h
  obtain ⟨rv, hrv, h⟩ := h
  have hrun : ∀ {a : Act} {w : World}, (execOp a.eval o).run C.P w = .ok (.value (.pointer (some ⟨w.heap.size, 0, none⟩))) (w.alloc (.cells (a.eval x).cells t)) := by
    intro a w
    simp only [execOp, hop]
    exact run_v (by simp [Instr.box, newVar, Go.newRow])
  split at h
  · rename_i n κ xs
    split at h
    · rename_i hcond
      obtain ⟨_, hsz, hn0, hnl⟩ := hcond
      split at h
      · rename_i en
        split at h
        · rename_i hfree
          refine ⟨_, h, fun s a w R g hv hkn hr next Q hnx => ?_⟩
          obtain ⟨us, e, hus⟩ : RVRel C.E R g (.sg [.blk (.arr n κ) xs]) (a.eval x) := evr_rel hv hr hrv
          have hrd : (K.arr n κ).Rd C.E R xs us := by
            cases hus with
            | blk hrd hn => cases hn; rw [List.append_nil]; exact hrd
          have e2 : (a.eval x).cells = us.toArray := by rw [e]; rfl
          refine wp_val (u := .pointer (some ⟨w.heap.size, 0, none⟩)) (w' := w.alloc (.cells (a.eval x).cells t)) hrun (hnx _ _ (arr_end (base := base) hd hr (en_free hv hfree) (by omega) (a.eval x).cells rfl (fun g' => ?_)))
          refine .inr ⟨w.heap.size, List.length xs, (a.eval x).cells, (0, 0), rfl, heap_alloc_new w _, Unf_zero _, Nat.le_refl _, by rw [e2, ← en]; simp [hrd.2.1], by omega, ?_, ?_⟩
          · rw [e2, List.all_eq_true]; intro v hv'; exact hrd.2.2.1 v (by simpa using hv')
          · rw [e2]; exact fun j y hy => hrd.2.2.2 j y hy
        · cases h
      · cases h
    · cases h
  · rename_i ss _
    rw [Option.bind_eq_some_iff] at h
    obtain ⟨δ, hδ, h⟩ := h
    obtain ⟨hfree, rfl⟩ := newSegs_spec hδ
    refine ⟨_, h, fun s a w R g hv hkn hr next Q hnx => ?_⟩
    exact wp_val (u := .pointer (some ⟨w.heap.size, 0, none⟩)) (w' := w.alloc (.cells (a.eval x).cells t)) hrun (hnx _ _ (segs_end (base := base) hd hr (en_free hv hfree) (a.eval x).cells rfl (evr_rel hv hr hrv).segs))
  rw [Option.bind_eq_some_iff] at h
  obtain ⟨δ, hδ, h⟩ := h
  obtain ⟨hfree, rfl⟩ := newCells_spec hδ
  refine ⟨_, h, fun s a w R g hv hkn hr next Q hnx => ?_⟩
  exact wp_val (u := .pointer (some ⟨w.heap.size, 0, none⟩)) (w' := w.alloc (.cells (a.eval x).cells t)) hrun (hnx _ _ (cells_end (base := base) hd hr (en_free hv hfree) (a.eval x).cells rfl (evr_rel hv hr hrv).cells))
/-! ### a struct's parts -/
theorem take_app_drop {α : Type} (z c : List α) (off : Nat) (h : off + c.length ≤ z.length) : (c.zipIdx.foldl (fun cs (p : α × Nat) => cs.set (off + p.2) p.1) z) = z.take off ++ c ++ z.drop (off + c.length) := by
  have gen : ∀ (c : List α) (k : Nat) (z : List α), off + k + c.length ≤ z.length → ((c.zipIdx k).foldl (fun cs (p : α × Nat) => cs.set (off + p.2) p.1) z) = z.take (off + k) ++ c ++ z.drop (off + k + c.length) := by
    intro c
    induction c with
    | nil => intro k z h; simp
    | cons x c ih =>
      intro k z h
      simp only [List.length_cons] at h
      rw [List.zipIdx_cons, List.foldl_cons, ih (k + 1) _ (by rw [List.length_set]; omega)]
      have hlt : off + k < z.length := by omega
      rw [show off + (k + 1) = off + k + 1 from by omega, List.take_succ_eq_append_getElem (by rw [List.length_set]; omega), List.take_set_of_le (Nat.le_refl _), List.getElem_set_self, List.drop_set_of_lt (by omega)]
      simp only [List.length_cons, List.append_assoc, List.cons_append, List.nil_append]
      congr 3
      congr 1
      omega
  have := gen c 0 z (by omega)
  simpa using this
theorem fill_run (place : Nat → Option (Nat × Nat)) : ∀ (parts : List (Nat × Value)) (z : Array Value) (ps : List (Nat × List Value)) (out : List Value), parts.map (fun p => (place p.1).bind fun q => if p.2.cells.size = q.2 then some (q.1, p.2.cells.toList) else none) = ps.map some →
    (ps.foldl (fun (acc : Option (List Value)) p => acc.bind fun z => if p.1 + p.2.length ≤ z.length then some (z.take p.1 ++ p.2 ++ z.drop (p.1 + p.2.length)) else none) (some z.toList)) = some out → ∃ arr, Instr.fill place z parts = some arr ∧ arr.toList = out
  | [], z, ps, out, h1, h2 => by
    cases ps with
    | nil => simp only [List.foldl_nil, Option.some.injEq] at h2; exact ⟨z, rfl, h2⟩
    | cons => simp at h1
  | (i, u) :: r, z, ps, out, h1, h2 => by
    cases ps with
    | nil => simp at h1
    | cons p ps =>
      simp only [List.map_cons, List.cons.injEq] at h1
      obtain ⟨hp, hrest⟩ := h1
      rw [Option.bind_eq_some_iff] at hp
      obtain ⟨q, hq, hp⟩ := hp
      split at hp
      · rename_i hsz
        injection hp with hp
        subst hp
        simp only [List.foldl_cons, Option.bind_some] at h2
        split at h2
        · rename_i hle
          obtain ⟨off, sz⟩ := q
          simp only at hsz hle h2
          have hle' : off + u.cells.size ≤ z.size := by simpa using hle
          have hfold : (u.cells.zipIdx.foldl (fun cs (c, j) => cs.setIfInBounds (off + j) c) z).toList = z.toList.take off ++ u.cells.toList ++ z.toList.drop (off + u.cells.toList.length) := by
            rw [← take_app_drop z.toList u.cells.toList off hle]
            rw [← Array.foldl_toList, Array.toList_zipIdx]
            generalize u.cells.toList.zipIdx = l
            clear hle hle' h2 hq hsz hrest
            induction l generalizing z with
            | nil => rfl
            | cons x l ih => rw [List.foldl_cons, List.foldl_cons, ih]; simp
          obtain ⟨arr, ha, hb⟩ := fill_run place r _ ps out hrest (by rw [hfold]; exact h2)
          refine ⟨arr, ?_, hb⟩
          simp only [Instr.fill, hq, hsz, ne_eq, not_true, decide_false, Bool.false_or]
          rw [if_neg (by simp; omega)]
          exact ha
        · exfalso
          clear hrest
          induction ps with
          | nil => simp at h2
          | cons p ps ih => simp only [List.foldl_cons, Option.bind_none] at h2; exact ih h2
      · cases hp
theorem fillCells_rel {E : TypeId} {R : Part} {g : Gh} : ∀ (ps : List (Nat × List CV)) (qs : List (Nat × List Value)) (z cs : List CV) (zs : List Value), All2 (fun (p : Nat × List CV) (q : Nat × List Value) => p.1 = q.1 ∧ All2 (CVRel E R g) p.2 q.2) ps qs → All2 (CVRel E R g) z zs → fillCells ps z = some cs →
    ∃ out, (qs.foldl (fun (acc : Option (List Value)) p => acc.bind fun z => if p.1 + p.2.length ≤ z.length then some (z.take p.1 ++ p.2 ++ z.drop (p.1 + p.2.length)) else none) (some zs)) = some out ∧ All2 (CVRel E R g) cs out
  | [], qs, z, cs, zs, h1, h2, h => by
    cases h1
    simp only [fillCells, Option.some.injEq] at h
    subst h
    exact ⟨zs, rfl, h2⟩
  | (off, c) :: r, qs, z, cs, zs, h1, h2, h => by
    cases h1 with
    | cons hx hr =>
      rename_i q qs
      obtain ⟨rfl, hc⟩ := hx
      simp only [fillCells] at h
      split at h
      · rename_i hle
        rw [hc.len, h2.len] at hle
        obtain ⟨out, ho, hrel⟩ := fillCells_rel r qs _ cs _ hr (((h2.take _).app hc).app (h2.drop _)) h
        refine ⟨out, ?_, hrel⟩
        simp only [List.foldl_cons, Option.bind_some]
        rw [if_pos hle, ← hc.len]
        exact ho
      · cases h
theorem partsCells_rel {s : VSt} {a : Act} {w : World} {R : Part} {g : Gh} (hv : View v s) (hr : Rel C s a w R g) {place : Nat → Option (Nat × Nat)} : ∀ {parts : List (Nat × Operand)} {ps : List (Nat × List CV)}, partsCells v place parts = some ps →
    ∃ qs : List (Nat × List Value), All2 (fun (p : Nat × List CV) (q : Nat × List Value) => p.1 = q.1 ∧ All2 (CVRel C.E R g) p.2 q.2) ps qs ∧ (parts.map fun p => (p.1, a.eval p.2)).map (fun p => (place p.1).bind fun q => if p.2.cells.size = q.2 then some (q.1, p.2.cells.toList) else none) = qs.map some
  | [], ps, h => by
    simp only [partsCells, Option.some.injEq] at h
    subst h
    exact ⟨[], .nil, rfl⟩
  | (i, x) :: r, ps, h => by
    simp only [partsCells, Option.bind_eq_some_iff] at h
    obtain ⟨q, hq, rv, hrv, h⟩ := h
    split at h
    · rename_i hlen
      rw [Option.map_eq_some_iff] at h
      obtain ⟨ps', h, rfl⟩ := h
      obtain ⟨qs, h1, h2⟩ := partsCells_rel hv hr h
      have hc := (evr_rel hv hr hrv).cells
      refine ⟨(q.1, (a.eval x).cells.toList) :: qs, .cons ⟨rfl, hc⟩ h1, ?_⟩
      have hsz : (a.eval x).cells.size = q.2 := by rw [← hlen, hc.len]; simp
      simp only [List.map_cons, hq, Option.bind_some, hsz, if_true, h2]
    · cases h
theorem mapM_places {P : Program} (w : World) : ∀ (l : List Field), (∀ fd ∈ l, ∃ i, P.info? fd.type = some i) → (l.mapM (fun f => (do pure (f.offset, ← sizeOf f.type) : Sem (Nat × Nat)))).run P w = .ok (l.map fun fd => (fd.offset, P.cellsOf fd.type)) w
  | [], _ => rfl
  | fd :: l, h => by
    obtain ⟨i, hi⟩ := h fd (by simp)
    have ih := mapM_places w l (fun x hx => h x (by simp [hx]))
    rw [List.mapM_cons]
    simp only [Sem.run_bind, run_size hi, Result.andThen_ok, Sem.run_pure, ih, List.map_cons]
theorem fill_one {place : Nat → Option (Nat × Nat)} {z : Array Value} {i off sz : Nat} {u : Value} {r : List (Nat × Value)} (hp : place i = some (off, sz)) (hu : u.cells.size = sz) (hle : off + sz ≤ z.size) :
    ∃ z' : Array Value, Instr.fill place z ((i, u) :: r) = Instr.fill place z' r ∧ z'.toList = z.toList.take off ++ u.cells.toList ++ z.toList.drop (off + u.cells.toList.length) := by
  refine ⟨u.cells.zipIdx.foldl (fun cs (c, j) => cs.setIfInBounds (off + j) c) z, ?_, ?_⟩
  · simp only [Instr.fill, hp, hu, ne_eq, not_true, decide_false, Bool.false_or]
    rw [if_neg (by simp; omega)]
  · have hle' : off + u.cells.toList.length ≤ z.toList.length := by simp; omega
    rw [← take_app_drop z.toList u.cells.toList off hle', ← Array.foldl_toList, Array.toList_zipIdx]
    generalize u.cells.toList.zipIdx = l
    clear hle hle'
    induction l generalizing z with
    | nil => rfl
    | cons x l ih => rw [List.foldl_cons, List.foldl_cons, ih]; simp
theorem buildS_run {s : VSt} {a : Act} {w : World} {R : Part} {g : Gh} (hv : View v s) (hr : Rel C s a w R g) {place : Nat → Option (Nat × Nat)} : ∀ {parts : List (Nat × Operand)} {ss ss' : List Seg} {z : Array Value}, buildS v place parts ss = some ss' → SegsRel C.E R g ss z.toList →
    ∃ arr, Instr.fill place z (parts.map fun p => (p.1, a.eval p.2)) = some arr ∧ SegsRel C.E R g ss' arr.toList
  | [], ss, ss', z, h, hs => by
    simp only [buildS, Option.some.injEq] at h
    subst h
    exact ⟨z, rfl, hs⟩
  | (i, x) :: r, ss, ss', z, h, hs => by
    simp only [buildS, Option.bind_eq_some_iff] at h
    obtain ⟨q, hq, rv, hrv, h⟩ := h
    split at h
    · rename_i hlen
      rw [Option.bind_eq_some_iff] at h
      obtain ⟨m, hm, h⟩ := h
      obtain ⟨m1, _, m3, m4⟩ := hs.mid hm
      have hsg := (evr_rel hv hr hrv).segs
      have hsz : (a.eval x).cells.size = q.2 := by rw [← hlen, ← hsg.len]; simp
      obtain ⟨z', hz, hl⟩ := fill_one (r := r.map fun p => (p.1, a.eval p.2)) (z := z) hq hsz (by simpa using m4)
      have hs' : SegsRel C.E R g (m.1 ++ rv.segs ++ m.2.2) z'.toList := by
        rw [hl]
        refine SegsRel.app (SegsRel.app m1 hsg) ?_
        rw [show (a.eval x).cells.toList.length = q.2 from by simpa using hsz]
        exact m3
      obtain ⟨arr, h1, h2⟩ := buildS_run hv hr h hs'
      exact ⟨arr, by rw [List.map_cons, hz]; exact h1, h2⟩
    · cases h
theorem ok_build (hd : ∀ t, o.dst = some t → t < C.N) {t : TypeId} {parts : Array (Nat × Operand)} (hop : o.op = .build t parts) (h : stepO C.P C.E env kn base o v f = some r) : Done C kn o v f r := by
  unfold stepO at h
  rw [hop] at h
  simp only at h
  split at h
  · rename_i fs hu
    split at h
    · cases h
    rename_i hall
    have hall : ∀ fd ∈ fs.toList, ∃ i, C.P.info? fd.type = some i := fun fd hfd => by
      have : (fs.toList.all fun fd => (C.P.info? fd.type).isSome) = true := by simpa only [Bool.not_eq_true, Bool.not_eq_false, Bool.not_eq_true'] using hall
      exact Option.isSome_iff_exists.1 (List.all_eq_true.1 this fd hfd)
    simp only [Option.bind_eq_some_iff] at h
    obtain ⟨i, hi, z, hz, h⟩ := h
    split at h
    · simp only [Option.bind_eq_some_iff] at h
      obtain ⟨ss, hss, ss', hss', h⟩ := h
      refine ⟨_, h, .pure hd rfl fun s a w R g hv hkn hr => ?_⟩
      obtain ⟨arr, h5, h6⟩ := buildS_run hv hr hss' (zeroS_rel (C := C) (R := R) (g := g) hss)
      refine ⟨.agg arr, ?_, some_r ⟨arr.toList, by simp, h6⟩⟩
      simp only [execOp, hop]
      refine run_v ?_
      have hpl : (fun i : Nat => ((fs.toList.map fun (fd : Field) => (fd.offset, C.P.cellsOf fd.type)).toArray)[i]?) = fun i => (fs[i]?).map fun (fd : Field) => (fd.offset, C.P.cellsOf fd.type) := by
        funext i; simp
      have hparts : (parts.map fun (i, x) => (i, a.eval x)).toList = parts.toList.map fun p => (p.1, a.eval p.2) := by simp
      simp only [Instr.build, Sem.run_bind, run_zero hi hz, Result.andThen_ok, run_under hu, Array.mapM_eq_mapM_toList, Sem.run_map, mapM_places w fs.toList hall, hpl, hparts, h5, Sem.run_pure]
    simp only [Option.bind_eq_some_iff] at h
    obtain ⟨zs, hzs, ps, hps, cs, hcs, h⟩ := h
    refine ⟨_, h, .pure hd rfl fun s a w R g hv hkn hr => ?_⟩
    obtain ⟨qs, h1, h2⟩ := partsCells_rel hv hr hps
    obtain ⟨out, h3, h4⟩ := fillCells_rel (E := C.E) (R := R) (g := g) ps qs zs cs z.cells.toList h1 (constCVs_rel hzs) hcs
    obtain ⟨arr, h5, h6⟩ := fill_run (fun i => (fs[i]?).map fun fd => (fd.offset, C.P.cellsOf fd.type)) (parts.toList.map fun p => (p.1, a.eval p.2)) z.cells qs out h2 h3
    refine ⟨.agg arr, ?_, some_r ⟨arr.toList, by simp, by rw [h6]; exact h4⟩⟩
    simp only [execOp, hop]
    refine run_v ?_
    have hpl : (fun i : Nat => ((fs.toList.map fun (fd : Field) => (fd.offset, C.P.cellsOf fd.type)).toArray)[i]?) = fun i => (fs[i]?).map fun (fd : Field) => (fd.offset, C.P.cellsOf fd.type) := by
      funext i; simp
    have hparts : (parts.map fun (i, x) => (i, a.eval x)).toList = parts.toList.map fun p => (p.1, a.eval p.2) := by simp
    simp only [Instr.build, Sem.run_bind, run_zero hi hz, Result.andThen_ok, run_under hu, Array.mapM_eq_mapM_toList, Sem.run_map, mapM_places w fs.toList hall, hpl, hparts, h5, Sem.run_pure]
  · rename_i n e hu
    split at h
    · rename_i hinfo
      obtain ⟨ie, hie⟩ := Option.isSome_iff_exists.1 hinfo
      simp only [Option.bind_eq_some_iff] at h
      obtain ⟨i, hi, z, hz, zs, hzs, ps, hps, cs, hcs, h⟩ := h
      split at h
      rotate_left
      · cases h
      rename_i κ x0 rest
      split at h
      rotate_left
      · cases h
      rename_i hsz
      obtain ⟨hsz, hn⟩ := hsz
      rw [Option.bind_eq_some_iff] at h
      obtain ⟨xs, hxs, h⟩ := h
      refine ⟨_, h, .pure hd rfl fun s a w R g hv hkn hr => ?_⟩
      obtain ⟨qs, h1, h2⟩ := partsCells_rel hv hr hps
      obtain ⟨out, h3, h4⟩ := fillCells_rel (E := C.E) (R := R) (g := g) ps qs zs _ z.cells.toList h1 (constCVs_rel hzs) hcs
      obtain ⟨arr, h5, h6⟩ := fill_run (fun i => some (i * C.P.cellsOf e, C.P.cellsOf e)) (parts.toList.map fun p => (p.1, a.eval p.2)) z.cells qs out h2 h3
      have hrd : (K.arr n κ).Rd C.E R xs arr.toList := by
        obtain ⟨hl, hrow⟩ := dats_row hsz hxs h4
        have hl2 := h4.len
        rw [List.length_cons] at hl2
        rw [h6]
        exact ⟨by rw [hl]; omega, by rw [hsz]; omega, h4.cv_one, hrow⟩
      refine ⟨.agg arr, ?_, some_r ⟨arr.toList, by simp, by have := SegsRel.blk (g := g) hrd .nil; rwa [List.append_nil] at this⟩⟩
      simp only [execOp, hop]
      refine run_v ?_
      have hparts : (parts.map fun (i, x) => (i, a.eval x)).toList = parts.toList.map fun p => (p.1, a.eval p.2) := by simp
      simp only [Instr.build, Sem.run_bind, run_zero hi hz, Result.andThen_ok, run_under hu, run_size hie, hparts, h5, Sem.run_pure]
    · cases h
  · cases h
/-! ### conversions -/
theorem byte_range (b : UInt8) : IntKind.u8.min ≤ (b.toNat : Int) ∧ (b.toNat : Int) ≤ IntKind.u8.max := by
  rw [k_min_eq, k_max_eq]
  show (0 : Int) ≤ _ ∧ _ ≤ (255 : Int)
  have := b.toNat_lt
  omega
theorem bytesL_get (s : ByteArray) (j : Nat) (x : Int) (h : (bytesL s)[j]? = some x) : ∃ b : UInt8, s.data.toList[j]? = some b ∧ x = (b.toNat : Int) := by
  simp only [bytesL, List.getElem?_map, Option.map_eq_some_iff] at h
  obtain ⟨b, hb, rfl⟩ := h
  exact ⟨b, hb, rfl⟩
theorem strBytes_run {P : Program} (e : TypeId) (s : ByteArray) (w : World) (hs : s.size ≤ lim) : ∃ cap arr w', (Conv.stringToBytes e s).run P w = .ok (.slice (some ⟨w.heap.size, 0, none⟩) s.size cap) w' ∧ s.size ≤ cap ∧ arr.size = cap ∧
    w'.heap[w.heap.size]? = some (.cells arr e (arr.size, arr.size + 1)) ∧ (∀ b, b < w.heap.size → w'.heap[b]? = w.heap[b]?) ∧ w'.heap.size = w.heap.size + 1 ∧ w'.os = w.os ∧ w'.tape = w.tape ∧ w'.output = w.output ∧
    arr.toList = (s.data.toList.map fun b => Value.int .u8 b.toNat) ++ List.replicate (cap - s.size) (.int .u8 0) := by
  let cap := (Question.appendCap s.size 0 e).cut (w.tape w.drawn (.appendCap s.size 0 e))
  have hcap : s.size ≤ cap := by show s.size ≤ s.size + _; omega
  let arr : Array Value := s.data.map (fun b => Value.int .u8 b.toNat) ++ Array.replicate (cap - s.size) (.int .u8 0)
  have hsz : arr.size = cap := by
    have : s.data.size = s.size := rfl
    simp only [arr, Array.size_append, Array.size_map, Array.size_replicate]
    omega
  let w1 := w.drew.alloc (.cells arr e)
  have hb1 : w1.heap[w.heap.size]? = some (.cells arr e (0, 0)) := heap_alloc_new w.drew _
  have hshape : w1.shape? w.heap.size = some (e, arr.size) := by simp [World.shape?, hb1]
  refine ⟨cap, arr, w1.freeze ⟨w.heap.size, arr.size, none⟩ 1, ?_, hcap, hsz, ?_, fun b hb => ?_, ?_, ?_, ?_, ?_, by simp [arr]⟩
  · have hch : (choose (.appendCap s.size 0 e)).run P w = .ok cap w.drew := by rw [run_choose_drew]; rfl
    have hnew : (Go.newRow e arr).run P w.drew = .ok ⟨w.heap.size, 0, none⟩ w1 := by simp [Go.newRow]; rfl
    have hmark : (markStringish ⟨w.heap.size, 0, none⟩).run P w1 = .ok () (w1.freeze ⟨w.heap.size, arr.size, none⟩ 1) := by
      simp [markStringish, hshape]
    simp only [Conv.stringToBytes, Sem.run_bind, hch, Result.andThen_ok]
    rw [show (Array.map (fun (b : UInt8) => Value.int IntKind.u8 (b.toNat : Int)) s.data ++ Array.replicate (cap - s.size) (Value.int IntKind.u8 0)) = arr from rfl]
    simp only [hnew, Result.andThen_ok, hmark, Sem.run_pure]
  · simp only [World.freeze, Nat.one_ne_zero, if_false, Array.getElem?_modify, if_true, hb1, Option.map_some]
    simp
  · have hne : ¬ w.heap.size = b := by omega
    simp only [World.freeze, Nat.one_ne_zero, if_false, Array.getElem?_modify, if_neg hne]
    exact heap_alloc_old w.drew _ hb
  · simp [World.freeze, w1]
  all_goals rfl
/-- what a slice holds. -/
def Els (E : TypeId) (R : Part) (w : World) (κ : K) (xs : List κ.T) (u : Value) : Prop :=
  ∃ A c, u = .slice A xs.length c ∧ xs.length ≤ lim ∧ xs.length ≤ c ∧ (xs ≠ [] → ∃ b off arr ty fr, A = some ⟨b, off, none⟩ ∧ w.heap[b]? = some (.cells arr ty fr) ∧ ∀ (j : Nat) (x : κ.T), xs[j]? = some x → κ.Rd E R x ((arr.toList.drop (off + j * κ.sz)).take κ.sz))
theorem Els.of_rd {E : TypeId} {R : Part} {w : World} (hsub : ∀ b o, R b = some o → w.heap[b]? = some o) {κ : K} {xs : List κ.T} {u : Value} (h : (K.list κ).Rd E R xs [u]) : Els E R w κ xs u := by
  obtain ⟨A, c, e, hl, hx⟩ := h
  injection e with e _
  refine ⟨A, c, e, hl.1, hl.2, fun hne => ?_⟩
  obtain ⟨b, off, arr, ty, fr, hA, hb, hj⟩ := hx hne
  exact ⟨b, off, arr, ty, fr, hA, hsub b _ hb, hj⟩
theorem Els.of_row {E : TypeId} {R : Part} {g : Gh} {w : World} {ety : TypeId} {κ : K} {xs : List κ.T} {u : Value} (h : EntRel E R g w (.row ety κ xs) u) : Els E R w κ xs u := by
  rcases h with ⟨rfl, rfl⟩ | ⟨b, c, arr, fr, rfl, h1, h2, h3, h4, h5, h6, h7⟩
  · exact ⟨none, 0, rfl, by simp [lim], by simp, fun h => absurd rfl h⟩
  · refine ⟨_, c, rfl, h5, h3, fun _ => ⟨b, 0, arr, ety, fr, rfl, h1, fun j x hx => ?_⟩⟩
    rw [Nat.zero_add]
    exact h7 j x hx
theorem Els.cut {E : TypeId} {R : Part} {w : World} {κ : K} {xs : List κ.T} {b m cp lo n c : Nat} (h : Els E R w κ xs (.slice (some ⟨b, 0, none⟩) m cp)) (hl : lo + n ≤ xs.length) (hn : n ≠ 0) (hc : n ≤ c) : Els E R w κ ((xs.drop lo).take n) (.slice (some ⟨b, lo * κ.sz, none⟩) n c) := by
  obtain ⟨A', c', e, h1, h2, hx⟩ := h
  have hlen : ((xs.drop lo).take n).length = n := by rw [List.length_take, List.length_drop]; omega
  injection e with e1 e2 e3
  obtain ⟨b', off, arr, ty, fr, hA, hb, hj⟩ := hx (by intro e; subst e; simp at hl; omega)
  rw [hA] at e1
  injection e1 with e1
  injection e1 with e1 e4
  subst e1
  subst e4
  refine ⟨_, c, by rw [hlen], by omega, by omega, fun _ => ⟨b, lo * κ.sz, arr, ty, fr, rfl, hb, fun j x hx => ?_⟩⟩
  have hj' : j < n := by
    rcases Nat.lt_or_ge j n with h | h
    · exact h
    · rw [List.getElem?_eq_none (by omega)] at hx; cases hx
  have := hj (lo + j) x (by rw [List.getElem?_take, if_pos hj', List.getElem?_drop] at hx; exact hx)
  rw [Nat.zero_add, Nat.add_mul] at this
  exact this
theorem elems_sound {s : VSt} {a : Act} {w : World} {R : Part} {g : Gh} (hv : View v s) (hr : Rel C s a w R g) {κ : K} {c : CV} {xs : List κ.T} {u : Value} (h : elems v.en κ c = some xs) (hc : CVRel C.E R g c u) : Els C.E R w κ xs u := by
  cases c with
  | dat κ' x =>
    simp only [elems] at h
    obtain ⟨e, h⟩ := K.conv_eq h
    subst e
    subst h
    exact .of_rd hr.inv.sub hc
  | nils =>
    simp only [elems, Option.some.injEq] at h
    subst h
    exact ⟨none, 0, hc, by simp [lim], by simp, fun h => absurd rfl h⟩
  | own hh =>
    simp only [elems] at h
    split at h
    · rename_i ety κ' ys hen
      obtain ⟨e, h⟩ := K.conv_eq h
      injection e with e
      subst e
      subst h
      obtain ⟨y, hy, hE⟩ := hr.inv.live hh _ (en_live hv hen)
      rw [hc.1] at hy
      injection hy with hy
      subst hy
      exact .of_row hE
    · rename_i κ' ys hen
      obtain ⟨e, h⟩ := K.conv_eq h
      injection e with e
      subst e
      subst h
      obtain ⟨y, hy, hE⟩ := hr.inv.ro hh _ _ (en_ro hv hen)
      rw [hc.1] at hy
      injection hy with hy
      subst hy
      exact .of_rd hr.inv.sub hE
    · cases h
  | sub hh sz lo n =>
    simp only [elems] at h
    obtain ⟨A, c, rfl, hl, hx⟩ := hc
    have fin : ∀ (κ' : K) (ys : List κ'.T), (∀ y, g hh = some y → Els C.E R w κ' ys y) → (if sz = κ'.sz then K.conv (.list κ') (.list κ) ((ys.drop lo).take n) else none) = some xs → Els C.E R w κ xs (.slice A n c) := by
      intro κ' ys hE h
      split at h
      · rename_i hcond
        obtain ⟨e, h⟩ := K.conv_eq h
        injection e with e
        subst e
        subst h
        by_cases h0 : n = 0
        · subst h0
          exact ⟨A, c, by simp, by simp [lim], by simp, fun h => absurd (by simp) h⟩
        · obtain ⟨b, m, cp, hg, rfl, hm⟩ := hx h0
          have hE' := hE _ hg
          have hml : m = ys.length := by
            obtain ⟨A0, c0, e0, _⟩ := hE'
            injection e0
          have := hE'.cut (c := c) (show lo + n ≤ ys.length by omega) h0 hl.2
          rw [← hcond] at this
          exact this
      · cases h
    split at h
    · rename_i ety κ' ys hen
      refine fin κ' ys (fun y hy => ?_) h
      obtain ⟨y', hy', hE⟩ := hr.inv.live hh _ (en_live hv hen)
      rw [hy] at hy'
      injection hy' with hy'
      subst hy'
      exact .of_row hE
    · rename_i κ' ys hen
      refine fin κ' ys (fun y hy => ?_) h
      obtain ⟨y', hy', hE⟩ := hr.inv.ro hh _ _ (en_ro hv hen)
      rw [hy] at hy'
      injection hy' with hy'
      subst hy'
      exact .of_rd hr.inv.sub hE
    · cases h
  | nilp => simp [elems] at h
  | clo => simp [elems] at h
  | nilm => simp [elems] at h
  | ptr => simp [elems] at h
  | elt => simp [elems] at h
  | roA => simp [elems] at h
  | fn => simp [elems] at h
  | slf => simp [elems] at h
  | ndf => simp [elems] at h
  | oel => simp [elems] at h
  | nl => simp [elems] at h
  | pel => simp [elems] at h
  | psub hh off sz lo n =>
    simp only [elems, Option.bind_eq_some_iff] at h
    obtain ⟨⟨ty, a0, ⟨m, κ', ys⟩, r0⟩, hat, h⟩ := h
    simp only at h
    split at h
    rotate_left
    · cases h
    rename_i hcond1
    split at h
    · rename_i hcond2
      have hcond := And.intro hcond1 hcond2
      obtain ⟨e, h⟩ := K.conv_eq h
      injection e with e
      subst e
      have h : xs = List.take n (List.drop lo ys) := h
      subst h
      obtain ⟨ss, hen, hcut⟩ := arrAt_spec hat
      obtain ⟨b, c, hg, hl, A, rfl, hA⟩ := hc
      obtain ⟨arr, fr, hw, _, hss⟩ := live_segs hr (en_live hv hen) hg
      obtain ⟨_, hrd, _, _⟩ := segs_at hss hcut
      have hlen : List.length ((List.drop lo ys).take n) = n := by rw [List.length_take, List.length_drop]; omega
      refine ⟨A, c, by rw [hlen], by omega, by omega, fun hne => ?_⟩
      have hn : n ≠ 0 := by intro e; subst e; exact hne (by simp)
      refine ⟨b, off + lo * sz, arr, ty, fr, hA hn, hw, fun j x hx => ?_⟩
      have hj : j < n := by rw [← hlen]; exact (List.getElem?_eq_some_iff.1 hx).1
      rw [List.getElem?_take, if_pos hj, List.getElem?_drop] at hx
      have := arr_elt hrd hx
      rw [Nat.add_mul, ← hcond.1, ← Nat.add_assoc] at this
      rw [← hcond.1]
      exact this
    · cases h
  | ful κ' x =>
    simp only [elems] at h
    obtain ⟨e, h⟩ := K.conv_eq h
    injection e with e
    subst e
    subst h
    exact .of_rd hr.inv.sub hc.2
  | nn κ' x =>
    simp only [elems] at h
    obtain ⟨e, h⟩ := K.conv_eq h
    injection e with e
    subst e
    subst h
    exact .of_rd hr.inv.sub hc.2
/-- its cells, one behind the other. -/
theorem Els.cells {E : TypeId} {R : Part} {w : World} {κ : K} {xs : List κ.T} {u : Value} (h : Els E R w κ xs u) (P : Program) : ∃ cs : List Value, cs.length = xs.length * κ.sz ∧ (Builtin.firstCells κ.sz xs.length u).run P w = .ok cs.toArray w ∧ (∀ v ∈ cs, v.oneCell' = true) ∧ RowRd E R κ xs cs := by
  obtain ⟨A, c, rfl, hl, hcap, hx⟩ := h
  by_cases hne : xs = []
  · subst hne
    refine ⟨[], by simp, ?_, by simp, fun j x hx => by simp at hx⟩
    cases A with
    | none => simp [Builtin.firstCells]
    | some a => simp [Builtin.firstCells, loadCells, loadCellsFrom]
  · obtain ⟨b, off, arr, ty, fr, rfl, hb, hj⟩ := hx hne
    have hseg : ∀ j, j < xs.length → (((arr.toList.drop off).take (xs.length * κ.sz)).drop (j * κ.sz)).take κ.sz = (arr.toList.drop (off + j * κ.sz)).take κ.sz := by
      intro j hjl
      have : (j + 1) * κ.sz ≤ xs.length * κ.sz := Nat.mul_le_mul_right _ hjl
      rw [Nat.add_mul] at this
      rw [List.drop_take, List.take_take, List.drop_drop, Nat.min_eq_left (by omega)]
    have hlen : ((arr.toList.drop off).take (xs.length * κ.sz)).length = xs.length * κ.sz := by
      by_cases h0 : κ.sz = 0
      · simp [h0]
      · have hpos : 0 < xs.length := by
          rcases Nat.eq_zero_or_pos xs.length with h | h
          · exact absurd (List.eq_nil_of_length_eq_zero h) hne
          · exact h
        have hlast := K.Rd_len _ _ _ (hj (xs.length - 1) xs[xs.length - 1] (List.getElem?_eq_getElem (by omega)))
        rw [List.length_take, List.length_drop] at hlast
        rw [List.length_take, List.length_drop]
        have : xs.length * κ.sz = (xs.length - 1) * κ.sz + κ.sz := by
          rw [← Nat.succ_mul]; congr 1; omega
        omega
    refine ⟨(arr.toList.drop off).take (xs.length * κ.sz), hlen, ?_, ?_, fun j x hx => ?_⟩
    · exact run_firstCells_some w κ.sz xs.length ⟨b, off, none⟩ _ _ _ hlen (fun j v hjv => by rw [addr_add]; exact cells_seg hb off _ j v hjv)
    · intro y hy
      obtain ⟨i, hi⟩ := List.getElem?_of_mem hy
      have hil : i < xs.length * κ.sz := by
        rw [← hlen]; exact (List.getElem?_eq_some_iff.1 hi).1
      have hszp : 0 < κ.sz := by
        rcases Nat.eq_zero_or_pos κ.sz with h | h
        · rw [h] at hil; simp at hil
        · exact h
      have hq : i / κ.sz < xs.length := Nat.div_lt_of_lt_mul (by rw [Nat.mul_comm]; exact hil)
      have hr := hj (i / κ.sz) xs[i / κ.sz] (List.getElem?_eq_getElem hq)
      refine K.Rd_one _ _ _ hr y ?_
      rw [← hseg _ hq]
      refine List.mem_of_getElem? (i := i % κ.sz) ?_
      rw [List.getElem?_take, if_pos (Nat.mod_lt _ hszp), List.getElem?_drop, show i / κ.sz * κ.sz + i % κ.sz = i from by rw [Nat.mul_comm]; exact Nat.div_add_mod i κ.sz]
      exact hi
    · rw [hseg j (List.getElem?_eq_some_iff.1 hx).1]
      exact hj j x hx
theorem RowRd.app {E : TypeId} {R : Part} {κ : K} {xs ys : List κ.T} {cs ds : List Value} (h : RowRd E R κ xs cs) (hl : cs.length = xs.length * κ.sz) (k : RowRd E R κ ys ds) (hl2 : ds.length = ys.length * κ.sz) (rest : List Value) : RowRd E R κ (xs ++ ys) (cs ++ ds ++ rest) := by
  intro j x hx
  rcases Nat.lt_or_ge j xs.length with hj | hj
  · rw [List.getElem?_append_left hj] at hx
    have := h j x hx
    have hle : (j + 1) * κ.sz ≤ xs.length * κ.sz := Nat.mul_le_mul_right _ hj
    rw [Nat.add_mul] at hle
    rw [List.append_assoc, List.drop_append_of_le_length (by omega), List.take_append_of_le_length (by rw [List.length_drop]; omega)]
    exact this
  · rw [List.getElem?_append_right hj] at hx
    have hj2 := (List.getElem?_eq_some_iff.1 hx).1
    have := k (j - xs.length) x hx
    have hle : (j - xs.length + 1) * κ.sz ≤ ys.length * κ.sz := Nat.mul_le_mul_right _ hj2
    rw [Nat.add_mul] at hle
    have e : j * κ.sz = xs.length * κ.sz + (j - xs.length) * κ.sz := by rw [← Nat.add_mul]; congr 1; omega
    rw [List.append_assoc, List.drop_append, List.drop_eq_nil_of_le (by omega), List.nil_append, hl, e, Nat.add_sub_cancel_left]
    rw [List.drop_append_of_le_length (by omega), List.take_append_of_le_length (by rw [List.length_drop]; omega)]
    exact this
/-! ### append -/
theorem zeroCells_one {z : Array Value} {n : Nat} (h : ∀ v ∈ z.toList, v.oneCell' = true) (hz : 0 < z.size) : ∀ v ∈ (Builtin.zeroCells z n).toList, v.oneCell' = true := by
  intro u hu
  have := zeros_one (n := n * z.size) h hz
  exact List.all_eq_true.1 this u hu
/-- what can be appended: a slice, or a text. -/
def SrcTy (P : Program) (u : TypeId) : Prop := (∃ e, P.underlying u = some (.slice e)) ∨ P.underlying u = some .string
structure Src (P : Program) (E : TypeId) (R : Part) (w : World) (κ : K) (ys : List κ.T) (x : Value) : Prop where
  len : Builtin.lenOf x = pure ys.length
  at' : ∀ w' : World, w'.heap = w.heap → ∃ cs : List Value, cs.length = ys.length * κ.sz ∧ (Builtin.firstCells κ.sz ys.length x).run P w' = .ok cs.toArray w' ∧ (∀ v ∈ cs, v.oneCell' = true) ∧ RowRd E R κ ys cs
theorem append_grows {P : Program} (w : World) (t u ty e : TypeId) (i : TypeInfo) (z : Value) (ht : P.underlying t = some (.slice e)) (hu : SrcTy P u) (hi : P.info? e = some i) (hz : i.zero = some z)
    (A : Option Addr) (n c m : Nat) {x : Value} (hx : Builtin.lenOf x = pure m) (olds news : List Value) (ho : (Builtin.firstCells i.size n (.slice A n c)).run P w.drew = .ok olds.toArray w.drew) (hn : (Builtin.firstCells i.size m x).run P w.drew = .ok news.toArray w.drew)
    (hg : c < n + m) (h63 : ((n + m : Nat) : Int) ≤ 9223372036854775807) (hfit : Builtin.nextslicecap (n + m) c * i.bytes ≤ 281474976710656) :
    (Builtin.append_ #[t, u] ty #[.slice A n c, x]).run P w =
      .ok (.slice (some ⟨w.heap.size, 0, none⟩) (n + m) (grownCap w (n + m) c e)) (w.drew.alloc (.cells (olds.toArray ++ news.toArray ++ Builtin.zeroCells z.cells (grownCap w (n + m) c e - (n + m))) e)) := by
  have h0 : ¬ (n + m ≤ c) := by omega
  have h63' : ¬ (9223372036854775807 < ((n : Int) + (m : Int))) := by omega
  have h48' : ¬ (281474976710656 < Builtin.nextslicecap (n + m) c * i.bytes) := by omega
  rcases hu with ⟨e2, hu⟩ | hu
  · simp [Builtin.append_, run_under ht, run_under hu, sizeOf, typeInfo, zeroValue, hi, hz, hx, h0, h63', h48', Question.forced, ho, hn, Go.newRow, grownCap]
    congr 2
    apply Array.ext'
    simp
  · simp [Builtin.append_, run_under ht, run_under hu, sizeOf, typeInfo, zeroValue, hi, hz, hx, h0, h63', h48', Question.forced, ho, hn, Go.newRow, grownCap]
    congr 2
    apply Array.ext'
    simp
theorem append_fits {P : Program} (w w' : World) (t u ty e : TypeId) (i : TypeInfo) (ht : P.underlying t = some (.slice e)) (hu : SrcTy P u) (hi : P.info? e = some i)
    (b : Nat) (n c m : Nat) {x : Value} (hx : Builtin.lenOf x = pure m) (news : List Value) (hn : (Builtin.firstCells i.size m x).run P w = .ok news.toArray w)
    (hst : (storeCells ⟨b, n * i.size, none⟩ news).run P w = .ok () w') (hg : n + m ≤ c) :
    (Builtin.append_ #[t, u] ty #[.slice (some ⟨b, 0, none⟩) n c, x]).run P w = .ok (.slice (some ⟨b, 0, none⟩) (n + m) c) w' := by
  rcases hu with ⟨e2, hu⟩ | hu
  · simp [Builtin.append_, run_under ht, run_under hu, sizeOf, typeInfo, hi, hx, hg, hn, addr_add, hst]
  · simp [Builtin.append_, run_under ht, run_under hu, sizeOf, typeInfo, hi, hx, hg, hn, addr_add, hst]
theorem append_none {P : Program} (w : World) (t u ty e : TypeId) (i : TypeInfo) (ht : P.underlying t = some (.slice e)) (hu : SrcTy P u) (hi : P.info? e = some i)
    {x : Value} (hx : Builtin.lenOf x = pure 0) (hn : (Builtin.firstCells i.size 0 x).run P w = .ok #[] w) :
    (Builtin.append_ #[t, u] ty #[.slice none 0 0, x]).run P w = .ok (.slice none 0 0) w := by
  rcases hu with ⟨e2, hu⟩ | hu
  · simp [Builtin.append_, run_under ht, run_under hu, sizeOf, typeInfo, hi, hx, hn]
  · simp [Builtin.append_, run_under ht, run_under hu, sizeOf, typeInfo, hi, hx, hn]
/-- an append behind which there is no room. -/
theorem append_full {P : Program} {t t2 ty e : TypeId} (hu : P.underlying t = some (.slice e)) (hu2 : SrcTy P t2) {i : TypeInfo} {z : Value} (hi : P.info? e = some i) (hz : i.zero = some z) {κ : K} {E : TypeId} (hsize : i.size = κ.sz) (hsz : 0 < κ.sz) (hby : 0 < i.bytes)
    (hzero : ∀ R, κ.Rd E R κ.zero z.cells.toList) {R : Part} {w : World} {xs ys : List κ.T} {s x : Value} {A : Option Addr} {n : Nat} (hs : s = .slice A n n) (hxs : Els E R w κ xs s) (hx : Src P E R w κ ys x) (hpos : ys.length ≠ 0) (hroom : (xs.length + ys.length) * i.bytes ≤ 140737488355328) :
    ∃ s' w', (Builtin.append_ #[t, t2] ty #[s, x]).run P w = .ok s' w' ∧ (∀ g, EntRel E R g w' (.row e κ (xs ++ ys)) s') ∧ (∀ b, blk s' = some b → w.heap.size ≤ b) ∧
      w.heap.size ≤ w'.heap.size ∧ w'.os = w.os ∧ w'.tape = w.tape ∧ w'.output = w.output ∧ ∀ b, b < w.heap.size → w'.heap[b]? = w.heap[b]? := by
  have hxs' : Els E R w.drew κ xs s := hxs
  obtain ⟨news', hnl', hnrun', hn1', hnrd'⟩ := hx.at' w.drew rfl
  obtain ⟨olds, hol, ho, ho1, hord⟩ := hxs'.cells P
  obtain ⟨A3, c3, e3, hl3, _, _⟩ := hxs
  rw [e3] at hs
  injection hs with q1 q2 q3
  subst q1
  rw [q3, ← q2] at e3
  subst e3
  have hzsz : z.cells.size = κ.sz := by have := K.Rd_len κ _ _ (hzero Part.nil); simpa using this
  have hz1 : ∀ v ∈ z.cells.toList, v.oneCell' = true := fun u hu => K.Rd_one κ _ _ (hzero R) u hu
  have hlim : xs.length + ys.length ≤ lim := by
    have : (xs.length + ys.length) * 1 ≤ (xs.length + ys.length) * i.bytes := Nat.mul_le_mul_left _ hby
    unfold lim; omega
  rw [← hsize] at hnrun' ho
  have hc : xs.length < xs.length + ys.length := by omega
  have h63 : ((xs.length + ys.length : Nat) : Int) ≤ 9223372036854775807 := by unfold lim at hlim; omega
  have hrun := append_grows w t t2 ty e i z hu hu2 hi hz A3 xs.length xs.length ys.length hx.len olds news' ho hnrun' hc h63 (growslice_fits hc hroom)
  have hge : xs.length + ys.length ≤ grownCap w (xs.length + ys.length) xs.length e := by show _ ≤ (xs.length + ys.length) + _; omega
  let rest := Builtin.zeroCells z.cells (grownCap w (xs.length + ys.length) xs.length e - (xs.length + ys.length))
  refine ⟨_, _, hrun, fun g => .inr ⟨w.heap.size, _, olds.toArray ++ news'.toArray ++ rest, (0, 0), by rw [List.length_append], heap_alloc_new w.drew _, Unf_zero _, by rw [List.length_append]; exact hge, ?_, by rw [List.length_append]; exact hlim, ?_, ?_⟩, fun b hb => Nat.le_of_eq (by injection hb), by simp, rfl, rfl, rfl, fun b hb => heap_alloc_old w.drew _ hb⟩
  · have hr : rest.size = (grownCap w (xs.length + ys.length) xs.length e - (xs.length + ys.length)) * κ.sz := by simp [rest, Builtin.zeroCells, hzsz]
    simp only [Array.size_append, List.size_toArray, hr, hol, hnl', ← Nat.add_mul]
    exact Nat.le_of_eq (by congr 1; omega)
  · simp only [Array.toList_append, List.all_append, Bool.and_eq_true]
    refine ⟨⟨List.all_eq_true.2 ho1, List.all_eq_true.2 hn1'⟩, List.all_eq_true.2 (zeroCells_one hz1 (by omega))⟩
  · simp only [Array.toList_append]
    exact hord.app hol hnrd' hnl' _
theorem append_run {P : Program} {t t2 ty e : TypeId} (hu : P.underlying t = some (.slice e)) (hu2 : SrcTy P t2) {i : TypeInfo} {z : Value} (hi : P.info? e = some i) (hz : i.zero = some z) {κ : K} {E : TypeId} (hsize : i.size = κ.sz) (hsz : 0 < κ.sz) (hby : 0 < i.bytes)
    (hzero : ∀ R, κ.Rd E R κ.zero z.cells.toList) {R : Part} {g : Gh} {w : World} {xs ys : List κ.T} {s x : Value} (hs : EntRel E R g w (.row e κ xs) s) (hx : Src P E R w κ ys x) (hroom : (xs.length + ys.length) * i.bytes ≤ 140737488355328) :
    ∃ s' w', (Builtin.append_ #[t, t2] ty #[s, x]).run P w = .ok s' w' ∧ EntRel E R g w' (.row e κ (xs ++ ys)) s' ∧ (∀ b, blk s' = some b → blk s = some b ∨ w.heap.size ≤ b) ∧
      w.heap.size ≤ w'.heap.size ∧ w'.os = w.os ∧ w'.tape = w.tape ∧ w'.output = w.output ∧ ∀ b, b < w.heap.size → blk s' ≠ some b → w'.heap[b]? = w.heap[b]? := by
  obtain ⟨news, hnl, hnrun, hn1, hnrd⟩ := hx.at' w rfl
  obtain ⟨news', hnl', hnrun', hn1', hnrd'⟩ := hx.at' w.drew rfl
  have hzsz : z.cells.size = κ.sz := by have := K.Rd_len κ _ _ (hzero Part.nil); simpa using this
  have hz1 : ∀ v ∈ z.cells.toList, v.oneCell' = true := fun u hu => K.Rd_one κ _ _ (hzero R) u hu
  have hlim : xs.length + ys.length ≤ lim := by
    have : (xs.length + ys.length) * 1 ≤ (xs.length + ys.length) * i.bytes := Nat.mul_le_mul_left _ hby
    unfold lim; omega
  rw [← hsize] at hnrun hnrun'
  -- a new block
  have grow : ∀ (A : Option Addr) (c : Nat) (olds : List Value), s = .slice A xs.length c → c < xs.length + ys.length → (Builtin.firstCells i.size xs.length (.slice A xs.length c)).run P w.drew = .ok olds.toArray w.drew → olds.length = xs.length * κ.sz → (∀ v ∈ olds, v.oneCell' = true) → RowRd E R κ xs olds →
      ∃ s' w', (Builtin.append_ #[t, t2] ty #[s, x]).run P w = .ok s' w' ∧ EntRel E R g w' (.row e κ (xs ++ ys)) s' ∧ (∀ b, blk s' = some b → blk s = some b ∨ w.heap.size ≤ b) ∧
      w.heap.size ≤ w'.heap.size ∧ w'.os = w.os ∧ w'.tape = w.tape ∧ w'.output = w.output ∧ ∀ b, b < w.heap.size → blk s' ≠ some b → w'.heap[b]? = w.heap[b]? := by
    intro A c olds hs hc ho hol ho1 hord
    subst hs
    have h63 : ((xs.length + ys.length : Nat) : Int) ≤ 9223372036854775807 := by unfold lim at hlim; omega
    have hrun := append_grows w t t2 ty e i z hu hu2 hi hz A xs.length c ys.length hx.len olds news' ho hnrun' hc h63 (growslice_fits hc hroom)
    have hge : xs.length + ys.length ≤ grownCap w (xs.length + ys.length) c e := by show _ ≤ (xs.length + ys.length) + _; omega
    let rest := Builtin.zeroCells z.cells (grownCap w (xs.length + ys.length) c e - (xs.length + ys.length))
    refine ⟨_, _, hrun, .inr ⟨w.heap.size, _, olds.toArray ++ news'.toArray ++ rest, (0, 0), by rw [List.length_append], heap_alloc_new w.drew _, Unf_zero _, by rw [List.length_append]; exact hge, ?_, by rw [List.length_append]; exact hlim, ?_, ?_⟩, fun b hb => .inr (Nat.le_of_eq (by injection hb)), by simp, rfl, rfl, rfl, fun b hb _ => heap_alloc_old w.drew _ hb⟩
    · have hr : rest.size = (grownCap w (xs.length + ys.length) c e - (xs.length + ys.length)) * κ.sz := by simp [rest, Builtin.zeroCells, hzsz]
      simp only [Array.size_append, List.size_toArray, hr, hol, hnl', ← Nat.add_mul]
      exact Nat.le_of_eq (by congr 1; omega)
    · simp only [Array.toList_append, List.all_append, Bool.and_eq_true]
      refine ⟨⟨List.all_eq_true.2 ho1, List.all_eq_true.2 hn1'⟩, List.all_eq_true.2 (zeroCells_one hz1 (by omega))⟩
    · simp only [Array.toList_append]
      exact hord.app hol hnrd' hnl' _
  rcases hs with ⟨rfl, rfl⟩ | ⟨b, c, arr, fr, rfl, h1, h2, h3, h4, h5, h6, h7⟩
  · by_cases h0 : ys = []
    · subst h0
      have hnil : news = [] := List.eq_nil_of_length_eq_zero (by simpa using hnl)
      subst hnil
      exact ⟨_, w, append_none w t t2 ty e i hu hu2 hi hx.len hnrun, .inl ⟨rfl, rfl⟩, (fun b hb => by cases hb), Nat.le_refl _, rfl, rfl, rfl, fun _ _ _ => rfl⟩
    · have hpos : 0 < ys.length := by
        rcases Nat.eq_zero_or_pos ys.length with h | h
        · exact absurd (List.eq_nil_of_length_eq_zero h) h0
        · exact h
      exact grow none 0 [] rfl (by simpa using hpos) (by simp [Builtin.firstCells]) (by simp) (by simp) (fun j x hx => by simp at hx)
  · have hown : Els E R w.drew κ xs (.slice (some ⟨b, 0, none⟩) xs.length c) := ⟨_, c, rfl, h5, h3, fun _ => ⟨b, 0, arr, e, fr, rfl, h1, fun j x hx => by rw [Nat.zero_add]; exact h7 j x hx⟩⟩
    by_cases hfit : xs.length + ys.length ≤ c
    · have hle : xs.length * κ.sz + news.length ≤ arr.size := by
        rw [hnl, ← Nat.add_mul]; exact Nat.le_trans (Nat.mul_le_mul_right _ hfit) h4
      obtain ⟨w', arr', hst, hb', harr, hoth, hsz', g1, g2, g3⟩ := store_run (P := P) b e fr news (xs.length * κ.sz) 0 arr w h1 h2 (by omega) hn1
      have hrun := append_fits w w' t t2 ty e i hu hu2 hi b xs.length c ys.length hx.len news hnrun (by rw [hsize]; exact hst) hfit
      have hasz : arr'.size = arr.size := by
        have := congrArg List.length harr
        simp only [Array.length_toList, List.length_append, List.length_take, List.length_drop] at this
        omega
      refine ⟨_, w', hrun, .inr ⟨b, c, arr', fr, by rw [List.length_append], hb', by rw [hasz]; exact h2, by rw [List.length_append]; exact hfit, by rw [hasz]; exact h4, by rw [List.length_append]; exact hlim, ?_, ?_⟩, fun b' hb => .inl hb, Nat.le_of_eq hsz'.symm, g1, g2, g3, fun b' hb hne => hoth b' (fun e => hne (by rw [e]; rfl))⟩
      · rw [harr, List.all_append, List.all_append, Bool.and_eq_true, Bool.and_eq_true]
        refine ⟨⟨?_, List.all_eq_true.2 hn1⟩, ?_⟩
        · rw [List.all_eq_true] at h6 ⊢; exact fun u hu => h6 u (List.mem_of_mem_take hu)
        · rw [List.all_eq_true] at h6 ⊢; exact fun u hu => h6 u (List.mem_of_mem_drop hu)
      · rw [harr, Nat.add_zero]
        have ha : arr.toList.length = arr.size := Array.length_toList
        have htl : (arr.toList.take (xs.length * κ.sz)).length = xs.length * κ.sz := by rw [List.length_take]; omega
        refine RowRd.app (fun j x hx => ?_) htl hnrd hnl _
        have hj := (List.getElem?_eq_some_iff.1 hx).1
        have hle2 : (j + 1) * κ.sz ≤ xs.length * κ.sz := Nat.mul_le_mul_right _ hj
        rw [Nat.add_mul] at hle2
        rw [List.drop_take, List.take_take, Nat.min_eq_left (by omega)]
        exact h7 j x hx
    · obtain ⟨olds, hol, horun, ho1, hord⟩ := hown.cells P
      exact grow _ c olds rfl (by omega) (by rw [hsize]; exact horun) hol ho1 hord
theorem Src.of_els {P : Program} {E : TypeId} {R : Part} {w : World} {κ : K} {ys : List κ.T} {x : Value} (h : Els E R w κ ys x) : Src P E R w κ ys x := by
  refine ⟨?_, fun w' hw => ?_⟩
  · obtain ⟨A, c, rfl, _⟩ := h; rfl
  · have h' : Els E R w' κ ys x := by
      obtain ⟨A, c, e, h1, h2, h3⟩ := h
      exact ⟨A, c, e, h1, h2, fun hne => by rw [hw]; exact h3 hne⟩
    exact h'.cells P
theorem Src.of_str {P : Program} {E : TypeId} {R : Part} {w : World} {s : ByteArray} : Src P E R w (.int .u8) (bytesL s) (.string s) := by
  refine ⟨by simp [Builtin.lenOf, bytesL_len], fun w' _ => ⟨s.data.toList.map fun b => .int .u8 b.toNat, by simp [bytesL, K.sz], ?_, ?_, fun j x hx => ?_⟩⟩
  · have hl : (bytesL s).length = s.size := bytesL_len s
    rw [hl]
    simp [Builtin.firstCells]
    apply Array.ext'
    simp
  · intro v hv
    obtain ⟨b, _, rfl⟩ := List.mem_map.1 hv
    rfl
  · obtain ⟨b, hb, rfl⟩ := bytesL_get s j x hx
    have hlt := (List.getElem?_eq_some_iff.1 hb).1
    have e : ((s.data.toList.map fun b : UInt8 => Value.int .u8 b.toNat).drop (j * (K.int .u8).sz)).take (K.int .u8).sz = [.int .u8 b.toNat] := by
      show ((s.data.toList.map fun b : UInt8 => Value.int .u8 b.toNat).drop (j * 1)).take 1 = _
      rw [Nat.mul_one, List.drop_eq_getElem_cons (by simpa using hlt), List.take_succ_cons, List.take_zero]
      simp only [List.getElem_map]
      rw [(List.getElem?_eq_some_iff.1 hb).2]
    rw [e]
    exact ⟨rfl, byte_range b⟩
theorem src_sound {t2 : TypeId} {y : Operand} {s : VSt} {a : Act} {w : World} {R : Part} {g : Gh} (hv : View v s) (hr : Rel C s a w R g) {κ : K} {ys : List κ.T} (h : appendSrc C.P v κ t2 y = some ys) : SrcTy C.P t2 ∧ Src C.P C.E R w κ ys (a.eval y) := by
  unfold appendSrc at h
  split at h
  · rename_i e hu
    rw [Option.bind_eq_some_iff] at h
    obtain ⟨b, hb, h⟩ := h
    exact ⟨.inl ⟨e, hu⟩, .of_els (elems_sound hv hr h (evc_rel hv hr hb))⟩
  · rename_i hu
    split at h
    · rename_i l hl
      obtain ⟨e, h⟩ := K.conv_eq h
      injection e with e
      subst e
      have h : ys = l := h
      subst h
      obtain ⟨s0, e0, rfl, hlim⟩ := evc_rel hv hr hl
      injection e0 with e0 _
      rw [e0]
      exact ⟨.inr hu, .of_str⟩
    · cases h
  · cases h
end
end Go.Sx
