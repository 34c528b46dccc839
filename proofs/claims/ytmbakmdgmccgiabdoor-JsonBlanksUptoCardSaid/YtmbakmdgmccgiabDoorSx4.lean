/- Part of a proof by a small interpreter on plain values; no condition. -/
import Derived.Test.YtmbakmdgmccgiabDoorSx3
import Derived.Calls
/-! Sx4: one operation: what it comes to. -/
namespace Go.Sx
open Go
set_option autoImplicit false
set_option linter.unusedSimpArgs false
set_option linter.unusedVariables false

/-! ### runs over memory -/
section
variable {P : Program}
theorem addr_add (b off n : Nat) : (⟨b, off, none⟩ : Addr).add n = ⟨b, off + n, none⟩ := by unfold Addr.add; split <;> simp_all
theorem info_of_cells {t : TypeId} (h : P.cellsOf t ≠ 0) : ∃ i, P.info? t = some i ∧ i.size = P.cellsOf t := by
  unfold Program.cellsOf at *
  cases hi : P.info? t with
  | none => rw [hi] at h; exact absurd rfl h
  | some i => exact ⟨i, rfl, rfl⟩
theorem info_of_underlying {t : TypeId} {d : TypeDesc} (h : P.underlying t = some d) : ∃ i, P.info? t = some i := by
  unfold Program.underlying at h
  split at h
  · rename_i hi; exact ⟨_, hi⟩
  · rename_i i _ hi; exact ⟨i, hi⟩
  · cases h
theorem run_under {t : TypeId} {d : TypeDesc} (h : P.underlying t = some d) (w : World) : (underlying t).run P w = .ok d w := by
  simp [underlying, h]
theorem run_size {t : TypeId} {i : TypeInfo} (h : P.info? t = some i) (w : World) : (sizeOf t).run P w = .ok (P.cellsOf t) w := by
  simp [sizeOf, typeInfo, h, Program.cellsOf]
theorem run_tinfo {t : TypeId} {i : TypeInfo} (h : P.info? t = some i) (w : World) : (typeInfo t).run P w = .ok i w := by
  simp [typeInfo, h]
theorem run_zero {t : TypeId} {i : TypeInfo} {z : Value} (h : P.info? t = some i) (hz : i.zero = some z) (w : World) : (zeroValue t).run P w = .ok z w := by
  simp [zeroValue, typeInfo, h, hz]
theorem cell_at {w : World} {b : Nat} {arr : Array Value} {ty : TypeId} {fr : Nat × Nat} (h : w.heap[b]? = some (.cells arr ty fr)) (o : Nat) : w.cell? ⟨b, o, none⟩ = arr.toList[o]? := by
  simp [World.cell?, h]
theorem load_run {E : TypeId} {R : Part} {g : Gh} {w : World} {t : TypeId} {b off : Nat} {cvs : List CV} {cs : List Value} {rv : RV} (hc : All2 (CVRel E R g) cvs cs)
    (hcell : ∀ j v, cs[j]? = some v → w.cell? ⟨b, off + j, none⟩ = some v) (hrv : rvOf (aggOf P t) (P.cellsOf t) cvs = some rv) :
    ∃ v, (loadVar t ⟨b, off, none⟩).run P w = .ok v w ∧ RVRel E R g rv v := by
  unfold aggOf at hrv
  cases hu : P.underlying t with
  | none => rw [hu] at hrv; simp [rvOf] at hrv
  | some d =>
    rw [hu] at hrv
    simp only [Option.map_some] at hrv
    have hagg : (isAgg t).run P w = .ok (isAggD d) w := by
      simp only [isAgg, Sem.run_bind, run_under hu, Result.andThen_ok]
      cases d <;> rfl
    simp only [loadVar, Sem.run_bind, hagg, Result.andThen_ok]
    clear hagg
    generalize isAggD d = ag at *
    cases ag with
    | true =>
      simp only [rvOf] at hrv
      split at hrv
      · rename_i hl
        injection hrv with hrv
        subst hrv
        obtain ⟨i, hi⟩ := info_of_underlying hu
        refine ⟨.agg cs.toArray, ?_, cs, rfl, hc⟩
        have hl2 : P.cellsOf t = cs.length := by rw [← hl]; exact hc.len
        have := run_loadCells_list (P := P) w ⟨b, off, none⟩ cs (fun j v hj => by rw [addr_add]; exact hcell j v hj)
        simp [run_size hi, hl2, this]
      · cases hrv
    | false =>
      cases hc with
      | nil => simp [rvOf] at hrv
      | cons hx hr =>
        cases hr with
        | nil =>
          simp only [rvOf, Option.some.injEq] at hrv
          subst hrv
          rename_i x u
          have := hcell 0 u (by simp)
          rw [Nat.add_zero] at this
          exact ⟨u, by simp [run_load, this], hx⟩
        | cons => simp [rvOf] at hrv
/-- a load out of cells in parts. -/
theorem loadS_run {E : TypeId} {R : Part} {g : Gh} {w : World} {t : TypeId} {b off : Nat} {ss : List Seg} {cs : List Value} {rv : RV} (hc : SegsRel E R g ss cs) (hl : cs.length = P.cellsOf t)
    (hcell : ∀ j v, cs[j]? = some v → w.cell? ⟨b, off + j, none⟩ = some v) (hrv : rvOfS (aggOf P t) ss = some rv) :
    ∃ v, (loadVar t ⟨b, off, none⟩).run P w = .ok v w ∧ RVRel E R g rv v := by
  unfold aggOf at hrv
  cases hu : P.underlying t with
  | none => rw [hu] at hrv; simp [rvOfS] at hrv
  | some d =>
    rw [hu] at hrv
    simp only [Option.map_some] at hrv
    have hagg : (isAgg t).run P w = .ok (isAggD d) w := by
      simp only [isAgg, Sem.run_bind, run_under hu, Result.andThen_ok]
      cases d <;> rfl
    simp only [loadVar, Sem.run_bind, hagg, Result.andThen_ok]
    clear hagg
    generalize isAggD d = ag at *
    cases ag with
    | true =>
      simp only [rvOfS, Option.some.injEq] at hrv
      subst hrv
      obtain ⟨i, hi⟩ := info_of_underlying hu
      refine ⟨.agg cs.toArray, ?_, aggS_rel hc⟩
      have := run_loadCells_list (P := P) w ⟨b, off, none⟩ cs (fun j v hj => by rw [addr_add]; exact hcell j v hj)
      simp [run_size hi, ← hl, this]
    | false =>
      simp only [rvOfS] at hrv
      split at hrv
      · rename_i x
        injection hrv with hrv
        subst hrv
        cases hc with
        | one h hn =>
          cases hn
          rename_i u
          have := hcell 0 u (by simp)
          rw [Nat.add_zero] at this
          exact ⟨u, by simp [run_load, this], h⟩
      · cases hrv
/-- a store of several cells into one block. -/
theorem store_run (b : Nat) (ty : TypeId) (fr : Nat × Nat) : ∀ (vs : List Value) (off i : Nat) (arr : Array Value) (w : World), w.heap[b]? = some (.cells arr ty fr) → Unf fr arr.size → off + i + vs.length ≤ arr.size → (∀ v ∈ vs, v.oneCell' = true) →
    ∃ w' arr', (storeCells ⟨b, off, none⟩ vs i).run P w = .ok () w' ∧ w'.heap[b]? = some (.cells arr' ty fr) ∧ arr'.toList = arr.toList.take (off + i) ++ vs ++ arr.toList.drop (off + i + vs.length) ∧
      (∀ k, k ≠ b → w'.heap[k]? = w.heap[k]?) ∧ w'.heap.size = w.heap.size ∧ w'.os = w.os ∧ w'.tape = w.tape ∧ w'.output = w.output
  | [], off, i, arr, w, hb, hu, hl, h1 => ⟨w, arr, rfl, hb, by simp, fun _ _ => rfl, rfl, rfl, rfl, rfl⟩
  | v :: r, off, i, arr, w, hb, hu, hl, h1 => by
    have hlt : off + i < arr.size := by simp at hl; omega
    have hcell : w.cell? ⟨b, off + i, none⟩ = some arr[off + i] := by simp [World.cell?, hb, hlt]
    have hfro : w.frozen? ⟨b, off + i, none⟩ = false := by
      have := hu.at (off + i) hlt
      obtain ⟨lo, hi⟩ := fr
      simpa [World.frozen?, hb] using this
    have hst : (store ((⟨b, off, none⟩ : Addr).add i) v).run P w = .ok () (w.setCell ⟨b, off + i, none⟩ v) := by
      rw [addr_add, run_store P w _ v _ (h1 v (by simp)), hcell]
      simp [hfro]
    have hb2 : (w.setCell ⟨b, off + i, none⟩ v).heap[b]? = some (.cells (arr.setIfInBounds (off + i) v) ty fr) := by
      simp only [World.setCell, Array.getElem?_modify, if_true, hb, Option.map_some]
      rfl
    obtain ⟨w', arr', hrun, hb', harr, hoth, hsz, h4, h5, h6⟩ := store_run b ty fr r off (i + 1) (arr.setIfInBounds (off + i) v) (w.setCell ⟨b, off + i, none⟩ v) hb2 (by simpa using hu) (by simp at hl ⊢; omega) (fun x hx => h1 x (by simp [hx]))
    refine ⟨w', arr', ?_, hb', ?_, fun k hk => ?_, by rw [hsz]; simp, h4, h5, h6⟩
    · simp only [storeCells, Sem.run_bind, hst, Result.andThen_ok, hrun]
    · rw [harr, Array.toList_setIfInBounds]
      apply List.ext_getElem?
      intro j
      simp only [List.length_cons] at hl
      have hs : arr.toList.length = arr.size := by simp
      by_cases h0 : j < off + i
      · simp only [List.append_assoc]
        rw [List.getElem?_append_left (by simp; omega), List.getElem?_append_left (by simp; omega)]
        simp only [List.getElem?_take, List.getElem?_set]
        rw [if_pos (by omega), if_neg (by omega), if_pos h0]
      · by_cases h1' : j = off + i
        · subst h1'
          rw [List.append_assoc, List.getElem?_append_left (by simp; omega)]
          rw [List.append_assoc, List.getElem?_append_right (by simp; omega)]
          simp only [List.getElem?_take, List.getElem?_set]
          rw [if_pos (by omega)]
          have : off + i - (arr.toList.take (off + i)).length = 0 := by simp; omega
          rw [this]
          simp [hlt]
        · have e1 : ((arr.toList.set (off + i) v).take (off + (i + 1))).length = off + i + 1 := by simp; omega
          have e2 : (arr.toList.take (off + i)).length = off + i := by simp; omega
          have L : (((arr.toList.set (off + i) v).take (off + (i + 1)) ++ r) ++ (arr.toList.set (off + i) v).drop (off + (i + 1) + r.length))[j]? = (r ++ (arr.toList.set (off + i) v).drop (off + (i + 1) + r.length))[j - (off + i + 1)]? := by
            rw [List.append_assoc, List.getElem?_append_right (by omega), e1]
          have Rr : ((arr.toList.take (off + i) ++ (v :: r)) ++ arr.toList.drop (off + i + (r.length + 1)))[j]? = (r ++ arr.toList.drop (off + i + (r.length + 1)))[j - (off + i + 1)]? := by
            rw [List.append_assoc, List.getElem?_append_right (by omega), e2]
            rw [show j - (off + i) = (j - (off + i + 1)) + 1 from by omega, List.cons_append, List.getElem?_cons_succ]
          rw [L]
          rw [List.length_cons, Rr]
          by_cases h2 : j - (off + i + 1) < r.length
          · rw [List.getElem?_append_left h2, List.getElem?_append_left h2]
          · rw [List.getElem?_append_right (by omega), List.getElem?_append_right (by omega)]
            simp only [List.getElem?_drop, List.getElem?_set]
            rw [if_neg (by omega)]
            congr 1
            omega
    · rw [hoth k hk]
      simp [World.setCell, Array.getElem?_modify]
      intro e
      exact absurd e.symm hk
end

/-! ### contracts, and what an operation's step says -/
def S0of (R0 : Part) (g0 : Gh) (es : List (Nat × Ent)) (b : Nat) : Prop := ∃ h e v, (h, e) ∈ es ∧ g0 h = some v ∧ own R0 v b
structure Entry (E : TypeId) (pre : Shape) (x : pre.T) (W0 : World) (R0 : Part) (g0 : Gh) (vals : List Value) : Prop where
  sub : ∀ b o, R0 b = some o → W0.heap[b]? = some o
  vals : All2 (RVRel E R0 g0) (pre.vs x) vals
  ents : ∀ q ∈ pre.es x, ∃ v, g0 q.1 = some v ∧ EntRel E R0 g0 W0 q.2 v ∧ ∀ b, own R0 v b → R0 b = none
  sep : ∀ q ∈ pre.es x, ∀ q' ∈ pre.es x, q.1 ≠ q'.1 → ∀ v v' b, g0 q.1 = some v → g0 q'.1 = some v' → own R0 v b → own R0 v' b → False
  pl : ∀ q ∈ pre.es x, ∀ ty κ xs, q.2 = .pool ty κ xs → PoolOk R0 q.1 xs.length ∧ g0 q.1 = some (.int .i64 (q.1 : Int))
  dom : ∀ h v, g0 h = some v → h ∈ pre.ents.map (·.1)
theorem Entry.notS {E : TypeId} {pre : Shape} {x : pre.T} {W0 : World} {R0 : Part} {g0 : Gh} {vals : List Value} (h : Entry E pre x W0 R0 g0 vals) : ∀ b o, R0 b = some o → ¬ S0of R0 g0 (pre.es x) b := fun b o hb hs => by
  obtain ⟨i, e, v, hm, hg, hbv⟩ := hs
  obtain ⟨v', h1, _, h3⟩ := h.ents (i, e) hm
  rw [hg] at h1
  injection h1 with h1
  subst h1
  rw [h3 b hbv] at hb
  cases hb
def packVals (vs : List Value) : Value := match vs with | [v] => v | vs => .tuple vs.toArray
structure Exited (E : TypeId) (pre : Shape) (x : pre.T) (W0 : World) (R0 : Part) (g0 : Gh) (q : (s : Shape) × s.T) (R : Part) (g : Gh) (vals : List Value) (w : World) : Prop where
  sub : ∀ b o, R b = some o → w.heap[b]? = some o
  vals : All2 (RVRel E R g) (q.1.vs q.2) vals
  ents : ∀ p ∈ q.1.es q.2, ∃ v, g p.1 = some v ∧ EntRel E R g w p.2 v ∧ ∀ b, own R v b → R b = none ∧ (W0.heap.size ≤ b ∨ S0of R0 g0 (pre.es x) b)
  sep : ∀ p ∈ q.1.es q.2, ∀ p' ∈ q.1.es q.2, p.1 ≠ p'.1 → ∀ v v' b, g p.1 = some v → g p'.1 = some v' → own R v b → own R v' b → False
  pl : ∀ p ∈ q.1.es q.2, ∀ ty κ xs, p.2 = .pool ty κ xs → PoolOk R p.1 xs.length ∧ g p.1 = some (.int .i64 (p.1 : Int)) ∧ ∃ e ∈ pre.es x, e.1 = p.1 ∧ e.2.isPool = true
  oldN : ∀ p j b, R0.nd p j b → R.nd p j b
  newN : ∀ p j b, R.nd p j b → R0.nd p j b ∨ ∃ e ∈ pre.es x, e.1 = p ∧ e.2.isPool = true
  dom : ∀ h v, g h = some v → h ∈ q.1.ents.map (·.1)
  newR : ∀ b o, R b = some o → R0 b = some o ∨ W0.heap.size ≤ b ∨ S0of R0 g0 (pre.es x) b
  os : w.os = W0.os
  tape : w.tape = W0.tape
  output : w.output = W0.output
  size : W0.heap.size ≤ w.heap.size
  block : ∀ b, b < W0.heap.size → ¬ S0of R0 g0 (pre.es x) b → w.heap[b]? = W0.heap[b]?
  keep : ∀ h, keptE pre.ents h = true → ∀ v, g h = some v → g0 h = some v
structure FnOK (P : Program) (E : TypeId) (L : Part → Prop) (f : FuncId) (sp : Spec) : Prop where
  enters : ∃ fn, P.funcs[f]? = some fn ∧ fn.body.isNone = false ∧ (fn.name == "runtime.NumGoroutine") = false
  ok : ∀ (x : sp.pre.T) (y : AltT sp.post) (W0 : World) (R0 : Part) (g0 : Gh) (vals : List Value), sp.run x = some y → Entry E sp.pre x W0 R0 g0 vals → (∀ R : Part, R0.le R → L R) →
    Calls P f vals.toArray W0 fun e w => ∃ R g vs, e = .returned (packVals vs) ∧ Exited E sp.pre x W0 R0 g0 (altS sp.post y) R g vs w
structure View (v s : VSt) : Prop where
  sl : ∀ t x, v.sl t = some x → s.sl t = some x
  en : ∀ h, v.en h = s.en h ∨ v.en h = .dead
  gl : v.gl = s.gl
def KnOK (kn : List (Nat × Bool)) (s : VSt) : Prop := ∀ t β, kn.lookup t = some β → s.sl t = some (.r (.c (.dat .bool β)))
/-- the step of an operation out of whatever state has what it looks at. -/
def StepOK (C : Ctx) (kn : List (Nat × Bool)) (o : Oper) (v : VSt) (δ : Delta) : Prop :=
  ∀ (s : VSt) (a : Act) (w : World) (R : Part) (g : Gh), View v s → KnOK kn s → Rel C s a w R g →
    ∀ (next : Act → World → Prop) (Q : Exit → Act → World → Prop), (∀ a' w', RelE C (s.app o.dst δ) a' w' → next a' w') → o.wp C.P a w next Q
section
variable {C : Ctx} {kn : List (Nat × Bool)} {o : Oper} {s v : VSt} {a : Act} {w w' : World} {R R' : Part} {g g' : Gh} {δ : Delta}
theorem wp_val {next : Act → World → Prop} {Q : Exit → Act → World → Prop} {u : Value} (h : (execOp a.eval o).run C.P w = .ok (.value u) w') (hn : next (a.put o.dst u) w') : o.wp C.P a w next Q := by
  unfold Oper.wp; rw [h]; exact hn
theorem wp_skp {next : Act → World → Prop} {Q : Exit → Act → World → Prop} (h : (execOp a.eval o).run C.P w = .ok .skip w') (hn : next (a.put o.dst undef) w') : o.wp C.P a w next Q := by
  unfold Oper.wp; rw [h]; exact hn
theorem Rel.app (hr : Rel C s a w R g) (hd : ∀ t, o.dst = some t → t < C.N) (hR : R.le R') (hg : g.le g') (hi : Inv C R' g' (upds s.en δ.ups) w') {u : Value} (hv : ∀ sv, δ.v = some sv → SVRel C.E R' g' sv u) :
    RelE C (s.app o.dst δ) (a.put o.dst u) w' := by
  refine ⟨R', g', hi, fun t sv h => ?_, ?_, ?_, fun x c h g' => (hr.glob x c h g').mono hR (Gh.le_refl _), hr.gleq⟩
  · unfold VSt.app at h
    cases ho : o.dst with
    | none =>
      rw [ho] at h
      obtain ⟨x, h1, h2⟩ := hr.slots t sv h
      exact ⟨x, h1, h2.mono hR hg⟩
    | some d =>
      rw [ho] at h
      simp only at h
      by_cases ht : t = d
      · subst ht
        rw [upd_same] at h
        refine ⟨u, ?_, hv sv h⟩
        have := hd t ho
        simp [Act.put, hr.size, this]
      · rw [upd_ne _ _ ht] at h
        obtain ⟨x, h1, h2⟩ := hr.slots t sv h
        exact ⟨x, by simp [Act.put, Array.getElem?_setIfInBounds_ne (Ne.symm ht), h1], h2.mono hR hg⟩
  · cases o.dst <;> exact hr.defers
  · cases o.dst <;> simp [Act.put, hr.size]
theorem k_min_eq (k : IntKind) : k.min = ilo k := by cases k <;> decide
theorem k_max_eq (k : IntKind) : k.max = ihi k := by cases k <;> decide
theorem constCV_rel {x : Value} {c : CV} (h : constCV x = some c) : CVRel C.E R g c x := by
  unfold constCV at h
  split at h
  · split at h
    · rename_i hk
      injection h with h
      subst h
      exact ⟨rfl, by rw [k_min_eq]; exact hk.1, by rw [k_max_eq]; exact hk.2⟩
    · cases h
  · injection h with h; subst h; rfl
  · split at h
    · rename_i hl
      injection h with h
      subst h
      exact ⟨_, rfl, rfl, hl⟩
    · cases h
  · injection h with h; subst h; exact .inl ⟨rfl, rfl⟩
  · injection h with h; subst h; rfl
  · injection h with h; subst h; rfl
  · injection h with h; subst h; rfl
  · cases h
theorem constCVs_rel : ∀ {xs : List Value} {cs : List CV}, constCVs xs = some cs → All2 (CVRel C.E R g) cs xs
  | [], cs, h => by simp [constCVs] at h; subst h; exact .nil
  | x :: r, cs, h => by
    simp only [constCVs, Option.bind_eq_some_iff, Option.map_eq_some_iff] at h
    obtain ⟨c, h1, cs', h2, rfl⟩ := h
    exact .cons (constCV_rel h1) (constCVs_rel h2)
theorem constRV_rel {x : Value} {c : RV} (h : constRV x = some c) : RVRel C.E R g c x := by
  unfold constRV at h
  split at h
  · rw [Option.map_eq_some_iff] at h
    obtain ⟨cs, h, rfl⟩ := h
    exact ⟨_, by simp, constCVs_rel h⟩
  · rw [Option.map_eq_some_iff] at h
    obtain ⟨cs, h, rfl⟩ := h
    exact constCV_rel h
theorem ev_rel (hv : View v s) (hr : Rel C s a w R g) {x : Operand} {sv : SV} (h : v.ev x = some sv) : SVRel C.E R g sv (a.eval x) := by
  cases x with
  | tmp t =>
    obtain ⟨u, h1, h2⟩ := hr.slots t sv (hv.sl t sv h)
    have : a.eval (.tmp t) = u := by simp [Act.eval, h1]
    rw [this]; exact h2
  | const c =>
    simp only [VSt.ev, Option.map_eq_some_iff] at h
    obtain ⟨rv, h, rfl⟩ := h
    exact constRV_rel h
  | global x =>
    simp only [VSt.ev, Option.map_eq_some_iff] at h
    obtain ⟨c, h, rfl⟩ := h
    rw [hv.gl, hr.gleq] at h
    exact hr.glob x c h g
  | func f => injection h with h; subst h; rfl
theorem evr_rel (hv : View v s) (hr : Rel C s a w R g) {x : Operand} {rv : RV} (h : svRV (v.ev x) = some rv) : RVRel C.E R g rv (a.eval x) := by
  cases he : v.ev x with
  | none => rw [he] at h; cases h
  | some sv =>
    rw [he] at h
    cases sv with
    | r y => injection h with h; subst h; exact ev_rel hv hr he
    | t ys => cases h
    | u => cases h
theorem evc_rel (hv : View v s) (hr : Rel C s a w R g) {x : Operand} {c : CV} (h : svCV (v.ev x) = some c) : CVRel C.E R g c (a.eval x) := by
  cases he : v.ev x with
  | none => rw [he] at h; cases h
  | some sv =>
    rw [he] at h
    cases sv with
    | r y => cases y with
      | c z => injection h with h; subst h; exact ev_rel hv hr he
      | a zs => cases h
      | sg zs => cases h
    | t ys => cases h
    | u => cases h
theorem en_live (hv : View v s) {h : Nat} {e : Ent} (he : v.en h = .live e) : s.en h = .live e := by
  rcases hv.en h with x | x
  · rw [← x]; exact he
  · rw [he] at x; cases x
theorem en_ro (hv : View v s) {h : Nat} {κ : K} {xs : List κ.T} (he : v.en h = .ro κ xs) : s.en h = .ro κ xs := by
  rcases hv.en h with x | x
  · rw [← x]; exact he
  · rw [he] at x; cases x
theorem en_free (hv : View v s) {h : Nat} (he : v.en h = .free) : s.en h = .free := by
  rcases hv.en h with x | x
  · rw [← x]; exact he
  · rw [he] at x; cases x
/-- an operation that only computes. -/
theorem StepOK.pure (hd : ∀ t, o.dst = some t → t < C.N) (hups : δ.ups = [])
    (h : ∀ (s : VSt) (a : Act) (w : World) (R : Part) (g : Gh), View v s → KnOK kn s → Rel C s a w R g → ∃ u, (execOp a.eval o).run C.P w = .ok (.value u) w ∧ ∀ sv, δ.v = some sv → SVRel C.E R g sv u) : StepOK C kn o v δ := by
  intro s a w R g hv hk hr next Q hn
  obtain ⟨u, h1, h2⟩ := h s a w R g hv hk hr
  exact wp_val h1 (hn _ _ (hr.app hd (Part.le_refl R) (Gh.le_refl g) (by rw [hups]; exact hr.inv) h2))
end
end Go.Sx
