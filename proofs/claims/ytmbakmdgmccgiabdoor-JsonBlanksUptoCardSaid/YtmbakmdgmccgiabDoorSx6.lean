/- Part of a proof by a small interpreter on plain values; no condition. -/
import Derived.Test.YtmbakmdgmccgiabDoorSx5
import Derived.ChangeKeysEq
import Derived.Laws.StructEq
/-! Sx6: each operation's step (those that make no memory). -/
namespace Go.Sx
open Go
set_option autoImplicit false
set_option linter.unusedSimpArgs false
set_option linter.unusedVariables false
section
variable {C : Ctx} {env : Env} {kn : List (Nat × Bool)} {base : Nat} {o : Oper} {v : VSt} {A : Type} {f : Delta → Option A} {r : A}
def Done (C : Ctx) (kn : List (Nat × Bool)) (o : Oper) (v : VSt) {A : Type} (f : Delta → Option A) (r : A) : Prop := ∃ δ, f δ = some r ∧ StepOK C kn o v δ
theorem run_v {P : Program} {S : Sem Value} {w w' : World} {u : Value} (h : S.run P w = .ok u w') : ((do pure (.value (← S)) : Sem Next)).run P w = .ok (.value u) w' := by
  simp [h]
theorem run_u {P : Program} {S : Sem Unit} {w w' : World} (h : S.run P w = .ok () w') : ((do S; pure .skip : Sem Next)).run P w = .ok .skip w' := by
  simp [h]
theorem some_r {α : Type} {P : α → Prop} {x : α} (h : P x) : ∀ z, some x = some z → P z := fun z e => by injection e with e; exact e ▸ h
theorem ok_move (hd : ∀ t, o.dst = some t → t < C.N) {x : Operand} (hop : o.op = .move x ∨ o.op = .assign x) (h : f ⟨v.ev x, []⟩ = some r) : Done C kn o v f r :=
  ⟨_, h, .pure hd rfl fun s a w R g hv hk hr => ⟨a.eval x, by rcases hop with e | e <;> simp [execOp, e], fun sv hs => ev_rel hv hr hs⟩⟩
theorem ok_pick (hd : ∀ t, o.dst = some t → t < C.N) {c x y : Operand} (hop : o.op = .pick c x y) (h : stepO C.P C.E env kn base o v f = some r) : Done C kn o v f r := by
  unfold stepO at h
  rw [hop] at h
  simp only at h
  have key : ∀ β : Bool, f ⟨v.ev (if β then x else y), []⟩ = some r → (∀ (s : VSt) (a : Act) (w : World) (R : Part) (g : Gh), View v s → KnOK kn s → Rel C s a w R g → a.eval c = .bool β) → Done C kn o v f r := by
    intro β h hb
    refine ⟨_, h, .pure hd rfl fun s a w R g hv hk hr => ⟨a.eval (if β then x else y), ?_, fun sv hs => ev_rel hv hr hs⟩⟩
    have := hb s a w R g hv hk hr
    cases β <;> simp [execOp, hop, this, asBool]
  split at h
  · rename_i β hk
    refine key β h (fun s a w R g hv hkn hr => ?_)
    split at hk
    · rename_i t
      obtain ⟨u, h1, h2⟩ := hr.slots t _ (hkn t β hk)
      have h2 : u = .bool β := by injection h2 with h2
      simp [Act.eval, h1, h2]
    · cases hk
  · split at h
    · rename_i β hb
      have hev : ∀ (s : VSt) (a : Act) (w : World) (R : Part) (g : Gh), View v s → KnOK kn s → Rel C s a w R g → a.eval c = .bool β := fun s a w R g hv _ hr => by
        have := evc_rel hv hr hb
        injection this
      split at h
      · rename_i e; subst e; exact key true h hev
      · rename_i e
        have e : β = false := by simpa using e
        subst e; exact key false h hev
    · cases h
theorem ok_nilCheck (hd : ∀ t, o.dst = some t → t < C.N) {x : Operand} (hop : o.op = .nilCheck x) (h : stepO C.P C.E env kn base o v f = some r) : Done C kn o v f r := by
  unfold stepO at h
  rw [hop] at h
  simp only at h
  have key : ∀ c : CV, svCV (v.ev x) = some c → (∀ (R : Part) (g : Gh) (u : Value), CVRel C.E R g c u → ∃ p, u = .pointer (some p)) → f (one c) = some r → Done C kn o v f r := by
    intro c hc hp h
    refine ⟨_, h, .pure hd rfl fun s a w R g hv hk hr => ?_⟩
    have := evc_rel hv hr hc
    obtain ⟨p, hp⟩ := hp R g _ this
    exact ⟨a.eval x, by simp [execOp, hop, hp], fun sv hs => by injection hs with hs; subst hs; exact this⟩
  split at h
  · rename_i hc; exact key _ hc (fun R g u hu => by obtain ⟨b, _, e⟩ := hu; exact ⟨_, e⟩) h
  · rename_i hc; exact key _ hc (fun R g u hu => by obtain ⟨b, _, _, _, _, e⟩ := hu; exact ⟨_, e⟩) h
  · rename_i hc; exact key _ hc (fun R g u hu => by obtain ⟨b, _, _, _, _, _, e, _⟩ := hu; exact ⟨_, e⟩) h
  · rename_i hc
    split at h
    · cases h
    · rename_i hx
      refine ⟨_, h, .pure hd rfl fun s a w R g hv hk hr => ?_⟩
      have := evc_rel hv hr hc
      rcases this with ⟨h0, _⟩ | ⟨_, b, n, c, h1, h2, h3⟩
      · exact absurd h0 hx
      · exact ⟨a.eval x, by simp [execOp, hop, h3], fun sv hs => by injection hs with hs; subst hs; exact ⟨b, n, c, h1, h2, h3⟩⟩
  · cases h
theorem field_run {P : Program} {t : TypeId} {fs : Array Field} {i : Nat} {fd : Field} (hu : P.underlying t = some (.struct fs)) (hf : fs[i]? = some fd) (hz : P.cellsOf fd.type ≠ 0) (b off : Nat) (w : World) :
    (Instr.fieldAt t (.pointer (some ⟨b, off, none⟩)) i).run P w = .ok (.pointer (some ⟨b, off + fd.offset, none⟩)) w := by
  obtain ⟨j, hi, _⟩ := info_of_cells hz
  simp [Instr.fieldAt, run_under hu, hf, Instr.sureAddr, fieldPlace, run_size hi, hz, addr_add]
theorem ok_fieldAddr (hd : ∀ t, o.dst = some t → t < C.N) {t : TypeId} {x : Operand} {i : Nat} (hop : o.op = .fieldAddr t x i) (h : stepO C.P C.E env kn base o v f = some r) : Done C kn o v f r := by
  unfold stepO at h
  rw [hop] at h
  simp only at h
  split at h
  · rename_i fs hu
    rw [Option.bind_eq_some_iff] at h
    obtain ⟨fd, hf, h⟩ := h
    split at h
    · cases h
    · rename_i hz
      have key : ∀ c c' : CV, svCV (v.ev x) = some c → (∀ (R : Part) (g : Gh) (u : Value), CVRel C.E R g c u → ∃ b off, u = .pointer (some ⟨b, off, none⟩) ∧ CVRel C.E R g c' (.pointer (some ⟨b, off + fd.offset, none⟩))) → f (one c') = some r → Done C kn o v f r := by
        intro c c' hc hp h
        refine ⟨_, h, .pure hd rfl fun s a w R g hv hk hr => ?_⟩
        obtain ⟨b, off, e, hp⟩ := hp R g _ (evc_rel hv hr hc)
        refine ⟨_, ?_, fun sv hs => by injection hs with hs; subst hs; exact hp⟩
        have := field_run hu hf hz b off w
        simp only [execOp, hop, e]
        exact run_v this
      split at h
      · rename_i hc
        exact key _ _ hc (fun R g u hu => by obtain ⟨b, h1, e⟩ := hu; exact ⟨b, _, e, b, h1, rfl⟩) h
      · rename_i hc
        exact key _ _ hc (fun R g u hu => by
          obtain ⟨b, n, c, h1, h2, e⟩ := hu
          exact ⟨b, _, e, b, n, c, h1, h2, by rw [Nat.add_assoc]⟩) h
      · rename_i κ y hc
        rw [Option.bind_eq_some_iff] at h
        obtain ⟨p, hp, h⟩ := h
        refine key _ _ hc (fun R g u hu => ?_) h
        obtain ⟨b, off, arr, ty, fr, h1, e, h2⟩ := hu
        refine ⟨b, off, e, b, off + fd.offset, arr, ty, fr, h1, rfl, ?_⟩
        obtain ⟨q1, q2⟩ := K.sub_rd κ _ _ p y _ hp h2
        have hl := K.Rd_len _ _ _ q2
        rw [← q1] at q2 hl
        rw [List.length_take, List.length_drop, List.length_take, List.length_drop] at hl
        have : ((arr.toList.drop (off + fd.offset)).take p.1.sz) = ((((arr.toList.drop off).take κ.sz).drop fd.offset).take p.1.sz) := by
          rw [List.drop_take, List.take_take, List.drop_drop, Nat.min_eq_left (by omega)]
        rw [this]
        exact q2
      · cases h
  · cases h
theorem cells_seg {w : World} {b : Nat} {arr : Array Value} {ty : TypeId} {fr : Nat × Nat} (h : w.heap[b]? = some (.cells arr ty fr)) (off n : Nat) : ∀ j x, ((arr.toList.drop off).take n)[j]? = some x → w.cell? ⟨b, off + j, none⟩ = some x := by
  intro j x hj
  rw [cell_at h]
  rw [List.getElem?_take] at hj
  split at hj
  · rw [List.getElem?_drop] at hj; exact hj
  · cases hj
theorem live_cells {s : VSt} {a : Act} {w : World} {R : Part} {g : Gh} (hr : Rel C s a w R g) {h : Nat} {ty : TypeId} {cs : List CV} (he : s.en h = .live (.cells ty cs)) {b : Nat} (hg : g h = some (.pointer (some ⟨b, 0, none⟩))) :
    ∃ arr fr, w.heap[b]? = some (.cells arr ty fr) ∧ Unf fr arr.size ∧ All2 (CVRel C.E R g) cs arr.toList := by
  obtain ⟨u, hu, b', arr, fr, e, h1, h2, h3⟩ := hr.inv.live h _ he
  rw [hg] at hu
  injection hu with hu
  rw [← hu] at e
  injection e with e
  injection e with e
  injection e with e
  subst e
  exact ⟨arr, fr, h1, h2, h3⟩
theorem live_row {s : VSt} {a : Act} {w : World} {R : Part} {g : Gh} (hr : Rel C s a w R g) {h : Nat} {ety : TypeId} {κ : K} {xs : List κ.T} (he : s.en h = .live (.row ety κ xs)) {b n c : Nat} (hg : g h = some (.slice (some ⟨b, 0, none⟩) n c)) :
    n = xs.length ∧ ∃ arr fr, w.heap[b]? = some (.cells arr ety fr) ∧ Unf fr arr.size ∧ xs.length ≤ c ∧ c * κ.sz ≤ arr.size ∧ xs.length ≤ lim ∧ arr.toList.all Value.oneCell' = true ∧ RowRd C.E R κ xs arr.toList := by
  obtain ⟨u, hu, hh⟩ := hr.inv.live h _ he
  rw [hg] at hu
  injection hu with hu
  subst hu
  rcases hh with ⟨e, _⟩ | ⟨b', c', arr, fr, e, h1, h2, h3, h4, h5, h6, h7⟩
  · cases e
  · injection e with e1 e2 e3
    injection e1 with e1
    injection e1 with e1
    subst e1
    subst e3
    exact ⟨e2, arr, fr, h1, h2, h3, h4, h5, h6, h7⟩
theorem live_segs {s : VSt} {a : Act} {w : World} {R : Part} {g : Gh} (hr : Rel C s a w R g) {h : Nat} {ty : TypeId} {ss : List Seg} (he : s.en h = .live (.segs ty ss)) {b : Nat} (hg : g h = some (.pointer (some ⟨b, 0, none⟩))) :
    ∃ arr fr, w.heap[b]? = some (.cells arr ty fr) ∧ Unf fr arr.size ∧ SegsRel C.E R g ss arr.toList := by
  obtain ⟨u, hu, b', arr, fr, e, h1, h2, h3⟩ := hr.inv.live h _ he
  rw [hg] at hu
  injection hu with hu
  rw [← hu] at e
  injection e with e
  injection e with e
  injection e with e
  subst e
  exact ⟨arr, fr, h1, h2, h3⟩
theorem arrAt_spec {en : Nat → EnS} {h off : Nat} {ty : TypeId} {a r : List Seg} {n : Nat} {κ : K} {xs : List κ.T} (e : arrAt en h off = some (ty, a, ⟨n, κ, xs⟩, r)) :
    ∃ ss, en h = .live (.segs ty ss) ∧ cutS off ss = some (a, .blk (.arr n κ) xs :: r) := by
  unfold arrAt at e
  split at e
  · rename_i ty' ss he
    rw [Option.bind_eq_some_iff] at e
    obtain ⟨⟨p1, p2⟩, hp, e⟩ := e
    simp only at e
    split at e
    · rename_i n' κ' xs' r'
      simp only [Option.some.injEq, Prod.mk.injEq, Sigma.mk.injEq] at e
      obtain ⟨rfl, rfl, ⟨rfl, e2⟩, rfl⟩ := e
      have e2 := eq_of_heq e2
      simp only [Sigma.mk.injEq] at e2
      obtain ⟨rfl, e3⟩ := e2
      obtain rfl := eq_of_heq e3
      exact ⟨ss, he, hp⟩
    · cases e
  · cases e
theorem segs_at {E : TypeId} {R : Part} {g : Gh} {ss a r : List Seg} {vs : List Value} {off n : Nat} {κ : K} {xs : List κ.T} (h : SegsRel E R g ss vs) (e : cutS off ss = some (a, .blk (.arr n κ) xs :: r)) :
    SegsRel E R g a (vs.take off) ∧ (K.arr n κ).Rd E R xs ((vs.drop off).take (n * κ.sz)) ∧ SegsRel E R g r (vs.drop (off + n * κ.sz)) ∧ off + n * κ.sz ≤ vs.length := by
  obtain ⟨h1, h2, h3⟩ := h.cut e
  generalize hw : vs.drop off = w at h2
  cases h2 with
  | blk hx hr =>
    rename_i cs vs'
    have hl : cs.length = n * κ.sz := K.Rd_len _ _ _ hx
    have hlen := congrArg List.length hw
    rw [List.length_drop, List.length_append] at hlen
    refine ⟨h1, by rw [List.take_append, List.take_of_length_le (by omega), hl, Nat.sub_self, List.take_zero, List.append_nil]; exact hx, ?_, by omega⟩
    rw [← List.drop_drop, hw, List.drop_append, List.drop_eq_nil_of_le (by omega), List.nil_append, hl, Nat.sub_self, List.drop_zero]
    exact hr
/-- an element of an array. -/
theorem arr_elt {E : TypeId} {R : Part} {n : Nat} {κ : K} {xs : List κ.T} {vs : List Value} {off i : Nat} {x : κ.T} (h : (K.arr n κ).Rd E R xs ((vs.drop off).take (n * κ.sz))) (hx : xs[i]? = some x) : κ.Rd E R x ((vs.drop (off + i * κ.sz)).take κ.sz) := by
  have := h.2.2.2 i x hx
  have hi : i < n := by rw [← h.1]; exact (List.getElem?_eq_some_iff.1 hx).1
  rw [List.drop_take, List.take_take, List.drop_drop] at this
  have h2 : (i + 1) * κ.sz ≤ n * κ.sz := Nat.mul_le_mul_right _ hi
  rw [Nat.add_mul, Nat.one_mul] at h2
  rwa [Nat.min_eq_left (by omega)] at this
theorem row_arr {E : TypeId} {R : Part} {κ : K} {xs : List κ.T} {vs : List Value} (h : RowRd E R κ xs vs) (hl : xs.length * κ.sz ≤ vs.length) (h1 : ∀ v ∈ vs, v.oneCell' = true) : (K.arr xs.length κ).Rd E R xs (vs.take (xs.length * κ.sz)) := by
  refine ⟨rfl, by rw [List.length_take]; omega, fun v hv => h1 v (List.mem_of_mem_take hv), fun j x hx => ?_⟩
  have hi : j < xs.length := (List.getElem?_eq_some_iff.1 hx).1
  have h2 : (j + 1) * κ.sz ≤ xs.length * κ.sz := Nat.mul_le_mul_right _ hi
  rw [Nat.add_mul, Nat.one_mul] at h2
  rw [List.drop_take, List.take_take, Nat.min_eq_left (by omega)]
  exact h j x hx
theorem getD_some {α : Type} {xs : List α} {i : Nat} (h : i < xs.length) (d : α) : xs[i]? = some (xs.getD i d) := by rw [List.getD_eq_getElem?_getD, List.getElem?_eq_getElem h]; rfl
theorem ok_load (hd : ∀ t, o.dst = some t → t < C.N) {t : TypeId} {x : Operand} (hop : o.op = .load t x) (h : stepO C.P C.E env kn base o v f = some r) : Done C kn o v f r := by
  unfold stepO at h
  rw [hop] at h
  simp only at h
  have key : ∀ (c : CV) (rv : RV), svCV (v.ev x) = some c → (∀ (s : VSt) (a : Act) (w : World) (R : Part) (g : Gh), View v s → Rel C s a w R g → CVRel C.E R g c (a.eval x) →
      ∃ b off cvs cs, a.eval x = .pointer (some ⟨b, off, none⟩) ∧ All2 (CVRel C.E R g) cvs cs ∧ (∀ j u, cs[j]? = some u → w.cell? ⟨b, off + j, none⟩ = some u) ∧ rvOf (aggOf C.P t) (C.P.cellsOf t) cvs = some rv) →
      f ⟨some (.r rv), []⟩ = some r → Done C kn o v f r := by
    intro c rv hc hp h
    refine ⟨_, h, .pure hd rfl fun s a w R g hv hk hr => ?_⟩
    obtain ⟨b, off, cvs, cs, e, h1, h2, h3⟩ := hp s a w R g hv hr (evc_rel hv hr hc)
    obtain ⟨u, hrun, hrel⟩ := load_run (P := C.P) h1 h2 h3
    refine ⟨u, ?_, fun sv hs => by injection hs with hs; subst hs; exact hrel⟩
    simp only [execOp, hop, e]
    exact run_v (by simp [Instr.loadAt, Instr.sureAddr, hrun])
  have keyS : ∀ (c : CV) (rv : RV), svCV (v.ev x) = some c → (∀ (s : VSt) (a : Act) (w : World) (R : Part) (g : Gh), View v s → Rel C s a w R g → CVRel C.E R g c (a.eval x) →
      ∃ b off ss cs, a.eval x = .pointer (some ⟨b, off, none⟩) ∧ SegsRel C.E R g ss cs ∧ cs.length = C.P.cellsOf t ∧ (∀ j u, cs[j]? = some u → w.cell? ⟨b, off + j, none⟩ = some u) ∧ rvOfS (aggOf C.P t) ss = some rv) →
      f ⟨some (.r rv), []⟩ = some r → Done C kn o v f r := by
    intro c rv hc hp h
    refine ⟨_, h, .pure hd rfl fun s a w R g hv hk hr => ?_⟩
    obtain ⟨b, off, ss, cs, e, h1, hl, h2, h3⟩ := hp s a w R g hv hr (evc_rel hv hr hc)
    obtain ⟨u, hrun, hrel⟩ := loadS_run (P := C.P) h1 hl h2 h3
    refine ⟨u, ?_, fun sv hs => by injection hs with hs; subst hs; exact hrel⟩
    simp only [execOp, hop, e]
    exact run_v (by simp [Instr.loadAt, Instr.sureAddr, hrun])
  split at h
  · rename_i i off hc
    split at h
    · rename_i ty cs he
      rw [Option.bind_eq_some_iff] at h
      obtain ⟨rv, hrv, h⟩ := h
      refine key _ rv hc (fun s a w R g hv hr hx => ?_) h
      obtain ⟨b, hg, e⟩ := hx
      obtain ⟨arr, fr, h1, h2, h3⟩ := live_cells hr (en_live hv he) hg
      exact ⟨b, off, _, _, e, (h3.drop off).take _, cells_seg h1 off _, hrv⟩
    · rename_i ty ss he
      simp only [Option.bind_eq_some_iff] at h
      obtain ⟨p, hp, rv, hrv, h⟩ := h
      refine keyS _ rv hc (fun s a w R g hv hr hx => ?_) h
      obtain ⟨b, hg, e⟩ := hx
      obtain ⟨arr, fr, h1, h2, h3⟩ := live_segs hr (en_live hv he) hg
      obtain ⟨_, m2, _, m4⟩ := h3.mid hp
      exact ⟨b, off, _, _, e, m2, by rw [List.length_take, List.length_drop]; omega, cells_seg h1 off _, hrv⟩
    · cases h
  · rename_i i off sz j hc
    rw [Option.bind_eq_some_iff] at h
    obtain ⟨⟨ty, a0, ⟨n, κ, xs⟩, r0⟩, hat, h⟩ := h
    simp only at h
    split at h
    rotate_left
    · cases h
    rename_i hsz1
    split at h
    · rename_i hsz2
      have hsz := (⟨hsz1, hsz2⟩ : sz = κ.sz ∧ j < List.length xs)
      rw [Option.bind_eq_some_iff] at h
      obtain ⟨rv, hrv, h⟩ := h
      obtain ⟨ss, hen, hcut⟩ := arrAt_spec hat
      refine key _ rv hc (fun s a w R g hv hr hx => ?_) h
      obtain ⟨b, hg, e⟩ := hx
      obtain ⟨arr, fr, h1, h2, h3⟩ := live_segs hr (en_live hv hen) hg
      obtain ⟨_, m2, _, m4⟩ := segs_at h3 hcut
      have hrd := explode_rel (g := g) κ _ _ (arr_elt m2 (getD_some hsz.2 κ.zero))
      refine ⟨b, off + j * κ.sz, _, _, by rw [e, hsz.1], hrd.take _, fun k u hk => ?_, hrv⟩
      rw [List.take_take] at hk
      exact cells_seg h1 _ _ k u hk
    · cases h
  · rename_i i sz j off hc
    split at h
    · rename_i ety κ xs he
      split at h
      · rename_i n e harr
        split at h
        · rename_i hsz
          obtain ⟨rfl, rfl, rfl, hce, hct⟩ := hsz
          split at h
          · rename_i hn
            subst hn
            have hagg : aggOf C.P t = some true := by
              unfold arrElem at harr
              split at harr
              · rename_i hu; unfold aggOf; rw [hu]; rfl
              · cases harr
            refine keyS _ (.sg [.blk (.arr xs.length κ) xs]) hc (fun s a w R g hv hr hx => ?_) h
            obtain ⟨b, n, c, hg, hlt, e⟩ := hx
            obtain ⟨rfl, arr, fr, h1, h2, h3, h4, h5, h6, h7⟩ := live_row hr (en_live hv he) hg
            have hle : xs.length * κ.sz ≤ arr.toList.length := by
              have := Nat.mul_le_mul_right κ.sz h3
              simp; omega
            have hrd := row_arr h7 hle (fun v hv => List.all_eq_true.1 h6 v hv)
            refine ⟨b, 0, [.blk (.arr xs.length κ) xs], _, by rw [e, Nat.zero_mul], (by have := SegsRel.blk (g := g) hrd .nil; rwa [List.append_nil] at this), by rw [List.length_take, hct]; omega, fun k u hk => ?_, by rw [hagg]; rfl⟩
            have := cells_seg h1 0 (xs.length * κ.sz) k u (by rw [List.drop_zero]; exact hk)
            exact this
          · cases h
        · cases h
      split at h
      · rename_i hsz
        rw [Option.bind_eq_some_iff] at h
        obtain ⟨rv, hrv, h⟩ := h
        refine key _ rv hc (fun s a w R g hv hr hx => ?_) h
        obtain ⟨b, n, c, hg, hlt, e⟩ := hx
        obtain ⟨rfl, arr, fr, h1, h2, h3, h4, h5, h6, h7⟩ := live_row hr (en_live hv he) hg
        have hx : xs[j]? = some (xs.getD j κ.zero) := by rw [List.getD_eq_getElem?_getD, List.getElem?_eq_getElem hlt]; rfl
        have hrd := explode_rel (g := g) κ _ _ (h7 j _ hx)
        refine ⟨b, _, _, _, e, (hrd.drop off).take _, ?_, hrv⟩
        subst hsz
        intro k u hk
        rw [List.drop_take, List.take_take, List.drop_drop] at hk
        exact cells_seg h1 _ _ k u hk
      · cases h
    · cases h
  · rename_i κ y hc
    split at h
    · simp only [Option.bind_eq_some_iff] at h
      obtain ⟨p, hp, rv, hrv, h⟩ := h
      refine keyS _ rv hc (fun s a w R g hv hr hx => ?_) h
      obtain ⟨b, off, arr, ty, fr, h1, e, h2⟩ := hx
      obtain ⟨m1, _, m3⟩ := (explodeS_rel (g := g) κ _ _ h2).cut hp
      refine ⟨b, off, _, _, e, m1, by rw [List.length_take]; omega, ?_, hrv⟩
      intro k u hk
      rw [List.take_take] at hk
      exact cells_seg (hr.inv.sub _ _ h1) _ _ k u hk
    rw [Option.bind_eq_some_iff] at h
    obtain ⟨rv, hrv, h⟩ := h
    refine key _ rv hc (fun s a w R g hv hr hx => ?_) h
    obtain ⟨b, off, arr, ty, fr, h1, e, h2⟩ := hx
    refine ⟨b, off, _, _, e, (explode_rel (g := g) κ _ _ h2).take _, ?_, hrv⟩
    intro k u hk
    rw [List.take_take] at hk
    exact cells_seg (hr.inv.sub _ _ h1) _ _ k u hk
  · cases h
theorem ok_unOp (hd : ∀ t, o.dst = some t → t < C.N) {op : UnOp} {t : TypeId} {x : Operand} (hop : o.op = .unOp op t x) (h : stepO C.P C.E env kn base o v f = some r) : Done C kn o v f r := by
  unfold stepO at h
  rw [hop] at h
  simp only at h
  split at h
  · rename_i b hc
    refine ⟨_, h, .pure hd rfl fun s a w R g hv hk hr => ?_⟩
    have e : a.eval x = .bool b := by have := evc_rel hv hr hc; injection this
    refine ⟨.bool (!b), ?_, some_r (rel_bool _)⟩
    simp only [execOp, hop, e]
    exact run_v rfl
  · rename_i k n hc
    refine ⟨_, h, .pure hd rfl fun s a w R g hv hk hr => ?_⟩
    have e : a.eval x = .int k n := by have := (evc_rel hv hr hc).1; injection this
    refine ⟨.int k (k.wrap (0 - n)), ?_, some_r (rel_wrap k _)⟩
    simp only [execOp, hop, e]
    exact run_v rfl
  · rename_i k n hc
    refine ⟨_, h, .pure hd rfl fun s a w R g hv hk hr => ?_⟩
    have e : a.eval x = .int k n := by have := (evc_rel hv hr hc).1; injection this
    refine ⟨.int k (bits .xor k (if k.signed then -1 else k.max) n), ?_, some_r (rel_int (wrap_within k _).1 (wrap_within k _).2)⟩
    simp only [execOp, hop, e]
    exact run_v rfl
  · cases h
theorem ok_makeInterface (hd : ∀ t, o.dst = some t → t < C.N) {t : TypeId} {x : Operand} (hop : o.op = .makeInterface t x) (h : stepO C.P C.E env kn base o v f = some r) : Done C kn o v f r := by
  unfold stepO at h
  rw [hop] at h
  simp only at h
  split at h
  · rename_i e
    obtain ⟨e, hok⟩ := e
    subst e
    obtain ⟨hE, _⟩ := errOk_spec hok
    split at h
    · rename_i n hc
      split at h
      · cases h
      · rename_i h0
        refine ⟨_, h, .pure hd rfl fun s a w R g hv hk hr => ?_⟩
        obtain ⟨e, h1⟩ := evc_rel hv hr hc
        injection e with e _
        refine ⟨.iface C.E (.int .i64 n), ?_, some_r (.inr ⟨h0, h1, rfl⟩)⟩
        simp only [execOp, hop, e]
        exact run_v (by simp [Instr.makeInterface, run_under hE])
    · cases h
  · cases h
theorem cvs_rel {s : VSt} {a : Act} {w : World} {R : Part} {g : Gh} (hv : View v s) (hr : Rel C s a w R g) : ∀ {l : List Operand} {cs : List CV}, cvs v l = some cs → All2 (CVRel C.E R g) cs (l.map a.eval)
  | [], cs, h => by simp [cvs] at h; subst h; exact .nil
  | x :: r, cs, h => by
    simp only [cvs, Option.bind_eq_some_iff, Option.map_eq_some_iff] at h
    obtain ⟨c, hc, cs', hcs, rfl⟩ := h
    exact .cons (evc_rel hv hr hc) (cvs_rel hv hr hcs)
theorem caps_rel {R : Part} {g : Gh} : ∀ {cs : List CV} {hs : List (Option Nat)} {us : List Value}, capsOf cs = some hs → All2 (CVRel C.E R g) cs us → All2 (CapRel g) hs us
  | [], hs, us, h, ha => by
    simp [capsOf] at h; subst h; cases ha; exact .nil
  | c :: r, hs, us, h, ha => by
    cases ha with
    | cons hx hr =>
    unfold capsOf at h
    split at h
    · rename_i e; cases e
    · rename_i r' e
      injection e with e1 e2
      subst e1
      subst e2
      rw [Option.map_eq_some_iff] at h
      obtain ⟨hs', hh, rfl⟩ := h
      exact .cons hx (caps_rel hh hr)
    · rename_i h' r' e
      injection e with e1 e2
      subst e1
      subst e2
      rw [Option.map_eq_some_iff] at h
      obtain ⟨hs', hh, rfl⟩ := h
      exact .cons hx (caps_rel hh hr)
    · cases h
theorem ok_makeFunc (hd : ∀ t, o.dst = some t → t < C.N) {fn : Fn} {first cap : Array Operand} (hop : o.op = .makeFunc fn first cap) (h : stepO C.P C.E env kn base o v f = some r) : Done C kn o v f r := by
  unfold stepO at h
  rw [hop] at h
  simp only at h
  split at h
  · rename_i fid hfirst
    simp only [Option.bind_eq_some_iff] at h
    obtain ⟨cs, hcs, hs, hhs, h⟩ := h
    refine ⟨_, h, .pure hd rfl fun s a w R g hv hk hr => ?_⟩
    refine ⟨.func (.func fid) (first.map a.eval) (cap.map a.eval), ?_, fun sv hsv => ?_⟩
    · simp only [execOp, hop]
      exact run_v rfl
    · injection hsv with hsv
      subst hsv
      have e1 : first.map a.eval = #[] := by apply Array.ext'; simp [hfirst]
      have e2 : cap.map a.eval = (cap.toList.map a.eval).toArray := by apply Array.ext'; simp
      rw [e1, e2]
      exact ⟨_, rfl, caps_rel hhs (cvs_rel hv hr hcs)⟩
  · cases h
theorem ok_extract (hd : ∀ t, o.dst = some t → t < C.N) {x : Operand} {i : Nat} (hop : o.op = .extract x i) (h : stepO C.P C.E env kn base o v f = some r) : Done C kn o v f r := by
  unfold stepO at h
  rw [hop] at h
  simp only at h
  split at h
  · rename_i vs hc
    rw [Option.bind_eq_some_iff] at h
    obtain ⟨u, hu, h⟩ := h
    refine ⟨_, h, .pure hd rfl fun s a w R g hv hk hr => ?_⟩
    obtain ⟨us, e, hus⟩ := ev_rel hv hr hc
    obtain ⟨y, hy, hrel⟩ := hus.get i u hu
    refine ⟨y, ?_, some_r hrel⟩
    simp only [execOp, hop, e]
    exact run_v (by simp [Instr.extract, hy])
  · cases h
theorem part_run {E : TypeId} {R : Part} {g : Gh} {P : Program} {w : World} {t : TypeId} {off : Nat} {arr : List Value} {cvs : List CV} {rv : RV} (hc : All2 (CVRel E R g) cvs ((arr.drop off).take (P.cellsOf t)))
    (hrv : rvOf (aggOf P t) (P.cellsOf t) cvs = some rv) : ∃ u, (part t arr.toArray off).run P w = .ok u w ∧ RVRel E R g rv u := by
  unfold aggOf at hrv
  cases hu : P.underlying t with
  | none => rw [hu] at hrv; simp [rvOf] at hrv
  | some d =>
    rw [hu] at hrv
    simp only [Option.map_some] at hrv
    have hagg : (isAgg t).run P w = .ok (isAggD d) w := by
      simp only [isAgg, Sem.run_bind, run_under hu, Result.andThen_ok]
      cases d <;> rfl
    simp only [part, Sem.run_bind, hagg, Result.andThen_ok]
    clear hagg
    generalize isAggD d = ag at *
    cases ag with
    | true =>
      simp only [rvOf] at hrv
      split at hrv
      · injection hrv with hrv
        subst hrv
        obtain ⟨i, hi⟩ := info_of_underlying hu
        refine ⟨.agg ((arr.drop off).take (P.cellsOf t)).toArray, ?_, _, rfl, hc⟩
        simp only [if_true, Sem.run_bind, run_size hi, Result.andThen_ok, Sem.run_pure]
        congr 2
        apply Array.ext'
        simp
      · cases hrv
    | false =>
      generalize hl : ((arr.drop off).take (P.cellsOf t)) = l at hc
      cases hc with
      | nil => simp [rvOf] at hrv
      | cons hx hr =>
        cases hr with
        | nil =>
          simp only [rvOf, Option.some.injEq] at hrv
          subst hrv
          rename_i c u
          have : arr[off]? = some u := by
            have h0 : ((arr.drop off).take (P.cellsOf t))[0]? = some u := by rw [hl]; rfl
            rw [List.getElem?_take] at h0
            split at h0
            · rw [List.getElem?_drop] at h0; simpa using h0
            · cases h0
          exact ⟨u, by simp [this], hx⟩
        | cons => simp [rvOf] at hrv
theorem partS_run {E : TypeId} {R : Part} {g : Gh} {P : Program} {w : World} {t : TypeId} {off : Nat} {arr : List Value} {ss : List Seg} {rv : RV} (hc : SegsRel E R g ss ((arr.drop off).take (P.cellsOf t))) (hl : off + P.cellsOf t ≤ arr.length)
    (hrv : rvOfS (aggOf P t) ss = some rv) : ∃ u, (part t arr.toArray off).run P w = .ok u w ∧ RVRel E R g rv u := by
  unfold aggOf at hrv
  cases hu : P.underlying t with
  | none => rw [hu] at hrv; simp [rvOfS] at hrv
  | some d =>
    rw [hu] at hrv
    simp only [Option.map_some] at hrv
    have hagg : (isAgg t).run P w = .ok (isAggD d) w := by
      simp only [isAgg, Sem.run_bind, run_under hu, Result.andThen_ok]
      cases d <;> rfl
    simp only [part, Sem.run_bind, hagg, Result.andThen_ok]
    clear hagg
    generalize isAggD d = ag at *
    cases ag with
    | true =>
      simp only [rvOfS, Option.some.injEq] at hrv
      subst hrv
      obtain ⟨i, hi⟩ := info_of_underlying hu
      refine ⟨_, ?_, aggS_rel hc⟩
      simp [run_size hi]
    | false =>
      simp only [rvOfS] at hrv
      split at hrv
      · rename_i c
        injection hrv with hrv
        subst hrv
        generalize hm : (arr.drop off).take (P.cellsOf t) = m at hc
        cases hc with
        | one h hn =>
          cases hn
          rename_i u
          have : arr[off]? = some u := by
            have h0 : ((arr.drop off).take (P.cellsOf t))[0]? = some u := by rw [hm]; rfl
            rw [List.getElem?_take] at h0
            split at h0
            · rw [List.getElem?_drop] at h0; simpa using h0
            · cases h0
          exact ⟨u, by simp [this], h⟩
      · cases hrv
theorem eqRV_ok {P : Program} {E : TypeId} {R : Part} {g : Gh} : ∀ (d D : Nat) (t : TypeId) (x y : RV) (vx vy : Value) (r : Bool) (w : World), d ≤ D → eqRV P d t x y = some r → RVRel E R g x vx → RVRel E R g y vy → (Op.equalIn D t vx vy).run P w = .ok r w := by
  intro d
  induction d with
  | zero => intro D t x y vx vy r w _ h; cases h
  | succ d ih =>
    intro D t x y vx vy r w hD h hx hy
    obtain ⟨D, rfl⟩ : ∃ D', D = D' + 1 := ⟨D - 1, by omega⟩
    unfold eqRV at h
    split at h
    · rename_i hu
      split at h
      · injection h with h
        subst h
        have e1 : [vx] = [Value.bool _] := hx
        have e2 : [vy] = [Value.bool _] := hy
        injection e1 with e1
        injection e2 with e2
        subst e1 e2
        exact equalIn_bool D hu _ _ w
      · cases h
    · rename_i k0 hu
      split at h
      · split at h
        · rename_i hk
          subst hk
          injection h with h
          subst h
          have e1 := hx.1
          have e2 := hy.1
          injection e1 with e1
          injection e2 with e2
          subst e1 e2
          exact run_equalIn_int w D t _ k0 _ _ hu
        · cases h
      · cases h
    · rename_i hu
      split at h
      · injection h with h
        subst h
        obtain ⟨s1, e1, rfl, _⟩ := hx
        obtain ⟨s2, e2, rfl, _⟩ := hy
        injection e1 with e1
        injection e2 with e2
        subst e1 e2
        rw [run_equalIn_string w D t _ _ hu, bytesL_beq]
      · cases h
    · rename_i fs hu
      split at h
      · rename_i xs ys
        split at h
        · cases h
        rename_i hst
        obtain ⟨us, rfl, hxs⟩ := hx
        obtain ⟨zs, rfl, hys⟩ := hy
        have hf : P.fieldsOf t = fs := by simp [Program.fieldsOf, hu]
        rw [run_equalIn_struct w D t _ _ (by rw [hf]; exact hu) (by simpa using hst), hf]
        have key : ∀ (l : List Field) (r : Bool), eqFs P (eqRV P d) xs ys l = some r → (Op.eqFields D us.toArray zs.toArray l).run P w = .ok r w := by
          intro l
          induction l with
          | nil => intro r h; simp only [eqFs, Option.some.injEq] at h; subst h; rfl
          | cons f l ihl =>
            intro r h
            unfold eqFs at h
            split at h
            · cases h
            rename_i hn
            simp only [Option.bind_eq_some_iff, Option.map_eq_some_iff] at h
            obtain ⟨a, ha, b, hb, q, hq, p, hp, rfl⟩ := h
            obtain ⟨va, h1, h2⟩ := part_run (P := P) (w := w) ((hxs.drop f.offset).take (P.cellsOf f.type)) ha
            obtain ⟨vb, h3, h4⟩ := part_run (P := P) (w := w) ((hys.drop f.offset).take (P.cellsOf f.type)) hb
            have h5 := ih D f.type a b va vb q w (by omega) hq h2 h4
            have h6 := ihl p hp
            simp only [Op.eqFields, ne_eq, hn, not_false_eq_true, if_true, Sem.run_bind, h1, h3, h5, Result.andThen_ok]
            cases q with
            | true => simp [h6]
            | false => simp
        exact key _ _ h
      · cases h
    · cases h
theorem aggPair_spec {x y : Option SV} {xs ys : List CV} (h : aggPair x y = some (xs, ys)) : x = some (.r (.a xs)) ∧ y = some (.r (.a ys)) := by
  unfold aggPair at h
  split at h
  · injection h with h; injection h with h1 h2; subst h1 h2; exact ⟨rfl, rfl⟩
  · cases h
theorem isInt_spec {d : Option TypeDesc} (h : isIntD d = true) : ∃ k, d = some (.int k) := by
  unfold isIntD at h
  split at h
  · exact ⟨_, rfl⟩
  · cases h
theorem eqItems_run {P : Program} {E : TypeId} {R : Part} {w : World} {k : IntKind} {n : Nat} {e : TypeId} {xs ys : List Int} {cs ds : List Value} {d : Nat} (he : ∃ k0, P.underlying e = some (.int k0)) (hc : P.cellsOf e = 1)
    (hx : (K.arr n (.int k)).Rd E R xs cs) (hy : (K.arr n (.int k)).Rd E R ys ds) : ∀ is : List Nat, (∀ i ∈ is, i < n) →
    (Op.eqItems (d + 1) e (P.cellsOf e) cs.toArray ds.toArray is).run P w = .ok (is.all fun i => xs.getD i 0 == ys.getD i 0) w := by
  obtain ⟨k0, hu⟩ := he
  have one : ∀ {xs : List Int} {cs : List Value}, (K.arr n (.int k)).Rd E R xs cs → ∀ i, i < n → (part e cs.toArray (i * P.cellsOf e)).run P w = .ok (.int k (xs.getD i 0)) w := by
    intro xs cs hx i hi
    have hlt : i < xs.length := by rw [hx.1]; exact hi
    have h1 := hx.2.2.2 i _ (getD_some hlt (0 : Int))
    have h2 : ((cs.drop (i * (K.int k).sz)).take (K.int k).sz) = [.int k (xs.getD i 0)] := h1.1
    have h3 : cs[i]? = some (.int k (xs.getD i 0)) := by
      have := congrArg (fun l => l[0]?) h2
      simp only [K.sz, Nat.mul_one, List.getElem?_take, List.getElem?_drop] at this
      simpa using this
    simp [part, isAgg, run_under hu, hc, h3]
  intro is
  induction is with
  | nil => intro _; simp [Op.eqItems]
  | cons i is ih =>
    intro hi
    have h0 := hi i (by simp)
    simp only [Op.eqItems, Sem.run_bind, one hx i h0, one hy i h0, Result.andThen_ok, run_equalIn_int w d e k k0 _ _ hu]
    have := ih (fun j hj => hi j (by simp [hj]))
    cases hb : (xs.getD i 0 == ys.getD i 0) with
    | true => rw [List.all_cons, hb, Bool.true_and]; simpa using this
    | false => rw [List.all_cons, hb]; rfl
theorem all_eq {n : Nat} {xs ys : List Int} (hx : xs.length = n) (hy : ys.length = n) : ((List.range n).all fun i => xs.getD i 0 == ys.getD i 0) = (xs == ys) := by
  rw [Bool.eq_iff_iff, List.all_eq_true, beq_iff_eq]
  constructor
  · intro h
    apply List.ext_getElem (by omega)
    intro i h1 h2
    have := h i (by simp; omega)
    simpa [List.getD_eq_getElem?_getD, h1, h2] using this
  · rintro rfl i _; simp
theorem vecEq_spec {x y : Option SV} {n : Nat} {xs ys : List Int} (h : vecEq x y = some (n, xs, ys)) : ∃ (k : IntKind), x = some (.r (.sg [.blk (.arr n (.int k)) xs])) ∧ y = some (.r (.sg [.blk (.arr n (.int k)) ys])) := by
  unfold vecEq at h
  split at h
  · split at h
    · rename_i hc
      obtain ⟨rfl, rfl⟩ := hc
      simp only [Option.some.injEq, Prod.mk.injEq] at h
      obtain ⟨rfl, rfl, rfl⟩ := h
      exact ⟨_, rfl, rfl⟩
    · cases h
  · cases h
theorem ok_binOp (hd : ∀ t, o.dst = some t → t < C.N) {op : BinOp} {t t' : TypeId} {x y : Operand} (hop : o.op = .binOp op t x y t') (h : stepO C.P C.E env kn base o v f = some r) : Done C kn o v f r := by
  unfold stepO at h
  rw [hop] at h
  simp only at h
  split at h
  · rename_i n xs ys hvec
    obtain ⟨k, ex, ey⟩ := vecEq_spec hvec
    split at h
    · rename_i m e harr
      split at h
      rotate_left
      · cases h
      rename_i hc
      split at h
      · rename_i hll
        obtain ⟨l1, l2⟩ := hll
        obtain ⟨rfl, hc1, hc2, hg⟩ := hc
        rw [Option.bind_eq_some_iff] at h
        obtain ⟨q, hq, h⟩ := h
        have hu : C.P.underlying t = some (.array m e) := by
          unfold arrElem at harr
          split at harr
          · rename_i hu; injection harr with harr; injection harr with h1 h2; subst h1 h2; exact hu
          · cases harr
        refine ⟨_, h, .pure hd rfl fun s a w R g hv hk hr => ?_⟩
        have rx : RVRel C.E R g (.sg [.blk (.arr m (.int k)) xs]) (a.eval x) := ev_rel hv hr ex
        have ry : RVRel C.E R g (.sg [.blk (.arr m (.int k)) ys]) (a.eval y) := ev_rel hv hr ey
        obtain ⟨us, e1, hus⟩ := rx
        obtain ⟨zs, e2, hzs⟩ := ry
        cases hus with
        | blk hrx hn1 =>
          cases hn1
          cases hzs with
          | blk hry hn2 =>
            cases hn2
            rw [List.append_nil] at e1 e2
            refine ⟨.bool (eqOp q (xs == ys)), ?_, some_r (rel_bool _)⟩
            simp only [execOp, hop, e1, e2]
            refine run_v ?_
            obtain ⟨i, hi, _⟩ := info_of_cells (P := C.P) (t := e) (by omega)
            have he : ∀ us zs : List Value, (K.arr m (.int k)).Rd C.E R xs us → (K.arr m (.int k)).Rd C.E R ys zs → (Op.equalIn 10000 t (.agg us.toArray) (.agg zs.toArray)).run C.P w = .ok (xs == ys) w := fun us zs h1 h2 => by
              rw [run_equalIn_array w 9999 _ _ hu hi, eqItems_run (isInt_spec hc2) hc1 h1 h2 (List.range m) (fun j hj => List.mem_range.1 hj), all_eq l1 l2]
            rw [Sem.run_bind, run_eqGuard_agg w op t x y _ _ hg, Result.andThen_ok]
            cases op <;> simp only [isEq, reduceCtorEq, Option.some.injEq] at hq <;> subst hq
            · rw [run_eql_struct, he _ _ hrx hry]; simp [eqOp]
            · rw [run_neq_struct, he _ _ hrx hry]; simp [eqOp]
      · cases h
    · cases h
  split at h
  · rename_i xs ys hp
    obtain ⟨hx, hy⟩ := aggPair_spec hp
    split at h
    · cases h
    rename_i hg
    simp only [Option.bind_eq_some_iff] at h
    obtain ⟨n, hn, q, hq, h⟩ := h
    refine ⟨_, h, .pure hd rfl fun s a w R g hv hk hr => ?_⟩
    have rx : RVRel C.E R g (.a xs) (a.eval x) := ev_rel hv hr hx
    have ry : RVRel C.E R g (.a ys) (a.eval y) := ev_rel hv hr hy
    obtain ⟨us, e1, hus⟩ := rx
    obtain ⟨zs, e2, hzs⟩ := ry
    refine ⟨.bool (eqOp n q), ?_, some_r (rel_bool _)⟩
    simp only [execOp, hop, e1, e2]
    refine run_v ?_
    have he : (Op.equalIn 10000 t (.agg us.toArray) (.agg zs.toArray)).run C.P w = .ok q w := eqRV_ok 8 10000 t _ _ _ _ q w (by omega) hq ⟨us, rfl, hus⟩ ⟨zs, rfl, hzs⟩
    rw [Sem.run_bind, run_eqGuard_agg w op t x y _ _ (by simpa using hg), Result.andThen_ok]
    cases op <;> simp only [isEq, reduceCtorEq, Option.some.injEq] at hn <;> subst hn
    · rw [run_eql_struct, he]; simp [eqOp]
    · rw [run_neq_struct, he]; simp [eqOp]
  split at h
  · rename_i n hol
    split at h
    · rename_i hp
      split at h
      · cases h
      · rename_i hn0
        rw [Option.bind_eq_some_iff] at h
        obtain ⟨q, hq, h⟩ := h
        have hol' : ∃ hh ety κ xs, svCV (v.ev x) = some (.own hh) ∧ svCV (v.ev y) = some .nils ∧ v.en hh = .live (.row ety κ xs) ∧ n = List.length xs := by
          unfold ownLen at hol
          split at hol
          · rename_i hh h1 h2
            split at hol
            · rename_i ety κ xs hen
              injection hol with hol
              exact ⟨hh, ety, κ, xs, h1, h2, hen, hol.symm⟩
            · cases hol
          · cases hol
        obtain ⟨hh, ety, κ, xs, hcx, hcy, hen, hne⟩ := hol'
        refine ⟨_, h, .pure hd rfl fun s a w R g hv hk hr => ?_⟩
        have hx := evc_rel hv hr hcx
        have hy : a.eval y = .slice none 0 0 := evc_rel hv hr hcy
        obtain ⟨u, hu, hE⟩ := hr.inv.live hh _ (en_live hv hen)
        rw [hx.1] at hu
        injection hu with hu
        rcases hE with ⟨_, e1⟩ | ⟨b, c, arr, fr, e1, _⟩
        · rw [e1] at hne; exact absurd hne hn0
        · refine ⟨.bool (eqOp q false), ?_, some_r (rel_bool _)⟩
          have hrun : (binOp op t (a.eval x) (a.eval y)).run C.P w = .ok (.bool (eqOp q false)) w := by
            rw [hu, e1, hy]
            exact eq_run hq (by simp) (by simp) (by simp) (by simp) (fun w => equal_slice hp _ _ _ _ _ _ (.inr rfl) w) w
          have hgd : (eqGuard op t x y (a.eval x) (a.eval y)).run C.P w = .ok () w := by
            rw [hu, e1, hy]
            exact eqGuard_run w (by simp) (by simp)
          simp only [execOp, hop]
          refine run_v ?_
          rw [Sem.run_bind, hgd, Result.andThen_ok]
          exact hrun
    · cases h
  · simp only [Option.bind_eq_some_iff] at h
    obtain ⟨ca, ha, cb, hb, h⟩ := h
    obtain ⟨δ, h1, h2⟩ := cvBin_ok (x := x) (y := y) h
    refine ⟨δ, h1, fun s a w R g hv hk hr next Q hn => ?_⟩
    obtain ⟨sv, u, e, hs, hrun⟩ := h2 R g _ _ (evc_rel hv hr ha) (evc_rel hv hr hb)
    have hr' := hrun w
    refine wp_val (u := u) (w' := w) ?_ (hn _ _ (hr.app hd (Part.le_refl R) (Gh.le_refl g) (by rw [e]; exact hr.inv) (fun z hz => by rw [e] at hz; injection hz with hz; subst hz; exact hs)))
    simp only [execOp, hop]
    exact run_v hr'
theorem datsOf_get {κ : K} : ∀ {cs : List CV} {xs : List κ.T}, datsOf κ cs = some xs → xs.length = cs.length ∧ ∀ (i : Nat) (u : κ.T), xs[i]? = some u → cs[i]? = some (.dat κ u)
  | [], xs, h => by simp [datsOf] at h; subst h; exact ⟨rfl, by simp⟩
  | c :: cs, xs, h => by
    cases c <;> simp only [datsOf, reduceCtorEq] at h
    simp only [Option.bind_eq_some_iff, Option.map_eq_some_iff] at h
    obtain ⟨y, hy, ys, hys, rfl⟩ := h
    obtain ⟨rfl, rfl⟩ := K.conv_eq hy
    obtain ⟨h1, h2⟩ := datsOf_get hys
    refine ⟨by simp [h1], fun i u hu => ?_⟩
    cases i with
    | zero => simp at hu; subst hu; rfl
    | succ i => simpa using h2 i u (by simpa using hu)
theorem ok_field (hd : ∀ t, o.dst = some t → t < C.N) {t : TypeId} {x : Operand} {i : Nat} (hop : o.op = .field t x i) (h : stepO C.P C.E env kn base o v f = some r) : Done C kn o v f r := by
  unfold stepO at h
  rw [hop] at h
  simp only at h
  split at h
  · rename_i fs ss hu hc
    simp only [Option.bind_eq_some_iff] at h
    obtain ⟨fd, hf, p, hp, rv, hrv, h⟩ := h
    refine ⟨_, h, .pure hd rfl fun s a w R g hv hk hr => ?_⟩
    obtain ⟨us, e, hus⟩ := evr_rel hv hr hc
    obtain ⟨_, m2, _, m4⟩ := hus.mid hp
    obtain ⟨u, hrun, hrel⟩ := partS_run (P := C.P) (w := w) (arr := us) m2 m4 hrv
    refine ⟨u, ?_, some_r hrel⟩
    simp only [execOp, hop, e]
    exact run_v (by simp [Instr.field, run_under hu, hf, asAgg, hrun])
  · rename_i fs cs hu hc
    rw [Option.bind_eq_some_iff] at h
    obtain ⟨fd, hf, h⟩ := h
    rw [Option.bind_eq_some_iff] at h
    obtain ⟨rv, hrv, h⟩ := h
    refine ⟨_, h, .pure hd rfl fun s a w R g hv hk hr => ?_⟩
    obtain ⟨us, e, hus⟩ := evr_rel hv hr hc
    obtain ⟨u, hrun, hrel⟩ := part_run (P := C.P) (w := w) (arr := us) ((hus.drop fd.offset).take _) hrv
    refine ⟨u, ?_, some_r hrel⟩
    simp only [execOp, hop, e]
    exact run_v (by simp [Instr.field, run_under hu, hf, asAgg, hrun])
  · cases h
theorem idx_spec {α : Type} {xs : List α} {i : Int} {x : α} (h : idx xs i = some x) : 0 ≤ i ∧ i.toNat < xs.length ∧ xs[i.toNat]? = some x := by
  unfold idx at h
  split at h
  · rename_i h0
    exact ⟨h0, (List.getElem?_eq_some_iff.1 h).1, h⟩
  · cases h
theorem ok_index (hd : ∀ t, o.dst = some t → t < C.N) {t : TypeId} {x y : Operand} (hop : o.op = .index t x y) (h : stepO C.P C.E env kn base o v f = some r) : Done C kn o v f r := by
  unfold stepO at h
  rw [hop] at h
  simp only at h
  split at h
  · rename_i l k i hu hc hi
    rw [Option.bind_eq_some_iff] at h
    obtain ⟨c, hx, h⟩ := h
    obtain ⟨h0, h1, h2⟩ := idx_spec hx
    refine ⟨_, h, .pure hd rfl fun s a w R g hv hk hr => ?_⟩
    obtain ⟨b, e, rfl, hl⟩ := evc_rel hv hr hc
    injection e with e _
    have ei : a.eval y = .int k i := by have := (evc_rel hv hr hi).1; injection this
    have hb : ∃ u : UInt8, b[i.toNat]? = some u ∧ c = (u.toNat : Int) := by
      simp only [bytesL, List.getElem?_map, Option.map_eq_some_iff] at h2
      obtain ⟨u, hu, rfl⟩ := h2
      refine ⟨u, ?_, rfl⟩
      obtain ⟨hlt, he⟩ := List.getElem?_eq_some_iff.1 hu
      have hlt' : i.toNat < b.size := by simpa using hlt
      rw [getElem?_pos b i.toNat hlt']
      exact congrArg some he
    obtain ⟨u, hu', rfl⟩ := hb
    refine ⟨.int .u8 (u.toNat : Int), ?_, some_r (rel_int ?_ ?_)⟩
    · simp only [execOp, hop, e, ei]
      exact run_v (by simp [Instr.index, asIntOf, run_under hu, h0, hu'])
    · rw [k_min_eq]; show (0 : Int) ≤ _; omega
    · rw [k_max_eq]; show _ ≤ (255 : Int); have := u.toNat_lt; omega
  · rename_i n e k i hu hnone hi
    split at h
    · rename_i m κ xs hx
      split at h
      · rename_i hc
        obtain ⟨hc1, hc2, rfl, hc3⟩ := hc
        simp only [Option.bind_eq_some_iff] at h
        obtain ⟨u, hix, rv, hrv, h⟩ := h
        obtain ⟨h0, h1, h2⟩ := idx_spec hix
        refine ⟨_, h, .pure hd rfl fun s a w R g hv hk hr => ?_⟩
        obtain ⟨us, e1, hus⟩ : RVRel C.E R g (.sg [.blk (.arr n κ) xs]) (a.eval x) := evr_rel hv hr hx
        have ei : a.eval y = .int k i := by have := (evc_rel hv hr hi).1; injection this
        obtain ⟨hlen0, hcl, _, hel⟩ : (K.arr n κ).Rd C.E R xs us := by
          cases hus with
          | blk hrd hn => cases hn; rw [List.append_nil]; exact hrd
        have hrd := hel i.toNat u h2
        rw [hc2, Nat.mul_one, ← hc1] at hrd
        obtain ⟨z, hz, hrel⟩ := part_run (P := C.P) (w := w) (t := e) (off := i.toNat) (rv := rv) (explode_rel (g := g) κ u _ hrd) (by rw [hc3, hc1]; exact hrv)
        refine ⟨z, ?_, some_r hrel⟩
        have hlen : (i : Int) < (n : Int) := by
          have h1' : Int.toNat i < n := by rw [← hlen0]; exact h1
          exact (Int.toNat_lt h0).1 h1'
        obtain ⟨ti, hti, _⟩ := info_of_cells (t := e) (P := C.P) (by omega)
        simp only [execOp, hop, e1, ei]
        exact run_v (by simp [Instr.index, asIntOf, run_under hu, h0, hlen, run_size hti, hc1, hz])
      · cases h
    · rename_i κ v0 cs hx
      split at h
      · rename_i hc
        obtain ⟨hc1, hc2, hc3⟩ := hc
        simp only [Option.bind_eq_some_iff] at h
        obtain ⟨xs, hxs, u, hix, h⟩ := h
        obtain ⟨h0, h1, h2⟩ := idx_spec hix
        obtain ⟨hl, hget⟩ := datsOf_get hxs
        refine ⟨_, h, .pure hd rfl fun s a w R g hv hk hr => ?_⟩
        obtain ⟨us, e1, hus⟩ : RVRel C.E R g (.a (.dat κ v0 :: cs)) (a.eval x) := evr_rel hv hr hx
        have ei : a.eval y = .int k i := by have := (evc_rel hv hr hi).1; injection this
        have hcell := hget i.toNat u h2
        have hpart : All2 (CVRel C.E R g) [.dat κ u] ((us.drop i.toNat).take (C.P.cellsOf e)) := by
          have hh := (hus.drop i.toNat).take 1
          have e5 : ((CV.dat κ v0 :: cs).drop i.toNat).take 1 = [.dat κ u] := by
            have hlt := (List.getElem?_eq_some_iff.1 hcell).1
            rw [List.drop_eq_getElem_cons hlt]
            have := (List.getElem?_eq_some_iff.1 hcell).2
            simp [this]
          rw [e5] at hh
          rw [hc1]
          exact hh
        obtain ⟨z, hz, hrel⟩ := part_run (P := C.P) (w := w) (t := e) (off := i.toNat) (rv := .c (.dat κ u)) hpart (by rw [hc3]; rfl)
        refine ⟨z, ?_, some_r hrel⟩
        have hlen : (i : Int) < (n : Int) := by
          have h1' : Int.toNat i < xs.length := h1
          rw [hl, List.length_cons, hc2] at h1'
          exact (Int.toNat_lt h0).1 h1'
        obtain ⟨ti, hti, _⟩ := info_of_cells (t := e) (P := C.P) (by omega)
        simp only [execOp, hop, e1, ei]
        exact run_v (by simp [Instr.index, asIntOf, run_under hu, h0, hlen, run_size hti, hc1, hz])
      · cases h
    · cases h
  · cases h
theorem slice_elem {P : Program} {t e : TypeId} (h : sliceElem P t = some e) : P.underlying t = some (.slice e) := by
  unfold sliceElem at h
  split at h
  · injection h with h; subst h; assumption
  · cases h
theorem arr_elem {P : Program} {t e : TypeId} {n : Nat} (h : arrElem P t = some (n, e)) : P.underlying t = some (.array n e) := by
  unfold arrElem at h
  split at h
  · injection h with h; injection h with h1 h2; subst h1; subst h2; assumption
  · cases h
theorem int_of {v : VSt} {x : Operand} {i : Int} (h : intOf? (svCV (v.ev x)) = some i) : ∃ k, svCV (v.ev x) = some (.dat (.int k) i) := by
  unfold intOf? at h
  split at h
  · injection h with h; subst h; exact ⟨_, by assumption⟩
  · cases h
theorem indexAt_run {P : Program} {t e : TypeId} (hu : P.underlying t = some (.slice e)) {i : TypeInfo} (hi : P.info? e = some i) (k : IntKind) (j : Int) (b off n c : Nat) (h0 : 0 ≤ j) (h1 : j < n) (w : World) :
    (Instr.indexAt t (.slice (some ⟨b, off, none⟩) n c) (.int k j)).run P w = .ok (.pointer (some ⟨b, off + j.toNat * P.cellsOf e, none⟩)) w := by
  simp [Instr.indexAt, asIntOf, run_under hu, h0, h1, run_size hi, addr_add]
theorem list_at {E : TypeId} {R : Part} {κ : K} {xs : List κ.T} {u : Value} (h : (K.list κ).Rd E R xs [u]) {j : Nat} {x : κ.T} (hj : xs[j]? = some x) :
    ∃ b off c, u = .slice (some ⟨b, off, none⟩) xs.length c ∧ ∃ arr ty fr, R b = some (.cells arr ty fr) ∧ κ.Rd E R x ((arr.toList.drop (off + j * κ.sz)).take κ.sz) := by
  obtain ⟨A, c, e, hl, hx⟩ := h
  injection e with e _
  obtain ⟨b, off, arr, ty, fr, rfl, h1, h2⟩ := hx (by intro e; subst e; simp at hj)
  exact ⟨b, off, c, e, arr, ty, fr, h1, h2 j x hj⟩
theorem nat_lt_of {i : Int} {n : Nat} (h0 : 0 ≤ i) (h : i < n) : i.toNat < n := by omega
theorem ok_indexAddr (hd : ∀ t, o.dst = some t → t < C.N) {t : TypeId} {x y : Operand} (hop : o.op = .indexAddr t x y) (h : stepO C.P C.E env kn base o v f = some r) : Done C kn o v f r := by
  unfold stepO at h
  rw [hop] at h
  simp only at h
  split at h
  · rename_i n e harr
    have hu := arr_elem harr
    split at h
    · cases h
    rename_i hne
    obtain ⟨ti, hinfo, _⟩ := info_of_cells hne
    rw [Option.bind_eq_some_iff] at h
    obtain ⟨i, hi, h⟩ := h
    obtain ⟨k, hi⟩ := int_of hi
    split at h
    · rename_i hh sz hc
      split at h
      · rename_i ety κ xs hen
        split at h
        · rename_i hsz0
          split at h
          rotate_left
          · cases h
          rename_i hsz1
          have hsz := (⟨hsz0.1, hsz0.2, hsz1⟩ : C.P.cellsOf e = κ.sz ∧ sz = κ.sz ∧ n = xs.length)
          split at h
          · rename_i hb
            refine ⟨_, h, .pure hd rfl fun s a w R g hv hk hr => ?_⟩
            have evi : a.eval y = .int k i := by
              have := (evc_rel hv hr hi).1; injection this
            obtain ⟨b, m, c, hg, hlt, ex⟩ := evc_rel hv hr hc
            obtain ⟨rfl, _⟩ := live_row hr (en_live hv hen) hg
            refine ⟨_, ?_, some_r (show CVRel C.E R g (.elt hh κ.sz i.toNat 0) (.pointer (some ⟨b, 0 + i.toNat * C.P.cellsOf e, none⟩)) from ⟨b, xs.length, c, hg, by omega, by rw [hsz.1, Nat.zero_add, Nat.add_zero]⟩)⟩
            have hin : (0 ≤ i ∧ i < (n : Int)) := by rw [hsz.2.2]; exact hb
            rw [Nat.zero_mul] at ex
            simp only [execOp, hop, ex, evi]
            exact run_v (by simp [Instr.indexAt, asIntOf, run_under hu, hin.1, hin.2, run_size hinfo, addr_add, Instr.sureAddr])
          · cases h
        · cases h
      · cases h
    · rename_i hh off hc
      rw [Option.bind_eq_some_iff] at h
      obtain ⟨⟨ty, a0, ⟨m, κ, xs⟩, r0⟩, hat, h⟩ := h
      simp only at h
      split at h
      · rename_i hsz
        split at h
        · rename_i hin
          refine ⟨_, h, .pure hd rfl fun s a w R g hv hk hr => ?_⟩
          have evi : a.eval y = .int k i := by
            have := (evc_rel hv hr hi).1; injection this
          obtain ⟨b, hg, ex⟩ := evc_rel hv hr hc
          refine ⟨_, ?_, some_r (show CVRel C.E R g (.pel hh off κ.sz i.toNat) (.pointer (some ⟨b, off + i.toNat * C.P.cellsOf e, none⟩)) from ⟨b, hg, by rw [hsz.1]⟩)⟩
          simp only [execOp, hop, ex, evi]
          exact run_v (by simp [Instr.indexAt, asIntOf, run_under hu, hin.1, hin.2, run_size hinfo, addr_add, Instr.sureAddr])
        · cases h
      · cases h
    · rename_i m κ xs hc
      split at h
      · rename_i hsz
        obtain ⟨hs, rfl⟩ := hsz
        rw [Option.bind_eq_some_iff] at h
        obtain ⟨u, hu', h⟩ := h
        obtain ⟨h0, h1, h2⟩ := idx_spec hu'
        refine ⟨_, h, .pure hd rfl fun s a w R g hv hk hr => ?_⟩
        have evi : a.eval y = .int k i := by
          have := (evc_rel hv hr hi).1; injection this
        obtain ⟨b, off, arr, ty, fr, hR, ex, hrd⟩ := evc_rel hv hr hc
        have hlen : (i : Int) < (n : Int) := by
          have h1' : Int.toNat i < n := by rw [← hrd.1]; exact h1
          exact (Int.toNat_lt h0).1 h1'
        refine ⟨_, ?_, some_r (show CVRel C.E R g (.roA κ u) (.pointer (some ⟨b, off + i.toNat * C.P.cellsOf e, none⟩)) from ⟨b, off + i.toNat * κ.sz, arr, ty, fr, hR, by rw [hs], arr_elt hrd h2⟩)⟩
        simp only [execOp, hop, ex, evi]
        exact run_v (by simp [Instr.indexAt, asIntOf, run_under hu, h0, hlen, run_size hinfo, addr_add, Instr.sureAddr])
      · cases h
    · cases h
  rename_i harr
  simp only [Option.bind_eq_some_iff] at h
  obtain ⟨e, he, h⟩ := h
  have hu := slice_elem he
  split at h
  · cases h
  rename_i hne
  obtain ⟨ti, hinfo, _⟩ := info_of_cells hne
  rw [Option.bind_eq_some_iff] at h
  obtain ⟨i, hi, h⟩ := h
  obtain ⟨k, hi⟩ := int_of hi
  have evi : ∀ (s : VSt) (a : Act) (w : World) (R : Part) (g : Gh), View v s → Rel C s a w R g → a.eval y = .int k i := fun s a w R g hv hr => by
    have := (evc_rel hv hr hi).1; injection this
  have roCase : ∀ (κ : K) (l : List κ.T), C.P.cellsOf e = κ.sz → (∀ (s : VSt) (a : Act) (w : World) (R : Part) (g : Gh), View v s → Rel C s a w R g → (K.list κ).Rd C.E R l [a.eval x]) →
      ((idx l i).bind fun z => f (one (.roA κ z))) = some r → Done C kn o v f r := by
    intro κ l hsz hl h
    rw [Option.bind_eq_some_iff] at h
    obtain ⟨z, hz, h⟩ := h
    obtain ⟨h0, h1, h2⟩ := idx_spec hz
    refine ⟨_, h, .pure hd rfl fun s a w R g hv hk hr => ?_⟩
    obtain ⟨b, off, c, ex, arr, ty, fr, hR, hrd⟩ := list_at (hl s a w R g hv hr) h2
    refine ⟨_, ?_, some_r (show CVRel C.E R g (.roA κ z) (.pointer (some ⟨b, off + i.toNat * C.P.cellsOf e, none⟩)) from ⟨b, _, arr, ty, fr, hR, rfl, by rw [hsz]; exact hrd⟩)⟩
    simp only [execOp, hop, ex, evi s a w R g hv hr]
    exact run_v (indexAt_run hu hinfo k i b off _ c h0 (by omega) w)
  split at h
  · rename_i κ l hc
    split at h
    · rename_i hsz
      exact roCase κ l hsz (fun s a w R g hv hr => evc_rel hv hr hc) h
    · cases h
  · rename_i hh hc
    split at h
    · rename_i ety κ xs hen
      split at h
      · rename_i hsz
        split at h
        · rename_i hb
          refine ⟨_, h, .pure hd rfl fun s a w R g hv hk hr => ?_⟩
          obtain ⟨hg, _⟩ := evc_rel hv hr hc
          obtain ⟨u, hu', hE⟩ := hr.inv.live hh _ (en_live hv hen)
          rw [hg] at hu'
          injection hu' with hu'
          rcases hE with ⟨_, e0⟩ | ⟨b, c, arr, fr, e1, _⟩
          · subst e0; simp at hb; omega
          · subst e1
            have hlt := nat_lt_of hb.1 hb.2
            refine ⟨_, ?_, some_r (show CVRel C.E R g (.elt hh κ.sz i.toNat 0) (.pointer (some ⟨b, 0 + i.toNat * C.P.cellsOf e, none⟩)) from ⟨b, xs.length, c, by rw [hg, hu'], hlt, by rw [hsz, Nat.zero_add, Nat.add_zero]⟩)⟩
            simp only [execOp, hop, hu', evi s a w R g hv hr]
            exact run_v (indexAt_run hu hinfo k i b 0 _ c hb.1 hb.2 w)
        · cases h
      · cases h
    · rename_i κ xs hen
      split at h
      · rename_i hsz
        refine roCase κ xs hsz (fun s a w R g hv hr => ?_) h
        obtain ⟨hg, _⟩ := evc_rel hv hr hc
        obtain ⟨u, hu', hE⟩ := hr.inv.ro hh _ _ (en_ro hv hen)
        rw [hg] at hu'
        injection hu' with hu'
        rw [hu']
        exact hE
      · cases h
    · cases h
  · rename_i hh sz lo n hc
    split at h
    · rename_i ety κ xs hen
      split at h
      · rename_i hsz
        split at h
        · rename_i hb
          refine ⟨_, h, .pure hd rfl fun s a w R g hv hk hr => ?_⟩
          obtain ⟨A, c, ex, hlim, hx⟩ := evc_rel hv hr hc
          obtain ⟨b, m, cp, hg, rfl, hm⟩ := hx (by omega)
          obtain ⟨rfl, _⟩ := live_row hr (en_live hv hen) hg
          refine ⟨_, ?_, some_r (show CVRel C.E R g (.elt hh κ.sz (lo + i.toNat) 0) (.pointer (some ⟨b, lo * sz + i.toNat * C.P.cellsOf e, none⟩)) from ⟨b, xs.length, cp, hg, by omega, by rw [hsz.1, hsz.2, Nat.add_mul, Nat.add_zero]⟩)⟩
          simp only [execOp, hop, ex, evi s a w R g hv hr]
          exact run_v (indexAt_run hu hinfo k i b _ _ c hb.1 hb.2 w)
        · cases h
      · cases h
    · cases h
  · cases h
def BndS (s : VSt) : Option Operand → Nat → Nat → Prop
  | none, d, l => l = d
  | some x, _, l => ∃ k i, svCV (s.ev x) = some (.dat (.int k) i) ∧ 0 ≤ i ∧ i.toNat = l
def BndA (a : Act) : Option Operand → Nat → Nat → Prop
  | none, d, l => l = d
  | some x, _, l => ∃ k i, a.eval x = .int k i ∧ 0 ≤ i ∧ i.toNat = l
theorem cut_spec {s : VSt} {len : Nat} {lo hi : Option Operand} {F : Nat → Nat → Option A} (h : cutK s len lo hi F = some r) :
    ∃ l n : Nat, l ≤ n ∧ n ≤ len ∧ F l n = some r ∧ BndS s lo 0 l ∧ BndS s hi len n := by
  unfold cutK at h
  rw [Option.bind_eq_some_iff] at h
  obtain ⟨l, hl, h⟩ := h
  rw [Option.bind_eq_some_iff] at h
  obtain ⟨n, hn, h⟩ := h
  split at h
  · rename_i hb
    refine ⟨l.toNat, n.toNat, by omega, by omega, h, ?_, ?_⟩
    · cases lo with
      | none => injection hl with hl; subst hl; rfl
      | some x => obtain ⟨k, hk⟩ := int_of hl; exact ⟨k, l, hk, hb.1, rfl⟩
    · cases hi with
      | none => injection hn with hn; show n.toNat = len; omega
      | some x => obtain ⟨k, hk⟩ := int_of hn; exact ⟨k, n, hk, Int.le_trans hb.1 hb.2.1, rfl⟩
  · cases h
theorem bounds_run {P : Program} {a : Act} {isSlice : Bool} {len cap : Nat} {lo hi : Option Operand} {l n : Nat} (h1 : l ≤ n) (h2 : n ≤ len) (hcap : len ≤ cap)
    (hl : BndA a lo 0 l) (hn : BndA a hi len n) (w : World) :
    (Instr.sliceBounds isSlice len cap (lo.map a.eval) (hi.map a.eval) none).run P w = .ok (l, n, cap) w := by
  unfold Instr.sliceBounds
  cases hi with
  | none =>
    simp only [BndA] at hn
    subst hn
    cases lo with
    | none => simp only [BndA] at hl; subst hl; simp
    | some x =>
      obtain ⟨k, i, e, h0, rfl⟩ := hl
      simp [e, Instr.sliceBound, asIntOf, h0, show i ≤ (n : Int) from by omega]
  | some y =>
    obtain ⟨k', i', e', h0', rfl⟩ := hn
    cases lo with
    | none => simp only [BndA] at hl; subst hl; simp [e', Instr.sliceBound, asIntOf, h0', show i' ≤ (cap : Int) from by omega]
    | some x =>
      obtain ⟨k, i, e, h0, rfl⟩ := hl
      simp [e, e', Instr.sliceBound, asIntOf, h0, h0', show i' ≤ (cap : Int) from by omega, show i ≤ max i' 0 from by omega]
theorem bounds_ev {s : VSt} {a : Act} {w : World} {R : Part} {g : Gh} (hv : View v s) (hr : Rel C s a w R g) {x : Option Operand} {d l : Nat}
    (h : BndS v x d l) : BndA a x d l := by
  cases x with
  | none => exact h
  | some x =>
    obtain ⟨k, i, hc, h0, h1⟩ := h
    have := (evc_rel hv hr hc).1
    injection this with this
    exact ⟨k, i, this, h0, h1⟩
theorem slice_run {P : Program} {a : Act} {t e : TypeId} (hu : P.underlying t = some (.slice e)) {ti : TypeInfo} (hi : P.info? e = some ti) {A : Option Addr} {len cap : Nat} {lo hi' : Option Operand} {l n : Nat} (h1 : l ≤ n) (h2 : n ≤ len) (hcap : len ≤ cap)
    (hl : BndA a lo 0 l) (hn : BndA a hi' len n) (w : World) :
    (Instr.sliceAt t (.slice A len cap) (lo.map a.eval) (hi'.map a.eval) none).run P w = .ok (.slice (if cap = l then A else A.map (·.add (l * P.cellsOf e))) (n - l) (cap - l)) w := by
  simp [Instr.sliceAt, run_under hu, Instr.slice, bounds_run h1 h2 hcap hl hn w, run_size hi]
theorem Rd_slice {E : TypeId} {R : Part} {κ : K} {xs : List κ.T} {A : Option Addr} {m cap l n : Nat} (h : (K.list κ).Rd E R xs [.slice A m cap]) (h1 : l ≤ n) (h2 : n ≤ xs.length) :
    m = xs.length ∧ m ≤ cap ∧ (K.list κ).Rd E R ((xs.drop l).take (n - l)) [.slice (if cap = l then A else A.map (·.add (l * κ.sz))) (n - l) (cap - l)] := by
  obtain ⟨A', c', e, hlim, hx⟩ := id h
  injection e with e _
  injection e with e1 e2 e3
  subst e1
  subst e2
  subst e3
  have hlen : ((xs.drop l).take (n - l)).length = n - l := by rw [List.length_take, List.length_drop]; omega
  refine ⟨rfl, hlim.2, ?_⟩
  by_cases h0 : n - l = 0
  · refine ⟨_, _, by rw [hlen], ⟨by omega, by omega⟩, fun hne => absurd ?_ hne⟩
    exact List.eq_nil_of_length_eq_zero (by omega)
  · obtain ⟨b, off, _, _, _, rfl, _⟩ := hx (by intro e; subst e; simp at h2; omega)
    have := Rd_cut (c := cap - l) (lo := l) (n := n - l) h h0 (by omega) (by omega)
    rw [if_neg (by omega)]
    simpa [addr_add] using this
theorem newRow_spec {base : Nat} {ety : TypeId} {κ : K} {xs : List κ.T} {log : List (Nat × EnS)} {en : Nat → EnS} {δ : Delta} (h : newRow base ety κ xs log en = some δ) :
    en base = .free ∧ δ = ⟨some (.r (.c (.own base))), log ++ [(base, .live (.row ety κ xs))]⟩ := by
  unfold newRow at h
  split at h
  · injection h with h; exact ⟨by assumption, h.symm⟩
  · cases h
/-- the elder slice of a cut is gone. -/
theorem shrink_end {s : VSt} {a : Act} {w : World} {R : Part} {g : Gh} (hd : ∀ t, o.dst = some t → t < C.N) (hr : Rel C s a w R g) {hh : Nat} {e : Ent} (hlive : s.en hh = .live e) {v0 u : Value} (hg : g hh = some v0) (hfree : s.en base = .free) {e' : Ent}
    (hb : ∀ b, blk u = some b → blk v0 = some b) (he : EntRel C.E R g w e' u) (hnp : e'.isPool = false := by rfl) : RelE C (s.app o.dst ⟨some (.r (.c (.own base))), [(hh, .dead)] ++ [(base, .live e')]⟩) (a.put o.dst u) w := by
  have hne : base ≠ hh := fun e => by
    subst e
    rw [hlive] at hfree
    cases hfree
  have hdead : Inv C R g (upd s.en hh .dead) w := hr.inv.less (fun j => by
    by_cases hj : j = hh
    · subst hj; exact .inr (upd_same _ _ _)
    · exact .inl (upd_ne _ _ hj))
  have hf := hr.inv.free base hfree
  have hput := hdead.put base e' u (w' := w) (.inl hf) (Nat.le_refl _) rfl rfl rfl (fun _ _ _ => rfl)
    (fun b hbu => by
      obtain ⟨m1, m2⟩ := hr.inv.mine hh _ _ b hlive hg (.inl (hb b hbu))
      refine ⟨m1, m2, fun j e'' y hj hl hgj hbl => ?_⟩
      by_cases hjh : j = hh
      · subst hjh; rw [upd_same] at hl; cases hl
      · rw [upd_ne _ _ hjh] at hl
        exact hr.inv.sep j hh e'' _ y v0 b hjh hl hlive hgj hg hbl (.inl (hb b hbu)))
    (he.mono (Part.le_refl R) (updg_le (.inl hf)) (fun _ _ => rfl)) hnp
  exact hr.app hd (Part.le_refl R) (updg_le (.inl hf)) hput (some_r ⟨updg_same _ _ _, he.one⟩)
theorem ok_slice (hd : ∀ t, o.dst = some t → t < C.N) {t : TypeId} {x : Operand} {lo hi : Option Operand} (hop : o.op = .slice t x lo hi none) (h : stepO C.P C.E env kn base o v f = some r) : Done C kn o v f r := by
  unfold stepO at h
  rw [hop] at h
  simp only at h
  split at h
  · rename_i n e hu
    split at h
    · cases h
    rename_i hne
    obtain ⟨ti, hinfo, _⟩ := info_of_cells hne
    split at h
    · rename_i hh sz hc
      split at h
      · rename_i ety κ xs hen
        split at h
        · rename_i hsz0
          split at h
          rotate_left
          · cases h
          rename_i hsz1
          have hsz := (⟨hsz0.1, hsz0.2, hsz1⟩ : C.P.cellsOf e = κ.sz ∧ sz = κ.sz ∧ n = xs.length)
          split at h
          · split at h
            · rename_i hnn
              rw [Bool.and_eq_true] at hnn
              have e1 : lo = none := by cases lo <;> simp at hnn ⊢
              have e2 : hi = none := by cases hi <;> simp at hnn ⊢
              subst e1
              subst e2
              refine ⟨_, h, fun s a w R g hv hkn hr next Q hnx => ?_⟩
              obtain ⟨b, m, c, hg, hlt, ex⟩ := evc_rel hv hr hc
              have hlv := en_live hv hen
              obtain ⟨rfl, hlr⟩ := live_row hr hlv hg
              obtain ⟨_, _, _, _, _, _, hlim, _⟩ := hlr
              obtain ⟨R', hle, _, hi'⟩ := hr.inv.leak hlv
              obtain ⟨u0, hu0, hrd⟩ := hi'.ro hh κ xs (upd_same _ _ _)
              rw [hg] at hu0
              injection hu0 with hu0
              subst hu0
              have hb := bounds_run (P := C.P) (a := a) (isSlice := false) (lo := none) (hi := none) (Nat.zero_le n) (Nat.le_refl n) (Nat.le_refl _) rfl rfl w
              have hrd' : (K.list κ).Rd C.E R' xs [.slice (some ⟨b, 0, none⟩) n n] := by
                obtain ⟨A, c', e5, hl5, hx5⟩ := hrd
                injection e5 with e5 _
                injection e5 with e5 e6 e7
                subst e5
                exact ⟨some ⟨b, 0, none⟩, n, by rw [hsz.2.2], ⟨hlim, by omega⟩, hx5⟩
              have hu1 : (execOp a.eval o).run C.P w = .ok (.value (.slice (some ⟨b, 0, none⟩) n n)) w := by
                have ex' : a.eval x = .pointer (some ⟨b, 0, none⟩) := by rw [ex]; simp
                simp only [execOp, hop, ex']
                refine run_v ?_
                have hs2 := run_size hinfo w
                simp only [Option.map_none] at hb
                simp [Instr.sliceAt, run_under hu, Instr.sureAddr, hb, hs2, Addr.add]
              refine wp_val hu1 (hnx _ _ (hr.app (δ := ⟨some (.r (.c (.ful κ xs))), [(hh, .ro κ xs)]⟩) hd hle (Gh.le_refl g) hi' (some_r ⟨⟨_, _, rfl⟩, hrd'⟩)))
            · cases h
          obtain ⟨p, q, h1, h2, hF, hlo, hhi⟩ := cut_spec h
          refine ⟨_, hF, .pure hd rfl fun s a w R g hv hk hr => ?_⟩
          obtain ⟨b, m, c, hg, hlt, ex⟩ := evc_rel hv hr hc
          obtain ⟨rfl, hlr⟩ := live_row hr (en_live hv hen) hg
          obtain ⟨_, _, _, _, _, _, hlim, _⟩ := hlr
          have hb := bounds_run (P := C.P) (isSlice := false) h1 h2 (Nat.le_refl _) (bounds_ev hv hr hlo) (bounds_ev hv hr hhi) w
          refine ⟨_, ?_, some_r (show CVRel C.E R g (.sub hh κ.sz p (q - p)) (.slice (some (if n = p then (⟨b, 0, none⟩ : Addr) else (⟨b, 0, none⟩ : Addr).add (p * C.P.cellsOf e))) (q - p) (n - p)) from ⟨_, _, rfl, ⟨by omega, by omega⟩, fun hn => ⟨b, _, c, hg, ?_, by have := hsz.2.2; omega⟩⟩)⟩
          · simp only [execOp, hop, ex]
            exact run_v (by simp [Instr.sliceAt, run_under hu, Instr.sureAddr, hb, run_size hinfo])
          · rw [if_neg (by omega)]
            simp [addr_add, hsz.1]
        · cases h
      · cases h
    · rename_i hh off hc
      rw [Option.bind_eq_some_iff] at h
      obtain ⟨⟨ty, a0, ⟨m, κ, xs⟩, r0⟩, hat, h⟩ := h
      simp only at h
      split at h
      · rename_i hsz
        obtain ⟨hs, rfl, hnl⟩ := hsz
        obtain ⟨ss, hen, hcut⟩ := arrAt_spec hat
        obtain ⟨p, q, h1, h2, hF, hlo, hhi⟩ := cut_spec h
        refine ⟨_, hF, .pure hd rfl fun s a w R g hv hk hr => ?_⟩
        obtain ⟨b, hg, ex⟩ := evc_rel hv hr hc
        obtain ⟨arr, fr, hw, _, hss⟩ := live_segs hr (en_live hv hen) hg
        obtain ⟨_, hrd, _, _⟩ := segs_at hss hcut
        have hb := bounds_run (P := C.P) (isSlice := false) h1 h2 (Nat.le_refl _) (bounds_ev hv hr hlo) (bounds_ev hv hr hhi) w
        refine ⟨_, ?_, some_r (show CVRel C.E R g (.psub hh off κ.sz p (q - p)) (.slice (some (if n = p then (⟨b, off, none⟩ : Addr) else (⟨b, off, none⟩ : Addr).add (p * C.P.cellsOf e))) (q - p) (n - p)) from ⟨b, _, hg, ⟨?_, by omega⟩, _, rfl, fun hn => ?_⟩)⟩
        · simp only [execOp, hop, ex]
          exact run_v (by simp [Instr.sliceAt, run_under hu, Instr.sureAddr, hb, run_size hinfo])
        · omega
        · rw [if_neg (by omega)]
          simp [addr_add, hs]
      · cases h
    · cases h
  · rename_i hu
    split at h
    · rename_i l hc
      obtain ⟨p, q, h1, h2, hF, hlo, hhi⟩ := cut_spec h
      refine ⟨_, hF, .pure hd rfl fun s a w R g hv hk hr => ?_⟩
      obtain ⟨b, e, rfl, hlim⟩ := evc_rel hv hr hc
      injection e with e _
      rw [bytesL_len] at h2 hhi
      have hb := bounds_run (P := C.P) (isSlice := false) h1 h2 (Nat.le_refl _) (bounds_ev hv hr hlo) (bounds_ev hv hr hhi) w
      refine ⟨.string (b.extract p q), ?_, some_r ⟨_, rfl, ?_, ?_⟩⟩
      · simp only [execOp, hop, e]
        exact run_v (by simp [Instr.sliceAt, run_under hu, Instr.slice, hb])
      · unfold bytesL
        rw [← List.map_drop, ← List.map_take]
        congr 1
        simp
      · rw [ByteArray.size_extract]; omega
    · cases h
  · rename_i e hu
    split at h
    · cases h
    rename_i hne
    obtain ⟨ti, hinfo, _⟩ := info_of_cells hne
    have dat : ∀ (κ : K) (l : List κ.T), C.P.cellsOf e = κ.sz → (∀ (s : VSt) (a : Act) (w : World) (R : Part) (g : Gh), View v s → Rel C s a w R g → (K.list κ).Rd C.E R l [a.eval x]) →
        (cutK v l.length lo hi fun a b => f (one (.dat (.list κ) ((l.drop a).take (b - a))))) = some r → Done C kn o v f r := by
      intro κ l hsz hl h
      obtain ⟨p, q, h1, h2, hF, hlo, hhi⟩ := cut_spec h
      refine ⟨_, hF, .pure hd rfl fun s a w R g hv hk hr => ?_⟩
      have hrd := hl s a w R g hv hr
      obtain ⟨A, c, ex, _⟩ := id hrd
      injection ex with ex _
      rw [ex] at hrd
      obtain ⟨_, hcap, hres⟩ := Rd_slice hrd h1 h2
      refine ⟨_, ?_, some_r (show (K.list κ).Rd C.E R _ [_] from hres)⟩
      simp only [execOp, hop, ex]
      exact run_v (by rw [← hsz]; exact slice_run hu hinfo h1 h2 hcap (bounds_ev hv hr hlo) (bounds_ev hv hr hhi) w)
    split at h
    · rename_i κ l hc
      split at h
      · rename_i hsz
        exact dat κ l hsz (fun s a w R g hv hr => evc_rel hv hr hc) h
      · cases h
    · rename_i hc
      obtain ⟨p, q, h1, h2, hF, hlo, hhi⟩ := cut_spec h
      refine ⟨_, hF, .pure hd rfl fun s a w R g hv hk hr => ?_⟩
      have ex : a.eval x = .slice none 0 0 := evc_rel hv hr hc
      refine ⟨.slice none 0 0, ?_, some_r (show CVRel C.E R g .nils _ from rfl)⟩
      simp only [execOp, hop, ex]
      have := slice_run hu hinfo (A := none) h1 h2 (Nat.le_refl 0) (bounds_ev hv hr hlo) (bounds_ev hv hr hhi) w
      have e0 : q = 0 := by omega
      subst e0
      simpa using run_v this
    · rename_i hh hc
      split at h
      · rename_i ety κ xs hen
        split at h
        · rename_i hsz
          have val : ∀ (s : VSt) (a : Act) (w : World) (R : Part) (g : Gh), View v s → Rel C s a w R g → g hh = some (a.eval x) ∧ ∃ A c, a.eval x = .slice A xs.length c ∧ xs.length ≤ c ∧ xs.length ≤ lim ∧ (xs ≠ [] → ∃ b, A = some ⟨b, 0, none⟩) := fun s a w R g hv hr => by
            obtain ⟨hg, _⟩ := evc_rel hv hr hc
            obtain ⟨u, hu', hE⟩ := hr.inv.live hh _ (en_live hv hen)
            rw [hg] at hu'
            injection hu' with hu'
            refine ⟨hg, ?_⟩
            rw [hu']
            rcases hE with ⟨e0, e1⟩ | ⟨b, c, arr, fr, e1, _, _, h3, _, h5, _⟩
            · subst e1; exact ⟨none, 0, e0, by simp, by simp [lim], fun h => absurd rfl h⟩
            · exact ⟨_, c, e1, h3, h5, fun _ => ⟨b, rfl⟩⟩
          split at h
          · rename_i hnn
            rw [Bool.and_eq_true] at hnn
            refine ⟨_, h, .pure hd rfl fun s a w R g hv hk hr => ?_⟩
            obtain ⟨hg, A, c, ex, hcap, hlim, hA⟩ := val s a w R g hv hr
            have e1 : lo = none := by cases lo <;> simp at hnn ⊢
            have e2 : hi = none := by cases hi <;> simp at hnn ⊢
            subst e1
            subst e2
            refine ⟨a.eval x, ?_, some_r (show CVRel C.E R g (.own hh) _ from evc_rel hv hr hc)⟩
            have := slice_run (a := a) (lo := none) (hi' := none) hu hinfo (A := A) (Nat.zero_le xs.length) (Nat.le_refl xs.length) hcap rfl rfl w
            have hz : (if c = 0 then A else A.map (·.add (0 * C.P.cellsOf e))) = A := by
              split
              · rfl
              · cases A <;> simp [Addr.add]
            rw [hz] at this
            simp only [execOp, hop, ex]
            exact run_v this
          split at h
          · obtain ⟨p, q, h1, h2, hF, hlo, hhi⟩ := cut_spec h
            split at hF
            · rename_i hp
              subst hp
              obtain ⟨δ, hδ, hF⟩ := Option.bind_eq_some_iff.1 hF
              obtain ⟨hfree, rfl⟩ := newRow_spec hδ
              refine ⟨_, hF, fun s a w R g hv hkn hr next Q hnx => ?_⟩
              obtain ⟨hg, _⟩ := evc_rel hv hr hc
              have hlv := en_live hv hen
              obtain ⟨u, hu', hE⟩ := hr.inv.live hh _ hlv
              have hgu := hu'
              rw [hg] at hu'
              injection hu' with hu'
              have hlen : (xs.take q).length = q := by rw [List.length_take]; omega
              rcases hE with ⟨e0, e1⟩ | ⟨b, c, arr, fr, e1, k1, k2, k3, k4, k5, k6, k7⟩
              · subst e1
                obtain rfl : q = 0 := by simp at h2; omega
                have hrun := slice_run (a := a) hu hinfo (A := none) h1 h2 (Nat.le_refl 0) (bounds_ev hv hr hlo) (bounds_ev hv hr hhi) w
                have hu1 : (execOp a.eval o).run C.P w = .ok (.value (.slice none 0 0)) w := by
                  simp only [execOp, hop, hu', e0]
                  exact run_v (by simpa using hrun)
                refine wp_val hu1 (hnx _ _ (shrink_end hd hr hlv hgu (en_free hv hfree) (fun b hb => by cases hb) (.inl ⟨rfl, by simp⟩)))
              · have hrun := slice_run (a := a) hu hinfo (A := some ⟨b, 0, none⟩) h1 h2 k3 (bounds_ev hv hr hlo) (bounds_ev hv hr hhi) w
                have hz : (if c = 0 then some (⟨b, 0, none⟩ : Addr) else (some (⟨b, 0, none⟩ : Addr)).map (·.add (0 * C.P.cellsOf e))) = some ⟨b, 0, none⟩ := by
                  split
                  · rfl
                  · simp [Addr.add]
                rw [hz, Nat.sub_zero, Nat.sub_zero] at hrun
                have hu1 : (execOp a.eval o).run C.P w = .ok (.value (.slice (some ⟨b, 0, none⟩) q c)) w := by
                  simp only [execOp, hop, hu', e1]
                  exact run_v hrun
                refine wp_val hu1 (hnx _ _ (shrink_end hd hr hlv hgu (en_free hv hfree) (fun b hb => by rw [e1]; exact hb) (.inr ⟨b, c, arr, fr, by rw [hlen], k1, k2, by omega, k4, by omega, k6, fun j x hx => k7 j x ?_⟩)))
                rw [List.getElem?_take] at hx
                split at hx
                · exact hx
                · cases hx
            · cases hF
          · obtain ⟨p, q, h1, h2, hF, hlo, hhi⟩ := cut_spec h
            refine ⟨_, hF, .pure hd rfl fun s a w R g hv hk hr => ?_⟩
            obtain ⟨hg, A, c, ex, hcap, hlim, hA⟩ := val s a w R g hv hr
            refine ⟨_, ?_, some_r (show CVRel C.E R g (.sub hh κ.sz p (q - p)) (.slice (if c = p then A else A.map (·.add (p * C.P.cellsOf e))) (q - p) (c - p)) from ⟨_, _, rfl, ⟨by omega, by omega⟩, fun hn => ?_⟩)⟩
            · simp only [execOp, hop, ex]
              exact run_v (slice_run hu hinfo h1 h2 hcap (bounds_ev hv hr hlo) (bounds_ev hv hr hhi) w)
            · obtain ⟨b, rfl⟩ := hA (by intro e0; subst e0; simp at h2; omega)
              refine ⟨b, xs.length, c, by rw [hg, ex], ?_, by omega⟩
              rw [if_neg (by omega)]
              simp [addr_add, hsz]
        · cases h
      · rename_i κ xs hen
        split at h
        · rename_i hsz
          refine dat κ xs hsz (fun s a w R g hv hr => ?_) h
          obtain ⟨hg, _⟩ := evc_rel hv hr hc
          obtain ⟨u, hu', hE⟩ := hr.inv.ro hh _ _ (en_ro hv hen)
          rw [hg] at hu'
          injection hu' with hu'
          rw [hu']
          exact hE
        · cases h
      · cases h
    · rename_i hh sz l n hc
      split at h
      · rename_i ety κ xs hen
        split at h
        · rename_i hsz
          obtain ⟨p, q, h1, h2, hF, hlo, hhi⟩ := cut_spec h
          refine ⟨_, hF, .pure hd rfl fun s a w R g hv hk hr => ?_⟩
          obtain ⟨A, c, ex, hlim, hx⟩ := evc_rel hv hr hc
          refine ⟨_, ?_, some_r (show CVRel C.E R g (.sub hh sz (l + p) (q - p)) (.slice (if c = p then A else A.map (·.add (p * C.P.cellsOf e))) (q - p) (c - p)) from ⟨_, _, rfl, ⟨by omega, by omega⟩, fun hn => ?_⟩)⟩
          · simp only [execOp, hop, ex]
            exact run_v (slice_run hu hinfo h1 h2 hlim.2 (bounds_ev hv hr hlo) (bounds_ev hv hr hhi) w)
          · obtain ⟨b, m, cp, hg, rfl, hm⟩ := hx (by omega)
            refine ⟨b, m, cp, hg, ?_, by omega⟩
            rw [if_neg (by omega)]
            simp [addr_add, hsz.1, hsz.2, Nat.add_mul]
        · cases h
      · cases h
    · cases h
  · cases h
theorem ok_typeAssert (hd : ∀ t, o.dst = some t → t < C.N) {x : Operand} {xt t : TypeId} {ok : Bool} (hop : o.op = .typeAssert x xt t ok) (h : stepO C.P C.E env kn base o v f = some r) : Done C kn o v f r := by
  unfold stepO at h
  rw [hop] at h
  simp only at h
  split at h
  · rename_i e
    obtain ⟨rfl, rfl, hok⟩ := e
    obtain ⟨hE, i, hi, _, hz⟩ := errOk_spec hok
    split at h
    · rename_i n hc
      refine ⟨_, h, .pure hd rfl fun s a w R g hv hk hr => ?_⟩
      rcases evc_rel hv hr hc with ⟨rfl, e⟩ | ⟨h0, h1, e⟩ <;> injection e with e _
      · refine ⟨.tuple #[.int .i64 0, .bool false], ?_, some_r ⟨[.int .i64 0, .bool false], rfl, .cons ⟨rfl, by decide, by decide⟩ (.cons rfl .nil)⟩⟩
        simp only [execOp, hop, e]
        exact run_v (by simp [Instr.typeAssert, run_under hE, run_zero hi hz])
      · refine ⟨.tuple #[.int .i64 n, .bool true], ?_, some_r ⟨[.int .i64 n, .bool true], rfl, .cons ⟨rfl, h1⟩ (.cons ?_ .nil)⟩⟩
        · simp only [execOp, hop, e]
          exact run_v (by simp [Instr.typeAssert, run_under hE])
        · show ([Value.bool true] : List Value) = [.bool (n != 0)]
          have : (n != 0) = true := by simpa using h0
          rw [this]
    · cases h
  · cases h
theorem len_ok {s : VSt} {a : Act} {w : World} {R : Part} {g : Gh} (hv : View v s) (hr : Rel C s a w R g) {u : Value} : ∀ (c : CV) (n : Nat), lenOf v.en c = some n → CVRel C.E R g c u →
    (∃ A c, u = .slice A n c) ∧ n ≤ lim := by
  have fromRd : ∀ (κ : K) (xs : List κ.T) (n : Nat), (K.list κ).Rd C.E R xs [u] → xs.length = n → (∃ A c, u = .slice A n c) ∧ n ≤ lim := by
    intro κ xs n hx hn
    obtain ⟨A, c, e, hl, _⟩ := hx
    injection e with e _
    subst hn
    exact ⟨⟨A, c, e⟩, hl.1⟩
  intro c n h hc
  cases c with
  | dat κ x =>
    cases κ <;> simp only [lenOf, reduceCtorEq, Option.some.injEq] at h
    exact fromRd _ _ n hc h
  | nils =>
    simp only [lenOf, Option.some.injEq] at h
    subst h
    exact ⟨⟨none, 0, hc⟩, by simp [lim]⟩
  | own hh =>
    simp only [lenOf] at h
    split at h
    · rename_i ety κ xs hen
      injection h with h
      subst h
      obtain ⟨y, hy, hE⟩ := hr.inv.live hh _ (en_live hv hen)
      rw [hc.1] at hy
      injection hy with hy
      subst hy
      rcases hE with ⟨e0, e1⟩ | ⟨b, c, arr, fr, e1, _, _, h3, _, h5, _⟩
      · subst e1; exact ⟨⟨none, 0, e0⟩, by simp [lim]⟩
      · exact ⟨⟨_, _, e1⟩, h5⟩
    · rename_i κ xs hen
      injection h with h
      obtain ⟨y, hy, hE⟩ := hr.inv.ro hh _ _ (en_ro hv hen)
      rw [hc.1] at hy
      injection hy with hy
      subst hy
      exact fromRd _ _ n hE h
    · cases h
  | sub hh sz lo m =>
    simp only [lenOf, Option.some.injEq] at h
    subst h
    obtain ⟨A, c, e, hl, _⟩ := hc
    exact ⟨⟨A, c, e⟩, hl.1⟩
  | nilp => simp [lenOf] at h
  | clo => simp [lenOf] at h
  | nilm => simp [lenOf] at h
  | ptr => simp [lenOf] at h
  | elt => simp [lenOf] at h
  | roA => simp [lenOf] at h
  | fn => simp [lenOf] at h
  | slf => simp [lenOf] at h
  | ndf => simp [lenOf] at h
  | oel => simp [lenOf] at h
  | nl => simp [lenOf] at h
  | pel => simp [lenOf] at h
  | psub hh off sz lo m =>
    simp only [lenOf, Option.some.injEq] at h
    subst h
    obtain ⟨b, c, _, hl, A, e, _⟩ := hc
    exact ⟨⟨A, c, e⟩, hl.1⟩
  | ful κ x =>
    simp only [lenOf, Option.some.injEq] at h
    exact fromRd _ _ n hc.2 h
  | nn κ x =>
    simp only [lenOf, Option.some.injEq] at h
    exact fromRd _ _ n hc.2 h
theorem arr_get1 {ops : Array Operand} {x : Operand} (h : ops[0]? = some x) (a : Act) : (ops.map a.eval)[0]? = some (a.eval x) := by simp [h]
theorem rel_len {E : TypeId} {R : Part} {g : Gh} {n : Nat} (h : n ≤ lim) : SVRel E R g (.r (.c (.dat (.int .i64) (n : Int)))) (.int .i64 n) :=
  rel_int (by rw [k_min_eq]; show (-9223372036854775808 : Int) ≤ _; omega) (by rw [k_max_eq]; show _ ≤ (9223372036854775807 : Int); unfold lim at h; omega)
theorem ok_len (hd : ∀ t, o.dst = some t → t < C.N) {c : Call} (hop : o.op = .call c) (hcal : c.callee = .builtin .len) (h : stepO C.P C.E env kn base o v f = some r) : Done C kn o v f r := by
  unfold stepO at h
  rw [hop] at h
  simp only [hcal, Option.bind_eq_some_iff] at h
  obtain ⟨t, ht, x, hx, h⟩ := h
  split at h
  · rename_i hu
    split at h
    · rename_i l hc
      refine ⟨_, h, .pure hd rfl fun s a w R g hv hk hr => ?_⟩
      obtain ⟨b, e, rfl, hl⟩ := evc_rel hv hr hc
      injection e with e _
      refine ⟨.int .i64 b.size, ?_, some_r (by rw [bytesL_len]; exact rel_len hl)⟩
      have harg := arr_get1 hx a
      rw [e] at harg
      simp [execOp, hop, resolve, hcal, invoke, builtin, Builtin.len_, ht, harg, run_under hu, goInt]
    · cases h
  · rename_i e hu
    rw [Option.bind_eq_some_iff] at h
    obtain ⟨n, hn, h⟩ := h
    rw [Option.bind_eq_some_iff] at hn
    obtain ⟨cv, hc, hn⟩ := hn
    refine ⟨_, h, .pure hd rfl fun s a w R g hv hk hr => ?_⟩
    obtain ⟨⟨A, c', ex⟩, hlim⟩ := len_ok hv hr cv n hn (evc_rel hv hr hc)
    refine ⟨.int .i64 n, ?_, some_r (rel_len hlim)⟩
    have harg := arr_get1 hx a
    rw [ex] at harg
    simp [execOp, hop, resolve, hcal, invoke, builtin, Builtin.len_, ht, harg, run_under hu, goInt]
  · cases h
theorem rvs_rel {s : VSt} {a : Act} {w : World} {R : Part} {g : Gh} (hv : View v s) (hr : Rel C s a w R g) : ∀ {xs : List Operand} {vs : List RV}, rvs v xs = some vs → All2 (RVRel C.E R g) vs (xs.map a.eval)
  | [], vs, h => by simp [rvs] at h; subst h; exact .nil
  | x :: xs, vs, h => by
    simp only [rvs, Option.bind_eq_some_iff, Option.map_eq_some_iff] at h
    obtain ⟨y, hy, ys, hys, rfl⟩ := h
    exact .cons (evr_rel hv hr hy) (rvs_rel hv hr hys)
theorem minmax_run {E : TypeId} {R : Part} {g : Gh} {P : Program} (mx : Bool) (k : IntKind) : ∀ (cs : List RV) (us : List Value) (x n : Int), All2 (RVRel E R g) cs us → minmax mx k x cs = some n → k.min ≤ x → x ≤ k.max →
    k.min ≤ n ∧ n ≤ k.max ∧ ∀ w, (us.foldlM (if mx then Builtin.max2 else Builtin.min2) (Value.int k x)).run P w = .ok (.int k n) w
  | [], us, x, n, hv, h, h1, h2 => by
    cases hv
    simp only [minmax, Option.some.injEq] at h
    subst h
    exact ⟨h1, h2, fun w => rfl⟩
  | c :: cs, us, x, n, hv, h, h1, h2 => by
    cases hv with
    | cons hx hr =>
      cases c with
      | c y =>
        cases y <;> try (simp [minmax] at h; done)
        rename_i κ y'
        cases κ <;> try (simp [minmax] at h; done)
        rename_i k'
        simp only [minmax] at h
        split at h
        · rename_i ek
          subst ek
          obtain ⟨eu, hy1, hy2⟩ := hx
          injection eu with eu _
          subst eu
          have hb : k.min ≤ (if mx then (if y' > x then y' else x) else (if y' < x then y' else x)) ∧ (if mx then (if y' > x then y' else x) else (if y' < x then y' else x)) ≤ k.max := by
            split <;> split <;> exact ⟨by assumption, by assumption⟩
          obtain ⟨q1, q2, q3⟩ := minmax_run (P := P) mx k cs _ _ n hr h hb.1 hb.2
          refine ⟨q1, q2, fun w => ?_⟩
          have q := q3 w
          cases mx <;> simpa [Builtin.max2, Builtin.min2] using q
        · cases h
      | a ys => simp [minmax] at h
      | sg ys => simp [minmax] at h
theorem ok_minmax (hd : ∀ t, o.dst = some t → t < C.N) {c : Call} (mx : Bool) (hop : o.op = .call c) (hcal : c.callee = .builtin (if mx then .max else .min)) (h : stepO C.P C.E env kn base o v f = some r) : Done C kn o v f r := by
  have key : ∀ vs : List RV, rvs v c.args.toList = some vs → (match vs with | .c (.dat (.int k) x) :: r => (minmax mx k x r).bind fun n => f (just (dI k n)) | _ => none) = some r → Done C kn o v f r := by
    intro vs hvs h
    split at h
    · rename_i k x rest
      rw [Option.bind_eq_some_iff] at h
      obtain ⟨n, hn, h⟩ := h
      refine ⟨_, h, .pure hd rfl fun s a w R g hv hk hr => ?_⟩
      have hall := rvs_rel hv hr hvs
      generalize hus : c.args.toList.map a.eval = us at hall
      cases hall with
      | cons hx hrest =>
        obtain ⟨e, h1, h2⟩ := hx
        injection e with e _
        subst e
        obtain ⟨q1, q2, q3⟩ := minmax_run (P := C.P) mx k _ _ x n hrest hn h1 h2
        refine ⟨.int k n, ?_, some_r (rel_int q1 q2)⟩
        have q := q3 w
        have hargs := hus
        cases mx
        · simp only [Bool.false_eq_true, if_false] at hcal q
          simp [execOp, hop, resolve, hcal, invoke, builtin, Builtin.min_, hargs, q]
        · simp only [if_true] at hcal q
          simp [execOp, hop, resolve, hcal, invoke, builtin, Builtin.max_, hargs, q]
    · cases h
  unfold stepO at h
  rw [hop] at h
  cases mx <;> simp only [hcal, Bool.false_eq_true, if_false, if_true, Option.bind_eq_some_iff] at h <;> obtain ⟨vs, hvs, h⟩ := h <;> exact key vs hvs h
end
end Go.Sx
