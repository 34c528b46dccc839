/- Part of a proof by a small interpreter on plain values; no condition. -/
import Derived.Test.YtmbakmdgmccgiabDoorSx14
/-! Sx15: a function: from its run on values to its contract. -/
namespace Go.Sx
open Go
set_option autoImplicit false
set_option linter.unusedSimpArgs false
set_option linter.unusedVariables false
section
variable {C : Ctx} {s : VSt} {a : Act} {w : World} {R : Part} {g : Gh}
def resF (tmps : Array Value) (x : ResultVar) : Sem Value :=
  match x with
  | .tmp t => pure (tmps.getD t undef)
  | .cell x t => do loadVar t (← asAddr (tmps.getD x undef))
theorem resK_ok (hr : Rel C s a w R g) : ∀ {l : List ResultVar} {rvs : List RV}, resK C.P s l = some rvs →
    ∃ us : List Value, (l.mapM (resF a.tmps)).run C.P w = .ok us w ∧ All2 (RVRel C.E R g) rvs us
  | [], rvs, h => by simp [resK] at h; subst h; exact ⟨[], rfl, .nil⟩
  | .tmp t :: r, rvs, h => by
    simp only [resK, Option.bind_eq_some_iff, Option.map_eq_some_iff] at h
    obtain ⟨v, hv, vs, hvs, rfl⟩ := h
    obtain ⟨us, h1, h2⟩ := resK_ok hr hvs
    obtain ⟨u, h3, h4⟩ := hr.slots t _ (sv_rv hv)
    refine ⟨u :: us, ?_, .cons h4 h2⟩
    rw [List.mapM_cons]
    simp only [Sem.run_bind, resF, show a.tmps.getD t undef = u from by simp [h3], Sem.run_pure, Result.andThen_ok]
    rw [h1]
    rfl
  | .cell x t :: r, rvs, h => by
    simp only [resK] at h
    split at h
    · rename_i hh off hx
      split at h
      · rename_i ty cs he
        simp only [Option.bind_eq_some_iff, Option.map_eq_some_iff] at h
        obtain ⟨v, hv, vs, hvs, rfl⟩ := h
        obtain ⟨us, h1, h2⟩ := resK_ok hr hvs
        have hx' : s.sl x = some (.r (.c (.ptr hh off))) := by
          unfold svCV at hx
          split at hx
          · rename_i v0 e; injection hx with hx; subst hx; exact e
          · cases hx
        obtain ⟨u, h3, b, hg, rfl⟩ := hr.slots x _ hx'
        obtain ⟨arr, fr, hb, hu, hcs⟩ := live_cells hr he hg
        obtain ⟨z, hz, hrel⟩ := load_run (P := C.P) (w := w) (t := t) (b := b) (off := off) ((hcs.drop off).take (C.P.cellsOf t)) (cells_seg hb off _) hv
        refine ⟨z :: us, ?_, .cons hrel h2⟩
        rw [List.mapM_cons]
        simp only [Sem.run_bind, resF, show a.tmps.getD x undef = .pointer (some ⟨b, off, none⟩) from by simp [h3]]
        simp [asAddr, hz]
        rw [h1]
        rfl
      · rename_i ty ss he
        simp only [Option.bind_eq_some_iff, Option.map_eq_some_iff] at h
        obtain ⟨p, hp, v, hv, vs, hvs, rfl⟩ := h
        obtain ⟨us, h1, h2⟩ := resK_ok hr hvs
        have hx' : s.sl x = some (.r (.c (.ptr hh off))) := by
          unfold svCV at hx
          split at hx
          · rename_i v0 e; injection hx with hx; subst hx; exact e
          · cases hx
        obtain ⟨u, h3, b, hg, rfl⟩ := hr.slots x _ hx'
        obtain ⟨arr, fr, hb, hu, hcs⟩ := live_segs hr he hg
        obtain ⟨_, m2, _, m4⟩ := hcs.mid hp
        obtain ⟨z, hz, hrel⟩ := loadS_run (P := C.P) (w := w) (t := t) (b := b) (off := off) m2 (by rw [List.length_take, List.length_drop]; omega) (cells_seg hb off _) hv
        refine ⟨z :: us, ?_, .cons hrel h2⟩
        rw [List.mapM_cons]
        simp only [Sem.run_bind, resF, show a.tmps.getD x undef = .pointer (some ⟨b, off, none⟩) from by simp [h3]]
        simp [asAddr, hz]
        rw [h1]
        rfl
      · cases h
    · rename_i hh sz hx
      split at h
      · rename_i ety κ xs he
        split at h
        · rename_i n e harr
          split at h
          · rename_i hsz
            obtain ⟨rfl, hce, hct⟩ := hsz
            split at h
            · rename_i hn
              subst hn
              rw [Option.map_eq_some_iff] at h
              obtain ⟨vs, hvs, rfl⟩ := h
              obtain ⟨us, h1, h2⟩ := resK_ok hr hvs
              have hx' : s.sl x = some (.r (.c (.elt hh κ.sz 0 0))) := by
                unfold svCV at hx
                split at hx
                · rename_i v0 e; injection hx with hx; subst hx; exact e
                · cases hx
              have hagg : aggOf C.P t = some true := by
                unfold arrElem at harr
                split at harr
                · rename_i hu; unfold aggOf; rw [hu]; rfl
                · cases harr
              obtain ⟨u, h3, b, n, c, hg, hlt, rfl⟩ := hr.slots x _ hx'
              obtain ⟨rfl, arr, fr, k1, k2, k3, k4, k5, k6, k7⟩ := live_row hr he hg
              have hle : xs.length * κ.sz ≤ arr.toList.length := by
                have := Nat.mul_le_mul_right κ.sz k3
                simp; omega
              have hrd := row_arr k7 hle (fun v hv => List.all_eq_true.1 k6 v hv)
              obtain ⟨z, hz, hrel⟩ := loadS_run (P := C.P) (w := w) (t := t) (b := b) (off := 0) (g := g) (ss := [.blk (.arr xs.length κ) xs]) (by have := SegsRel.blk (g := g) hrd .nil; rwa [List.append_nil] at this) (by rw [List.length_take, hct]; omega) (fun k u hk => cells_seg k1 0 (xs.length * κ.sz) k u (by rw [List.drop_zero]; exact hk)) (rv := .sg [.blk (.arr xs.length κ) xs]) (by rw [hagg]; rfl)
              refine ⟨z :: us, ?_, .cons hrel h2⟩
              rw [List.mapM_cons]
              simp only [Sem.run_bind, resF, show a.tmps.getD x undef = .pointer (some ⟨b, 0, none⟩) from by simp [h3]]
              simp [asAddr, hz]
              rw [h1]
              rfl
            · cases h
          · cases h
        · cases h
      · cases h
    · cases h
theorem packVals_eq (us : List Value) : (if h : us.toArray.size = 1 then us.toArray[0] else .tuple us.toArray) = packVals us := by
  match us with
  | [] => rfl
  | [v] => rfl
  | v :: u :: r =>
    rw [dif_neg (by simp)]
    rfl
theorem results_ok (hr : Rel C s a w R g) {fn : Func} {rvs : List RV} (h : resK C.P s fn.results.toList = some rvs) : ∃ us : List Value, (results fn a.tmps).run C.P w = .ok (packVals us) w ∧ All2 (RVRel C.E R g) rvs us := by
  obtain ⟨us, h1, h2⟩ := resK_ok hr h
  refine ⟨us, ?_, h2⟩
  have e : results fn a.tmps = (do
      let vs ← fn.results.mapM (resF a.tmps)
      pure (if h : vs.size = 1 then vs[0] else .tuple vs)) := by
    unfold results
    congr 1
  rw [e, Array.mapM_eq_mapM_toList]
  simp only [Sem.run_bind, map_eq_pure_bind]
  rw [h1]
  simp only [Result.andThen_ok]
  show Result.ok _ w = _
  rw [packVals_eq]
theorem keptCells_spec {pre : List (Nat × ESh)} {ren : List (Nat × Option Nat)} : ∀ {l : List Nat}, keptCells pre ren l = true → ∀ h ∈ l, keptE pre h = true → h < 500 ∧ ren.lookup h = some (some h)
  | [], _, h, hm, _ => by simp at hm
  | x :: l, hk, h, hm, hp => by
    simp only [keptCells, Bool.and_eq_true] at hk
    rcases List.mem_cons.1 hm with rfl | hm
    · have h1 := hk.1
      rw [hp] at h1
      simp only [cond_true, Bool.and_eq_true] at h1
      obtain ⟨h1, h2⟩ := h1
      refine ⟨Nat.le_of_ble_eq_true h1, ?_⟩
      split at h2
      · rename_i i hi
        rw [Nat.eq_of_beq_eq_true h2] at hi
        exact hi
      · cases h2
    · exact keptCells_spec hk.2 h hm hp
theorem retK_spec {pre : List (Nat × ESh)} {vs : List RV} : ∀ {l : List Shape} {y : AltT l}, retK pre s vs l = some y → ∃ sh x, altS l y = ⟨sh, x⟩ ∧ ∃ p, sh.getAt (selfRen (isCells pre) sh.ents) vs s.en = some p ∧ p.1 = x ∧ keptCells pre p.2.ren (sh.ents.map (·.1)) = true
  | [], y, h => by cases y
  | [sh], y, h => by
    simp only [retK, shK, Option.bind_eq_some_iff] at h
    obtain ⟨p, hp, h⟩ := h
    split at h
    · injection h with h
      subst h
      exact ⟨sh, _, rfl, p, hp, rfl, by assumption⟩
    · cases h
  | sh :: t :: r, y, h => by
    simp only [retK] at h
    split at h
    · rename_i x hx
      injection h with h
      subst h
      simp only [shK, Option.bind_eq_some_iff] at hx
      obtain ⟨p, hp, hx⟩ := hx
      split at hx
      · injection hx with hx
        subst hx
        exact ⟨sh, _, rfl, p, hp, rfl, by assumption⟩
      · cases hx
    · rw [Option.map_eq_some_iff] at h
      obtain ⟨z, hz, rfl⟩ := h
      obtain ⟨sh', x', h1, h2⟩ := retK_spec hz
      exact ⟨sh', x', h1, h2⟩
end
theorem mkR_len : ∀ (l : List RSh) (r : List K) (x : Tup (ksR l r)), (mkR l r x).1.length = l.length
  | [], _, _ => rfl
  | c :: cs, r, x => by simp only [mkR, List.length_cons]; rw [mkR_len cs r]
theorem vs_len (sh : Shape) (x : sh.T) : (sh.vs x).length = sh.vals.length := mkR_len _ _ _
theorem seqN_map (vals : List Value) (n : Nat) (arr : Array Value) (h : arr = (vals ++ List.replicate n undef).toArray) : ∀ (m i : Nat), i + m = vals.length → (seqN i m).map (fun t => arr.getD t undef) = vals.drop i
  | 0, i, e => by simp [seqN]; omega
  | m + 1, i, e => by
    have hi : i < vals.length := by omega
    simp only [seqN, List.map_cons]
    rw [seqN_map vals n arr h m (i + 1) (by omega), List.drop_eq_getElem_cons hi]
    congr 1
    subst h
    have hx : (vals ++ List.replicate n undef)[i]? = some vals[i] := by rw [List.getElem?_append_left hi]; simp
    show ((vals ++ List.replicate n undef).toArray).getD i undef = vals[i]
    rw [Array.getD_eq_getD_getElem?, List.getElem?_toArray, hx]
    rfl
theorem seqN_mem : ∀ (m i t : Nat), t ∈ seqN i m → t < i + m
  | 0, i, t, h => by simp [seqN] at h
  | m + 1, i, t, h => by
    simp only [seqN, List.mem_cons] at h
    rcases h with rfl | h
    · omega
    · have := seqN_mem m (i + 1) t h; omega
/-- A FUNCTION'S CONTRACT. -/
theorem fn_ok {P : Program} {E : TypeId} {L : Part → Prop} {f : FuncId} {fn : Func} (hm : P.follows .mixedOrders = true) (hf : P.funcs[f]? = some fn) (hname : (fn.name == "runtime.NumGoroutine") = false) (sp : Spec) (hpar : (Nat.ble (fn.params.size + fn.nfree) fn.ntmps && Nat.beq (fn.params.size + fn.nfree) sp.pre.vals.length) = true)
    (h : ∀ x y, sp.run x = some y → ∃ (n : Nat) (ann : Ann) (env : Env), (∀ fid, ∀ sp ∈ env fid, FnOK P E L fid sp) ∧ (∀ R : Part, L R → ∀ x c, env.gl x = some c → ∀ g, CVRel E R g c (.pointer (some ⟨x, 0, none⟩))) ∧ fnRun P E env n fn ann sp.pre sp.post x = some y) (hbody : fn.body.isNone = false) : FnOK P E L f sp := by
  refine ⟨⟨fn, hf, hbody, hname⟩, fun x y W0 R0 g0 vals hrun hent hlay => ?_⟩
  obtain ⟨n, ann, env, henv, hgl, hrun⟩ := h x y hrun
  cases hb : fn.body with
  | none => rw [hb] at hbody; cases hbody
  | some c =>
    simp only [fnRun, hb] at hrun
    rw [Bool.and_eq_true] at hpar
    have hp1 := Nat.le_of_ble_eq_true hpar.1
    have hp2 := Nat.eq_of_beq_eq_true hpar.2
    let C : Ctx := { P := P, E := E, N := fn.ntmps, W0 := W0, R0 := R0, S0 := S0of R0 g0 (sp.pre.es x), g0 := g0, L := L, gl := env.gl, PL := fun p => ∃ q ∈ sp.pre.es x, q.1 = p ∧ q.2.isPool = true, lay := hlay, hsub := hent.sub, hS0 := hent.notS }
    have hlen : vals.length = fn.params.size + fn.nfree := by rw [← hent.vals.len, vs_len, hp2]
    refine calls_of_wp hf hb (exec_ok (C := C) hm henv c ann _ _ y hrun _ (fun e s' a w he hr => ?_) _ _ ?_)
    · have key : resC P s' fn.results.toList (fun vs => retK sp.pre.ents s' vs sp.post) = some y → a.defers = [] ∧ ∃ v, (results fn a.tmps).run P w = .ok v w ∧ ∃ R g vs, Ending.returned v = .returned (packVals vs) ∧ Exited E sp.pre x W0 R0 g0 (altS sp.post y) R g vs w := by
        intro he
        obtain ⟨rvs, h1, h2⟩ := resC_spec P he
        obtain ⟨R, g, hr⟩ := hr
        obtain ⟨us, h3, h4⟩ := results_ok hr h1
        refine ⟨hr.defers, _, h3, ?_⟩
        obtain ⟨sh, z, h5, p, h6, h7, h8⟩ := retK_spec h2
        obtain ⟨R', enS, cons, G, hRR, hdom, hvals, hents⟩ := Shape.getAt_sound hr.inv (fun i => .inl rfl) h4 h6
        subst h7
        refine ⟨R', rg g p.2.ren, us, rfl, ?_⟩
        rw [h5]
        refine ⟨G.inv.sub, hvals, fun q hq => ?_, fun q hq q' hq' hne u u' b hg hg' hb hb' => ?_, fun q hq ty κ xs e => ?_, G.inv.oldN, G.inv.newN, fun h v hg => ?_, G.inv.newR, G.inv.kept.os, G.inv.kept.tape, G.inv.kept.output, G.inv.kept.size, G.inv.kept.block, fun h hl v hg => ?_⟩
        · obtain ⟨u, e1, e2, e3, _⟩ := hents q hq
          refine ⟨u, e1, e2, fun b hb => ?_⟩
          rcases e3 with ⟨i, _, hc, hgi⟩ | e3
          · obtain ⟨_, _, e, he⟩ := G.cons i hc
            exact G.inv.mine i e u b he hgi hb
          · rw [e3] at hb
            rcases hb with hb | ⟨_, _, hb, _⟩ <;> cases hb
        · obtain ⟨u1, e1, _, e3, _⟩ := hents q hq
          obtain ⟨u2, e1', _, e3', _⟩ := hents q' hq'
          rw [hg] at e1
          injection e1 with e1
          subst e1
          rw [hg'] at e1'
          injection e1' with e1'
          subst e1'
          rcases e3 with ⟨i, hl, hc, hgi⟩ | e3
          · rcases e3' with ⟨i', hl', hc', hgi'⟩ | e3'
            · obtain ⟨_, _, e, he⟩ := G.cons i hc
              obtain ⟨_, _, e', he'⟩ := G.cons i' hc'
              exact G.inv.sep i i' e e' u u' b (fun e => hne (G.inj _ _ i hl (by rw [e]; exact hl'))) he he' hgi hgi' hb hb'
            · rw [e3'] at hb'
              rcases hb' with hb' | ⟨_, _, hb', _⟩ <;> cases hb'
          · rw [e3] at hb
            rcases hb with hb | ⟨_, _, hb, _⟩ <;> cases hb
        · obtain ⟨k1, k2, k3⟩ := (hents q hq).pl G e
          exact ⟨k3, k1, k2⟩
        · show h ∈ sh.ents.map (·.1)
          rw [← hdom]
          unfold rg at hg
          cases hl : p.2.ren.lookup h with
          | none => rw [hl] at hg; cases hg
          | some y => exact G.dom h y hl
        · have hin : h ∈ sh.ents.map (·.1) := by
            rw [← hdom]
            unfold rg at hg
            cases hl : p.2.ren.lookup h with
            | none => rw [hl] at hg; cases hg
            | some y => exact G.dom h y hl
          obtain ⟨hlt, hk⟩ := keptCells_spec h8 h hin hl
          rw [rg_bound hk] at hg
          exact G.inv.keep h v hlt hg
      cases e with
      | normal => exact key he
      | ret => exact key he
      | _ => cases he
    · have harr : vals.toArray ++ Array.replicate (fn.ntmps - vals.toArray.size) undef = (vals ++ List.replicate (fn.ntmps - vals.length) undef).toArray := by
        apply Array.ext'; simp
      refine ⟨R0, g0, ⟨hent.sub, fun h e he => ?_, fun h κ xs he => (entsOf_ro he).elim, fun h he => ?_, fun h e v b he hg hb => ?_, fun h h' e e' v v' b hne he he' hg hg' hb hb' => ?_, fun b o h => .inl h, ⟨rfl, rfl, rfl, Nat.le_refl _, fun _ _ _ => rfl⟩, fun h v _ hg => hg, fun h ty κ xs he => ?_, fun _ _ _ h => h, fun _ _ _ h => .inl h⟩, ?_, rfl, ?_, fun x c h g' => hgl R0 (hlay R0 (Part.le_refl R0)) x c h g', rfl⟩
      · obtain ⟨v, h1, h2, _⟩ := hent.ents _ (entsOf_live he)
        exact ⟨v, h1, h2⟩
      · obtain ⟨h1, h2⟩ := entsOf_free he
        refine ⟨h1, ?_⟩
        cases hg : g0 h with
        | none => rfl
        | some v =>
          have := hent.dom h v hg
          rw [← es_fst sp.pre x] at this
          exact absurd this h2
      · obtain ⟨v', h1, _, h3⟩ := hent.ents _ (entsOf_live he)
        rw [hg] at h1
        injection h1 with h1
        subst h1
        exact ⟨h3 b hb, .inr ⟨h, e, v, entsOf_live he, hg, hb⟩⟩
      · exact hent.sep _ (entsOf_live he) _ (entsOf_live he') hne v v' b hg hg' hb hb'
      · obtain ⟨k1, k2⟩ := hent.pl _ (entsOf_live he) ty κ xs rfl
        exact ⟨k2, ⟨_, entsOf_live he, rfl, rfl⟩, k1⟩
      · refine setSlots_rel ?_ ?_
        · show All2 (RVRel E R0 g0) (sp.pre.vs x) ((seqN 0 (fn.params.size + fn.nfree)).map _)
          rw [seqN_map vals (fn.ntmps - vals.length) _ harr (fn.params.size + fn.nfree) 0 (by omega)]
          exact hent.vals
        · intro t ht
          have := seqN_mem _ _ _ ht
          simp
          omega
      · show (vals.toArray ++ Array.replicate (fn.ntmps - vals.toArray.size) undef).size = fn.ntmps
        simp
        omega
end Go.Sx
