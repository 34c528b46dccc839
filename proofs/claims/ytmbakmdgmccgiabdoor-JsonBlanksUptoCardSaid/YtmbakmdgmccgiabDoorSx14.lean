/- Part of a proof by a small interpreter on plain values; no condition. -/
import Derived.Scope
import Derived.Test.YtmbakmdgmccgiabDoorSx13
/-! Sx14: code. -/
namespace Go.Sx
open Go
set_option autoImplicit false
set_option linter.unusedSimpArgs false
set_option linter.unusedVariables false

theorem entsOf_live : ∀ {es : List (Nat × Ent)} {h : Nat} {e : Ent}, entsOf es h = .live e → (h, e) ∈ es
  | [], h, e, x => by
    simp only [entsOf] at x
    cases hb : Nat.ble 500 h <;> rw [hb] at x <;> cases x
  | p :: r, h, e, x => by
    change upd (entsOf r) p.1 (.live p.2) h = .live e at x
    by_cases hp : h = p.1
    · subst hp
      rw [upd_same] at x
      injection x with x
      subst x
      exact List.mem_cons_self
    · rw [upd_ne _ _ hp] at x
      exact List.mem_cons_of_mem _ (entsOf_live x)
theorem entsOf_ro : ∀ {es : List (Nat × Ent)} {h : Nat} {κ : K} {xs : List κ.T}, entsOf es h = .ro κ xs → False
  | [], h, κ, xs, x => by
    simp only [entsOf] at x
    cases hb : Nat.ble 500 h <;> rw [hb] at x <;> cases x
  | p :: r, h, κ, xs, x => by
    change upd (entsOf r) p.1 (.live p.2) h = _ at x
    by_cases hp : h = p.1
    · subst hp; rw [upd_same] at x; cases x
    · rw [upd_ne _ _ hp] at x; exact entsOf_ro x
theorem entsOf_free : ∀ {es : List (Nat × Ent)} {h : Nat}, entsOf es h = .free → 500 ≤ h ∧ h ∉ es.map (·.1)
  | [], h, x => by
    simp only [entsOf] at x
    cases hb : Nat.ble 500 h with
    | true => exact ⟨Nat.le_of_ble_eq_true hb, by simp⟩
    | false => rw [hb] at x; cases x
  | p :: r, h, x => by
    change upd (entsOf r) p.1 (.live p.2) h = _ at x
    by_cases hp : h = p.1
    · subst hp; rw [upd_same] at x; cases x
    · rw [upd_ne _ _ hp] at x
      obtain ⟨h1, h2⟩ := entsOf_free x
      exact ⟨h1, by simpa [hp] using h2⟩
theorem keptNo_spec {ren : List (Nat × Option Nat)} : ∀ {l : List Nat}, keptNo ren l = true → ∀ h ∈ l, h < 500 → ren.lookup h = some (some h)
  | [], _, h, hm, _ => by simp at hm
  | x :: r, hk, h, hm, hlt => by
    simp only [keptNo, Bool.and_eq_true] at hk
    rcases List.mem_cons.1 hm with rfl | hm
    · have h1 := hk.1
      rw [Bool.or_eq_true] at h1
      rcases h1 with h1 | h1
      · have := Nat.le_of_ble_eq_true h1; omega
      · split at h1
        · rename_i i hi
          rw [Nat.eq_of_beq_eq_true h1] at hi
          exact hi
        · cases h1
    · exact keptNo_spec hk.2 h hm hlt
theorem selfRen_spec {p : Nat → Bool} : ∀ {l : List (Nat × ESh)} {h : Nat} {x : Option Nat}, (selfRen p l).lookup h = some x → x = some h ∧ h ∈ l.map (·.1)
  | [], h, x, e => by simp [selfRen] at e
  | q :: r, h, x, e => by
    unfold selfRen at e
    cases hp : p q.1 with
    | true =>
      rw [hp] at e
      simp only [cond_true, List.lookup_cons] at e
      split at e
      · rename_i hq
        injection e with e
        obtain rfl : h = q.1 := by simpa using hq
        exact ⟨e.symm, by simp⟩
      · obtain ⟨h1, h2⟩ := selfRen_spec e
        exact ⟨h1, List.mem_cons_of_mem _ h2⟩
    | false =>
      rw [hp] at e
      obtain ⟨h1, h2⟩ := selfRen_spec (p := p) (l := r) e
      exact ⟨h1, List.mem_cons_of_mem _ h2⟩
theorem Shape.getAt_sound {C : Ctx} {R : Part} {g : Gh} {en0 : Nat → EnS} {w : World} {p0 : Nat → Bool} {sh : Shape} {en : Nat → EnS} (hi : Inv C R g en0 w) (hen : ∀ i, en i = en0 i ∨ en i = .dead) {rvs : List RV} {vs : List Value} (hv : All2 (RVRel C.E R g) rvs vs) {p : sh.T × GSt} (hp : sh.getAt (selfRen p0 sh.ents) rvs en = some p) :
    ∃ R' enS cons, GInv C en0 g w p.2 R' enS cons ∧ R.le R' ∧ p.2.dom = sh.ents.map (·.1) ∧ All2 (RVRel C.E R' (rg g p.2.ren)) (sh.vs p.1) vs ∧ ∀ q ∈ sh.es p.1, EntOk C g w p.2 R' cons q := by
  simp only [Shape.getAt, Option.bind_eq_some_iff, Option.map_eq_some_iff] at hp
  obtain ⟨q, hq, q', hq', rfl⟩ := hp
  have G0 : GInv C en0 g w ⟨en, [], selfRen p0 sh.ents, sh.ents.map (·.1)⟩ R en0 (fun _ => False) := by
    refine ⟨hi, hen, fun i => .inl rfl, fun i h => h.elim, fun h h' i x y => ?_, fun h x e => (selfRen_spec e).2⟩
    have e1 := (selfRen_spec x).1
    have e2 := (selfRen_spec y).1
    injection e1 with e1
    injection e2 with e2
    rw [← e1, e2]
  obtain ⟨R1, en1, G1, l1, h1⟩ := getR_sound sh.vals _ _ R en0 G0 rvs vs hv q hq
  obtain ⟨R2, en2, c2, G2, k2, l2, h2⟩ := getE_sound sh.ents [] q.2 R1 en1 _ G1 q' hq'
  refine ⟨R2, en2, c2, G2, l1.part.trans l2.part, l2.dom.trans l1.dom, ?_, ?_⟩
  · have a := (h1 (q'.1 ())).2
    exact All2.imp (fun _ _ x => RVRel.mono l2.part (rg_le l2) x) a
  · intro y hy
    have a := (h1 (q'.1 ())).1
    have b := (h2 ()).2
    unfold Shape.es at hy
    simp only at hy
    rw [a] at hy
    exact b y hy
theorem es_fst (sh : Shape) (x : sh.T) : (sh.es x).map (·.1) = sh.ents.map (·.1) := mkE_fst _ _ _
section
variable {C : Ctx} {s : VSt} {a : Act} {w : World} {R : Part} {g : Gh}
theorem sv_rv {x : Option SV} {v : RV} (h : svRV x = some v) : x = some (.r v) := by
  unfold svRV at h
  split at h
  · injection h with h; subst h; rfl
  · cases h
theorem slotVals_rel (hr : Rel C s a w R g) : ∀ {ts : List Nat} {vs : List RV}, slotVals s ts = some vs → All2 (RVRel C.E R g) vs (ts.map fun t => a.tmps.getD t undef) ∧ ∀ t ∈ ts, t < a.tmps.size
  | [], vs, h => by simp [slotVals] at h; subst h; exact ⟨.nil, by simp⟩
  | t :: r, vs, h => by
    simp only [slotVals, Option.bind_eq_some_iff, Option.map_eq_some_iff] at h
    obtain ⟨v, hv, vs', hr', rfl⟩ := h
    obtain ⟨u, h1, h2⟩ := hr.slots t _ (sv_rv hv)
    obtain ⟨h3, h4⟩ := slotVals_rel hr hr'
    refine ⟨.cons ?_ h3, fun x hx => ?_⟩
    · show RVRel C.E R g v (a.tmps.getD t undef)
      rw [show a.tmps.getD t undef = u from by simp [h1]]
      exact h2
    · rcases List.mem_cons.1 hx with rfl | hx
      · exact (Array.getElem?_eq_some_iff.1 h1).1
      · exact h4 x hx
theorem setSlots_rel {E : TypeId} {a : Act} : ∀ {ts : List Nat} {vs : List RV}, All2 (RVRel E R g) vs (ts.map fun t => a.tmps.getD t undef) → (∀ t ∈ ts, t < a.tmps.size) → ∀ t sv, setSlots ts vs t = some sv → ∃ v, a.tmps[t]? = some v ∧ SVRel E R g sv v
  | [], vs, h, _, t, sv, x => by simp [setSlots] at x
  | u :: r, vs, h, hl, t, sv, x => by
    cases h with
    | cons hx hr =>
      rename_i v vs
      change upd (setSlots r vs) u (some (.r v)) t = some sv at x
      by_cases ht : t = u
      · subst ht
        rw [upd_same] at x
        injection x with x
        subst x
        have := hl t List.mem_cons_self
        refine ⟨a.tmps[t], by simp [this], ?_⟩
        change RVRel E R g v (a.tmps.getD t undef) at hx
        rw [show a.tmps.getD t undef = a.tmps[t] from by simp [this]] at hx
        exact hx
      · rw [upd_ne _ _ ht] at x
        exact setSlots_rel hr (fun y hy => hl y (List.mem_cons_of_mem _ hy)) t sv x
/-- a pool that was read. -/
theorem EntOk.pl {en0 : Nat → EnS} {γ : GSt} {enS : Nat → EnS} {cons : Nat → Prop} (G : GInv C en0 g w γ R enS cons) {q : Nat × Ent} (h : EntOk C g w γ R cons q) {ty : TypeId} {κ : K} {xs : List κ.T} (he : q.2 = .pool ty κ xs) :
    rg g γ.ren q.1 = some (.int .i64 (q.1 : Int)) ∧ C.PL q.1 ∧ PoolOk R q.1 xs.length := by
  obtain ⟨v, h1, _, h3, h4⟩ := h
  obtain ⟨k1, k2⟩ := h4 ty κ xs he
  subst k2
  refine ⟨h1, ?_, k1⟩
  rcases h3 with ⟨i, _, hc, hgi⟩ | h3
  · obtain ⟨_, _, e', he'⟩ := G.cons i hc
    obtain ⟨m1, ty', κ', xs', m2⟩ := G.inv.int_key he' hgi
    subst m1
    subst m2
    exact (G.inv.pl _ _ _ _ he').2.1
  · cases h3
/-- what has been read by a shape is all that is there. -/
theorem GInv.filled {sh : Shape} {x : sh.T} {en0 : Nat → EnS} {γ : GSt} {enS : Nat → EnS} {cons : Nat → Prop} (G : GInv C en0 g w γ R enS cons) (hdom : γ.dom = sh.ents.map (·.1)) (hents : ∀ q ∈ sh.es x, EntOk C g w γ R cons q)
    (hk : keptNo γ.ren (sh.ents.map (·.1)) = true) : Inv C R (rg g γ.ren) (entsOf (sh.es x)) w := by
  refine ⟨G.inv.sub, fun h e he => ?_, fun h κ xs he => (entsOf_ro he).elim, fun h he => ?_, fun h e v b he hg hb => ?_, fun h h' e e' v v' b hne he he' hg hg' hb hb' => ?_, G.inv.newR, G.inv.kept, fun h v hlt hg => ?_, fun h ty κ xs he => (hents _ (entsOf_live he)).pl G rfl, G.inv.oldN, G.inv.newN⟩
  · obtain ⟨v, h1, h2, _⟩ := hents _ (entsOf_live he)
    exact ⟨v, h1, h2⟩
  · obtain ⟨h1, h2⟩ := entsOf_free he
    rw [es_fst, ← hdom] at h2
    refine ⟨h1, ?_⟩
    unfold rg
    cases hl : γ.ren.lookup h with
    | none => rfl
    | some y => exact absurd (G.dom h y hl) h2
  · obtain ⟨u, h1, _, h3, _⟩ := hents _ (entsOf_live he)
    rw [hg] at h1
    injection h1 with h1
    subst h1
    rcases h3 with ⟨i, _, hc, hgi⟩ | h3
    · obtain ⟨_, _, e', he'⟩ := G.cons i hc
      exact G.inv.mine i e' v b he' hgi hb
    · rw [h3] at hb
      rcases hb with hb | ⟨_, _, hb, _⟩ <;> cases hb
  · obtain ⟨u, h1, _, h3, _⟩ := hents _ (entsOf_live he)
    obtain ⟨u', h1', _, h3', _⟩ := hents _ (entsOf_live he')
    rw [hg] at h1
    injection h1 with h1
    subst h1
    rw [hg'] at h1'
    injection h1' with h1'
    subst h1'
    rcases h3 with ⟨i, hl, hc, hgi⟩ | h3
    · rcases h3' with ⟨i', hl', hc', hgi'⟩ | h3'
      · obtain ⟨_, _, e1, he1⟩ := G.cons i hc
        obtain ⟨_, _, e2, he2⟩ := G.cons i' hc'
        exact G.inv.sep i i' e1 e2 v v' b (fun e => hne (G.inj _ _ i hl (by rw [e]; exact hl'))) he1 he2 hgi hgi' hb hb'
      · rw [h3'] at hb'
        rcases hb' with hb' | ⟨_, _, hb', _⟩ <;> cases hb'
    · rw [h3] at hb
      rcases hb with hb | ⟨_, _, hb, _⟩ <;> cases hb
  · unfold rg at hg
    cases hl : γ.ren.lookup h with
    | none => rw [hl] at hg; cases hg
    | some y =>
      have hm := G.dom h y hl
      rw [hdom] at hm
      have := keptNo_spec hk h hm hlt
      rw [this] at hl
      injection hl with hl
      subst hl
      rw [this] at hg
      exact G.inv.keep h v hlt hg
theorem LSh.get_ok {l : LSh} {x : l.sh.T} (h : l.get s = some x) (hr : Rel C s a w R g) {gl : Nat → Option CV} (hgl : gl = C.gl) : RelE C (l.fill gl x) a w := by
  simp only [LSh.get, Option.bind_eq_some_iff] at h
  obtain ⟨vs, hvs, p, hp, h⟩ := h
  split at h
  · rename_i hk
    injection h with h
    subst h
    obtain ⟨hv, hl⟩ := slotVals_rel hr hvs
    obtain ⟨R', enS, cons, G, hRR, hdom, hvals, hents⟩ := Shape.getAt_sound hr.inv (fun i => .inl rfl) hv hp
    exact ⟨R', rg g p.2.ren, G.filled hdom hents hk, setSlots_rel hvals hl, hr.defers, hr.size, fun x c h g' => (hr.glob x c h g').mono hRR (Gh.le_refl _), hgl⟩
  · cases h
end
theorem least {J : Nat → Prop} (h : ∃ m, J m) : ∃ m, J m ∧ ∀ k, J k → m ≤ k := by
  obtain ⟨m, hm⟩ := h
  induction m using Nat.strongRecOn with
  | _ m ih =>
    by_cases hx : ∃ k, k < m ∧ J k
    · obtain ⟨k, h1, h2⟩ := hx
      exact ih k h1 h2
    · exact ⟨m, hm, fun k hk => Nat.le_of_not_lt fun hlt => hx ⟨k, hlt, hk⟩⟩
/-- a loop with fuel. -/
theorem wp_loop_fuel {P : Program} {c : Code} {Q : Exit → Act → World → Prop} {a : Act} {w : World} (J : Nat → Act → World → Prop) (h0 : ∃ m, J m a w)
    (round : ∀ m a w, J m a w → ∃ m', m = m' + 1 ∧ c.wp P (Exit.then (fun a' w' => J m' a' w') Q) a w) : (Code.loop c).wp P Q a w := by
  classical
  let μ : Act → World → Nat := fun a w => if h : ∃ m, J m a w then Classical.choose (least h) else 0
  have hμ : ∀ a w m, J m a w → J (μ a w) a w ∧ μ a w ≤ m := by
    intro a w m hm
    have h : ∃ m, J m a w := ⟨m, hm⟩
    have := Classical.choose_spec (least h)
    show J (if h : ∃ m, J m a w then Classical.choose (least h) else 0) a w ∧ (if h : ∃ m, J m a w then Classical.choose (least h) else 0) ≤ m
    rw [dif_pos h]
    exact ⟨this.1, this.2 m hm⟩
  refine wp_loop (fun a w => ∃ m, J m a w) μ h0 (fun a w ⟨m, hm⟩ => ?_)
  obtain ⟨m', e, hw⟩ := round _ a w (hμ a w m hm).1
  refine wp_mono hw (fun ex a' w' hq => ?_)
  cases ex with
  | normal =>
    refine ⟨⟨m', hq⟩, ?_⟩
    have := (hμ a' w' m' hq).2
    omega
  | _ => exact hq
section
variable {C : Ctx} {env : Env} {n : Nat}
theorem exec_ok (hm : C.P.follows .mixedOrders = true) (henv : ∀ fid, ∀ sp ∈ env fid, FnOK C.P C.E C.L fid sp) : ∀ (c : Code) (ann : Ann) (s : VSt) {A : Type} (k : Exit → VSt → Option A) (r : A), exec C.P C.E C.N env n c ann s k = some r →
    ∀ (Q : Exit → Act → World → Prop), (∀ e s' a w, k e s' = some r → RelE C s' a w → Q e a w) → ∀ a w, RelE C s a w → c.wp C.P Q a w := by
  intro c
  induction c with
  | skip => intro ann s A k r h Q hQ a w hr; exact wp_skip (hQ _ _ _ _ (by simpa only [exec] using h) hr)
  | label l => intro ann s A k r h Q hQ a w hr; exact wp_label (hQ _ _ _ _ (by simpa only [exec] using h) hr)
  | ret => intro ann s A k r h Q hQ a w hr; exact wp_ret (hQ _ _ _ _ (by simpa only [exec] using h) hr)
  | exit id => intro ann s A k r h Q hQ a w hr; exact wp_exit (hQ _ _ _ _ (by simpa only [exec] using h) hr)
  | seq x y ihx ihy =>
    intro ann s A k r h Q hQ a w hr
    apply wp_seq
    have plain : ∀ (a1 a2 : Ann), (exec C.P C.E C.N env n x a1 s fun e s' => match e with
        | .normal => exec C.P C.E C.N env n y a2 s' k
        | e => k e s') = some r → x.wp C.P (Exit.then (y.wp C.P Q) Q) a w := by
      intro a1 a2 h
      refine ihx a1 s _ r h _ (fun e s' a' w' he hr' => ?_) a w hr
      cases e with
      | normal => exact ihy a2 s' k r he Q hQ a' w' hr'
      | _ => exact hQ _ _ _ _ he hr'
    unfold exec at h
    simp only at h
    split at h
    · rename_i l a1 a2
      rw [Option.bind_eq_some_iff] at h
      obtain ⟨o, ho, h⟩ := h
      have hgl : s.gl = C.gl := by obtain ⟨R, g, hr⟩ := hr; exact hr.gleq
      refine ihx a1 s _ o ho _ (fun e s' a' w' he hr' => ?_) a w hr
      cases e with
      | normal =>
        simp only [Option.map_eq_some_iff] at he
        obtain ⟨z, hz, rfl⟩ := he
        simp only at h
        obtain ⟨R, g, hr'⟩ := hr'
        exact ihy _ _ k r h Q hQ a' w' (LSh.get_ok hz hr' hgl)
      | _ =>
        simp only [Option.map_eq_some_iff] at he
        obtain ⟨z, hz, rfl⟩ := he
        simp only [Option.some.injEq] at h
        subst h
        exact hQ _ _ _ _ hz hr'
    · exact plain _ _ h
    · exact plain _ _ h
  | cond c x y ihx ihy =>
    intro ann s A k r h Q hQ a w hr
    unfold exec at h
    simp only at h
    split at h
    · rename_i b hb
      have hr0 := hr
      obtain ⟨R, g, hr0⟩ := hr0
      have hc : a.eval c = .bool b := by
        have h1 : CVRel C.E R g (.dat .bool b) (a.eval c) := evc_rel (v := s) ⟨fun _ _ h => h, fun _ => .inl rfl, rfl⟩ hr0 hb
        have h2 : [a.eval c] = [Value.bool b] := h1
        simpa using h2
      cases b with
      | true => rw [if_pos rfl] at h; exact wp_cond_true hc (ihx _ s k r h Q hQ a w hr)
      | false => rw [if_neg (by simp)] at h; exact wp_cond_false hc (ihy _ s k r h Q hQ a w hr)
    · cases h
  | block id c ih =>
    intro ann s A k r h Q hQ a w hr
    apply wp_block
    unfold exec at h
    refine ih _ s _ r h _ (fun e s' a' w' he hr' => ?_) a w hr
    cases e with
    | exit id' =>
      simp only at he
      simp only [Exit.inBlock]
      split
      · rename_i hid
        rw [if_pos hid] at he
        exact hQ _ _ _ _ he hr'
      · rename_i hid
        rw [if_neg hid] at he
        exact hQ _ _ _ _ he hr'
    | _ => exact hQ _ _ _ _ he hr'
  | scope c ih =>
    intro ann s A k r h Q hQ a w hr
    apply wp_scope_straight
    unfold exec at h
    refine ih _ s _ r h _ (fun e s' a' w' he hr' => ?_) a w hr
    cases e with
    | goto l => cases he
    | _ => exact hQ _ _ _ _ he hr'
  | loop c ih =>
    intro ann s A k r h Q hQ a w hr
    unfold exec at h
    split at h
    · rename_i l a1
      rw [Option.bind_eq_some_iff] at h
      obtain ⟨x0, hx0, h⟩ := h
      obtain ⟨R, g, hr⟩ := hr
      have hgl : s.gl = C.gl := hr.gleq
      refine wp_loop_fuel (fun m a w => ∃ x, loopF (fun rec x => exec C.P C.E C.N env n c a1 (l.fill s.gl x) fun e s' => match e with
        | .normal => (l.get s').bind rec
        | e => k e s') m x = some r ∧ RelE C (l.fill s.gl x) a w) ⟨n, x0, h, LSh.get_ok hx0 hr hr.gleq⟩ (fun m a w ⟨x, hx, hr⟩ => ?_)
      cases m with
      | zero => cases hx
      | succ m' =>
        refine ⟨m', rfl, ih a1 _ _ r hx _ (fun e s' a' w' he hr' => ?_) a w hr⟩
        cases e with
        | normal =>
          simp only [Option.bind_eq_some_iff] at he
          obtain ⟨x', hx', he⟩ := he
          obtain ⟨R', g', hr'⟩ := hr'
          exact ⟨x', he, LSh.get_ok hx' hr' hgl⟩
        | _ => exact hQ _ _ _ _ he hr'
    · cases h
  | region id ops draw =>
    intro ann s A k r h Q hQ a w hr
    unfold exec at h
    split at h
    · rename_i hd
      subst hd
      split at h
      · rename_i hback
        obtain ⟨its, s', htr, hfin⟩ := runOps_tr henv _ _ _ _ h
        split at hfin
        · rename_i hord
          exact region_any hm htr hback (by simpa using hord) hr (fun a' w' hr' => hQ _ _ _ _ hfin hr')
        · cases hfin
      · cases h
    · rename_i hd
      have : draw = false := by cases draw <;> simp_all
      subst this
      obtain ⟨its, s', htr, hfin⟩ := runOps_tr henv _ _ _ _ h
      exact region_seq htr hr (fun a' w' hr' => hQ _ _ _ _ hfin hr')
  | _ => intro ann s A k r h; unfold exec at h; cases h
end
end Go.Sx
