/- Part of a proof by a small interpreter on plain values; no condition. -/
import Derived.Test.YtmbakmdgmccgiabDoorSx8
/-! Sx9: calls. -/
namespace Go.Sx
open Go
set_option autoImplicit false
set_option linter.unusedVariables false
set_option linter.unusedSimpArgs false
theorem altK_altS {A : Type} : ∀ (l : List Shape) (y : AltT l) (k : (s : Shape) → s.T → Option A), altK l y k = k (altS l y).1 (altS l y).2
  | [], y, _ => nomatch y
  | [s], y, k => rfl
  | s :: t :: r, .inl a, k => rfl
  | s :: t :: r, .inr b, k => altK_altS (t :: r) b k
def retSV (vs : List RV) : SV := match vs with | [v] => .r v | vs => .t vs
def callDelta (sp : Spec) (base : Nat) (p : sp.pre.T × GSt) (q : (s : Shape) × s.T) : Delta :=
  ⟨some (retSV ((q.1.vs q.2).map (·.ren (newId sp.pre.ents p.2.ren base)))), p.2.log ++ (q.1.es q.2).map fun e => (newId sp.pre.ents p.2.ren base e.1, EnS.live (e.2.ren (newId sp.pre.ents p.2.ren base)))⟩
theorem callK_spec {en : Nat → EnS} {args : List RV} {base : Nat} {A : Type} {f : Delta → Option A} {r : A} : ∀ (sps : List Spec), callK sps en args base f = some r →
    ∃ sp ∈ sps, ∃ p y, sp.read args en = some p ∧ sp.run p.1 = some y ∧ poolsFix (newId sp.pre.ents p.2.ren base) ((altS sp.post y).1.es (altS sp.post y).2) = true ∧ allFree en ((((altS sp.post y).1.ents.map (·.1)).filter fun h => newId sp.pre.ents p.2.ren base h == base + h).map (base + ·)) = true ∧ f (callDelta sp base p (altS sp.post y)) = some r
  | [], h => by simp [callK] at h
  | sp :: sps, h => by
    unfold callK at h
    split at h
    · obtain ⟨sp', hm, rest⟩ := callK_spec sps h
      exact ⟨sp', by simp [hm], rest⟩
    · rename_i p hp
      rw [Option.bind_eq_some_iff] at h
      obtain ⟨y, hy, h⟩ := h
      rw [altK_altS] at h
      simp only at h
      split at h
      · rename_i hpf
        split at h
        · rename_i hf
          exact ⟨sp, by simp, p, y, hp, hy, hpf, hf, h⟩
        · cases h
      · cases h
theorem poolsFix_spec {nm : Nat → Nat} : ∀ {l : List (Nat × Ent)}, poolsFix nm l = true → ∀ e ∈ l, e.2.isPool = true → nm e.1 = e.1
  | [], _, e, hm, _ => by simp at hm
  | x :: l, hf, e, hm, hp => by
    simp only [poolsFix, Bool.and_eq_true] at hf
    rcases List.mem_cons.1 hm with rfl | hm
    · have h1 := hf.1
      rw [hp] at h1
      exact Nat.eq_of_beq_eq_true h1
    · exact poolsFix_spec hf.2 e hm hp
theorem Ent.ren_pool {f : Nat → Nat} {e : Ent} {ty : TypeId} {κ : K} {xs : List κ.T} (h : e.ren f = .pool ty κ xs) : e = .pool ty κ xs := by
  cases e <;> simp [Ent.ren] at h ⊢
  exact h
theorem allFree_spec {en : Nat → EnS} : ∀ {l : List Nat}, allFree en l = true → ∀ h ∈ l, en h = .free
  | [], _, h, hm => by simp at hm
  | x :: l, hf, h, hm => by
    simp only [allFree, Bool.and_eq_true] at hf
    rcases List.mem_cons.1 hm with rfl | hm
    · have h1 := hf.1
      split at h1
      · assumption
      · cases h1
    · exact allFree_spec hf.2 h hm
theorem upds_cases (l : List (Nat × EnS)) : ∀ (en : Nat → EnS) (j : Nat), (j, upds en l j) ∈ l ∨ (upds en l j = en j ∧ ∀ e, (j, e) ∉ l) := by
  induction l with
  | nil => intro en j; exact .inr ⟨rfl, by simp⟩
  | cons p l ih =>
    intro en j
    have hstep : upds en (p :: l) j = upds (upd en p.1 p.2) l j := rfl
    rw [hstep]
    rcases ih (upd en p.1 p.2) j with h | ⟨h1, h2⟩
    · exact .inl (by simp [h])
    · by_cases hj : j = p.1
      · subst hj
        rw [h1, upd_same]
        exact .inl (by simp)
      · rw [h1, upd_ne _ _ hj]
        refine .inr ⟨rfl, fun e he => ?_⟩
        rcases List.mem_cons.1 he with he | he
        · exact hj (by rw [← he])
        · exact h2 e he
theorem retSV_rel {E : TypeId} {R : Part} {g : Gh} {vs : List RV} {us : List Value} (h : All2 (RVRel E R g) vs us) : SVRel E R g (retSV vs) (packVals us) := by
  cases h with
  | nil => exact ⟨[], rfl, .nil⟩
  | cons hx hr =>
    cases hr with
    | nil => exact hx
    | cons hy hr => exact ⟨_, rfl, .cons hx (.cons hy hr)⟩
section
variable {C : Ctx} {env : Env} {kn : List (Nat × Bool)} {base : Nat} {o : Oper} {v : VSt} {A : Type} {f : Delta → Option A} {r : A}
theorem call_end {s : VSt} {a : Act} {w : World} {R : Part} {g : Gh} (hd : ∀ t, o.dst = some t → t < C.N) (hv : View v s) (hr : Rel C s a w R g) {sp : Spec} {p : sp.pre.T × GSt} {R' : Part} {enS : Nat → EnS} {cons : Nat → Prop} (G : GInv C s.en g w p.2 R' enS cons) (hRR : R.le R')
    (hent : ∀ q ∈ sp.pre.es p.1, EntOk C g w p.2 R' cons q) {q : (s : Shape) × s.T} (hpf : poolsFix (newId sp.pre.ents p.2.ren base) (q.1.es q.2) = true) (hfree : allFree v.en (((q.1.ents.map (·.1)).filter fun h => newId sp.pre.ents p.2.ren base h == base + h).map (base + ·)) = true) {R2 : Part} {g2 : Gh} {us : List Value} {w2 : World}
    (X : Exited C.E sp.pre p.1 w R' (rg g p.2.ren) q R2 g2 us w2) : RelE C (s.app o.dst (callDelta sp base p q)) (a.put o.dst (packVals us)) w2 := by
  let nm := newId sp.pre.ents p.2.ren base
  let S0 := S0of R' (rg g p.2.ren) (sp.pre.es p.1)
  -- the callee's own blocks: those of what was handed in
  have hS0 : ∀ b, S0 b → ∃ i e u, cons i ∧ enS i = .live e ∧ g i = some u ∧ own R' u b := by
    rintro b ⟨h, e, u, hm, hg, hb⟩
    obtain ⟨u', h1, _, h3, _⟩ := hent (h, e) hm
    rw [hg] at h1
    injection h1 with h1
    subst h1
    rcases h3 with ⟨i, _, hc, hgi⟩ | h3
    · obtain ⟨_, _, e', he'⟩ := G.cons i hc
      exact ⟨i, e', u, hc, he', hgi, hb⟩
    · rw [h3] at hb
      rcases hb with hb | ⟨_, _, hb, _⟩ <;> cases hb
  have hS0R : ∀ b, S0 b → R' b = none ∧ C.mine b := fun b hb => by
    obtain ⟨i, e, u, _, he, hg, hbl⟩ := hS0 b hb
    exact G.inv.mine i e u b he hg hbl
  have hRlt : ∀ b ob, R' b = some ob → b < w.heap.size := fun b ob h => (Array.getElem?_eq_some_iff.1 (G.inv.sub b ob h)).1
  let ids := q.1.ents.map (·.1)
  let news := (ids.filter fun h => nm h == base + h).map (base + ·)
  have hnews : ∀ j ∈ news, g j = none := by
    intro j hj
    exact (hr.inv.free _ (en_free hv (allFree_spec hfree _ hj))).2
  let g3 : Gh := fun j => if j ∈ news then g2 (j - base) else g j
  let R3 : Part := ⟨fun b => match R2 b with | some ob => some ob | none => R' b, R2.nd⟩
  have hgg : g.le g3 := by
    intro j u hj
    show (if j ∈ news then g2 (j - base) else g j) = some u
    rw [if_neg (fun hm => by rw [hnews j hm] at hj; cases hj)]
    exact hj
  have hnm : ∀ h u, g2 h = some u → g3 (nm h) = some u := by
    intro h u hu
    have hid := X.dom h u hu
    by_cases hn : nm h = base + h
    · have : base + h ∈ news := List.mem_map.2 ⟨h, List.mem_filter.2 ⟨hid, by simp [hn]⟩, rfl⟩
      show (if nm h ∈ news then g2 (nm h - base) else g (nm h)) = some u
      rw [hn, if_pos this, Nat.add_sub_cancel_left]
      exact hu
    · -- it was handed in
      have : ∃ i, keptE sp.pre.ents h = true ∧ p.2.ren.lookup h = some (some i) ∧ nm h = i := by
        show ∃ i, _ ∧ _ ∧ newId sp.pre.ents p.2.ren base h = i
        have hn' : newId sp.pre.ents p.2.ren base h ≠ base + h := hn
        unfold newId at hn' ⊢
        cases hke : keptE sp.pre.ents h with
        | false => rw [hke] at hn'; exact absurd rfl hn'
        | true =>
          rw [hke] at hn'
          simp only [cond_true] at hn' ⊢
          split
          · exact ⟨_, trivial, by assumption, rfl⟩
          · rename_i hx
            exfalso
            apply hn'
            split
            · rename_i a2; exact absurd a2 (by intro e; exact hx _ e)
            · rfl
      obtain ⟨i, h1, h2, h3⟩ := this
      have hk := X.keep h h1 u hu
      rw [rg_bound h2] at hk
      rw [h3]
      exact hgg i u hk
  have hR2 : R2.le R3 := ⟨fun b ob hb => by
    show (match R2 b with | some ob => some ob | none => R' b) = some ob
    rw [hb], fun _ _ _ h => h⟩
  have hold : ∀ b ob, R' b = some ob → w2.heap[b]? = some ob := fun b ob hb => by
    rw [X.block b (hRlt b ob hb) (fun hs => by rw [(hS0R b hs).1] at hb; cases hb)]
    exact G.inv.sub b ob hb
  have hR1 : R'.le R3 := ⟨fun b ob hb => by
    show (match R2 b with | some ob => some ob | none => R' b) = some ob
    cases h2 : R2 b with
    | none => exact hb
    | some o2 =>
      have e1 := X.sub b o2 h2
      have e2 := hold b ob hb
      rw [e1] at e2
      exact e2, X.oldN⟩
  have hR3 : ∀ b ob, R3 b = some ob → R2 b = some ob ∨ R' b = some ob := fun b ob hb => by
    change (match R2 b with | some ob => some ob | none => R' b) = some ob at hb
    cases h2 : R2 b with
    | none => rw [h2] at hb; exact .inr hb
    | some o2 => rw [h2] at hb; exact .inl hb
  have hR3n : ∀ b, R2 b = none → R' b = none → R3 b = none := fun b h1 h2 => by
    show (match R2 b with | some ob => some ob | none => R' b) = none
    rw [h1]; exact h2
  let en1 := upds s.en p.2.log
  let ups := (q.1.es q.2).map fun e => (nm e.1, EnS.live (e.2.ren nm))
  let en2 := upds en1 ups
  have hkeys : ∀ h ∈ ids, ∃ e, (h, e) ∈ q.1.es q.2 := by
    intro h hm
    have : h ∈ (q.1.es q.2).map (·.1) := by
      show h ∈ ((mkE q.1.ents [] _).1).map (·.1)
      rw [mkE_fst]
      exact hm
    obtain ⟨⟨h', e⟩, hm', rfl⟩ := List.mem_map.1 this
    exact ⟨e, hm'⟩
  -- what an object of the new state is
  have hlive : ∀ j e, en2 j = .live e → (∃ h e0, (h, e0) ∈ q.1.es q.2 ∧ j = nm h ∧ e = e0.ren nm) ∨ (enS j = .live e ∧ ¬ cons j ∧ ∀ x, (j, x) ∉ ups) := by
    intro j e hj
    rcases upds_cases ups en1 j with h | ⟨h1, h2⟩
    · left
      change upds en1 ups j = .live e at hj
      rw [hj] at h
      obtain ⟨⟨h', e0⟩, hm, he⟩ := List.mem_map.1 h
      injection he with e1 e2
      injection e2 with e2
      exact ⟨h', e0, hm, e1.symm, e2.symm⟩
    · right
      change upds en1 ups j = .live e at hj
      rw [h1] at hj
      refine ⟨?_, fun hc => ?_, h2⟩
      · rcases G.log j with x | x
        · rw [← x]; exact hj
        · change upds s.en p.2.log j = _ at hj; rw [x] at hj; cases hj
      · have := (G.cons j hc).2.1
        change upds s.en p.2.log j = _ at hj
        rw [this] at hj
        cases hj
  have hnew : ∀ h e0, (h, e0) ∈ q.1.es q.2 → ∃ u, g2 h = some u ∧ g3 (nm h) = some u ∧ EntRel C.E R3 g3 w2 (e0.ren nm) u ∧ ∀ b, own R3 u b → R3 b = none ∧ C.mine b ∧ (w.heap.size ≤ b ∨ S0 b) := by
    intro h e0 hm
    obtain ⟨u, h1, h2, h3⟩ := X.ents (h, e0) hm
    refine ⟨u, h1, hnm h u h1, (h2.renm hnm).mono hR2 (Gh.le_refl _) (fun _ _ => rfl), fun b hb => ?_⟩
    obtain ⟨h4, h5⟩ := h3 b hb
    rcases h5 with h5 | h5
    · refine ⟨hR3n b h4 ?_, .inl (Nat.le_trans hr.inv.kept.size h5), .inl h5⟩
      cases hq : R' b with
      | none => rfl
      | some ob => have := hRlt b ob hq; omega
    · exact ⟨hR3n b h4 (hS0R b h5).1, (hS0R b h5).2, .inr h5⟩
  -- an old object's block is none of the callee's
  have hapart : ∀ j e u b, enS j = .live e → ¬ cons j → g j = some u → own R' u b → b < w.heap.size ∧ ¬ S0 b := by
    intro j e u b hj hc hg hb
    refine ⟨G.inv.own_lt hj hg hb, fun hs => ?_⟩
    obtain ⟨i, e', u', hci, hi, hgi, hbi⟩ := hS0 b hs
    exact G.inv.sep i j e' e u' u b (fun e => hc (e ▸ hci)) hi hj hgi hg hbi hb
  -- a pool that was handed in
  have hpool : ∀ e1 ∈ sp.pre.es p.1, e1.2.isPool = true → cons e1.1 ∧ C.PL e1.1 := by
    intro e1 he1 hp1
    obtain ⟨u1, h1, h2, h3, h4⟩ := hent e1 he1
    obtain ⟨ty, κ, xs, he⟩ : ∃ ty κ xs, e1.2 = .pool ty κ xs := by
      cases hx : e1.2 with
      | pool ty κ xs => exact ⟨ty, κ, xs, rfl⟩
      | cells => rw [hx] at hp1; cases hp1
      | segs => rw [hx] at hp1; cases hp1
      | mp => rw [hx] at hp1; cases hp1
      | it => rw [hx] at hp1; cases hp1
      | row => rw [hx] at hp1; cases hp1
    obtain ⟨_, hv⟩ := h4 ty κ xs he
    subst hv
    rcases h3 with ⟨i1, _, hc1, hg1⟩ | h3
    · obtain ⟨_, _, e', he'⟩ := G.cons i1 hc1
      obtain ⟨k1, ty', κ', xs', k2⟩ := G.inv.int_key he' hg1
      subst k1
      subst k2
      exact ⟨hc1, (G.inv.pl _ _ _ _ he').2.1⟩
    · cases h3
  -- nor does the call make it more
  have hnds : ∀ j e i b, enS j = .live e → ¬ cons j → R3.nd j i b → R'.nd j i b := by
    intro j e i b hj hc hn
    rcases X.newN j i b hn with hn | ⟨e1, he1, rfl, hp1⟩
    · exact hn
    · exact absurd (hpool e1 he1 hp1).1 hc
  have hown : ∀ j e u b, enS j = .live e → ¬ cons j → g j = some u → own R3 u b → own R' u b := by
    intro j e u b hj hc hg hb
    rcases hb with hb | ⟨k, i, rfl, hn⟩
    · exact .inl hb
    · have k2 := (G.inv.int_key hj hg).1
      subst k2
      exact .inr ⟨j, i, rfl, hnds j e i b hj hc hn⟩
  have hinv : Inv C R3 g3 en2 w2 := by
    refine ⟨fun b ob hb => ?_, fun j e hj => ?_, fun j κ xs hj => ?_, fun j hj => ?_, fun j e u b hj hg hb => ?_, fun j j' e e' u u' b hne hj hj' hg hg' hb hb' => ?_, fun b ob hb => ?_, ⟨X.os.trans hr.inv.kept.os, X.tape.trans hr.inv.kept.tape, X.output.trans hr.inv.kept.output, Nat.le_trans hr.inv.kept.size X.size, fun b hlt hs => ?_⟩, fun j u hj hu => ?_, fun j ty κ xs hj => ?_, fun k i b hn => X.oldN k i b (G.inv.oldN k i b hn), fun k i b hn => ?_⟩
    · rcases hR3 b ob hb with h | h
      · exact X.sub b ob h
      · exact hold b ob h
    · rcases hlive j e hj with ⟨h, e0, hm, rfl, rfl⟩ | ⟨h1, h2, _⟩
      · obtain ⟨u, _, h3, h4, _⟩ := hnew h e0 hm
        exact ⟨u, h3, h4⟩
      · obtain ⟨u, hu, hE⟩ := G.inv.live j e h1
        refine ⟨u, hgg j u hu, hE.mono hR1 hgg (fun b hb => ?_)⟩
        obtain ⟨q1, q2⟩ := hapart j e u b h1 h2 hu hb
        exact X.block b q1 q2
    · have hj' : enS j = .ro κ xs := by
        rcases upds_cases ups en1 j with h | ⟨h1, _⟩
        · change upds en1 ups j = _ at hj
          rw [hj] at h
          obtain ⟨_, _, he⟩ := List.mem_map.1 h
          injection he with _ he
          cases he
        · change upds en1 ups j = _ at hj
          rw [h1] at hj
          change upds s.en p.2.log j = _ at hj
          rcases G.log j with x | x
          · rw [← x]; exact hj
          · rw [x] at hj; cases hj
      obtain ⟨u, hu, hE⟩ := G.inv.ro j κ xs hj'
      exact ⟨u, hgg j u hu, K.Rd_mono hR1 (.list κ) xs _ hE⟩
    · rcases upds_cases ups en1 j with h | ⟨h1, h2⟩
      · change upds en1 ups j = _ at hj
        rw [hj] at h
        obtain ⟨_, _, he⟩ := List.mem_map.1 h
        injection he with _ he
        cases he
      · change upds en1 ups j = _ at hj
        rw [h1] at hj
        change upds s.en p.2.log j = _ at hj
        have hfr : enS j = .free := by
          rcases G.log j with x | x
          · rw [← x]; exact hj
          · rw [x] at hj; cases hj
        refine ⟨(G.inv.free j hfr).1, ?_⟩
        show (if j ∈ news then g2 (j - base) else g j) = none
        rw [if_neg (fun hm => ?_)]
        · exact (G.inv.free j hfr).2
        · obtain ⟨h, hh, rfl⟩ := List.mem_map.1 hm
          obtain ⟨hid, hn⟩ := List.mem_filter.1 hh
          rw [beq_iff_eq] at hn
          obtain ⟨e, he⟩ := hkeys h hid
          exact h2 (.live (e.ren nm)) (List.mem_map.2 ⟨(h, e), he, by rw [hn]⟩)
    · rcases hlive j e hj with ⟨h, e0, hm, rfl, rfl⟩ | ⟨h1, h2, _⟩
      · obtain ⟨u', _, h3, _, h5⟩ := hnew h e0 hm
        rw [hg] at h3
        injection h3 with h3
        subst h3
        exact ⟨(h5 b hb).1, (h5 b hb).2.1⟩
      · obtain ⟨u', hu', hE⟩ := G.inv.live j e h1
        have := hgg j u' hu'
        rw [hg] at this
        injection this with this
        subst this
        have hb := hown j e u b h1 h2 hu' hb
        obtain ⟨m1, m2⟩ := G.inv.mine j e u b h1 hu' hb
        obtain ⟨q1, q2⟩ := hapart j e u b h1 h2 hu' hb
        refine ⟨hR3n b ?_ m1, m2⟩
        cases hq : R2 b with
        | none => rfl
        | some ob =>
          rcases X.newR b ob hq with x | x | x
          · rw [m1] at x; cases x
          · omega
          · exact absurd x q2
    · rcases hlive j e hj with ⟨h, e0, hm, rfl, rfl⟩ | ⟨h1, h2, _⟩
      · obtain ⟨y, hy, h3, _, h5⟩ := hnew h e0 hm
        rw [hg] at h3
        injection h3 with h3
        subst h3
        rcases hlive j' e' hj' with ⟨h', e0', hm', rfl, rfl⟩ | ⟨h1', h2', _⟩
        · obtain ⟨y', hy', h3', _, _⟩ := hnew h' e0' hm'
          rw [hg'] at h3'
          injection h3' with h3'
          subst h3'
          exact X.sep (h, e0) hm (h', e0') hm' (fun e => hne (by simp only at e; rw [e])) u u' b hy hy' hb hb'
        · obtain ⟨y', hy', _⟩ := G.inv.live j' e' h1'
          have := hgg j' y' hy'
          rw [hg'] at this
          injection this with this
          subst this
          obtain ⟨q1, q2⟩ := hapart j' e' u' b h1' h2' hy' (hown j' e' u' b h1' h2' hy' hb')
          rcases (h5 b hb).2.2 with x | x
          · omega
          · exact q2 x
      · obtain ⟨y, hy, _⟩ := G.inv.live j e h1
        have := hgg j y hy
        rw [hg] at this
        injection this with this
        subst this
        rcases hlive j' e' hj' with ⟨h', e0', hm', rfl, rfl⟩ | ⟨h1', h2', _⟩
        · obtain ⟨y', hy', h3', _, h5⟩ := hnew h' e0' hm'
          rw [hg'] at h3'
          injection h3' with h3'
          subst h3'
          obtain ⟨q1, q2⟩ := hapart j e u b h1 h2 hy (hown j e u b h1 h2 hy hb)
          rcases (h5 b hb').2.2 with x | x
          · omega
          · exact q2 x
        · obtain ⟨y', hy', _⟩ := G.inv.live j' e' h1'
          have := hgg j' y' hy'
          rw [hg'] at this
          injection this with this
          subst this
          exact G.inv.sep j j' e e' u u' b hne h1 h1' hy hy' (hown j e u b h1 h2 hy hb) (hown j' e' u' b h1' h2' hy' hb')
    · rcases hR3 b ob hb with h | h
      · rcases X.newR b ob h with x | x | x
        · exact G.inv.newR b ob x
        · exact .inr (.inl (Nat.le_trans hr.inv.kept.size x))
        · exact .inr (hS0R b x).2
      · exact G.inv.newR b ob h
    · rw [X.block b (Nat.lt_of_lt_of_le hlt hr.inv.kept.size) (fun hx => ?_)]
      · exact hr.inv.kept.block b hlt hs
      · rcases (hS0R b hx).2 with x | x
        · omega
        · exact hs x
    · change (if j ∈ news then g2 (j - base) else g j) = some u at hu
      split at hu
      · rename_i hm
        have := (hr.inv.free _ (en_free hv (allFree_spec hfree _ hm))).1
        omega
      · exact hr.inv.keep j u hj hu
    · rcases hlive j _ hj with ⟨h, e0, hm, rfl, he⟩ | ⟨h1, h2, _⟩
      · have he0 := Ent.ren_pool he.symm
        have hfx : nm h = h := poolsFix_spec hpf (h, e0) hm (by rw [he0]; rfl)
        obtain ⟨q1, q2, e1, he1, k1, k2⟩ := X.pl (h, e0) hm ty κ xs he0
        have hg3 := hnm h _ q2
        rw [hfx] at hg3 ⊢
        have hPL := (hpool e1 he1 k2).2
        rw [k1] at hPL
        exact ⟨hg3, hPL, q1⟩
      · obtain ⟨q1, q2, q3⟩ := G.inv.pl j ty κ xs h1
        refine ⟨hgg j _ q1, q2, fun i b hn => ?_⟩
        obtain ⟨m1, m2⟩ := q3 i b (hnds j _ i b h1 h2 hn)
        exact ⟨m1, fun i' b' hn' => m2 i' b' (hnds j _ i' b' h1 h2 hn')⟩
    · rcases X.newN k i b hn with hn | ⟨e1, he1, rfl, hp1⟩
      · exact G.inv.newN k i b hn
      · exact .inr (hpool e1 he1 hp1).2
  refine hr.app (δ := callDelta sp base p q) hd (hRR.trans hR1) hgg ?_ (some_r (retSV_rel ?_))
  · show Inv C R3 g3 (upds s.en (p.2.log ++ ups)) w2
    rw [upds_app]
    exact hinv
  · exact All2.map1 (All2.imp (fun _ _ x => RVRel.mono hR2 (Gh.le_refl _) (RVRel.renm hnm x)) X.vals)
/-! ### what is lent -/
abbrev whole (w : World) (R : Part) : Part := ⟨fun b => w.heap[b]?, R.nd⟩
theorem Rel.le_whole {s : VSt} {a : Act} {w : World} {R : Part} {g : Gh} (hr : Rel C s a w R g) : R.le (whole w R) := ⟨fun b o h => hr.inv.sub b o h, fun _ _ _ h => h⟩
theorem Els.whole {E : TypeId} {R : Part} {w : World} {κ : K} {xs : List κ.T} {u : Value} (h : Els E R w κ xs u) (hR : R.le (Sx.whole w R)) : (K.list κ).Rd E (Sx.whole w R) xs [u] := by
  obtain ⟨A, c, rfl, h1, h2, h3⟩ := h
  refine ⟨A, c, rfl, ⟨h1, h2⟩, fun hne => ?_⟩
  obtain ⟨b, off, arr, ty, fr, hA, hb, hj⟩ := h3 hne
  exact ⟨b, off, arr, ty, fr, hA, hb, fun j x hx => K.Rd_mono hR κ x _ (hj j x hx)⟩
theorem peekDat_sound {s : VSt} {a : Act} {w : World} {R : Part} {g : Gh} (hv : View v s) (hr : Rel C s a w R g) : ∀ {κ : K} {c : CV} {x : κ.T} {u : Value}, peekDat v.en κ c = some x → CVRel C.E R g c u → κ.Rd C.E (whole w R) x [u] := by
  intro κ c x u h hc
  have base : ∀ (κ : K) (x : κ.T), (∃ κ' y, c = .dat κ' y ∧ K.conv κ' κ y = some x) → κ.Rd C.E (whole w R) x [u] := by
    rintro κ x ⟨κ', y, rfl, hy⟩
    obtain ⟨e, hy⟩ := K.conv_eq hy
    subst e
    subst hy
    exact K.Rd_mono hr.le_whole _ _ _ hc
  cases κ with
  | list b => exact (elems_sound hv hr h hc).whole hr.le_whole
  | int k => cases c <;> simp only [peekDat, reduceCtorEq] at h; exact base _ _ ⟨_, _, rfl, h⟩
  | bool => cases c <;> simp only [peekDat, reduceCtorEq] at h; exact base _ _ ⟨_, _, rfl, h⟩
  | str => cases c <;> simp only [peekDat, reduceCtorEq] at h; exact base _ _ ⟨_, _, rfl, h⟩
  | err => cases c <;> simp only [peekDat, reduceCtorEq] at h; exact base _ _ ⟨_, _, rfl, h⟩
  | unit => cases c <;> simp only [peekDat, reduceCtorEq] at h; exact base _ _ ⟨_, _, rfl, h⟩
  | pair a b => cases c <;> simp only [peekDat, reduceCtorEq] at h; exact base _ _ ⟨_, _, rfl, h⟩
  | arr n a => cases c <;> simp only [peekDat, reduceCtorEq] at h; exact base _ _ ⟨_, _, rfl, h⟩
  | nd q => cases c <;> simp only [peekDat, reduceCtorEq] at h; exact base _ _ ⟨_, _, rfl, h⟩
  | js => cases c <;> simp only [peekDat, reduceCtorEq] at h; exact base _ _ ⟨_, _, rfl, h⟩
theorem peek1_sound {s : VSt} {a : Act} {w : World} {R : Part} {g : Gh} (hv : View v s) (hr : Rel C s a w R g) (κ : K) (cs : List CV) (us : List Value) (hc : All2 (CVRel C.E R g) cs us) (p : κ.T × List CV) (hp : peek1 v.en κ cs = some p) :
    ∃ u us', us = u :: us' ∧ κ.Rd C.E (whole w R) p.1 [u] ∧ All2 (CVRel C.E R g) p.2 us' := by
  cases hc with
  | nil => cases hp
  | cons hx hrs =>
    simp only [peek1, Option.map_eq_some_iff] at hp
    obtain ⟨x, hx', rfl⟩ := hp
    exact ⟨_, _, rfl, peekDat_sound hv hr hx' hx, hrs⟩
theorem peekL_sound {s : VSt} {a : Act} {w : World} {R : Part} {g : Gh} (hv : View v s) (hr : Rel C s a w R g) : ∀ (κ : K) (cs : List CV) (us : List Value), All2 (CVRel C.E R g) cs us → ∀ p : κ.T × List CV, peekL v.en κ cs = some p →
    ∃ u1 u2, us = u1 ++ u2 ∧ κ.Rd C.E (whole w R) p.1 u1 ∧ All2 (CVRel C.E R g) p.2 u2 := by
  intro κ
  have base : ∀ (κ : K) (cs : List CV) (us : List Value), All2 (CVRel C.E R g) cs us → ∀ p : κ.T × List CV, (match cs with | [] => none | c :: r => (peekDat v.en κ c).map fun x => (x, r)) = some p →
      ∃ u1 u2, us = u1 ++ u2 ∧ κ.Rd C.E (whole w R) p.1 u1 ∧ All2 (CVRel C.E R g) p.2 u2 := by
    intro κ cs us hc p hp
    cases hc with
    | nil => cases hp
    | cons hx hrest =>
      rename_i c u cs us
      simp only [Option.map_eq_some_iff] at hp
      obtain ⟨x, hx', rfl⟩ := hp
      exact ⟨[u], us, rfl, peekDat_sound hv hr hx' hx, hrest⟩
  induction κ with
  | pair a b iha ihb =>
    intro cs us hc p hp
    simp only [peekL, Option.bind_eq_some_iff, Option.map_eq_some_iff] at hp
    obtain ⟨p1, h1, p2, h2, rfl⟩ := hp
    obtain ⟨u1, u2, rfl, r1, hc2⟩ := iha cs us hc p1 h1
    obtain ⟨u3, u4, rfl, r2, hc3⟩ := ihb p1.2 u2 hc2 p2 h2
    exact ⟨u1 ++ u3, u4, by simp, ⟨u1, u3, rfl, r1, r2⟩, hc3⟩
  | unit =>
    intro cs us hc p hp
    simp only [peekL, Option.some.injEq] at hp
    subst hp
    exact ⟨[], us, rfl, rfl, hc⟩
  | int k => intro cs us hc p hp; exact base _ cs us hc p (by cases cs <;> exact hp)
  | bool => intro cs us hc p hp; exact base _ cs us hc p (by cases cs <;> exact hp)
  | str => intro cs us hc p hp; exact base _ cs us hc p (by cases cs <;> exact hp)
  | err => intro cs us hc p hp; exact base _ cs us hc p (by cases cs <;> exact hp)
  | list a _ => intro cs us hc p hp; exact base _ cs us hc p (by cases cs <;> exact hp)
  | arr n a _ => intro cs us hc p hp; exact base _ cs us hc p (by cases cs <;> exact hp)
  | nd q => intro cs us hc p hp; exact base _ cs us hc p (by cases cs <;> exact hp)
  | js =>
    intro cs us hc p hp
    simp only [peekL, Option.bind_eq_some_iff, Option.some.injEq] at hp
    obtain ⟨p1, e1, p2, e2, p3, e3, p4, e4, p5, e5, p6, e6, p7, e7, rfl⟩ := hp
    obtain ⟨v1, w1, rfl, h1, r1⟩ := peek1_sound hv hr _ cs us hc p1 e1
    obtain ⟨v2, w2, rfl, h2, r2⟩ := peek1_sound hv hr _ _ _ r1 p2 e2
    obtain ⟨v3, w3, rfl, h3, r3⟩ := peek1_sound hv hr _ _ _ r2 p3 e3
    obtain ⟨v4, w4, rfl, h4, r4⟩ := peek1_sound hv hr _ _ _ r3 p4 e4
    obtain ⟨v5, w5, rfl, h5, r5⟩ := peek1_sound hv hr _ _ _ r4 p5 e5
    obtain ⟨v6, w6, rfl, h6, r6⟩ := peek1_sound hv hr _ _ _ r5 p6 e6
    obtain ⟨v7, w7, rfl, h7, r7⟩ := peek1_sound hv hr _ _ _ r6 p7 e7
    exact ⟨[v1, v2, v3, v4, v5, v6, v7], w7, rfl, js_rd.2 ⟨v1, v2, v3, v4, v5, v6, v7, rfl, h1, h2, h3, h4, h5, h6, h7⟩, r7⟩
theorem peekSg_sound {s : VSt} {a : Act} {w : World} {R : Part} {g : Gh} (hv : View v s) (hr : Rel C s a w R g) : ∀ (κ : K) (cs : List Seg) (us : List Value), SegsRel C.E R g cs us → ∀ p : κ.T × List Seg, peekSg v.en κ cs = some p →
    ∃ u1 u2, us = u1 ++ u2 ∧ κ.Rd C.E (whole w R) p.1 u1 ∧ SegsRel C.E R g p.2 u2 := by
  intro κ
  have base : ∀ (κ : K) (cs : List Seg) (us : List Value), SegsRel C.E R g cs us → ∀ p : κ.T × List Seg, (match cs with | [] => none | .one c :: r => (peekDat v.en κ c).map fun x => (x, r) | .blk κ' x :: r => (K.conv κ' κ x).map fun y => (y, r)) = some p →
      ∃ u1 u2, us = u1 ++ u2 ∧ κ.Rd C.E (whole w R) p.1 u1 ∧ SegsRel C.E R g p.2 u2 := by
    intro κ cs us hc p hp
    cases hc with
    | nil => cases hp
    | one hx hrest =>
      simp only [Option.map_eq_some_iff] at hp
      obtain ⟨x, hx', rfl⟩ := hp
      exact ⟨[_], _, rfl, peekDat_sound hv hr hx' hx, hrest⟩
    | blk hx hrest =>
      simp only [Option.map_eq_some_iff] at hp
      obtain ⟨y, hy, rfl⟩ := hp
      obtain ⟨e, hy⟩ := K.conv_eq hy
      subst e
      subst hy
      exact ⟨_, _, rfl, K.Rd_mono hr.le_whole _ _ _ hx, hrest⟩
  induction κ with
  | pair a b iha ihb =>
    intro cs us hc p hp
    simp only [peekSg, Option.bind_eq_some_iff, Option.map_eq_some_iff] at hp
    obtain ⟨p1, h1, p2, h2, rfl⟩ := hp
    obtain ⟨u1, u2, rfl, r1, hc2⟩ := iha cs us hc p1 h1
    obtain ⟨u3, u4, rfl, r2, hc3⟩ := ihb p1.2 u2 hc2 p2 h2
    exact ⟨u1 ++ u3, u4, by simp, ⟨u1, u3, rfl, r1, r2⟩, hc3⟩
  | unit =>
    intro cs us hc p hp
    simp only [peekSg, Option.some.injEq] at hp
    subst hp
    exact ⟨[], us, rfl, rfl, hc⟩
  | int k => intro cs us hc p hp; exact base _ cs us hc p (by rcases cs with _ | ⟨_ | _, _⟩ <;> exact hp)
  | bool => intro cs us hc p hp; exact base _ cs us hc p (by rcases cs with _ | ⟨_ | _, _⟩ <;> exact hp)
  | str => intro cs us hc p hp; exact base _ cs us hc p (by rcases cs with _ | ⟨_ | _, _⟩ <;> exact hp)
  | err => intro cs us hc p hp; exact base _ cs us hc p (by rcases cs with _ | ⟨_ | _, _⟩ <;> exact hp)
  | list a _ => intro cs us hc p hp; exact base _ cs us hc p (by rcases cs with _ | ⟨_ | _, _⟩ <;> exact hp)
  | arr n a _ => intro cs us hc p hp; exact base _ cs us hc p (by rcases cs with _ | ⟨_ | _, _⟩ <;> exact hp)
  | nd q => intro cs us hc p hp; exact base _ cs us hc p (by rcases cs with _ | ⟨_ | _, _⟩ <;> exact hp)
  | js => intro cs us hc p hp; exact base _ cs us hc p (by rcases cs with _ | ⟨_ | _, _⟩ <;> exact hp)
theorem CSh.peek_sound {s : VSt} {a : Act} {w : World} {R : Part} {g : Gh} (hv : View v s) (hr : Rel C s a w R g) {r : List K} {c : CSh} {cv : CV} {u : Value} (hc : CVRel C.E R g cv u) {k : Tup r → Tup (c.ks r)} (hk : c.peek r v.en cv = some k) (g0 : Gh) :
    ∀ t, (c.mk r (k t)).2 = t ∧ CVRel C.E (whole w R) g0 (c.mk r (k t)).1 u := by
  intro t
  cases c with
  | dat κ =>
    simp only [CSh.peek, Option.map_eq_some_iff] at hk
    obtain ⟨x, hx, rfl⟩ := hk
    refine ⟨Tup.tl_cons κ r x t, ?_⟩
    show CVRel C.E (whole w R) g0 (.dat κ (Tup.hd κ r (Tup.cons κ r x t))) u
    rw [Tup.hd_cons]
    exact peekDat_sound hv hr hx hc
  | ref κ =>
    have fin : ∀ x : κ.T, CVRel C.E (whole w R) g0 (.roA κ x) u → k = (fun t => Tup.cons κ r x t) → ((CSh.ref κ).mk r (k t)).2 = t ∧ CVRel C.E (whole w R) g0 ((CSh.ref κ).mk r (k t)).1 u := by
      rintro x hx rfl
      refine ⟨Tup.tl_cons κ r x t, ?_⟩
      show CVRel C.E (whole w R) g0 (.roA κ (Tup.hd κ r (Tup.cons κ r x t))) u
      rw [Tup.hd_cons]
      exact hx
    cases cv <;> simp only [CSh.peek, reduceCtorEq] at hk
    · rename_i h off
      split at hk
      · rename_i ty cs hen
        split at hk
        · rename_i h0
          subst h0
          simp only [Option.bind_eq_some_iff] at hk
          obtain ⟨p, hp, hk⟩ := hk
          split at hk
          · rename_i hnil
            injection hk with hk
            obtain ⟨b, hg, e⟩ := hc
            obtain ⟨arr, fr, h1, h2, h3⟩ := live_cells hr (en_live hv hen) hg
            obtain ⟨u1, u2, e1, r1, hc2⟩ := peekL_sound hv hr κ cs arr.toList h3 p hp
            rw [hnil] at hc2
            cases hc2
            rw [List.append_nil] at e1
            refine fin p.1 ⟨b, 0, arr, ty, fr, h1, e, ?_⟩ hk.symm
            rw [List.drop_zero, e1, List.take_of_length_le (by rw [K.Rd_len κ _ _ r1]; exact Nat.le_refl _)]
            exact r1
          · cases hk
        · cases hk
      · rename_i ty ss hen
        split at hk
        · rename_i h0
          subst h0
          simp only [Option.bind_eq_some_iff] at hk
          obtain ⟨p, hp, hk⟩ := hk
          split at hk
          · rename_i hnil
            injection hk with hk
            obtain ⟨b, hg, e⟩ := hc
            obtain ⟨arr, fr, h1, h2, h3⟩ := live_segs hr (en_live hv hen) hg
            obtain ⟨u1, u2, e1, r1, hc2⟩ := peekSg_sound hv hr κ ss arr.toList h3 p hp
            rw [hnil] at hc2
            cases hc2
            rw [List.append_nil] at e1
            refine fin p.1 ⟨b, 0, arr, ty, fr, h1, e, ?_⟩ hk.symm
            rw [List.drop_zero, e1, List.take_of_length_le (by rw [K.Rd_len κ _ _ r1]; exact Nat.le_refl _)]
            exact r1
          · cases hk
        · cases hk
      · cases hk
    · rename_i κ' x'
      simp only [Option.map_eq_some_iff] at hk
      obtain ⟨y, hy, hk⟩ := hk
      obtain ⟨e, hy⟩ := K.conv_eq hy
      subst e
      subst hy
      exact fin _ (CVRel.mono (g := g0) (g' := g0) hr.le_whole (Gh.le_refl _) (by obtain ⟨b, off, arr, ty, fr, q1, q2, q3⟩ := hc; exact ⟨b, off, arr, ty, fr, q1, q2, q3⟩)) hk.symm
  | nilp =>
    cases cv <;> simp only [CSh.peek, Option.some.injEq, reduceCtorEq] at hk
    subst hk
    exact ⟨rfl, hc⟩
  | nils =>
    cases cv <;> simp only [CSh.peek, Option.some.injEq, reduceCtorEq] at hk
    subst hk
    exact ⟨rfl, hc⟩
  | nilm =>
    cases cv <;> simp only [CSh.peek, Option.some.injEq, reduceCtorEq] at hk
    subst hk
    exact ⟨rfl, hc⟩
  | fnc fid =>
    cases cv <;> simp only [CSh.peek, reduceCtorEq] at hk
    split at hk
    · rename_i e
      subst e
      injection hk with hk
      subst hk
      exact ⟨rfl, hc⟩
    · cases hk
  | errc n =>
    cases cv <;> simp only [CSh.peek, reduceCtorEq] at hk
    rename_i κ x
    cases κ <;> simp only [CSh.peek, reduceCtorEq] at hk
    split at hk
    · rename_i e
      obtain rfl : x = n := by simpa [errEq] using e
      simp only [Option.some.injEq] at hk
      subst hk
      exact ⟨rfl, hc⟩
    · cases hk
  | boolc b =>
    cases cv <;> simp only [CSh.peek, reduceCtorEq] at hk
    rename_i κ x
    cases κ <;> simp only [CSh.peek, reduceCtorEq] at hk
    split at hk
    · rename_i e
      obtain rfl : x = b := by simpa [boolEq] using e
      simp only [Option.some.injEq] at hk
      subst hk
      exact ⟨rfl, hc⟩
    · cases hk
  | ptr => cases cv <;> simp [CSh.peek] at hk
  | clo => cases cv <;> simp [CSh.peek] at hk
  | own => cases cv <;> simp [CSh.peek] at hk
  | arr => cases cv <;> simp [CSh.peek] at hk
  | slf => cases cv <;> simp [CSh.peek] at hk
  | oel => cases cv <;> simp [CSh.peek] at hk
  | nn => cases cv <;> simp [CSh.peek] at hk
  | ful => cases cv <;> simp [CSh.peek] at hk
  | part => cases cv <;> simp [CSh.peek] at hk
  | nl => cases cv <;> simp [CSh.peek] at hk
theorem peekCs_sound {s : VSt} {a : Act} {w : World} {R : Part} {g : Gh} (hv : View v s) (hr : Rel C s a w R g) (g0 : Gh) : ∀ (cs : List CSh) (r : List K) (cvs : List CV) (us : List Value), All2 (CVRel C.E R g) cvs us → ∀ k : Tup r → Tup (ksL cs r), peekCs r v.en cs cvs = some k →
    ∀ t, (mkL cs r (k t)).2 = t ∧ All2 (CVRel C.E (whole w R) g0) (mkL cs r (k t)).1 us := by
  intro cs
  induction cs with
  | nil =>
    intro r cvs us hc k hk t
    cases hc with
    | nil =>
      simp only [peekCs, Option.some.injEq] at hk
      subst hk
      exact ⟨rfl, .nil⟩
    | cons => simp [peekCs] at hk
  | cons c cs ih =>
    intro r cvs us hc k hk t
    cases hc with
    | nil => simp [peekCs] at hk
    | cons hx hrest =>
      simp only [peekCs, Option.bind_eq_some_iff, Option.map_eq_some_iff] at hk
      obtain ⟨p, hp, q, hq, rfl⟩ := hk
      obtain ⟨h1, h2⟩ := CSh.peek_sound hv hr hx hp g0 (q t)
      obtain ⟨h3, h4⟩ := ih r _ _ hrest q hq t
      refine ⟨?_, ?_⟩
      · show (mkL cs r (c.mk (ksL cs r) (p (q t))).2).2 = t
        rw [h1]; exact h3
      · show All2 _ ((c.mk (ksL cs r) (p (q t))).1 :: (mkL cs r (c.mk (ksL cs r) (p (q t))).2).1) _
        rw [h1]; exact .cons h2 h4
theorem peekSs_sound {s : VSt} {a : Act} {w : World} {R : Part} {g : Gh} (hv : View v s) (hr : Rel C s a w R g) (g0 : Gh) : ∀ (cs : List SSh) (r : List K) (cvs : List Seg) (us : List Value), SegsRel C.E R g cvs us → ∀ k : Tup r → Tup (ksS cs r), peekSs r v.en cs cvs = some k →
    ∀ t, (mkS cs r (k t)).2 = t ∧ SegsRel C.E (whole w R) g0 (mkS cs r (k t)).1 us := by
  intro cs
  induction cs with
  | nil =>
    intro r cvs us hc k hk t
    cases hc with
    | nil =>
      simp only [peekSs, Option.some.injEq] at hk
      subst hk
      exact ⟨rfl, .nil⟩
    | one => simp [peekSs] at hk
    | blk => simp [peekSs] at hk
  | cons c cs ih =>
    intro r cvs us hc k hk t
    cases cvs with
    | nil => simp [peekSs] at hk
    | cons sg cvs =>
      obtain ⟨v1, v2, rfl, hx, hrest⟩ := hc.uncons
      simp only [peekSs, Option.bind_eq_some_iff, Option.map_eq_some_iff] at hk
      obtain ⟨p, hp, q, hq, rfl⟩ := hk
      have one : (c.mk (ksS cs r) (p (q t))).2 = q t ∧ SegsRel C.E (whole w R) g0 [(c.mk (ksS cs r) (p (q t))).1] v1 := by
        cases c with
        | one y =>
          cases sg with
          | one z =>
            cases hx with
            | one h hn =>
              cases hn
              obtain ⟨h1, h2⟩ := CSh.peek_sound hv hr h hp g0 (q t)
              exact ⟨h1, .one h2 .nil⟩
          | blk => simp [SSh.peek] at hp
        | blk κ =>
          cases sg with
          | one z => simp [SSh.peek] at hp
          | blk κ' z =>
            simp only [SSh.peek, Option.map_eq_some_iff] at hp
            obtain ⟨y, hy, rfl⟩ := hp
            obtain ⟨e, hy⟩ := K.conv_eq hy
            subst e
            subst hy
            refine ⟨Tup.tl_cons _ _ y _, ?_⟩
            show SegsRel C.E (whole w R) g0 [.blk _ (Tup.hd _ _ (Tup.cons _ _ y (q t)))] v1
            rw [Tup.hd_cons]
            cases hx with
            | blk h hn =>
              cases hn
              exact .blk (K.Rd_mono hr.le_whole _ _ _ h) .nil
      obtain ⟨h3, h4⟩ := ih r _ _ hrest q hq t
      refine ⟨?_, ?_⟩
      · show (mkS cs r (c.mk (ksS cs r) (p (q t))).2).2 = t
        rw [one.1]; exact h3
      · show SegsRel _ _ _ ((c.mk (ksS cs r) (p (q t))).1 :: (mkS cs r (c.mk (ksS cs r) (p (q t))).2).1) _
        rw [one.1]; exact SegsRel.app one.2 h4
theorem peekR_sound {s : VSt} {a : Act} {w : World} {R : Part} {g : Gh} (hv : View v s) (hr : Rel C s a w R g) (g0 : Gh) : ∀ (cs : List RSh) (r : List K) (rvs : List RV) (us : List Value), All2 (RVRel C.E R g) rvs us → ∀ k : Tup r → Tup (ksR cs r), peekR r v.en cs rvs = some k →
    ∀ t, (mkR cs r (k t)).2 = t ∧ All2 (RVRel C.E (whole w R) g0) (mkR cs r (k t)).1 us := by
  intro cs
  induction cs with
  | nil =>
    intro r rvs us hc k hk t
    cases hc with
    | nil =>
      simp only [peekR, Option.some.injEq] at hk
      subst hk
      exact ⟨rfl, .nil⟩
    | cons => simp [peekR] at hk
  | cons c cs ih =>
    intro r rvs us hc k hk t
    cases hc with
    | nil => simp [peekR] at hk
    | cons hx hrest =>
      simp only [peekR, Option.bind_eq_some_iff, Option.map_eq_some_iff] at hk
      obtain ⟨p, hp, q, hq, rfl⟩ := hk
      obtain ⟨h3, h4⟩ := ih r _ _ hrest q hq t
      rename_i rv us0 _ _
      have one : ((c.mk (ksR cs r) (p (q t))).2 = q t) ∧ RVRel C.E (whole w R) g0 (c.mk (ksR cs r) (p (q t))).1 us0 := by
        cases c with
        | c y =>
          cases rv with
          | a => simp [RSh.peek] at hp
          | sg => simp [RSh.peek] at hp
          | c cv => exact CSh.peek_sound hv hr hx hp g0 (q t)
        | sg ys =>
          cases rv with
          | c => simp [RSh.peek] at hp
          | a => simp [RSh.peek] at hp
          | sg cvs =>
            obtain ⟨vs, e, hvs⟩ := hx
            obtain ⟨q1, q2⟩ := peekSs_sound hv hr g0 ys _ cvs vs hvs p hp (q t)
            exact ⟨q1, vs, e, q2⟩
        | a ys =>
          cases rv with
          | c => simp [RSh.peek] at hp
          | sg => simp [RSh.peek] at hp
          | a cvs =>
            obtain ⟨vs, e, hvs⟩ := hx
            obtain ⟨q1, q2⟩ := peekCs_sound hv hr g0 ys _ cvs vs hvs p hp (q t)
            exact ⟨q1, vs, e, q2⟩
      refine ⟨?_, ?_⟩
      · show (mkR cs r (c.mk (ksR cs r) (p (q t))).2).2 = t
        rw [one.1]; exact h3
      · show All2 _ ((c.mk (ksR cs r) (p (q t))).1 :: (mkR cs r (c.mk (ksR cs r) (p (q t))).2).1) _
        rw [one.1]; exact .cons one.2 h4
/-! what does not hang on what is read only. -/
theorem flat_rd {E : TypeId} {R R' : Part} : ∀ (κ : K) (x : κ.T) (cs : List Value), κ.flat = true → κ.Rd E R x cs → κ.Rd E R' x cs
  | .int _, _, _, _, h => h
  | .bool, _, _, _, h => h
  | .str, _, _, _, h => h
  | .err, _, _, _, h => h
  | .unit, _, _, _, h => h
  | .pair a b, x, cs, hf, h => by
    simp only [K.flat, Bool.and_eq_true] at hf
    obtain ⟨c1, c2, e, h1, h2⟩ := h
    exact ⟨c1, c2, e, flat_rd a _ _ hf.1 h1, flat_rd b _ _ hf.2 h2⟩
  | .arr n a, x, cs, hf, h => ⟨h.1, h.2.1, h.2.2.1, fun j y hy => flat_rd a _ _ hf (h.2.2.2 j y hy)⟩
theorem flat_cv {E : TypeId} {R R' : Part} {g : Gh} {c : CSh} {r : List K} {x : Tup (c.ks r)} {u : Value} (hf : c.flat = true) (h : CVRel E R g (c.mk r x).1 u) : CVRel E R' g (c.mk r x).1 u := by
  cases c with
  | dat κ => exact flat_rd κ _ _ hf h
  | nn => simp [CSh.flat] at hf
  | nl => simp [CSh.flat] at hf
  | ref => simp [CSh.flat] at hf
  | ful => simp [CSh.flat] at hf
  | errc => exact h
  | boolc => exact h
  | _ => exact h
theorem flat_cvs {E : TypeId} {R R' : Part} {g : Gh} : ∀ {cs : List CSh} {r : List K} {x : Tup (ksL cs r)} {us : List Value}, cs.all CSh.flat = true → All2 (CVRel E R g) (mkL cs r x).1 us → All2 (CVRel E R' g) (mkL cs r x).1 us
  | [], _, _, _, _, h => by cases h; exact .nil
  | c :: cs, r, x, us, hf, h => by
    simp only [List.all_cons, Bool.and_eq_true] at hf
    cases h with
    | cons hx hr => exact .cons (flat_cv hf.1 hx) (flat_cvs hf.2 hr)
theorem flat_sgs {E : TypeId} {R R' : Part} {g : Gh} : ∀ {cs : List SSh} {r : List K} {x : Tup (ksS cs r)} {us : List Value}, cs.all SSh.flat = true → SegsRel E R g (mkS cs r x).1 us → SegsRel E R' g (mkS cs r x).1 us
  | [], _, _, _, _, h => by cases h; exact .nil
  | c :: cs, r, x, us, hf, h => by
    simp only [List.all_cons, Bool.and_eq_true] at hf
    obtain ⟨v1, v2, rfl, hx, hr⟩ := SegsRel.uncons h
    refine SegsRel.app (ss := [_]) ?_ (flat_sgs hf.2 hr)
    cases c with
    | one y =>
      cases hx with
      | one h1 hn => cases hn; exact .one (flat_cv hf.1 h1) .nil
    | blk κ =>
      cases hx with
      | blk h1 hn => cases hn; exact .blk (flat_rd _ _ _ hf.1 h1) .nil
theorem flat_rvs {E : TypeId} {R R' : Part} {g : Gh} : ∀ {cs : List RSh} {r : List K} {x : Tup (ksR cs r)} {us : List Value}, cs.all RSh.flat = true → All2 (RVRel E R g) (mkR cs r x).1 us → All2 (RVRel E R' g) (mkR cs r x).1 us
  | [], _, _, _, _, h => by cases h; exact .nil
  | c :: cs, r, x, us, hf, h => by
    simp only [List.all_cons, Bool.and_eq_true] at hf
    cases h with
    | cons hx hr =>
      refine .cons ?_ (flat_rvs hf.2 hr)
      cases c with
      | c y => exact flat_cv hf.1 hx
      | a ys =>
        obtain ⟨vs, e, hvs⟩ := hx
        exact ⟨vs, e, flat_cvs hf.1 hvs⟩
      | sg ys =>
        obtain ⟨vs, e, hvs⟩ := hx
        exact ⟨vs, e, flat_sgs hf.1 hvs⟩
theorem flat_ent {E : TypeId} {R R' : Part} {g : Gh} {w : World} {e : ESh} {r : List K} {x : Tup (e.ks r)} {u : Value} (hf : e.flat = true) (h : EntRel E R g w (e.mk r x).1 u) : EntRel E R' g w (e.mk r x).1 u := by
  cases e with
  | cells ty cs =>
    obtain ⟨b, arr, fr, h1, h2, h3, h4⟩ := h
    exact ⟨b, arr, fr, h1, h2, h3, flat_cvs hf h4⟩
  | segs ty cs =>
    obtain ⟨b, arr, fr, h1, h2, h3, h4⟩ := h
    exact ⟨b, arr, fr, h1, h2, h3, flat_sgs hf h4⟩
  | it => exact h
  | pool ty κ => cases hf
  | mp κk κv =>
    obtain ⟨b, es, clk, h1, h2, h3⟩ := h
    simp only [ESh.flat, Bool.and_eq_true] at hf
    exact ⟨b, es, clk, h1, h2, h3.imp fun _ _ h => ⟨⟨flat_rd κk _ _ hf.1 h.1.1, h.1.2⟩, ⟨flat_rd κv _ _ hf.2 h.2.1, h.2.2⟩⟩⟩
  | row ety κ =>
    rcases h with h | ⟨b, c, arr, fr, h1, h2, h3, h4, h5, h6, h7, h8⟩
    · exact .inl h
    · exact .inr ⟨b, c, arr, fr, h1, h2, h3, h4, h5, h6, h7, fun j x hx => flat_rd κ _ _ hf (h8 j x hx)⟩
theorem flat_ents {E : TypeId} {R R' : Part} {g : Gh} {w : World} : ∀ {es : List (Nat × ESh)} {r : List K} {x : Tup (ksE es r)}, (es.all fun e => e.2.flat) = true → ∀ p ∈ (mkE es r x).1, ∀ u, EntRel E R g w p.2 u → EntRel E R' g w p.2 u
  | [], _, _, _, p, hp, _, _ => by cases hp
  | e :: es, r, x, hf, p, hp, u, h => by
    simp only [List.all_cons, Bool.and_eq_true] at hf
    rcases List.mem_cons.1 hp with rfl | hp
    · exact flat_ent hf.1 h
    · exact flat_ents hf.2 p hp u h
theorem altS_mem : ∀ (l : List Shape) (y : AltT l), (altS l y).1 ∈ l
  | [], y => nomatch y
  | [s], y => by simp [altS]
  | s :: t :: r, .inl a => by simp [altS]
  | s :: t :: r, .inr b => List.mem_cons_of_mem _ (altS_mem (t :: r) b)
/-- what a call leaves that was only lent what it was handed. -/
theorem Exited.shrink {E : TypeId} {vals : List RSh} {x : (⟨vals, []⟩ : Shape).T} {w : World} {R : Part} {q : (s : Shape) × s.T} {R2 : Part} {g2 : Gh} {us : List Value} {w2 : World} (hR : R.le (whole w R)) (hf : q.1.flat = true)
    (X : Exited E ⟨vals, []⟩ x w (whole w R) (fun _ => none) q R2 g2 us w2) : Exited E ⟨vals, []⟩ x w R (fun _ => none) q R g2 us w2 := by
  simp only [Shape.flat, Bool.and_eq_true] at hf
  have hS : ∀ R0 b, ¬ S0of R0 (fun _ => none) ((⟨vals, []⟩ : Shape).es x) b := by
    rintro R0 b ⟨h, e, v, hm, hg, _⟩; cases hg
  have hown : ∀ v b, own R v b → own R2 v b := by
    rintro v b (h | ⟨p, j, e, h⟩)
    · exact .inl h
    · exact .inr ⟨p, j, e, X.oldN p j b h⟩
  have hlt : ∀ b o, R b = some o → b < w.heap.size := fun b o h => (Array.getElem?_eq_some_iff.1 (hR b o h)).1
  refine ⟨fun b o h => (X.block b (hlt b o h) (hS _ b)).trans (hR b o h), flat_rvs hf.1 X.vals, fun p hp => ?_, fun p hp p' hp' hn v v' b g1 g2 h1 h2 => X.sep p hp p' hp' hn v v' b g1 g2 (hown v b h1) (hown v' b h2), fun p hp ty κ xs e => ?_, fun _ _ _ h => h, fun _ _ _ h => .inl h, X.dom, fun b o h => .inl h, X.os, X.tape, X.output, X.size, fun b hb _ => X.block b hb (hS _ b), X.keep⟩
  case refine_2 =>
    obtain ⟨_, _, e1, he1, _⟩ := X.pl p hp ty κ xs e
    exact absurd he1 (by simp [Shape.es, mkE])
  obtain ⟨v, h1, h2, h3⟩ := X.ents p hp
  refine ⟨v, h1, flat_ents hf.2 p hp v h2, fun b hb => ?_⟩
  obtain ⟨_, h5⟩ := h3 b (hown v b hb)
  rcases h5 with h5 | h5
  · refine ⟨?_, .inl h5⟩
    cases hRb : R b with
    | none => rfl
    | some o => have := hlt b o hRb; omega
  · exact absurd h5 (hS _ b)
theorem callee_rel {E : TypeId} {R : Part} {g : Gh} {cv : CV} {u : Value} (hc : CVRel E R g cv u) {q : FuncId × List RV} (hq : calleeOf cv = some q) : ∃ us : List Value, u = .func (.func q.1) #[] us.toArray ∧ All2 (RVRel E R g) q.2 us := by
  cases cv <;> simp only [calleeOf, Option.some.injEq, reduceCtorEq] at hq
  case fn => subst hq; exact ⟨[], hc, .nil⟩
  case clo =>
    subst hq
    obtain ⟨us, e, ha⟩ := hc
    refine ⟨us, e, All2.map1 (All2.imp (fun x v hx => ?_) ha)⟩
    cases x with
    | none => exact hx
    | some h => exact hx
theorem ok_call (hd : ∀ t, o.dst = some t → t < C.N) {c : Call} {cx : Operand} (hop : o.op = .call c) (hcal : c.callee = .value cx) (henv : ∀ fid, ∀ sp ∈ env fid, FnOK C.P C.E C.L fid sp) (h : stepO C.P C.E env kn base o v f = some r) : Done C kn o v f r := by
  unfold stepO at h
  rw [hop] at h
  simp only [hcal] at h
  rw [Option.bind_eq_some_iff] at h
  obtain ⟨⟨fid, cap⟩, hcx, h⟩ := h
  rw [Option.bind_eq_some_iff] at hcx
  obtain ⟨cv, hcx, hcal'⟩ := hcx
  rw [Option.bind_eq_some_iff] at h
  obtain ⟨vs, hvs, h⟩ := h
  obtain ⟨sp, hsp, p, y, hget, hrun, hpf, hfree, h⟩ := callK_spec _ h
  have hok := henv fid sp hsp
  obtain ⟨fn, hfn, hbody, hname⟩ := hok.enters
  have hexec : ∀ (s : VSt) (a : Act) (w : World) (R : Part) (g : Gh), View v s → Rel C s a w R g → ∃ us : List Value, All2 (RVRel C.E R g) cap us ∧ (execOp a.eval o).run C.P w = .ok (.enter fid (c.args.map a.eval ++ us.toArray)) w := by
    intro s a w R g hv hr
    obtain ⟨us, hcv, hus⟩ := callee_rel (evc_rel hv hr hcx) hcal'
    refine ⟨us, hus, ?_⟩
    simp only at hcv
    simp [execOp, hop, resolve, hcal, hcv, Deferred.ofValue, invoke, callFunc, hfn, hbody]
    have : ¬ fn.name = "runtime.NumGoroutine" := by simpa using hname
    have hb : ¬ fn.body = none := by
      intro e; rw [e] at hbody; cases hbody
    simp [this, hb]
  have hargs : ∀ (a : Act) (us : List Value), (c.args.toList.map a.eval ++ us).toArray = c.args.map a.eval ++ us.toArray := by intro a us; apply Array.ext'; simp
  cases hq : sp.quiet with
  | true =>
    unfold Spec.read at hget
    rw [hq] at hget
    simp only [cond_true, Option.map_eq_some_iff] at hget
    obtain ⟨x, hx, rfl⟩ := hget
    unfold Spec.quiet at hq
    rw [Bool.and_eq_true] at hq
    obtain ⟨⟨vals, ents⟩, post, run⟩ := sp
    cases ents with
    | cons => simp at hq
    | nil =>
    refine ⟨_, h, fun s a w R g hv hkn hr next Q hnx => ?_⟩
    obtain ⟨R, hR0, hr⟩ := hr.more
    simp only [Shape.peek, Option.map_eq_some_iff] at hx
    obtain ⟨k, hk, rfl⟩ := hx
    obtain ⟨cus, hcus, hexec⟩ := hexec s a w R g hv hr
    have hpk := (peekR_sound hv hr (fun _ => none) vals [] (vs ++ cap) _ (All2.app (rvs_rel hv hr hvs) hcus) k hk ()).2
    have hentry : Entry C.E ⟨vals, []⟩ (k ()) w (whole w R) (fun _ => none) (c.args.toList.map a.eval ++ cus) :=
      ⟨fun b o h => h, hpk, fun q hq => absurd hq (by simp [Shape.es, mkE]), fun q hq => absurd hq (by simp [Shape.es, mkE]), fun q hq => absurd hq (by simp [Shape.es, mkE]), fun h v hv => by cases hv⟩
    have hcall := hok.ok (k ()) y w (whole w R) (fun _ => none) _ hrun hentry (fun R2 hR2 => C.lay R2 ((hR0.trans hr.le_whole).trans hR2))
    rw [hargs] at hcall
    unfold Oper.wp
    rw [hexec, Oper.upon_enter]
    refine hcall.mono fun e w2 he => ?_
    obtain ⟨R2, g2, us, rfl, X⟩ := he
    have hflat : (altS post y).1.flat = true := List.all_eq_true.1 hq.2 _ (altS_mem post y)
    have X' := X.shrink hr.le_whole hflat
    have G0 : GInv C s.en g w ⟨v.en, [], [], []⟩ R s.en (fun _ => False) := ⟨hr.inv, hv.en, fun i => .inl rfl, fun i h => h.elim, fun h h' i x => by simp at x, fun h x e => by simp at e⟩
    exact hnx _ _ (call_end (p := (k (), ⟨v.en, [], [], []⟩)) hd hv hr G0 (Part.le_refl R) (fun q hq => absurd hq (by simp [Shape.es, mkE])) hpf hfree X')
  | false =>
  replace hget : sp.pre.get (vs ++ cap) v.en = some p := by
    unfold Spec.read at hget
    rw [hq] at hget
    exact hget
  refine ⟨_, h, fun s a w R g hv hkn hr next Q hnx => ?_⟩
  obtain ⟨R, hR0, hr⟩ := hr.more
  obtain ⟨cus, hcus, hexec⟩ := hexec s a w R g hv hr
  obtain ⟨R', enS, cons, G, hRR, hdom, hvals, hent⟩ := Shape.get_sound hr.inv hv.en (All2.app (rvs_rel hv hr hvs) hcus) hget
  have hentry : Entry C.E sp.pre p.1 w R' (rg g p.2.ren) (c.args.toList.map a.eval ++ cus) := by
    refine ⟨G.inv.sub, hvals, fun q hq => ?_, fun q hq q' hq' hne u u' b hg hg' hb hb' => ?_, fun q hq ty κ xs e => ?_, fun h u hu => ?_⟩
    · obtain ⟨u, h1, h2, h3, _⟩ := hent q hq
      refine ⟨u, h1, h2, fun b hb => ?_⟩
      rcases h3 with ⟨i, _, hc, hgi⟩ | h3
      · obtain ⟨_, _, e, he⟩ := G.cons i hc
        exact (G.inv.mine i e u b he hgi hb).1
      · rw [h3] at hb
        rcases hb with hb | ⟨_, _, hb, _⟩ <;> cases hb
    · obtain ⟨u1, h1, _, h3, _⟩ := hent q hq
      obtain ⟨u2, h1', _, h3', _⟩ := hent q' hq'
      rw [hg] at h1
      injection h1 with h1
      subst h1
      rw [hg'] at h1'
      injection h1' with h1'
      subst h1'
      rcases h3 with ⟨i, hl, hc, hgi⟩ | h3
      · rcases h3' with ⟨i', hl', hc', hgi'⟩ | h3'
        · obtain ⟨_, _, e, he⟩ := G.cons i hc
          obtain ⟨_, _, e', he'⟩ := G.cons i' hc'
          exact G.inv.sep i i' e e' u u' b (fun e => hne (G.inj _ _ i hl (by rw [e]; exact hl'))) he he' hgi hgi' hb hb'
        · rw [h3'] at hb'
          rcases hb' with hb' | ⟨_, _, hb', _⟩ <;> cases hb'
      · rw [h3] at hb
        rcases hb with hb | ⟨_, _, hb, _⟩ <;> cases hb
    · obtain ⟨u1, h1, _, _, h4⟩ := hent q hq
      obtain ⟨k1, k2⟩ := h4 ty κ xs e
      exact ⟨k1, by rw [h1, k2]⟩
    · rw [← hdom]
      unfold rg at hu
      cases hl : p.2.ren.lookup h with
      | none => rw [hl] at hu; cases hu
      | some x => exact G.dom h x hl
  have hcall := hok.ok p.1 y w R' (rg g p.2.ren) _ hrun hentry (fun R2 hR2 => C.lay R2 ((hR0.trans hRR).trans hR2))
  rw [hargs] at hcall
  unfold Oper.wp
  rw [hexec, Oper.upon_enter]
  refine hcall.mono fun e w2 he => ?_
  obtain ⟨R2, g2, us, rfl, X⟩ := he
  exact hnx _ _ (call_end hd hv hr G hRR hent hpf hfree X)
end
end Go.Sx
