/- Part of a proof by a small interpreter on plain values; no condition. -/
import Derived.Test.YtmbakmdgmccgiabDoorSx35
/-! Sx36: a function with arguments that works in pools of its own. -/
namespace Go.Sx
open Go
set_option autoImplicit false
set_option linter.unusedSimpArgs false
set_option linter.unusedVariables false
def K.noNd : K → Bool
  | .nd _ => false
  | .pair a b => a.noNd && b.noNd
  | .list a => a.noNd
  | .arr _ a => a.noNd
  | _ => true
def CSh.noNd : CSh → Bool
  | .dat κ | .nn κ | .ref κ | .ful κ => κ.noNd
  | _ => true
def SSh.noNd : SSh → Bool
  | .one c => c.noNd
  | .blk κ => κ.noNd
def RSh.noNd : RSh → Bool
  | .c x => x.noNd
  | .a cs => cs.all CSh.noNd
  | .sg ss => ss.all SSh.noNd
def ESh.noNd : ESh → Bool
  | .cells _ cs => cs.all CSh.noNd
  | .row _ κ => κ.noNd
  | .segs _ ss => ss.all SSh.noNd
  | .mp κk κv => κk.noNd && κv.noNd
  | .it => true
  | .pool _ _ => false
def Shape.noNd (sh : Shape) : Bool := sh.vals.all RSh.noNd && sh.ents.all fun e => e.2.noNd
section
variable {E : TypeId} {R R' : Part}
mutual
theorem JV.Rd_ob (hR : ∀ b o, R b = some o → R' b = some o) : ∀ (x : JV) (cs : List Value), JV.Rd E R x cs → JV.Rd E R' x cs
  | .mk k b t n w l ns, cs, h => by
    rw [JV.Rd] at h ⊢
    obtain ⟨s, A, A', c, c', e, h1, h2, h3, ⟨h4, h5⟩, ⟨h6, h7⟩⟩ := h
    refine ⟨s, A, A', c, c', e, h1, h2, h3, ⟨h4, fun hne => ?_⟩, ⟨h6, fun hne => ?_⟩⟩
    · obtain ⟨bl, off, arr, ty, fr, q1, q2, q3⟩ := h5 hne
      exact ⟨bl, off, arr, ty, fr, q1, hR _ _ q2, JV.RdL_ob hR l _ q3⟩
    · obtain ⟨bl, off, arr, ty, fr, q1, q2, q3⟩ := h7 hne
      exact ⟨bl, off, arr, ty, fr, q1, hR _ _ q2, q3⟩
theorem JV.RdL_ob (hR : ∀ b o, R b = some o → R' b = some o) : ∀ (l : List JV) (cs : List Value), JV.RdL E R l cs → JV.RdL E R' l cs
  | [], cs, h => trivial
  | x :: r, cs, h => by
    rw [JV.RdL] at h ⊢
    exact ⟨JV.Rd_ob hR x _ h.1, JV.RdL_ob hR r _ h.2⟩
end
theorem nn_rd (hR : ∀ b o, R b = some o → R' b = some o) : ∀ (κ : K) (x : κ.T) (cs : List Value), κ.noNd = true → κ.Rd E R x cs → κ.Rd E R' x cs
  | .int k, x, cs, _, h => h
  | .bool, x, cs, _, h => h
  | .str, x, cs, _, h => h
  | .err, x, cs, _, h => h
  | .unit, x, cs, _, h => h
  | .pair a b, x, cs, hn, h => by
    simp only [K.noNd, Bool.and_eq_true] at hn
    obtain ⟨c1, c2, e, h1, h2⟩ := h
    exact ⟨c1, c2, e, nn_rd hR a _ _ hn.1 h1, nn_rd hR b _ _ hn.2 h2⟩
  | .list a, x, cs, hn, h => by
    obtain ⟨A, c, e, hl, h⟩ := h
    refine ⟨A, c, e, hl, fun hx => ?_⟩
    obtain ⟨b, off, arr, ty, fr, hA, hb, hj⟩ := h hx
    exact ⟨b, off, arr, ty, fr, hA, hR _ _ hb, fun j y hy => nn_rd hR a _ _ hn (hj j y hy)⟩
  | .arr n a, x, cs, hn, h => ⟨h.1, h.2.1, h.2.2.1, fun j y hy => nn_rd hR a _ _ hn (h.2.2.2 j y hy)⟩
  | .js, x, cs, _, h => JV.Rd_ob hR x cs h
theorem nn_cv (hR : ∀ b o, R b = some o → R' b = some o) {g : Gh} {c : CSh} {r : List K} {x : Tup (c.ks r)} {u : Value} (hf : c.noNd = true) (h : CVRel E R g (c.mk r x).1 u) : CVRel E R' g (c.mk r x).1 u := by
  cases c with
  | dat κ => exact nn_rd hR κ _ _ hf h
  | nn κ => exact ⟨h.1, nn_rd hR (.list κ) _ _ hf h.2⟩
  | ful κ => exact ⟨h.1, nn_rd hR (.list κ) _ _ hf h.2⟩
  | ref κ =>
    obtain ⟨b, off, arr, ty, fr, h1, h2, h3⟩ := h
    exact ⟨b, off, arr, ty, fr, hR _ _ h1, h2, nn_rd hR κ _ _ hf h3⟩
  | _ => exact h
theorem nn_cvs (hR : ∀ b o, R b = some o → R' b = some o) {g : Gh} : ∀ {cs : List CSh} {r : List K} {x : Tup (ksL cs r)} {us : List Value}, cs.all CSh.noNd = true → All2 (CVRel E R g) (mkL cs r x).1 us → All2 (CVRel E R' g) (mkL cs r x).1 us
  | [], _, _, _, _, h => by cases h; exact .nil
  | c :: cs, r, x, us, hf, h => by
    simp only [List.all_cons, Bool.and_eq_true] at hf
    cases h with
    | cons hx hr => exact .cons (nn_cv hR hf.1 hx) (nn_cvs hR hf.2 hr)
theorem nn_sgs (hR : ∀ b o, R b = some o → R' b = some o) {g : Gh} : ∀ {cs : List SSh} {r : List K} {x : Tup (ksS cs r)} {us : List Value}, cs.all SSh.noNd = true → SegsRel E R g (mkS cs r x).1 us → SegsRel E R' g (mkS cs r x).1 us
  | [], _, _, _, _, h => by cases h; exact .nil
  | c :: cs, r, x, us, hf, h => by
    simp only [List.all_cons, Bool.and_eq_true] at hf
    obtain ⟨v1, v2, rfl, hx, hr⟩ := SegsRel.uncons h
    refine SegsRel.app (ss := [_]) ?_ (nn_sgs hR hf.2 hr)
    cases c with
    | one y =>
      cases hx with
      | one h1 hn => cases hn; exact .one (nn_cv hR hf.1 h1) .nil
    | blk κ =>
      cases hx with
      | blk h1 hn => cases hn; exact .blk (nn_rd hR _ _ _ hf.1 h1) .nil
theorem nn_rvs (hR : ∀ b o, R b = some o → R' b = some o) {g : Gh} : ∀ {cs : List RSh} {r : List K} {x : Tup (ksR cs r)} {us : List Value}, cs.all RSh.noNd = true → All2 (RVRel E R g) (mkR cs r x).1 us → All2 (RVRel E R' g) (mkR cs r x).1 us
  | [], _, _, _, _, h => by cases h; exact .nil
  | c :: cs, r, x, us, hf, h => by
    simp only [List.all_cons, Bool.and_eq_true] at hf
    cases h with
    | cons hx hr =>
      refine .cons ?_ (nn_rvs hR hf.2 hr)
      cases c with
      | c y => exact nn_cv hR hf.1 hx
      | a ys =>
        obtain ⟨vs, e, hvs⟩ := hx
        exact ⟨vs, e, nn_cvs hR hf.1 hvs⟩
      | sg ys =>
        obtain ⟨vs, e, hvs⟩ := hx
        exact ⟨vs, e, nn_sgs hR hf.1 hvs⟩
theorem nn_ent (hR : ∀ b o, R b = some o → R' b = some o) {g : Gh} {w : World} {e : ESh} {r : List K} {x : Tup (e.ks r)} {u : Value} (hf : e.noNd = true) (h : EntRel E R g w (e.mk r x).1 u) : EntRel E R' g w (e.mk r x).1 u := by
  cases e with
  | cells ty cs =>
    obtain ⟨b, arr, fr, h1, h2, h3, h4⟩ := h
    exact ⟨b, arr, fr, h1, h2, h3, nn_cvs hR hf h4⟩
  | segs ty cs =>
    obtain ⟨b, arr, fr, h1, h2, h3, h4⟩ := h
    exact ⟨b, arr, fr, h1, h2, h3, nn_sgs hR hf h4⟩
  | it => exact h
  | pool ty κ => cases hf
  | mp κk κv =>
    obtain ⟨b, es, clk, h1, h2, h3⟩ := h
    simp only [ESh.noNd, Bool.and_eq_true] at hf
    exact ⟨b, es, clk, h1, h2, h3.imp fun _ _ h => ⟨⟨nn_rd hR κk _ _ hf.1 h.1.1, h.1.2⟩, ⟨nn_rd hR κv _ _ hf.2 h.2.1, h.2.2⟩⟩⟩
  | row ety κ =>
    rcases h with h | ⟨b, c, arr, fr, h1, h2, h3, h4, h5, h6, h7, h8⟩
    · exact .inl h
    · exact .inr ⟨b, c, arr, fr, h1, h2, h3, h4, h5, h6, h7, fun j x hx => nn_rd hR κ _ _ hf (h8 j x hx)⟩
theorem nn_ents (hR : ∀ b o, R b = some o → R' b = some o) {g : Gh} {w : World} : ∀ {es : List (Nat × ESh)} {r : List K} {x : Tup (ksE es r)}, (es.all fun e => e.2.noNd) = true → ∀ p ∈ (mkE es r x).1, (∀ u, EntRel E R g w p.2 u → EntRel E R' g w p.2 u) ∧ p.2.isPool = false
  | [], _, _, _, p, hp => by cases hp
  | e :: es, r, x, hf, p, hp => by
    simp only [List.all_cons, Bool.and_eq_true] at hf
    rcases List.mem_cons.1 hp with rfl | hp
    · refine ⟨fun u h => nn_ent hR hf.1 h, ?_⟩
      obtain ⟨h, e⟩ := e
      cases e <;> first | rfl | (simp [ESh.noNd] at hf)
    · exact nn_ents hR hf.2 p hp
end
/-- a function, and the pools that it works in. -/
theorem FnOK.poolsA {P : Program} {E : TypeId} {L : Part → Prop} {f : FuncId} {vals : List RSh} {es : List (Nat × ESh)} {post : List Shape} {run : (⟨vals, es⟩ : Shape).T → Option (AltT post)} (hL : ∀ R R' : Part, R.ob = R'.ob → L R → L R')
    (z : (⟨vals, []⟩ : Shape).T → (⟨vals, es⟩ : Shape).T) (hz : ∀ x, (⟨vals, es⟩ : Shape).vs (z x) = (⟨vals, []⟩ : Shape).vs x) (hes : ∀ x, ∀ q ∈ (⟨vals, es⟩ : Shape).es (z x), ∃ ty κ, q.2 = .pool ty κ ([] : List κ.T))
    (hnp : (vals.all RSh.noNd && post.all Shape.noNd) = true) (hok : FnOK P E L f ⟨⟨vals, es⟩, post, run⟩) : FnOK P E L f ⟨⟨vals, []⟩, post, fun x => run (z x)⟩ := by
  refine ⟨hok.enters, fun x y W0 R0 g0 us hrun hent hlay => ?_⟩
  rw [Bool.and_eq_true] at hnp
  let R1 : Part := ⟨R0.ob, fun _ _ _ => False⟩
  have hno : ∀ (p : Nat) (b : Nat), ¬ own R1 (.int .i64 (p : Int)) b := by
    rintro p b (h | ⟨_, _, _, h⟩)
    · cases h
    · exact h
  let g : Gh := fun h => if h ∈ es.map (·.1) then some (.int .i64 (h : Int)) else none
  have hmem : ∀ q ∈ (⟨vals, es⟩ : Shape).es (z x), g q.1 = some (.int .i64 (q.1 : Int)) := fun q hq => by
    have : q.1 ∈ es.map (·.1) := by
      rw [← mkE_fst es [] (mkR vals (ksE es []) (z x)).2]
      exact List.mem_map_of_mem hq
    show (if _ then _ else _) = _
    rw [if_pos this]
  have hg0 : g0.le g := fun h v hg => absurd (hent.dom h v hg) (by simp)
  have hent' : Entry E ⟨vals, es⟩ (z x) W0 R1 g us := by
    refine ⟨hent.sub, ?_, fun q hq => ?_, fun q hq q' hq' hne v v' b h1 h2 h3 _ => ?_, fun q hq ty κ xs e => ?_, fun h v hg => ?_⟩
    · rw [hz x]
      have h1 : All2 (RVRel E R0 g) (mkR vals (ksE [] []) x).1 us := All2.imp (fun _ _ h => RVRel.mono (Part.le_refl R0) hg0 h) hent.vals
      exact nn_rvs (R := R0) (R' := R1) (fun _ _ h => h) hnp.1 h1
    · obtain ⟨ty, κ, e⟩ := hes x q hq
      refine ⟨_, hmem q hq, ?_, fun b hb => absurd hb (hno _ b)⟩
      rw [e]
      exact ⟨q.1, rfl, fun j y hy => by simp at hy⟩
    · rw [hmem q hq] at h1
      injection h1 with h1
      rw [← h1] at h3
      exact hno _ b h3
    · exact ⟨fun j b hn => hn.elim, hmem q hq⟩
    · show h ∈ es.map (·.1)
      have hg' : (if h ∈ es.map (·.1) then some (Value.int .i64 (h : Int)) else none) = some v := hg
      split at hg'
      · assumption
      · cases hg'
  have hlay' : ∀ R : Part, R1.le R → L R := fun R hR => hL ⟨R.ob, fun p j b => R.nd p j b ∨ R0.nd p j b⟩ R rfl (hlay _ ⟨hR.ob, fun _ _ _ h => .inr h⟩)
  refine (hok.ok (z x) y W0 R1 g us hrun hent' hlay').mono fun e w' he => ?_
  obtain ⟨R, g', vs, rfl, X⟩ := he
  have hS : ∀ b, ¬ S0of R1 g ((⟨vals, es⟩ : Shape).es (z x)) b := by
    rintro b ⟨h, e, v, hm, hg, hb⟩
    rw [hmem _ hm] at hg
    injection hg with hg
    rw [← hg] at hb
    exact hno _ _ hb
  have hq : (altS post y).1.noNd = true := List.all_eq_true.1 hnp.2 _ (altS_mem post y)
  simp only [Shape.noNd, Bool.and_eq_true] at hq
  let R2 : Part := ⟨R.ob, R0.nd⟩
  have hE := fun p hp => nn_ents (E := E) (R := R) (R' := R2) (g := g') (w := w') (fun _ _ h => h) hq.2 (x := (mkR (altS post y).1.vals (ksE (altS post y).1.ents []) (altS post y).2).2) p hp
  have npool : ∀ p ∈ (altS post y).1.es (altS post y).2, ∀ v b, g' p.1 = some v → own R2 v b → own R v b := by
    intro p hp v b hg hb
    obtain ⟨v', h1, h2, _⟩ := X.ents p hp
    rw [hg] at h1
    injection h1 with h1
    subst h1
    exact .inl (((hE p hp).1 v h2).own (hE p hp).2 hb)
  refine ⟨R2, g', vs, rfl, ?_⟩
  refine { sub := X.sub, vals := nn_rvs (R := R) (R' := R2) (fun _ _ h => h) hq.1 X.vals, ents := fun p hp => ?_, sep := fun p hp p' hp' hn v v' b g1 g2 h1 h2 => X.sep p hp p' hp' hn v v' b g1 g2 (npool p hp v b g1 h1) (npool p' hp' v' b g2 h2), pl := fun p hp ty κ xs e => ?_, oldN := fun _ _ _ h => h, newN := fun _ _ _ h => .inl h, dom := X.dom, newR := fun b o h => ?_, os := X.os, tape := X.tape, output := X.output, size := X.size, block := fun b hb _ => X.block b hb (hS b), keep := fun h hk v hg => ?_ }
  · obtain ⟨v, h1, h2, h3⟩ := X.ents p hp
    refine ⟨v, h1, (hE p hp).1 v h2, fun b hb => ?_⟩
    obtain ⟨h4, h5⟩ := h3 b (npool p hp v b h1 hb)
    refine ⟨h4, h5.imp id fun h => absurd h (hS b)⟩
  · have := (hE p hp).2
    rw [e] at this
    cases this
  · rcases X.newR b o h with h | h | h
    · exact .inl h
    · exact .inr (.inl h)
    · exact absurd h (hS b)
  · have hk' : keptE ([] : List (Nat × ESh)) h = true := hk
    simp [keptE] at hk'
end Go.Sx
