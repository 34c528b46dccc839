/- Part of a proof by a small interpreter on plain values; no condition. -/
import Derived.Test.YtmbakmdgmccgiabDoorSx19
/-! Sx35: a call that begins with empty pools of its own. -/
namespace Go.Sx
open Go
set_option autoImplicit false
set_option linter.unusedSimpArgs false
set_option linter.unusedVariables false
/-- a function that takes nothing, and the pools that it works in. -/
theorem FnOK.pools {P : Program} {E : TypeId} {L : Part → Prop} {f : FuncId} {es : List (Nat × ESh)} {post : List Shape} {run : (⟨[], es⟩ : Shape).T → Option (AltT post)} (hL : ∀ R R' : Part, R.ob = R'.ob → L R → L R')
    (z : (⟨[], es⟩ : Shape).T) (hes : ∀ q ∈ (⟨[], es⟩ : Shape).es z, ∃ ty κ, q.2 = .pool ty κ ([] : List κ.T)) (hfl : post.all Shape.flat = true)
    (hok : FnOK P E L f ⟨⟨[], es⟩, post, run⟩) : FnOK P E L f ⟨⟨[], []⟩, post, fun _ => run z⟩ := by
  refine ⟨hok.enters, fun x y W0 R0 g0 vals hrun hent hlay => ?_⟩
  let R1 : Part := ⟨R0.ob, fun _ _ _ => False⟩
  have hno : ∀ (p : Nat) (b : Nat), ¬ own R1 (.int .i64 (p : Int)) b := by
    rintro p b (h | ⟨_, _, _, h⟩)
    · cases h
    · exact h
  let g : Gh := fun h => if h ∈ es.map (·.1) then some (.int .i64 (h : Int)) else none
  have hmem : ∀ q ∈ (⟨[], es⟩ : Shape).es z, g q.1 = some (.int .i64 (q.1 : Int)) := fun q hq => by
    have : q.1 ∈ es.map (·.1) := by
      rw [← mkE_fst es [] (mkR [] (ksE es []) z).2]
      exact List.mem_map_of_mem hq
    show (if _ then _ else _) = _
    rw [if_pos this]
  have hv0 : vals = [] := by
    have h : All2 (RVRel E R0 g0) [] vals := hent.vals
    cases h
    rfl
  subst hv0
  have hent' : Entry E ⟨[], es⟩ z W0 R1 g [] := by
    refine ⟨hent.sub, .nil, fun q hq => ?_, fun q hq q' hq' hne v v' b h1 h2 h3 _ => ?_, fun q hq ty κ xs e => ?_, fun h v hg => ?_⟩
    · obtain ⟨ty, κ, e⟩ := hes q hq
      refine ⟨_, hmem q hq, ?_, fun b hb => absurd hb (hno _ b)⟩
      rw [e]
      exact ⟨q.1, rfl, fun j y hy => by simp at hy⟩
    · rw [hmem q hq] at h1
      injection h1 with h1
      rw [← h1] at h3
      exact hno _ b h3
    · exact ⟨fun j b hn => hn.elim, hmem q hq⟩
    · show h ∈ es.map (·.1)
      have hg' : (if h ∈ es.map (·.1) then some (Value.int .i64 (h : Int)) else none) = some v := hg
      split at hg'
      · assumption
      · cases hg'
  have hlay' : ∀ R : Part, R1.le R → L R := fun R hR => hL ⟨R.ob, fun p j b => R.nd p j b ∨ R0.nd p j b⟩ R rfl (hlay _ ⟨hR.ob, fun _ _ _ h => .inr h⟩)
  refine (hok.ok z y W0 R1 g [] hrun hent' hlay').mono fun e w' he => ?_
  obtain ⟨R, g', vs, rfl, X⟩ := he
  have hS : ∀ b, ¬ S0of R1 g ((⟨[], es⟩ : Shape).es z) b := by
    rintro b ⟨h, e, v, hm, hg, hb⟩
    rw [hmem _ hm] at hg
    injection hg with hg
    rw [← hg] at hb
    exact hno _ _ hb
  have hq : (altS post y).1.flat = true := List.all_eq_true.1 hfl _ (altS_mem post y)
  simp only [Shape.flat, Bool.and_eq_true] at hq
  have hlt : ∀ b o, R0 b = some o → b < W0.heap.size := fun b o h => (Array.getElem?_eq_some_iff.1 (hent.sub b o h)).1
  refine ⟨R0, g', vs, rfl, ?_⟩
  have npool : ∀ p ∈ (altS post y).1.es (altS post y).2, ∀ v b, g' p.1 = some v → own R0 v b → blk v = some b := by
    intro p hp v b hg hb
    obtain ⟨v', h1, h2, _⟩ := X.ents p hp
    rw [hg] at h1
    injection h1 with h1
    subst h1
    cases hpp : p.2.isPool with
    | false => exact h2.own hpp hb
    | true =>
      exfalso
      have hfl2 : ∀ (es : List (Nat × ESh)) (r : List K) (t : Tup (ksE es r)), (es.all fun e => e.2.flat) = true → ∀ p ∈ (mkE es r t).1, p.2.isPool = false := by
        intro es
        induction es with
        | nil => intro r t _ p hp; cases hp
        | cons e es ih =>
          intro r t hf p hp
          simp only [List.all_cons, Bool.and_eq_true] at hf
          rcases List.mem_cons.1 hp with rfl | hp
          · obtain ⟨h, e⟩ := e
            cases e <;> first | rfl | (simp [ESh.flat] at hf)
          · exact ih r _ hf.2 p hp
      rw [hfl2 _ _ _ hq.2 p hp] at hpp
      cases hpp
  have blkOwn : ∀ {v : Value} {b : Nat}, blk v = some b → own R v b := fun h => .inl h
  refine { sub := fun b o h => (X.block b (hlt b o h) (hS b)).trans (hent.sub b o h), vals := flat_rvs hq.1 X.vals, ents := fun p hp => ?_, sep := fun p hp p' hp' hn v v' b g1 g2 h1 h2 => X.sep p hp p' hp' hn v v' b g1 g2 (blkOwn (npool p hp v b g1 h1)) (blkOwn (npool p' hp' v' b g2 h2)), pl := fun p hp ty κ xs e => ?_, oldN := fun _ _ _ h => h, newN := fun _ _ _ h => .inl h, dom := X.dom, newR := fun b o h => .inl h, os := X.os, tape := X.tape, output := X.output, size := X.size, block := fun b hb _ => X.block b hb (hS b), keep := fun h hk v hg => ?_ }
  · obtain ⟨v, h1, h2, h3⟩ := X.ents p hp
    refine ⟨v, h1, flat_ents hq.2 p hp v h2, fun b hb => ?_⟩
    obtain ⟨_, h5⟩ := h3 b (blkOwn (npool p hp v b h1 hb))
    rcases h5 with h5 | h5
    · refine ⟨?_, .inl h5⟩
      cases hRb : R0 b with
      | none => rfl
      | some o => have := hlt b o hRb; omega
    · exact absurd h5 (hS b)
  · exfalso
    have hfl2 : ∀ (es : List (Nat × ESh)) (r : List K) (t : Tup (ksE es r)), (es.all fun e => e.2.flat) = true → ∀ p ∈ (mkE es r t).1, p.2.isPool = false := by
      intro es
      induction es with
      | nil => intro r t _ p hp; cases hp
      | cons e es ih =>
        intro r t hf p hp
        simp only [List.all_cons, Bool.and_eq_true] at hf
        rcases List.mem_cons.1 hp with rfl | hp
        · obtain ⟨h, e⟩ := e
          cases e <;> first | rfl | (simp [ESh.flat] at hf)
        · exact ih r _ hf.2 p hp
    have := hfl2 _ _ _ hq.2 p hp
    rw [e] at this
    cases this
  · have hk' : keptE ([] : List (Nat × ESh)) h = true := hk
    simp [keptE] at hk'
/-- a function that calls itself: if its body keeps the contract of a callee, it keeps its own. -/
theorem rec_ok {P : Program} {E : TypeId} {L : Part → Prop} {f : FuncId} {pre : Shape} {post : List Shape} (he : ∃ fn, P.funcs[f]? = some fn ∧ fn.body.isNone = false ∧ (fn.name == "runtime.NumGoroutine") = false)
    (step : (pre.T → Option (AltT post)) → pre.T → Option (AltT post)) (h : ∀ s, FnOK P E L f ⟨pre, post, s⟩ → FnOK P E L f ⟨pre, post, step s⟩) : ∀ d, FnOK P E L f ⟨pre, post, fun x => loopF step d x⟩
  | 0 => ⟨he, fun x y W0 R0 g0 vals hrun _ _ => by cases hrun⟩
  | d + 1 => h _ (rec_ok he step h d)
end Go.Sx
