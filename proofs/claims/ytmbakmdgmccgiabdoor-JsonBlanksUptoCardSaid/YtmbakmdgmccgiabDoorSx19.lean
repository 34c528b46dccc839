/- Part of a proof by a small interpreter on plain values; no condition. -/
import Derived.Test.YtmbakmdgmccgiabDoorSx18
/-! Sx19: contracts in rows; a law that holds with some fuel. -/
namespace Go.Sx
open Go
set_option autoImplicit false
set_option linter.unusedSimpArgs false
set_option linter.unusedVariables false
def envOf (l : List (FuncId × Spec)) (f : FuncId) : List Spec := (l.filter fun p => Nat.beq p.1 f).map (·.2)
/-- the contracts, the cuts that free the elder slice, the package variables. -/
def envG (l : List (FuncId × Spec)) (shr : List Nat) (gl : Nat → Option CV) : Env := ⟨envOf l, shr, gl⟩
/-- what a list of package variables says. -/
def glOf : List (Nat × ((κ : K) × κ.T)) → Nat → Option CV
  | [], _ => none
  | (x, ⟨κ, v⟩) :: r, j => bif Nat.beq x j then some (.roA κ v) else glOf r j
theorem glOf_ok {E : TypeId} {L : Part → Prop} : ∀ {l : List (Nat × ((κ : K) × κ.T))}, (∀ R : Part, L R → ∀ p ∈ l, ∃ arr ty fr, R p.1 = some (.cells arr ty fr) ∧ p.2.1.Rd E R p.2.2 (arr.toList.take p.2.1.sz)) →
    ∀ R : Part, L R → ∀ x c, glOf l x = some c → ∀ g, CVRel E R g c (.pointer (some ⟨x, 0, none⟩))
  | [], _, _, _, _, _, h, _ => by simp [glOf] at h
  | (y, ⟨κ, v⟩) :: r, hl, R, hR, x, c, h, g => by
    unfold glOf at h
    cases hb : Nat.beq y x with
    | true =>
      rw [hb] at h
      simp only [cond_true, Option.some.injEq] at h
      subst h
      obtain rfl := Nat.eq_of_beq_eq_true hb
      obtain ⟨arr, ty, fr, h1, h2⟩ := hl R hR _ (List.mem_cons_self)
      exact ⟨y, 0, arr, ty, fr, h1, rfl, by rw [List.drop_zero]; exact h2⟩
    | false =>
      rw [hb] at h
      exact glOf_ok (fun R hR p hp => hl R hR p (List.mem_cons_of_mem _ hp)) R hR x c h g
theorem gl_none {E : TypeId} {L : Part → Prop} : ∀ R : Part, L R → ∀ x c, (fun _ => none : Nat → Option CV) x = some c → ∀ g, CVRel E R g c (.pointer (some ⟨x, 0, none⟩)) := fun _ _ _ _ h => by cases h
theorem envOf_ok {P : Program} {E : TypeId} {L : Part → Prop} {l : List (FuncId × Spec)} (h : ∀ p ∈ l, FnOK P E L p.1 p.2) : ∀ fid, ∀ sp ∈ envOf l fid, FnOK P E L fid sp := by
  intro fid sp hs
  unfold envOf at hs
  obtain ⟨p, hp, rfl⟩ := List.mem_map.1 hs
  obtain ⟨h1, h2⟩ := List.mem_filter.1 hp
  have := Nat.eq_of_beq_eq_true h2
  subst this
  exact h p h1
theorem envOf_nil {P : Program} {E : TypeId} {L : Part → Prop} : ∀ p ∈ ([] : List (FuncId × Spec)), FnOK P E L p.1 p.2 := by
  intro p hp; cases hp
theorem envOf_cons {P : Program} {E : TypeId} {L : Part → Prop} {f : FuncId} {sp : Spec} {l : List (FuncId × Spec)} (h : FnOK P E L f sp) (hl : ∀ p ∈ l, FnOK P E L p.1 p.2) : ∀ p ∈ (f, sp) :: l, FnOK P E L p.1 p.2 := by
  intro p hp
  rcases List.mem_cons.1 hp with rfl | hp
  · exact h
  · exact hl p hp
/-- a function's contract, of what its run comes to. -/
theorem fn_run {P : Program} {E : TypeId} {L : Part → Prop} {f : FuncId} {fn : Func} (hm : P.follows .mixedOrders = true) (hf : P.funcs[f]? = some fn) (sp : Spec) (n : Nat) (ann : Ann) (l : List (FuncId × Spec)) (hl : ∀ p ∈ l, FnOK P E L p.1 p.2)
    (shr : List Nat) (gl : Nat → Option CV) (hgl : ∀ R : Part, L R → ∀ x c, gl x = some c → ∀ g, CVRel E R g c (.pointer (some ⟨x, 0, none⟩)))
    (h : ∀ x, fnRun P E (envG l shr gl) n fn ann sp.pre sp.post x = sp.run x)
    (hc : ((fn.name == "runtime.NumGoroutine") == false && ((Nat.ble (fn.params.size + fn.nfree) fn.ntmps && Nat.beq (fn.params.size + fn.nfree) sp.pre.vals.length) && fn.body.isNone == false)) = true) : FnOK P E L f sp := by
  simp only [Bool.and_eq_true, beq_iff_eq] at hc
  obtain ⟨h1, h2, h3⟩ := hc
  exact fn_ok hm hf h1 sp (by simp only [Bool.and_eq_true]; exact h2) (fun x y hy => ⟨n, ann, envG l shr gl, envOf_ok hl, hgl, (h x).trans hy⟩) h3
/-- a law that answers true with some fuel. -/
noncomputable def anyRun {X : Type} (law : Nat → X → Option Bool) (x : X) : Option Bool := open Classical in if ∃ n, law n x = some true then some true else none
theorem anyRun_true {X : Type} {law : Nat → X → Option Bool} {x : X} (h : ∃ n, law n x = some true) : anyRun law x = some true := if_pos h
theorem any_ok {P : Program} {E : TypeId} {L : Part → Prop} {f : FuncId} {vs0 : List RSh} (law : Nat → (⟨vs0, []⟩ : Shape).T → Option Bool) (h : ∀ n, FnOK P E L f ⟨⟨vs0, []⟩, lawPost, law n⟩) : LawOK P E L f ⟨vs0, []⟩ (anyRun law) := by
  intro x W0 vals hrun hent hL
  unfold anyRun at hrun
  split at hrun
  · rename_i hx
    obtain ⟨n, hn⟩ := hx
    exact LawOK.of (h n) x W0 vals hn hent hL
  · cases hrun
/-- the same, of what begins with empty pools. -/
theorem any_pools {P : Program} {E : TypeId} {L : Part → Prop} {f : FuncId} {vs0 : List RSh} {es : List (Nat × ESh)} (law : Nat → (⟨vs0, es⟩ : Shape).T → Option Bool) (z : (⟨vs0, []⟩ : Shape).T → (⟨vs0, es⟩ : Shape).T)
    (hz : ∀ x, (⟨vs0, es⟩ : Shape).vs (z x) = (⟨vs0, []⟩ : Shape).vs x) (hes : ∀ x, ∀ q ∈ (⟨vs0, es⟩ : Shape).es (z x), ∃ ty κ, q.2 = .pool ty κ ([] : List κ.T))
    (h : ∀ n, FnOK P E L f ⟨⟨vs0, es⟩, lawPost, law n⟩) : LawOK P E L f ⟨vs0, []⟩ (anyRun fun n x => law n (z x)) := by
  intro x W0 vals hrun hent hL
  unfold anyRun at hrun
  split at hrun
  · rename_i hx
    obtain ⟨n, hn⟩ := hx
    exact LawOK.pools z hz hes (h n) x W0 vals hn hent hL
  · cases hrun
def allEmpty : List (Nat × Ent) → Bool
  | [] => true
  | e :: r => (match e.2 with
    | .pool _ _ xs => xs.isEmpty
    | _ => false) && allEmpty r
theorem pools_empty : ∀ {l : List (Nat × Ent)}, allEmpty l = true → ∀ q ∈ l, ∃ ty κ, q.2 = .pool ty κ ([] : List κ.T)
  | [], _, q, hq => by cases hq
  | e :: r, h, q, hq => by
    simp only [allEmpty, Bool.and_eq_true] at h
    rcases List.mem_cons.1 hq with rfl | hq
    · obtain ⟨h, _⟩ := h
      split at h
      · rename_i ty κ xs he
        have : xs = [] := List.isEmpty_iff.1 h
        subst this
        exact ⟨ty, κ, he⟩
      · cases h
    · exact pools_empty h.2 q hq
/-- nothing is asked of the package-level variables. -/
def L0 (_ : Part) : Prop := True
end Go.Sx
