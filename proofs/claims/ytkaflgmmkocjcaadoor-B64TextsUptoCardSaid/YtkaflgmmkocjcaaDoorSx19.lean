/- Part of a proof by a small interpreter on plain values; no condition. -/
import Derived.Test.YtkaflgmmkocjcaaDoorSx18
/-! Sx19: contracts in rows; a law that holds with some fuel. -/
namespace Go.Sx
open Go
set_option autoImplicit false
set_option linter.unusedSimpArgs false
set_option linter.unusedVariables false
def envOf (l : List (FuncId × Spec)) (f : FuncId) : List Spec := (l.filter fun p => Nat.beq p.1 f).map (·.2)
theorem envOf_ok {P : Program} {E : TypeId} {L : Part → Prop} {l : List (FuncId × Spec)} (h : ∀ p ∈ l, FnOK P E L p.1 p.2) : ∀ fid, ∀ sp ∈ envOf l fid, FnOK P E L fid sp := by
  intro fid sp hs
  unfold envOf at hs
  obtain ⟨p, hp, rfl⟩ := List.mem_map.1 hs
  obtain ⟨h1, h2⟩ := List.mem_filter.1 hp
  have := Nat.eq_of_beq_eq_true h2
  subst this
  exact h p h1
theorem envOf_nil {P : Program} {E : TypeId} {L : Part → Prop} : ∀ p ∈ ([] : List (FuncId × Spec)), FnOK P E L p.1 p.2 := by
  intro p hp; cases hp
theorem envOf_cons {P : Program} {E : TypeId} {L : Part → Prop} {f : FuncId} {sp : Spec} {l : List (FuncId × Spec)} (h : FnOK P E L f sp) (hl : ∀ p ∈ l, FnOK P E L p.1 p.2) : ∀ p ∈ (f, sp) :: l, FnOK P E L p.1 p.2 := by
  intro p hp
  rcases List.mem_cons.1 hp with rfl | hp
  · exact h
  · exact hl p hp
/-- a function's contract, of what its run comes to. -/
theorem fn_run {P : Program} {E : TypeId} {L : Part → Prop} {f : FuncId} {fn : Func} (hm : P.follows .mixedOrders = true) (hf : P.funcs[f]? = some fn) (sp : Spec) (n : Nat) (ann : Ann) (l : List (FuncId × Spec)) (hl : ∀ p ∈ l, FnOK P E L p.1 p.2)
    (h : ∀ x, fnRun P E (envOf l) n fn ann sp.pre sp.post x = sp.run x)
    (hc : ((fn.name == "runtime.NumGoroutine") == false && ((Nat.ble fn.params.size fn.ntmps && Nat.beq fn.params.size sp.pre.vals.length) && fn.body.isNone == false)) = true) : FnOK P E L f sp := by
  simp only [Bool.and_eq_true, beq_iff_eq] at hc
  obtain ⟨h1, h2, h3⟩ := hc
  exact fn_ok hm hf h1 sp (by simp only [Bool.and_eq_true]; exact h2) (fun x y hy => ⟨n, ann, envOf l, envOf_ok hl, (h x).trans hy⟩) h3
/-- a law that answers true with some fuel. -/
noncomputable def anyRun {X : Type} (law : Nat → X → Option Bool) (x : X) : Option Bool := open Classical in if ∃ n, law n x = some true then some true else none
theorem anyRun_true {X : Type} {law : Nat → X → Option Bool} {x : X} (h : ∃ n, law n x = some true) : anyRun law x = some true := if_pos h
theorem any_ok {P : Program} {E : TypeId} {L : Part → Prop} {f : FuncId} {pre : Shape} (law : Nat → pre.T → Option Bool) (h : ∀ n, FnOK P E L f ⟨pre, lawPost, law n⟩) : FnOK P E L f ⟨pre, lawPost, anyRun law⟩ := by
  refine ⟨(h 0).enters, fun x y W0 R0 g0 vals hrun hent hlay => ?_⟩
  change anyRun law x = some y at hrun
  unfold anyRun at hrun
  split at hrun
  · rename_i hx
    obtain ⟨n, hn⟩ := hx
    injection hrun with hrun
    subst hrun
    exact (h n).ok x true W0 R0 g0 vals hn hent hlay
  · cases hrun
/-- nothing is asked of the package-level variables. -/
def L0 (_ : Part) : Prop := True
end Go.Sx
