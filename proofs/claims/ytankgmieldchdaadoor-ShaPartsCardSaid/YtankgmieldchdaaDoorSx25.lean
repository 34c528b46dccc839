/- Laid data: a listed variable that is an array of whole numbers. -/
import Derived.Test.YtankgmieldchdaaDoorSx24
import Derived.LaidLaws
import Derived.LaidHandle
import Derived.ChangeBears2
namespace Go.Sx
open Go
set_option autoImplicit false
set_option linter.unusedVariables false
set_option linter.unusedSimpArgs false
theorem mapM_at {β : Type} {f : Nat → Option β} : ∀ (n s : Nat) (r : List β), (List.range' s n).mapM f = some r → r.length = n ∧ ∀ (j : Nat) y, r[j]? = some y → f (s + j) = some y
  | 0, s, r, h => by
    simp [List.mapM_nil] at h
    subst h
    exact ⟨rfl, by simp⟩
  | n + 1, s, r, h => by
    rw [List.range'_succ, List.mapM_cons] at h
    simp only [Option.bind_eq_bind, Option.bind_eq_some_iff, Option.pure_def, Option.some.injEq] at h
    obtain ⟨y, hy, r', hr', rfl⟩ := h
    obtain ⟨h1, h2⟩ := mapM_at n (s + 1) r' hr'
    refine ⟨by simp [h1], fun j z hz => ?_⟩
    cases j with
    | zero => simp at hz; subst hz; exact hy
    | succ j =>
      rw [show s + (j + 1) = s + 1 + j from by omega]
      exact h2 j z (by simpa using hz)
section
variable {H : Type} {enc : TypeId × Value → H} {P : Program} {w : World} {base : Nat} {sp : Nat → Bool} {held : Bool}
theorem int_of_trod {m : Nat} {t : TypeId} {k : IntKind} {cs : List Value} {x : Int} {q : List MemPlace} (hu : P.underlying t = some (.int k)) (h : DataW.trod enc P w base sp held m t cs = some (.lit (.int k x), q)) : cs = [.int k x] := by
  cases m with
  | zero => simp [DataW.trod] at h
  | succ m =>
    simp only [DataW.trod, hu] at h
    split at h <;> (simp_all; done)
theorem ints_of_trod {m N : Nat} {t e : TypeId} {k : IntKind} {cs : List Value} {xs : List Int} {q : List MemPlace} (hu : P.underlying t = some (.array N e)) (he : P.underlying e = some (.int k)) (hce : P.cellsOf e = 1) (hct : P.cellsOf t = N)
    (h : DataW.trod enc P w base sp held m t cs = some (.agg (xs.map fun x => .lit (.int k x)), q)) : cs = xs.map (Value.int k) ∧ xs.length = N := by
  cases m with
  | zero => simp [DataW.trod] at h
  | succ m =>
    simp only [DataW.trod, hu] at h
    split at h <;> first | (simp_all; done) | skip
    rename_i hl
    rw [hct] at hl
    simp only [Option.map_eq_some_iff, Prod.mk.injEq, DataW.agg.injEq] at h
    obtain ⟨els, hels, h1, _⟩ := h
    rw [List.range_eq_range'] at hels
    obtain ⟨h2, h3⟩ := mapM_at _ _ _ hels
    have hxl : xs.length = els.length := by
      have := congrArg List.length h1
      simpa using this.symm
    refine ⟨?_, by omega⟩
    apply List.ext_getElem?
    intro i
    by_cases hi : i < els.length
    · have h5 := h3 i els[i] (by simp [hi])
      have h6 : (els.map (·.1))[i]? = (xs.map fun x => DataW.lit (.int k x))[i]? := by rw [h1]
      rw [List.getElem?_map, List.getElem?_map, List.getElem?_eq_getElem hi, List.getElem?_eq_getElem (by omega)] at h6
      simp only [Option.map_some, Option.some.injEq] at h6
      rw [hce, Nat.zero_add, Nat.mul_one] at h5
      rw [show els[i] = (els[i].1, els[i].2) from rfl, h6] at h5
      have h7 := int_of_trod he h5
      have h8 : ((cs.drop i).take 1)[0]? = cs[i]? := by simp
      rw [h7] at h8
      rw [List.getElem?_map, List.getElem?_eq_getElem (show i < xs.length by omega), ← h8]
      rfl
    · rw [List.getElem?_eq_none (by omega), List.getElem?_eq_none (by rw [List.length_map]; omega)]
end
theorem LaidVars_mem {P : Program} {w : World} : ∀ {l : List (String × DataW Unit)} {ps : List MemPlace}, DataW.LaidVars P w l ps → ∀ x ∈ l, ∃ g t cs fuel p, P.globalNamed x.1 = some g ∧ (P.globals[g]?).map (·.type) = some t ∧ w.var? P x.1 = some cs ∧
    DataW.trod (fun _ => ()) P w 0 (fun _ => true) false fuel t cs.toList = some (x.2, p)
  | [], _, _, x, hx => by cases hx
  | a :: r, ps, h, x, hx => by
    obtain ⟨g, t, cs, fuel, p, q, e1, e2, e3, e4, e5, _⟩ := h
    rcases List.mem_cons.1 hx with rfl | hx
    · exact ⟨g, t, cs, fuel, p, e1, e2, e3, e4⟩
    · exact LaidVars_mem e5 x hx
/-- what the condition says of an array of whole numbers. -/
theorem laid_ints {P : Program} {w : World} {l : List (String × DataW Unit)} (h : laidMet P l w) {n : String} {xs : List Int} {g N : Nat} {t e : TypeId} {k : IntKind} (hm : (n, DataW.agg (xs.map fun x => .lit (.int k x))) ∈ l)
    (hg : P.globalNamed n = some g) (ht : (P.globals[g]?).map (·.type) = some t) (hu : P.underlying t = some (.array N e)) (he : P.underlying e = some (.int k)) (hce : P.cellsOf e = 1) (hct : P.cellsOf t = N) :
    xs.length = N ∧ ∃ ty fr, w.heap[g]? = some (.cells (xs.map (Value.int k)).toArray ty fr) := by
  obtain ⟨ps, h, _⟩ := h
  obtain ⟨g', t', cs, fuel, p, e1, e2, e3, e4⟩ := LaidVars_mem h _ hm
  obtain rfl := Option.some.inj (hg.symm.trans e1)
  obtain rfl := Option.some.inj (ht.symm.trans e2)
  obtain ⟨h1, h2⟩ := ints_of_trod hu he hce hct e4
  refine ⟨h2, ?_⟩
  simp only [World.var?, e1, Option.bind_some] at e3
  split at e3
  · rename_i cs' ty fr hh
    obtain rfl := Option.some.inj e3
    refine ⟨ty, fr, ?_⟩
    rw [hh, ← h1]
  · cases e3
theorem ints_rd {E : TypeId} {R : Part} {k : IntKind} {N : Nat} {xs : List Int} (hl : xs.length = N) (hb : ∀ x ∈ xs, k.min ≤ x ∧ x ≤ k.max) : (K.arr N (.int k)).Rd E R xs ((xs.map (Value.int k)).toArray.toList.take (K.arr N (.int k)).sz) := by
  have hs : (K.arr N (.int k)).sz = N := by simp [K.sz]
  have e : (xs.map (Value.int k)).toArray.toList.take (K.arr N (.int k)).sz = xs.map (Value.int k) := by
    rw [hs]
    show List.take N (xs.map (Value.int k)) = _
    exact List.take_of_length_le (by rw [List.length_map]; omega)
  rw [e]
  refine ⟨hl, by rw [List.length_map, hl]; simp [K.sz], fun v hv => ?_, fun j x hx => ?_⟩
  · obtain ⟨x, _, rfl⟩ := List.mem_map.1 hv
    rfl
  · have hj : j < xs.length := (List.getElem?_eq_some_iff.1 hx).1
    obtain ⟨_, hx'⟩ := List.getElem?_eq_some_iff.1 hx
    refine ⟨?_, hb x (List.mem_of_getElem? hx)⟩
    simp only [K.sz, Nat.mul_one]
    rw [List.drop_eq_getElem_cons (by rw [List.length_map]; exact hj), List.take_succ_cons, List.take_zero, List.getElem_map, hx']
end Go.Sx
