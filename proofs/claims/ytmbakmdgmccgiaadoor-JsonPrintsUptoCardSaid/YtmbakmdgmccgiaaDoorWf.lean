/- Part of a proof by a small interpreter on plain values; no condition. -/
import Derived.Test.YtmbakmdgmccgiaaDoorWe
/-! W06I: the same value; how deep; the law JsonReads. -/
namespace Go.Sx.YtmbakmdgmccgiaaDoor
open Go Go.Sx Go.Sx.Js
set_option autoImplicit false
set_option linter.unusedVariables false
set_option linter.unusedSimpArgs false
mutual
/-- how many values stand in each other. -/
def dep : JV → Nat
  | .mk _ _ _ _ _ l _ => 1 + depL l
def depL : List JV → Nat
  | [] => 0
  | x :: r => max (dep x) (depL r)
end
mutual
/-- no list is longer than a list can be. -/
def Sm : JV → Prop
  | .mk _ _ _ _ _ l ns => l.length ≤ lim ∧ ns.length ≤ lim ∧ SmL l
def SmL : List JV → Prop
  | [] => True
  | x :: r => Sm x ∧ SmL r
end
theorem depL_mem : ∀ {l : List JV} {x : JV}, x ∈ l → dep x ≤ depL l
  | y :: r, x, h => by
    rw [depL]
    rcases List.mem_cons.1 h with rfl | h
    · omega
    · have := depL_mem h; omega
theorem depL_le {D : Nat} : ∀ {l : List JV}, (∀ x ∈ l, dep x ≤ D) → depL l ≤ D
  | [], _ => by rw [depL]; omega
  | x :: r, h => by
    rw [depL]
    have := h x (by simp)
    have := depL_le (l := r) (D := D) (fun y hy => h y (by simp [hy]))
    omega
theorem SmL_iff : ∀ {l : List JV}, SmL l ↔ ∀ x ∈ l, Sm x
  | [] => by rw [SmL]; simp
  | x :: r => by rw [SmL, SmL_iff]; simp
mutual
theorem Ok_sm : ∀ (v : JV), JV.Ok v → Sm v
  | .mk k b t n w l ns, h => by
    rw [JV.Ok] at h
    rw [Sm]
    exact ⟨h.2.2.2.1.1, h.2.2.2.2.1, OkL_sm l h.2.2.2.1.2⟩
theorem OkL_sm : ∀ (l : List JV), JV.OkL l → SmL l
  | [], _ => by rw [SmL]; trivial
  | x :: r, h => by
    rw [JV.OkL] at h
    rw [SmL]
    exact ⟨Ok_sm x h.1, OkL_sm r h.2⟩
end
abbrev D14 := Int × Bool × (List Int) × Int × Bool × (List JV) × (List (List Int)) × Int × Bool × (List Int) × Int × Bool × (List JV) × List (List Int)
def two (a b : JV) : D14 := (a.kind, a.b, a.text, a.n, a.whole, a.list, a.names, b.kind, b.b, b.text, b.n, b.whole, b.list, b.names)
theorem take_eq {α : Type} {a b : List α} {k : Nat} (ha : k < a.length) (hb : k < b.length) (h : a.take k = b.take k) (e : a[k] = b[k]) : a.take (k + 1) = b.take (k + 1) := by
  rw [List.take_add_one, List.take_add_one, h]
  simp [ha, hb, e]
theorem take_ne {α : Type} {a b : List α} {k : Nat} (ha : k < a.length) (hb : k < b.length) (e : a[k] ≠ b[k]) : a ≠ b := by
  rintro rfl
  exact e rfl
theorem ff {p : Prop} (h : ¬ p) : (false = true ↔ p) := ⟨(fun e => nomatch e), (fun e => absurd e h)⟩
theorem idx_get {α : Type} {a : List α} {k : Nat} (h : k < a.length) : idx a (k : Int) = some a[k] := by
  unfold idx
  rw [if_pos (by omega)]
  simp [h]
section
variable {n : Nat}
theorem eqStrs_go {a b : List (List Int)} (ha : a.length ≤ lim) (hn : a.length < n) : Gives (equalstringstring n (a, b)) (fun r => (r = true ↔ a = b)) := by
  unfold equalstringstring
  simp only
  have hlim : lim = 9223372036854775807 := rfl
  refine Gives.nite (fun h => Gives.of_some (ff fun e => absurd (by rw [e]) h)) fun h => ?_
  have hl : a.length = b.length := by omega
  refine Gives.loop (fun z => ∃ k : Nat, z = (a, b, (a.length : Int), (k : Int)) ∧ k ≤ a.length ∧ a.take k = b.take k) (fun z => a.length - z.2.2.2.toNat) (fun rec z hz hrec => ?_) n _ ⟨0, rfl, by omega, rfl⟩ (by dsimp only; omega)
  obtain ⟨k, rfl, hk, ht⟩ := hz
  dsimp only at hrec ⊢
  refine Gives.dite (fun hlt => ?_) fun hge => ?_
  · have hka : k < a.length := by omega
    have hkb : k < b.length := by omega
    refine Gives.bind_eq (idx_get hka) (Gives.bind_eq (idx_get hkb) ?_)
    by_cases e : a[k] = b[k]
    · refine Gives.neg (by simp [e]) ?_
      rw [wrap64 (by omega) (by omega)]
      exact hrec _ ⟨k + 1, rfl, by omega, take_eq hka hkb ht e⟩ (by dsimp only; omega)
    · exact Gives.pos (by simp [e]) (Gives.of_some (ff fun h => absurd h (take_ne hka hkb e)))
  · obtain rfl : k = a.length := by omega
    rw [List.take_length, hl, List.take_length] at ht
    exact Gives.of_some ⟨fun _ => ht, fun _ => rfl⟩
theorem eqFunc_go {sv : D14 → Option Bool} {a b : List JV} (hv : ∀ x ∈ a, ∀ y ∈ b, Gives (sv (two x y)) (fun r => (r = true ↔ x = y))) (ha : a.length ≤ lim) (hn : a.length < n) : Gives (slEqualFunc n sv (a, b)) (fun r => (r = true ↔ a = b)) := by
  unfold slEqualFunc
  simp only
  have hlim : lim = 9223372036854775807 := rfl
  refine Gives.nite (fun h => Gives.of_some (ff fun e => absurd (by rw [e]) h)) fun h => ?_
  have hl : a.length = b.length := by omega
  refine Gives.loop (fun z => ∃ k : Nat, z = (b, a, (a.length : Int), (k : Int)) ∧ k ≤ a.length ∧ a.take k = b.take k) (fun z => a.length - z.2.2.2.toNat) (fun rec z hz hrec => ?_) n _ ⟨0, rfl, by omega, rfl⟩ (by dsimp only; omega)
  obtain ⟨k, rfl, hk, ht⟩ := hz
  dsimp only at hrec ⊢
  refine Gives.dite (fun hlt => ?_) fun hge => ?_
  · have hka : k < a.length := by omega
    have hkb : k < b.length := by omega
    refine Gives.bind_eq (idx_get hka) (Gives.bind_eq (idx_get hkb) ?_)
    refine Gives.bind (hv a[k] (List.getElem_mem hka) b[k] (List.getElem_mem hkb)) fun r hr => ?_
    cases r with
    | true =>
      refine Gives.neg (by simp) ?_
      rw [wrap64 (by omega) (by omega)]
      exact hrec _ ⟨k + 1, rfl, by omega, take_eq hka hkb ht (hr.1 rfl)⟩ (by dsimp only; omega)
    | false =>
      exact Gives.pos (by simp) (Gives.of_some (ff fun h => absurd h (take_ne hka hkb (fun e => by have := hr.2 e; cases this))))
  · obtain rfl : k = a.length := by omega
    rw [List.take_length, hl, List.take_length] at ht
    exact Gives.of_some ⟨fun _ => ht, fun _ => rfl⟩
theorem jSame_go (hn : lim < n) : ∀ (D : Nat) (a b : JV), dep a ≤ D → Sm a → ∀ m, D ≤ m → Gives (loopF (jSameStep n) m (two a b)) (fun r => (r = true ↔ a = b)) := by
  intro D
  induction D with
  | zero =>
    intro a b h
    cases a
    rw [dep] at h
    omega
  | succ D ih =>
    intro a b hd ha m hm
    obtain ⟨m, rfl⟩ : ∃ q, m = q + 1 := ⟨m - 1, by omega⟩
    obtain ⟨k, bb, t, i, w, l, ns⟩ := a
    obtain ⟨k', bb', t', i', w', l', ns'⟩ := b
    rw [dep] at hd
    rw [Sm] at ha
    show Gives (jSameStep n (loopF (jSameStep n) m) (k, bb, t, i, w, l, ns, k', bb', t', i', w', l', ns')) _
    unfold jSameStep
    simp only
    refine Gives.nite (fun h => Gives.of_some (ff fun e => absurd (by injection e) h)) fun e1 => ?_
    by_cases e2 : bb = bb'
    · refine Gives.neg (by simp [e2]) ?_
      by_cases e3 : t = t'
      · refine Gives.neg (by simp [e3]) ?_
        refine Gives.nite (fun h => Gives.of_some (ff fun e => absurd (by injection e) h)) fun e4 => ?_
        by_cases e5 : w = w'
        · refine Gives.neg (by simp [e5]) ?_
          subst e1 e2 e3 e4 e5
          refine Gives.bind (eqFunc_go (fun x hx y hy => ih x y (by have := depL_mem hx; omega) (SmL_iff.1 ha.2.2 x hx) m (by omega)) ha.1 (by omega)) fun r hr => ?_
          cases r with
          | true =>
            obtain rfl := hr.1 rfl
            refine Gives.pos rfl ?_
            refine Gives.bind (eqStrs_go ha.2.1 (by omega)) fun r hr => Gives.of_some (hr.trans ⟨fun e => by rw [e], fun e => by injection e⟩)
          | false =>
            refine Gives.neg (by simp) (Gives.of_some (ff fun e => ?_))
            have : l = l' := by injection e
            have := hr.2 this
            cases this
        · exact Gives.pos (by simp [e5]) (Gives.of_some (ff fun e => absurd (by injection e) e5))
      · exact Gives.pos (by simp [e3]) (Gives.of_some (ff fun e => absurd (by injection e) e3))
    · exact Gives.pos (by simp [e2]) (Gives.of_some (ff fun e => absurd (by injection e) e2))
end
/-! what is read is small. -/
theorem works_true : works 9223372036854776000 () = some true := by kernel_rfl
end Go.Sx.YtmbakmdgmccgiaaDoor
