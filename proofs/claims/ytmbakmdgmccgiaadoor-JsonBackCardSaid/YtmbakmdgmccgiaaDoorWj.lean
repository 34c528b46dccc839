/- Part of a proof by a small interpreter on plain values; no condition. -/
import Derived.Test.YtmbakmdgmccgiaaDoorWh
import Derived.Test.YtmbakmdgmccgiaaDoorWi
/-! W06AE: how deep; whether a value may be. -/
namespace Go.Sx.YtmbakmdgmccgiaaDoor
open Go Go.Sx Go.Sx.Js
set_option autoImplicit false
set_option linter.unusedVariables false
set_option linter.unusedSimpArgs false
mutual
/-- how deep, as the document means it. -/
def gd : JV → Nat
  | .mk k _ _ _ _ l _ => if k = 5 ∨ k = 6 then 1 + gdL l else 0
def gdL : List JV → Nat
  | [] => 0
  | x :: r => max (gd x) (gdL r)
end
mutual
/-- its texts and lists are of bytes, and not too long. -/
def Bt (B : Nat) : JV → Prop
  | .mk _ _ t _ _ l ns => (Byt t ∧ t.length ≤ B) ∧ (∀ s ∈ ns, Byt s ∧ s.length ≤ B) ∧ (l.length ≤ B ∧ ns.length ≤ B) ∧ BtL B l
def BtL (B : Nat) : List JV → Prop
  | [] => True
  | x :: r => Bt B x ∧ BtL B r
end
theorem BtL_iff {B : Nat} : ∀ {l : List JV}, BtL B l ↔ ∀ x ∈ l, Bt B x
  | [] => by rw [BtL]; simp
  | x :: r => by rw [BtL, BtL_iff]; simp
theorem gdL_app : ∀ (a : List JV) (x : JV), gdL (a ++ [x]) = max (gdL a) (gd x)
  | [], x => by simp only [List.nil_append, gdL]; omega
  | y :: r, x => by simp only [List.cons_append, gdL, gdL_app r x]; omega
mutual
theorem gd_dep : ∀ (v : JV), gd v ≤ dep v
  | .mk k b t n w l ns => by
    rw [gd, dep]
    have := gdL_dep l
    split <;> omega
theorem gdL_dep : ∀ (l : List JV), gdL l ≤ depL l
  | [] => by rw [gdL, depL]; omega
  | x :: r => by
    rw [gdL, depL]
    have := gd_dep x
    have := gdL_dep r
    omega
end
theorem gdL_take {l : List JV} {k : Nat} (h : k < l.length) : gdL (l.take (k + 1)) = max (gdL (l.take k)) (gd l[k]) := by
  rw [List.take_add_one]
  simp only [h, List.getElem?_eq_getElem, Option.toList]
  rw [gdL_app]
theorem gdL_take_le {l : List JV} {D : Nat} (k : Nat) (h : depL l ≤ D) : gdL (l.take k) ≤ D := by
  have := gdL_dep (l.take k)
  have : depL (l.take k) ≤ D := depL_le fun x hx => by
    have := depL_mem (List.mem_of_mem_take hx)
    omega
  omega
theorem max_int (a b : Nat) : (if (b : Int) > (a : Int) then (b : Int) else (a : Int)) = ((max a b : Nat) : Int) := by
  split <;> omega
section
variable {n : Nat}
theorem deep_go {B : Nat} (hB : B ≤ 10000000000) (hn : B < n) : ∀ (D : Nat) (v : JV), dep v ≤ D → Bt B v → ∀ (m : Nat) (left : Int), D ≤ m → D < left → left ≤ 10000 → Gives (loopF (deepStep n) m (v.kind, v.b, v.text, v.n, v.whole, v.list, v.names, left)) (fun r => r = (gd v : Int)) := by
  intro D
  induction D with
  | zero =>
    intro v h
    cases v
    rw [dep] at h
    omega
  | succ D ih =>
    intro v hd hb m left hm hl1 hl2
    obtain ⟨m, rfl⟩ : ∃ q, m = q + 1 := ⟨m - 1, by omega⟩
    obtain ⟨k, b, t, i, w, l, ns⟩ := v
    rw [dep] at hd
    rw [Bt] at hb
    rw [gd]
    show Gives (deepStep n (loopF (deepStep n) m) (k, b, t, i, w, l, ns, left)) _
    unfold deepStep
    simp only
    refine Gives.bind_eq (r := Out.go (left, decide (k ≠ 5 ∧ k ≠ 6), k, b, t, i, w, l, ns)) ?_ ?_
    · by_cases h5 : k = 5
      · rw [if_neg (by simpa using h5)]; simp [h5]; omega
      · by_cases h6 : k = 6
        · rw [if_pos (by simpa using h5), if_neg (by simpa using h6)]; simp [h6]; omega
        · rw [if_pos (by simpa using h5), if_pos (by simpa using h6)]; simp [h5, h6]
    dsimp only
    refine Gives.dite (fun h => ?_) fun h => ?_
    · rw [if_neg (by omega)]; exact Gives.of_some rfl
    · rw [if_pos (by omega)]
      refine Gives.loop (fun z => ∃ q : Nat, z = (left, (gdL (l.take q) : Int), l, (l.length : Int), (q : Int)) ∧ q ≤ l.length) (fun z => l.length - z.2.2.2.2.toNat) (fun rec z hz hrec => ?_) n _ ⟨0, rfl, by omega⟩ (by dsimp only; omega)
      obtain ⟨q, rfl, hq⟩ := hz
      have hgl := gdL_take_le (l := l) (D := D) q (by omega)
      dsimp only at hrec ⊢
      refine Gives.dite (fun hlt => ?_) fun hge => ?_
      · have hql : q < l.length := by omega
        refine Gives.bind_eq (idx_get hql) ?_
        rw [wrap64 (n := left - 1) (by omega) (by omega)]
        refine Gives.bind (ih l[q] (by have := depL_mem (List.getElem_mem hql); omega) (BtL_iff.1 hb.2.2.2 _ (List.getElem_mem hql)) m (left - 1) (by omega) (by omega) (by omega)) fun r hr => ?_
        subst hr
        rw [wrap64 (by omega) (by omega), max_int, ← gdL_take hql]
        exact hrec _ ⟨q + 1, rfl, by omega⟩ (by dsimp only; omega)
      · obtain rfl : q = l.length := by omega
        rw [List.take_length] at hgl ⊢
        rw [wrap64 (by omega) (by omega)]
        exact Gives.of_some (by omega)
end
/-! whether a value may be. -/
def numOk (t : List Int) (n : Int) (w : Bool) : Bool := match Js.number t with
  | .ok v [] => decide (v.n = n) && (v.whole == w)
  | _ => false
def uOk (s : List Int) : Bool := utf8 s.length s
mutual
def well : JV → Bool
  | .mk k b t n w l ns =>
    if k = 1 then !b && t.isEmpty && decide (n = 0) && !w && l.isEmpty && ns.isEmpty
    else if k = 2 then t.isEmpty && decide (n = 0) && !w && l.isEmpty && ns.isEmpty
    else if k = 4 then uOk t && (!b && decide (n = 0) && !w && l.isEmpty && ns.isEmpty)
    else if k = 3 then numOk t n w && (!b && l.isEmpty && ns.isEmpty)
    else if k = 6 then decide (ns.length = l.length) && ns.all uOk && (wellL l && (!b && t.isEmpty && decide (n = 0) && !w))
    else if k = 5 then wellL l && (!b && t.isEmpty && decide (n = 0) && !w && ns.isEmpty)
    else false
def wellL : List JV → Bool
  | [] => true
  | x :: r => well x && wellL r
end
mutual
/-- does a name stand twice? -/
def tw : JV → Bool
  | .mk _ _ _ _ _ l ns => !(decide ns.Nodup) || twL l
def twL : List JV → Bool
  | [] => false
  | x :: r => tw x || twL r
end
theorem wellL_all : ∀ (l : List JV), wellL l = l.all well
  | [] => rfl
  | x :: r => by rw [wellL, wellL_all r]; rfl
theorem twL_any : ∀ (l : List JV), twL l = l.any tw
  | [] => rfl
  | x :: r => by rw [twL, twL_any r]; rfl
def valid (v : JV) : Int := if 32 < gd v then 5 else if well v = false then 3 else if tw v = true then 6 else 0
theorem all_take {α : Type} {p : α → Bool} {l : List α} {k : Nat} (h : k < l.length) : (l.take (k + 1)).all p = ((l.take k).all p && p l[k]) := by
  rw [List.take_add_one]
  simp only [h, List.getElem?_eq_getElem, Option.toList]
  rw [List.all_append]
  simp
theorem any_take {α : Type} {p : α → Bool} {l : List α} {k : Nat} (h : k < l.length) : (l.take (k + 1)).any p = ((l.take k).any p || p l[k]) := by
  rw [List.take_add_one]
  simp only [h, List.getElem?_eq_getElem, Option.toList]
  rw [List.any_append]
  simp
theorem all_false {α : Type} {p : α → Bool} {l : List α} {k : Nat} (h : k < l.length) (hp : p l[k] = false) : l.all p = false := by
  rw [List.all_eq_false]
  exact ⟨l[k], List.getElem_mem h, by simp [hp]⟩
theorem any_true {α : Type} {p : α → Bool} {l : List α} {k : Nat} (h : k < l.length) (hp : p l[k] = true) : l.any p = true := List.any_eq_true.2 ⟨l[k], List.getElem_mem h, hp⟩
theorem nodup_take {ns : List (List Int)} {k : Nat} (h : k < ns.length) (hn : (ns.take k).Nodup) : ((ns.take k).any (· == ns[k]) = true → ¬ ns.Nodup) ∧ ((ns.take k).any (· == ns[k]) = false → (ns.take (k + 1)).Nodup) := by
  have ht : ns.take (k + 1) = ns.take k ++ [ns[k]] := by
    rw [List.take_add_one]
    simp [h]
  constructor
  · intro ha hnd
    have : (ns.take (k + 1)).Nodup := hnd.sublist (List.take_sublist _ _)
    rw [ht, List.nodup_append] at this
    obtain ⟨x, hx, hxe⟩ := List.any_eq_true.1 ha
    have hxe : x = ns[k] := by simpa using hxe
    exact this.2.2 x hx ns[k] (by simp) hxe
  · intro ha
    rw [ht, List.nodup_append]
    refine ⟨hn, by simp, ?_⟩
    intro a ha1 b hb1 e
    obtain rfl := List.mem_singleton.1 hb1
    rw [List.any_eq_false] at ha
    exact ha a ha1 (by simp [e])
section
variable {n : Nat}
theorem twice_go {B : Nat} (hB : B ≤ 10000000000) (hn : B < n) : ∀ (D : Nat) (v : JV), dep v ≤ D → Bt B v → ∀ (m : Nat), D ≤ m → Gives (loopF (twiceStep n) m (one v)) (fun r => r = tw v) := by
  intro D
  induction D with
  | zero =>
    intro v h
    cases v
    rw [dep] at h
    omega
  | succ D ih =>
    intro v hd hb m hm
    obtain ⟨m, rfl⟩ : ∃ q, m = q + 1 := ⟨m - 1, by omega⟩
    obtain ⟨k, b, t, i, w, l, ns⟩ := v
    rw [dep] at hd
    rw [Bt] at hb
    rw [tw]
    show Gives (twiceStep n (loopF (twiceStep n) m) (k, b, t, i, w, l, ns)) _
    unfold twiceStep
    simp only
    refine Gives.loop (fun z => ∃ q : Nat, z = (ns, (ns.length : Int), (q : Int), k, b, t, i, w, l, ns, (ns.take q).map fun x => (x, true)) ∧ q ≤ ns.length ∧ (ns.take q).Nodup) (fun z => ns.length - z.2.2.1.toNat) (fun rec z hz hrec => ?_) n _ ⟨0, rfl, by omega, by simp⟩ (by dsimp only; omega)
    obtain ⟨q, rfl, hq, hnd⟩ := hz
    dsimp only at hrec ⊢
    refine Gives.dite (fun hlt => ?_) fun hge => ?_
    · have hql : q < ns.length := by omega
      obtain ⟨n1, n2⟩ := nodup_take hql hnd
      refine Gives.bind_eq (idx_get hql) ?_
      rw [mget_seen]
      cases ha : (ns.take q).any (· == ns[q]) with
      | true =>
        refine Gives.pos rfl (Gives.of_some ?_)
        rw [decide_eq_false (n1 ha)]
        rfl
      | false =>
        refine Gives.neg (by simp) ?_
        rw [wrap64 (by omega) (by omega), mput_seen ha]
        refine hrec _ ⟨q + 1, ?_, by omega, n2 ha⟩ (by dsimp only; omega)
        have : ns.take (q + 1) = ns.take q ++ [ns[q]] := by
          rw [List.take_add_one]
          simp [hql]
        rw [this]
        rfl
    · obtain rfl : q = ns.length := by omega
      rw [List.take_length] at hnd
      rw [decide_eq_true hnd, twL_any]
      refine Gives.bind (P := fun r => r = l.any tw) ?_ fun r hr => Gives.of_some (by rw [hr]; rfl)
      unfold slContainsFunc slIndexFunc
      refine Gives.bind (P := fun r : Int => decide (r ≥ 0) = l.any tw) ?_ fun r hr => Gives.of_some hr
      clear hrec
      refine Gives.loop (fun z => ∃ q : Nat, z = (l, (l.length : Int), (q : Int)) ∧ q ≤ l.length ∧ (l.take q).any tw = false) (fun z => l.length - z.2.2.toNat) (fun rec z hz hrec => ?_) n _ ⟨0, rfl, by omega, rfl⟩ (by dsimp only; omega)
      obtain ⟨q, rfl, hq, hnt⟩ := hz
      dsimp only at hrec ⊢
      refine Gives.dite (fun hlt => ?_) fun hge => ?_
      · have hql : q < l.length := by omega
        refine Gives.bind_eq (idx_get hql) ?_
        refine Gives.bind (ih l[q] (by have := depL_mem (List.getElem_mem hql); omega) (BtL_iff.1 hb.2.2.2 _ (List.getElem_mem hql)) m (by omega)) fun r hr => ?_
        subst hr
        refine Gives.ite (fun h => Gives.of_some ?_) fun h => ?_
        · rw [any_true hql h]; simp
        · rw [wrap64 (by omega) (by omega)]
          refine hrec _ ⟨q + 1, rfl, by omega, ?_⟩ (by dsimp only; omega)
          rw [any_take hql, hnt]
          simpa using h
      · obtain rfl : q = l.length := by omega
        rw [List.take_length] at hnt
        rw [hnt]
        exact Gives.of_some rfl
theorem all_go {ns : List (List Int)} (hs : ∀ s ∈ ns, Byt s) (hl : ns.length ≤ 10000000000) (hn : ns.length < n) : Gives (all n ns) (fun r => r = ns.all uOk) := by
  unfold all
  refine Gives.loop (fun z => ∃ q : Nat, z = (ns, (ns.length : Int), (q : Int)) ∧ q ≤ ns.length ∧ (ns.take q).all uOk = true) (fun z => ns.length - z.2.2.toNat) (fun rec z hz hrec => ?_) n _ ⟨0, rfl, by omega, rfl⟩ (by dsimp only; omega)
  obtain ⟨q, rfl, hq, hu⟩ := hz
  dsimp only at hrec ⊢
  refine Gives.dite (fun hlt => ?_) fun hge => ?_
  · have hql : q < ns.length := by omega
    refine Gives.bind_eq (idx_get hql) ?_
    refine Gives.bind_eq (r := uOk ns[q]) (by show validRun _ = _; unfold validRun uOk; rw [validL_utf8 (hs _ (List.getElem_mem hql))]) ?_
    cases hx : uOk ns[q] with
    | false => exact Gives.pos rfl (Gives.of_some (all_false hql hx).symm)
    | true =>
      refine Gives.neg (by simp) ?_
      rw [wrap64 (by omega) (by omega)]
      refine hrec _ ⟨q + 1, rfl, by omega, ?_⟩ (by dsimp only; omega)
      rw [all_take hql, hu, hx]; rfl
  · obtain rfl : q = ns.length := by omega
    rw [List.take_length] at hu
    rw [hu]
    exact Gives.of_some rfl
theorem bare_v (k : Int) (b : Bool) (t : List Int) (i : Int) (w : Bool) (l : List JV) (ns : List (List Int)) (v : JV) (hk : v.kind = k) : jBare n (k, b, t, i, w, l, ns, v) = some (!b && t.isEmpty && decide (i = 0) && !w && l.isEmpty && ns.isEmpty) := by
  unfold jBare
  simp only
  rw [if_pos (by simpa using hk.symm)]
  have hT : (t == ([] : List Int)) = t.isEmpty := by cases t <;> rfl
  have hL : ((l.length : Int) == 0) = l.isEmpty := by cases l <;> simp <;> omega
  have hN : ((ns.length : Int) == 0) = ns.isEmpty := by cases ns <;> simp <;> omega
  have hi : (i == (0 : Int)) = decide (i = 0) := rfl
  rw [hT, hL, hN, hi]
  cases b <;> cases t.isEmpty <;> cases decide (i = 0) <;> cases w <;> cases l.isEmpty <;> rfl
end
end Go.Sx.YtmbakmdgmccgiaaDoor
/-! W06AF: whether a value may be: both are one. -/
namespace Go.Sx.YtmbakmdgmccgiaaDoor
open Go Go.Sx Go.Sx.Js
set_option autoImplicit false
set_option linter.unusedVariables false
set_option linter.unusedSimpArgs false
theorem well_mk (k : Int) (b : Bool) (t : List Int) (n : Int) (w : Bool) (l : List JV) (ns : List (List Int)) : well (.mk k b t n w l ns) =
    (if k = 1 then !b && t.isEmpty && decide (n = 0) && !w && l.isEmpty && ns.isEmpty
    else if k = 2 then t.isEmpty && decide (n = 0) && !w && l.isEmpty && ns.isEmpty
    else if k = 4 then uOk t && (!b && decide (n = 0) && !w && l.isEmpty && ns.isEmpty)
    else if k = 3 then numOk t n w && (!b && l.isEmpty && ns.isEmpty)
    else if k = 6 then decide (ns.length = l.length) && ns.all uOk && (l.all well && (!b && t.isEmpty && decide (n = 0) && !w))
    else if k = 5 then l.all well && (!b && t.isEmpty && decide (n = 0) && !w && ns.isEmpty)
    else false) := by rw [well, wellL_all]
def bareB (b : Bool) (t : List Int) (n : Int) (w : Bool) (l : List JV) (ns : List (List Int)) : Bool := !b && t.isEmpty && decide (n = 0) && !w && l.isEmpty && ns.isEmpty
section
variable {n : Nat}
theorem numOk_bad {t : List Int} {e : Int} {r : List Int} (h : Js.number t = .bad e r) (i : Int) (w : Bool) : numOk t i w = false := by
  unfold numOk; rw [h]
theorem numOk_cons {t : List Int} {v : JV} {c : Int} {r : List Int} (h : Js.number t = .ok v (c :: r)) (i : Int) (w : Bool) : numOk t i w = false := by
  unfold numOk; rw [h]
theorem numOk_nil {t : List Int} {v : JV} (h : Js.number t = .ok v []) (i : Int) (w : Bool) : numOk t i w = (decide (v.n = i) && (v.whole == w)) := by
  unfold numOk; rw [h]
theorem well_go {B : Nat} (hB : B ≤ 10000000000) (hn : B + 100 < n) : ∀ (D : Nat) (v : JV), dep v ≤ D → Bt B v → ∀ (m : Nat) (p : Pool), D ≤ m → Gives (loopF (jWellStep n) m (v.kind, v.b, v.text, v.n, v.whole, v.list, v.names, p)) (fun r => r.1 = well v) := by
  intro D
  induction D with
  | zero =>
    intro v h
    cases v
    rw [dep] at h
    omega
  | succ D ih =>
    intro v hd hb m p hm
    obtain ⟨m, rfl⟩ : ∃ q, m = q + 1 := ⟨m - 1, by omega⟩
    obtain ⟨k, b, t, i, w, l, ns⟩ := v
    rw [dep] at hd
    rw [Bt] at hb
    obtain ⟨⟨ht1, ht2⟩, hns, ⟨hl1, hl2⟩, hbl⟩ := hb
    rw [well_mk]
    show Gives (jWellStep n (loopF (jWellStep n) m) (k, b, t, i, w, l, ns, p)) _
    unfold jWellStep
    simp only
    generalize hW : (if k = 1 then !b && t.isEmpty && decide (i = 0) && !w && l.isEmpty && ns.isEmpty
      else if k = 2 then t.isEmpty && decide (i = 0) && !w && l.isEmpty && ns.isEmpty
      else if k = 4 then uOk t && (!b && decide (i = 0) && !w && l.isEmpty && ns.isEmpty)
      else if k = 3 then numOk t i w && (!b && l.isEmpty && ns.isEmpty)
      else if k = 6 then decide (ns.length = l.length) && ns.all uOk && (l.all well && (!b && t.isEmpty && decide (i = 0) && !w))
      else if k = 5 then l.all well && (!b && t.isEmpty && decide (i = 0) && !w && ns.isEmpty)
      else false) = W
    refine Gives.bind (P := fun o => (∃ (b' : Bool) (t' : List Int) (i' : Int) (w' : Bool) (l' : List JV) (ns' : List (List Int)) (p' : Pool), o = Out.go (k, b, t, i, w, l, ns, k, b', t', i', w', l', ns', p') ∧ W = bareB b' t' i' w' l' ns') ∨ (∃ p', o = Out.ret (false, p') ∧ W = false)) ?_ fun o ho => ?_
    · -- the list's parts
      have parts : ∀ (ns' : List (List Int)), W = (l.all well && bareB b t i w [] ns') → Gives (loopF (X := (List JV) × Int × Int × Int × Bool × (List Int) × Int × Bool × (List JV) × (List (List Int)) × Int × Bool × (List Int) × Int × Bool × (List JV) × (List (List Int)) × List (Int × (Int × Unit))) (A := Out (Int × Bool × (List Int) × Int × Bool × (List JV) × (List (List Int)) × Int × Bool × (List Int) × Int × Bool × (List JV) × (List (List Int)) × List (Int × (Int × Unit))) (Bool × List (Int × (Int × Unit)))) (fun rec28 y29 => match y29 with
          | (a30, (a31, (a32, (a33, (a34, (a35, (a36, (a37, (a38, (a39, (a40, (a41, (a42, (a43, (a44, (a45, (a46, a47))))))))))))))))) =>
          (if (decide (a32 < a31)) = true then
          (Option.bind (idx a30 a32) fun v48 =>
          (Option.bind (loopF (jWellStep n) m (v48.kind, (v48.b, (v48.text, (v48.n, (v48.whole, (v48.list, (v48.names, a47)))))))) fun r49 =>
          (if (!r49.1) = true then
          (Option.map Out.ret (some (false, r49.2)))
          else
          (let u50 : Int := (IntKind.wrap .i64 (a32 + (1 : Int)))
          rec28 (a30, (a31, (u50, (a33, (a34, (a35, (a36, (a37, (a38, (a39, (a40, (a41, (a42, (a43, (a44, (a45, (a46, r49.2)))))))))))))))))))))
          else
          (some (Out.go (a33, (a34, (a35, (a36, (a37, (a38, (a39, (a40, (a41, (a42, (a43, (a44, (([] : List JV), (a46, a47)))))))))))))))))) n (l, ((l.length : Int), ((0 : Int), (k, (b, (t, (i, (w, (l, (ns, (k, (b, (t, (i, (w, (l, (ns', p))))))))))))))))))
          (fun o => (∃ (b' : Bool) (t' : List Int) (i' : Int) (w' : Bool) (l' : List JV) (ns' : List (List Int)) (p' : Pool), o = Out.go (k, b, t, i, w, l, ns, k, b', t', i', w', l', ns', p') ∧ W = bareB b' t' i' w' l' ns') ∨ (∃ p', o = Out.ret (false, p') ∧ W = false)) := by
        intro ns' hWn
        refine Gives.loop (fun z => ∃ (q : Nat) (p' : Pool), z = (l, (l.length : Int), (q : Int), k, b, t, i, w, l, ns, k, b, t, i, w, l, ns', p') ∧ q ≤ l.length ∧ (l.take q).all well = true) (fun z => l.length - z.2.2.1.toNat) (fun rec z hz hrec => ?_) n _ ⟨0, p, rfl, by omega, rfl⟩ (by dsimp only; omega)
        obtain ⟨q, p', rfl, hq, hu⟩ := hz
        dsimp only at hrec ⊢
        refine Gives.dite (fun hlt => ?_) fun hge => ?_
        · have hql : q < l.length := by omega
          refine Gives.bind_eq (idx_get hql) ?_
          refine Gives.bind (ih l[q] (by have := depL_mem (List.getElem_mem hql); omega) (BtL_iff.1 hbl _ (List.getElem_mem hql)) m p' (by omega)) fun r hr => ?_
          obtain ⟨r1, r2⟩ := r
          have hr : r1 = well l[q] := hr
          subst hr
          dsimp only
          cases hx : well l[q] with
          | false =>
            refine Gives.pos rfl (Gives.of_some (.inr ⟨r2, rfl, ?_⟩))
            rw [hWn, all_false hql hx]; rfl
          | true =>
            refine Gives.neg (by simp) ?_
            rw [wrap64 (by omega) (by omega)]
            refine hrec _ ⟨q + 1, r2, rfl, by omega, ?_⟩ (by dsimp only; omega)
            rw [all_take hql, hu, hx]; rfl
        · obtain rfl : q = l.length := by omega
          rw [List.take_length] at hu
          refine Gives.of_some (.inl ⟨b, t, i, w, [], ns', p', rfl, ?_⟩)
          rw [hWn, hu]; rfl
      by_cases k1 : k = 1
      · rw [if_pos k1] at hW
        refine Gives.bind_eq (r := Out.ret (Out.go (k, b, t, i, w, l, ns, k, b, t, i, w, l, ns, p))) (by rw [if_pos (by simpa using k1)]; rfl) ?_
        exact Gives.of_some (.inl ⟨b, t, i, w, l, ns, p, rfl, hW.symm⟩)
      rw [if_neg k1] at hW
      by_cases k2 : k = 2
      · rw [if_pos k2] at hW
        refine Gives.bind_eq (r := Out.ret (Out.go (k, b, t, i, w, l, ns, k, false, t, i, w, l, ns, p))) (by rw [if_neg (by simpa using k1), if_pos (by simpa using k2)]; rfl) ?_
        exact Gives.of_some (.inl ⟨false, t, i, w, l, ns, p, rfl, by rw [← hW]; rfl⟩)
      rw [if_neg k2] at hW
      by_cases k4 : k = 4
      · rw [if_pos k4] at hW
        have hv : strValid n t = some (uOk t) := by show validRun _ = _; unfold validRun uOk; rw [validL_utf8 ht1]
        cases hu : uOk t with
        | false =>
          rw [hu] at hv hW
          refine Gives.bind_eq (r := Out.ret (Out.ret (false, p))) (by rw [if_neg (by simpa using k1), if_neg (by simpa using k2), if_pos (by simpa using k4), hv]; rfl) ?_
          exact Gives.of_some (.inr ⟨p, rfl, by rw [← hW]; rfl⟩)
        | true =>
          rw [hu] at hv hW
          refine Gives.bind_eq (r := Out.ret (Out.go (k, b, t, i, w, l, ns, k, b, [], i, w, l, ns, p))) (by rw [if_neg (by simpa using k1), if_neg (by simpa using k2), if_pos (by simpa using k4), hv]; rfl) ?_
          exact Gives.of_some (.inl ⟨b, [], i, w, l, ns, p, rfl, by rw [← hW]; simp [bareB]⟩)
      rw [if_neg k4] at hW
      by_cases k3 : k = 3
      · rw [if_pos k3] at hW
        refine Gives.bind (P := fun o => (∃ p', o = Out.ret (Out.ret (false, p')) ∧ W = false) ∨ (∃ p', o = Out.ret (Out.go (k, b, t, i, w, l, ns, k, b, [], 0, false, l, ns, p')) ∧ W = bareB b [] 0 false l ns)) ?_ fun o ho => ?_
        · refine Gives.neg (by simpa using k1) (Gives.neg (by simpa using k2) (Gives.neg (by simpa using k4) (Gives.pos (by simpa using k3) ?_)))
          refine Gives.bind (number_go (n := n) (s := t) (f := -1) (p := p) ht1 (by omega) (At.zero t) (by omega) (by omega)) fun r hr => ?_
          obtain ⟨y1, y2, y3, y4, y5, y6, y7, z1, z2, z3, z4⟩ := r
          cases hN : Js.number t with
          | bad e rest =>
            rw [hN] at hr
            obtain ⟨a, f, q, hz, hf, _⟩ := hr
            have hz : z3 = f := by have := congrArg (fun y : RS => y.2.2.1) hz; exact this
            subst hz
            refine Gives.pos (by simpa using hf) (Gives.of_some (.inl ⟨z4, rfl, ?_⟩))
            rw [← hW, numOk_bad hN]; rfl
          | ok v rest =>
            rw [hN] at hr
            obtain ⟨hv, j, f, q, hz, hf, hA⟩ := hr
            have hz3 : z3 = f := congrArg (fun y : RS => y.2.2.1) hz
            have hz2 : z2 = (j : Int) := congrArg (fun y : RS => y.2.1) hz
            have hv : JV.mk y1 y2 y3 y4 y5 y6 y7 = v := hv
            have hv4 : v.n = y4 := by rw [← hv]; rfl
            have hv5 : v.whole = y5 := by rw [← hv]; rfl
            have hlen := hA.len
            subst hz3 hz2
            dsimp only
            refine Gives.neg (by simpa using hf) ?_
            cases rest with
            | cons c r' =>
              simp only [List.length_cons] at hlen
              refine Gives.dpos (by omega) (Gives.of_some (.inl ⟨z4, rfl, ?_⟩))
              rw [← hW, numOk_cons hN]; rfl
            | nil =>
              simp only [List.length_nil] at hlen
              rw [numOk_nil hN, hv4, hv5] at hW
              refine Gives.dneg (by omega) ?_
              refine Gives.nite (fun h => Gives.of_some (.inl ⟨z4, rfl, ?_⟩)) fun h => ?_
              · rw [← hW, decide_eq_false h]; rfl
              · by_cases hw : y5 = w
                · refine Gives.neg (by simp [hw]) (Gives.of_some (.inr ⟨z4, rfl, ?_⟩))
                  rw [← hW, decide_eq_true h, hw]; simp [bareB]
                · refine Gives.pos (by simp [hw]) (Gives.of_some (.inl ⟨z4, rfl, ?_⟩))
                  rw [← hW, show (y5 == w) = false by simpa using hw]; simp
        · rcases ho with ⟨p', rfl, hW'⟩ | ⟨p', rfl, hW'⟩
          · exact Gives.of_some (.inr ⟨p', rfl, hW'⟩)
          · exact Gives.of_some (.inl ⟨b, [], 0, false, l, ns, p', rfl, hW'⟩)
      rw [if_neg k3] at hW
      by_cases k6 : k = 6
      · rw [if_pos k6] at hW
        refine Gives.bind (P := fun o => (∃ p', o = Out.ret (Out.ret (false, p')) ∧ W = false) ∨ (o = Out.go (k, b, t, i, w, l, ns, k, b, t, i, w, l, [], p) ∧ W = (l.all well && bareB b t i w [] []))) ?_ fun o ho => ?_
        · refine Gives.neg (by simpa using k1) (Gives.neg (by simpa using k2) (Gives.neg (by simpa using k4) (Gives.neg (by simpa using k3) (Gives.pos (by simpa using k6) ?_))))
          refine Gives.nite (fun h => Gives.of_some (.inl ⟨p, rfl, ?_⟩)) fun h => ?_
          · rw [← hW, decide_eq_false (by omega)]; rfl
          · rw [decide_eq_true (by omega)] at hW
            refine Gives.bind (all_go (n := n) (fun s hs => (hns s hs).1) (by omega) (by omega)) fun r hr => ?_
            subst hr
            cases ha : ns.all uOk with
            | false =>
              rw [ha] at hW
              exact Gives.pos rfl (Gives.of_some (.inl ⟨p, rfl, by rw [← hW]; rfl⟩))
            | true =>
              rw [ha] at hW
              exact Gives.neg (by simp) (Gives.of_some (.inr ⟨rfl, by rw [← hW]; simp [bareB]⟩))
        · rcases ho with ⟨p', rfl, hW'⟩ | ⟨rfl, hW'⟩
          · exact Gives.of_some (.inr ⟨p', rfl, hW'⟩)
          · exact parts [] hW'
      rw [if_neg k6] at hW
      by_cases k5 : k = 5
      · rw [if_pos k5] at hW
        refine Gives.bind_eq (r := Out.go (k, b, t, i, w, l, ns, k, b, t, i, w, l, ns, p)) (by rw [if_neg (by simpa using k1), if_neg (by simpa using k2), if_neg (by simpa using k4), if_neg (by simpa using k3), if_neg (by simpa using k6), if_pos (by simpa using k5)]) ?_
        exact parts ns (by rw [← hW]; simp [bareB])
      · rw [if_neg k5] at hW
        refine Gives.bind_eq (r := Out.ret (Out.ret (false, p))) (by rw [if_neg (by simpa using k1), if_neg (by simpa using k2), if_neg (by simpa using k4), if_neg (by simpa using k3), if_neg (by simpa using k6), if_neg (by simpa using k5)]; rfl) ?_
        exact Gives.of_some (.inr ⟨p, rfl, hW.symm⟩)
    · rcases ho with ⟨b', t', i', w', l', ns', p', rfl, hW'⟩ | ⟨p', rfl, hW'⟩
      · dsimp only
        refine Gives.bind_eq (bare_v k b' t' i' w' l' ns' _ rfl) (Gives.of_some ?_)
        rw [hW']; rfl
      · exact Gives.of_some hW'.symm
end
end Go.Sx.YtmbakmdgmccgiaaDoor
/-! W06AG: the document's sound; Valid. -/
namespace Go.Sx.YtmbakmdgmccgiaaDoor
open Go Go.Sx Go.Sx.Js
set_option autoImplicit false
set_option linter.unusedVariables false
set_option linter.unusedSimpArgs false
theorem nRest_split : ∀ (l : List Int) {st k q : Nat} {w : Bool} {r : List Int}, st ≤ 8 → nRest st k l = .ok (q, w) r → ∃ d, l = d ++ r ∧ q = k + d.length := by
  intro l
  induction l with
  | nil =>
    intro st k q w r hst h
    rw [nRest_nil hst] at h
    unfold nStop at h
    split at h
    · cases h
    · injection h with h1 h2
      injection h1 with h1 _
      subst h1 h2
      exact ⟨[], rfl, rfl⟩
  | cons c l ih =>
    intro st k q w r hst h
    rcases nRest_cons (k := k) (c := c) (r := l) hst with ⟨_, e⟩ | ⟨h0, h8, e⟩
    · rw [e] at h
      unfold nStop at h
      split at h
      · cases h
      · injection h with h1 h2
        injection h1 with h1 _
        subst h1 h2
        exact ⟨[], rfl, rfl⟩
    · rw [e] at h
      split at h
      · cases h
      · obtain ⟨d, rfl, rfl⟩ := ih (by omega) h
        exact ⟨c :: d, rfl, by simp; omega⟩
theorem numVal_parts (d : List Int) (w : Bool) : (numVal d w).kind = 3 ∧ (numVal d w).b = false ∧ (numVal d w).text = d ∧ (numVal d w).list = [] ∧ (numVal d w).names = [] := by
  unfold numVal
  split <;> exact ⟨rfl, rfl, rfl, rfl, rfl⟩
section
variable {n : Nat}
theorem flat_tw (k : Int) (b : Bool) (t : List Int) (i : Int) (w : Bool) : tw (.mk k b t i w [] []) = false := by
  rw [tw, twL]; simp
theorem jDepth_go {B : Nat} (hB : B ≤ 10000000000) (hn : B + 1000 < n) {v : JV} (hd : dep v ≤ 200) (hb : Bt B v) : Gives (jDepth n (one v)) (fun r => r = (gd v : Int)) := by
  unfold jDepth one
  simp only
  exact Gives.bind (deep_go hB (by omega) 200 v hd hb n 10000 (by omega) (by omega) (by omega)) fun r hr => Gives.of_some hr
theorem jValid_go {B : Nat} (hB : B ≤ 10000000000) (hn : B + 1000 < n) {v : JV} (hd : dep v ≤ 200) (hb : Bt B v) : Gives (jValid n (one v)) (fun r => r = valid v) := by
  unfold jValid z_jValid jValidP valid
  simp only
  refine Gives.bind (jDepth_go hB hn hd hb) fun r hr => ?_
  subst hr
  refine Gives.dite (fun h => ?_) fun h => ?_
  · rw [if_pos (by omega)]; exact Gives.of_some rfl
  rw [if_neg (by omega)]
  refine Gives.bind (well_go hB (by omega) 200 v hd hb n [] (by omega)) fun r hr => ?_
  obtain ⟨r1, r2⟩ := r
  have hr : r1 = well v := hr
  subst hr
  cases hw : well v with
  | false => exact Gives.pos rfl (Gives.of_some rfl)
  | true =>
    refine Gives.neg (by simp) ?_
    rw [if_neg (by simp)]
    refine Gives.bind (twice_go hB (by omega) 200 v hd hb n (by omega)) fun r hr => ?_
    subst hr
    cases ht : tw v with
    | false => exact Gives.neg (by simp) (Gives.of_some (by rw [if_neg (by simp)]))
    | true => exact Gives.pos rfl (Gives.of_some (by rw [if_pos rfl]))
end
end Go.Sx.YtmbakmdgmccgiaaDoor
