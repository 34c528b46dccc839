/- Part of a proof by a small interpreter on plain values; no condition. -/
import Derived.Test.YtmbakmdgmccgiaaDoorWe
/-! W06I: the same value; how deep; the law JsonReads. -/
namespace Go.Sx.YtmbakmdgmccgiaaDoor
open Go Go.Sx Go.Sx.Js
set_option autoImplicit false
set_option linter.unusedVariables false
set_option linter.unusedSimpArgs false
mutual
/-- how many values stand in each other. -/
def dep : JV → Nat
  | .mk _ _ _ _ _ l _ => 1 + depL l
def depL : List JV → Nat
  | [] => 0
  | x :: r => max (dep x) (depL r)
end
mutual
/-- no list is longer than a list can be. -/
def Sm : JV → Prop
  | .mk _ _ _ _ _ l ns => l.length ≤ lim ∧ ns.length ≤ lim ∧ SmL l
def SmL : List JV → Prop
  | [] => True
  | x :: r => Sm x ∧ SmL r
end
theorem depL_mem : ∀ {l : List JV} {x : JV}, x ∈ l → dep x ≤ depL l
  | y :: r, x, h => by
    rw [depL]
    rcases List.mem_cons.1 h with rfl | h
    · omega
    · have := depL_mem h; omega
theorem depL_le {D : Nat} : ∀ {l : List JV}, (∀ x ∈ l, dep x ≤ D) → depL l ≤ D
  | [], _ => by rw [depL]; omega
  | x :: r, h => by
    rw [depL]
    have := h x (by simp)
    have := depL_le (l := r) (D := D) (fun y hy => h y (by simp [hy]))
    omega
theorem SmL_iff : ∀ {l : List JV}, SmL l ↔ ∀ x ∈ l, Sm x
  | [] => by rw [SmL]; simp
  | x :: r => by rw [SmL, SmL_iff]; simp
abbrev D14 := Int × Bool × (List Int) × Int × Bool × (List JV) × (List (List Int)) × Int × Bool × (List Int) × Int × Bool × (List JV) × List (List Int)
def two (a b : JV) : D14 := (a.kind, a.b, a.text, a.n, a.whole, a.list, a.names, b.kind, b.b, b.text, b.n, b.whole, b.list, b.names)
theorem take_eq {α : Type} {a b : List α} {k : Nat} (ha : k < a.length) (hb : k < b.length) (h : a.take k = b.take k) (e : a[k] = b[k]) : a.take (k + 1) = b.take (k + 1) := by
  rw [List.take_add_one, List.take_add_one, h]
  simp [ha, hb, e]
theorem take_ne {α : Type} {a b : List α} {k : Nat} (ha : k < a.length) (hb : k < b.length) (e : a[k] ≠ b[k]) : a ≠ b := by
  rintro rfl
  exact e rfl
theorem ff {p : Prop} (h : ¬ p) : (false = true ↔ p) := ⟨(fun e => nomatch e), (fun e => absurd e h)⟩
theorem idx_get {α : Type} {a : List α} {k : Nat} (h : k < a.length) : idx a (k : Int) = some a[k] := by
  unfold idx
  rw [if_pos (by omega)]
  simp [h]
section
variable {n : Nat}
theorem eqStrs_go {a b : List (List Int)} (ha : a.length ≤ lim) (hn : a.length < n) : Gives (equalstringstring n (a, b)) (fun r => (r = true ↔ a = b)) := by
  unfold equalstringstring
  simp only
  have hlim : lim = 9223372036854775807 := rfl
  refine Gives.nite (fun h => Gives.of_some (ff fun e => absurd (by rw [e]) h)) fun h => ?_
  have hl : a.length = b.length := by omega
  refine Gives.loop (fun z => ∃ k : Nat, z = (a, b, (a.length : Int), (k : Int)) ∧ k ≤ a.length ∧ a.take k = b.take k) (fun z => a.length - z.2.2.2.toNat) (fun rec z hz hrec => ?_) n _ ⟨0, rfl, by omega, rfl⟩ (by dsimp only; omega)
  obtain ⟨k, rfl, hk, ht⟩ := hz
  dsimp only at hrec ⊢
  refine Gives.dite (fun hlt => ?_) fun hge => ?_
  · have hka : k < a.length := by omega
    have hkb : k < b.length := by omega
    refine Gives.bind_eq (idx_get hka) (Gives.bind_eq (idx_get hkb) ?_)
    by_cases e : a[k] = b[k]
    · refine Gives.neg (by simp [e]) ?_
      rw [wrap64 (by omega) (by omega)]
      exact hrec _ ⟨k + 1, rfl, by omega, take_eq hka hkb ht e⟩ (by dsimp only; omega)
    · exact Gives.pos (by simp [e]) (Gives.of_some (ff fun h => absurd h (take_ne hka hkb e)))
  · obtain rfl : k = a.length := by omega
    rw [List.take_length, hl, List.take_length] at ht
    exact Gives.of_some ⟨fun _ => ht, fun _ => rfl⟩
theorem eqFunc_go {sv : D14 → Option Bool} {a b : List JV} (hv : ∀ x ∈ a, ∀ y ∈ b, Gives (sv (two x y)) (fun r => (r = true ↔ x = y))) (ha : a.length ≤ lim) (hn : a.length < n) : Gives (slEqualFunc n sv (a, b)) (fun r => (r = true ↔ a = b)) := by
  unfold slEqualFunc
  simp only
  have hlim : lim = 9223372036854775807 := rfl
  refine Gives.nite (fun h => Gives.of_some (ff fun e => absurd (by rw [e]) h)) fun h => ?_
  have hl : a.length = b.length := by omega
  refine Gives.loop (fun z => ∃ k : Nat, z = (b, a, (a.length : Int), (k : Int)) ∧ k ≤ a.length ∧ a.take k = b.take k) (fun z => a.length - z.2.2.2.toNat) (fun rec z hz hrec => ?_) n _ ⟨0, rfl, by omega, rfl⟩ (by dsimp only; omega)
  obtain ⟨k, rfl, hk, ht⟩ := hz
  dsimp only at hrec ⊢
  refine Gives.dite (fun hlt => ?_) fun hge => ?_
  · have hka : k < a.length := by omega
    have hkb : k < b.length := by omega
    refine Gives.bind_eq (idx_get hka) (Gives.bind_eq (idx_get hkb) ?_)
    refine Gives.bind (hv a[k] (List.getElem_mem hka) b[k] (List.getElem_mem hkb)) fun r hr => ?_
    cases r with
    | true =>
      refine Gives.neg (by simp) ?_
      rw [wrap64 (by omega) (by omega)]
      exact hrec _ ⟨k + 1, rfl, by omega, take_eq hka hkb ht (hr.1 rfl)⟩ (by dsimp only; omega)
    | false =>
      exact Gives.pos (by simp) (Gives.of_some (ff fun h => absurd h (take_ne hka hkb (fun e => by have := hr.2 e; cases this))))
  · obtain rfl : k = a.length := by omega
    rw [List.take_length, hl, List.take_length] at ht
    exact Gives.of_some ⟨fun _ => ht, fun _ => rfl⟩
theorem jSame_go (hn : lim < n) : ∀ (D : Nat) (a b : JV), dep a ≤ D → Sm a → ∀ m, D ≤ m → Gives (loopF (jSameStep n) m (two a b)) (fun r => (r = true ↔ a = b)) := by
  intro D
  induction D with
  | zero =>
    intro a b h
    cases a
    rw [dep] at h
    omega
  | succ D ih =>
    intro a b hd ha m hm
    obtain ⟨m, rfl⟩ : ∃ q, m = q + 1 := ⟨m - 1, by omega⟩
    obtain ⟨k, bb, t, i, w, l, ns⟩ := a
    obtain ⟨k', bb', t', i', w', l', ns'⟩ := b
    rw [dep] at hd
    rw [Sm] at ha
    show Gives (jSameStep n (loopF (jSameStep n) m) (k, bb, t, i, w, l, ns, k', bb', t', i', w', l', ns')) _
    unfold jSameStep
    simp only
    refine Gives.nite (fun h => Gives.of_some (ff fun e => absurd (by injection e) h)) fun e1 => ?_
    by_cases e2 : bb = bb'
    · refine Gives.neg (by simp [e2]) ?_
      by_cases e3 : t = t'
      · refine Gives.neg (by simp [e3]) ?_
        refine Gives.nite (fun h => Gives.of_some (ff fun e => absurd (by injection e) h)) fun e4 => ?_
        by_cases e5 : w = w'
        · refine Gives.neg (by simp [e5]) ?_
          subst e1 e2 e3 e4 e5
          refine Gives.bind (eqFunc_go (fun x hx y hy => ih x y (by have := depL_mem hx; omega) (SmL_iff.1 ha.2.2 x hx) m (by omega)) ha.1 (by omega)) fun r hr => ?_
          cases r with
          | true =>
            obtain rfl := hr.1 rfl
            refine Gives.pos rfl ?_
            refine Gives.bind (eqStrs_go ha.2.1 (by omega)) fun r hr => Gives.of_some (hr.trans ⟨fun e => by rw [e], fun e => by injection e⟩)
          | false =>
            refine Gives.neg (by simp) (Gives.of_some (ff fun e => ?_))
            have : l = l' := by injection e
            have := hr.2 this
            cases this
        · exact Gives.pos (by simp [e5]) (Gives.of_some (ff fun e => absurd (by injection e) e5))
      · exact Gives.pos (by simp [e3]) (Gives.of_some (ff fun e => absurd (by injection e) e3))
    · exact Gives.pos (by simp [e2]) (Gives.of_some (ff fun e => absurd (by injection e) e2))
end
/-! what is read is small. -/
theorem elems_sm {pv : List Int → PR JV} {D : Nat} (hp : ∀ l v r, pv l = .ok v r → r.length ≤ l.length ∧ dep v ≤ D ∧ (l.length ≤ lim → Sm v)) : ∀ {m : Nat} {acc x : List JV} {l r : List Int}, Js.elems pv m acc l = .ok x r → (∀ y ∈ acc, dep y ≤ D ∧ Sm y) → acc.length + l.length ≤ lim → (∀ y ∈ x, dep y ≤ D ∧ Sm y) ∧ x.length ≤ lim
  | 0, acc, x, l, r, h, _, _ => by cases h
  | m + 1, acc, x, l, r, h, ha, hl => by
    rw [elems_s] at h
    obtain ⟨v, r1, h1, h⟩ := bind_ok h
    obtain ⟨b, r2, h2, h⟩ := bind_ok h
    obtain ⟨e1, e2, e3⟩ := hp _ _ _ h1
    have e4 := next_len h2
    have ha' : ∀ y ∈ acc ++ [v], dep y ≤ D ∧ Sm y := fun y hy => by
      rcases List.mem_append.1 hy with hy | hy
      · exact ha y hy
      · obtain rfl := List.mem_singleton.1 hy
        exact ⟨e2, e3 (by omega)⟩
    split at h
    · exact elems_sm hp h ha' (by simp; omega)
    · injection h with h _
      subst h
      exact ⟨ha', by simp; omega⟩
theorem members_sm {pv : List Int → PR JV} {D k : Nat} (hp : ∀ l v r, pv l = .ok v r → r.length ≤ l.length ∧ dep v ≤ D ∧ (l.length ≤ lim → Sm v)) : ∀ {m : Nat} {ns : List (List Int)} {acc : List JV} {x : List (List Int) × List JV} {l r : List Int}, Js.members pv k m ns acc l = .ok x r → (∀ y ∈ acc, dep y ≤ D ∧ Sm y) → acc.length + l.length ≤ lim → ns.length + l.length ≤ lim → (∀ y ∈ x.2, dep y ≤ D ∧ Sm y) ∧ x.2.length ≤ lim ∧ x.1.length ≤ lim
  | 0, ns, acc, x, l, r, h, _, _, _ => by cases h
  | m + 1, ns, acc, x, l, r, h, ha, hl, hl2 => by
    rw [members_s] at h
    obtain ⟨s, r0, h0, h⟩ := bind_ok h
    obtain ⟨v, r1, h1, h⟩ := bind_ok h
    obtain ⟨b, r2, h2, h⟩ := bind_ok h
    have e0 := member_len h0
    obtain ⟨e1, e2, e3⟩ := hp _ _ _ h1
    have e4 := next_len h2
    have ha' : ∀ y ∈ acc ++ [v], dep y ≤ D ∧ Sm y := fun y hy => by
      rcases List.mem_append.1 hy with hy | hy
      · exact ha y hy
      · obtain rfl := List.mem_singleton.1 hy
        exact ⟨e2, e3 (by omega)⟩
    split at h
    · exact members_sm hp h ha' (by simp; omega) (by simp; omega)
    · injection h with h _
      subst h
      exact ⟨ha', by simp; omega, by simp; omega⟩
theorem flat_sm (k : Int) (b : Bool) (t : List Int) (i : Int) (w : Bool) : dep (.mk k b t i w [] []) = 1 ∧ Sm (.mk k b t i w [] []) := by
  rw [dep, depL, Sm, SmL]
  simp
theorem number_sm {l r : List Int} {v : JV} (h : Js.number l = .ok v r) : dep v = 1 ∧ Sm v := by
  unfold Js.number at h
  obtain ⟨q, r1, _, h⟩ := bind_ok h
  injection h with h _
  subst h
  unfold numVal
  split
  · exact flat_sm _ _ _ _ _
  · exact flat_sm _ _ _ _ _
theorem value_sm {k : Nat} : ∀ {d : Nat} {l r : List Int} {v : JV}, Js.value k d l = .ok v r → r.length ≤ l.length ∧ dep v ≤ d + 1 ∧ (l.length ≤ lim → Sm v) := by
  intro d
  have hword : ∀ (w : List Int) (x : JV) (l r : List Int) (v : JV) (D : Nat), (word w l).map (fun _ => x) = .ok v r → dep x = 1 ∧ Sm x → dep v ≤ D + 1 ∧ Sm v := by
    intro w x l r v D h hx
    obtain ⟨_, _, rfl⟩ := map_ok h
    exact ⟨by omega, hx.2⟩
  induction d with
  | zero =>
    intro l r v h
    refine ⟨value_len h, ?_⟩
    rw [value_0] at h
    have : dep v ≤ 0 + 1 ∧ Sm v := by
      split at h
      · exact hword _ _ _ _ _ _ h (flat_sm _ _ _ _ _)
      split at h
      · exact hword _ _ _ _ _ _ h (flat_sm _ _ _ _ _)
      split at h
      · exact hword _ _ _ _ _ _ h (flat_sm _ _ _ _ _)
      split at h
      · obtain ⟨x, _, rfl⟩ := map_ok h
        have := flat_sm 4 false x 0 false
        exact ⟨by show dep (vText x) ≤ 1; unfold vText; omega, this.2⟩
      split at h
      · cases h
      split at h
      · cases h
      have := number_sm h
      exact ⟨by omega, this.2⟩
    exact ⟨this.1, fun _ => this.2⟩
  | succ d ih =>
    intro l r v h
    refine ⟨value_len h, ?_⟩
    rw [value_s] at h
    have e0 := blanks_len l
    have et : (blanks l).tail.length ≤ (blanks l).length := by simp
    have eb := blanks_len (blanks l).tail
    have low : ∀ {v : JV}, dep v ≤ 0 + 1 ∧ Sm v → dep v ≤ d + 1 + 1 ∧ (l.length ≤ lim → Sm v) := fun h => ⟨by omega, fun _ => h.2⟩
    split at h
    · exact low (hword _ _ _ _ _ _ h (flat_sm _ _ _ _ _))
    split at h
    · exact low (hword _ _ _ _ _ _ h (flat_sm _ _ _ _ _))
    split at h
    · exact low (hword _ _ _ _ _ _ h (flat_sm _ _ _ _ _))
    split at h
    · obtain ⟨x, _, rfl⟩ := map_ok h
      have := flat_sm 4 false x 0 false
      exact low ⟨by show dep (vText x) ≤ 1; unfold vText; omega, this.2⟩
    split at h
    · unfold listOf at h
      split at h
      · injection h with h _
        subst h
        have := flat_sm 5 false [] 0 false
        exact low ⟨by show dep (vList []) ≤ 1; unfold vList; omega, this.2⟩
      · obtain ⟨x, hx, rfl⟩ := map_ok h
        unfold vList
        rw [dep, Sm]
        by_cases hl : l.length ≤ lim
        · obtain ⟨h1, h2⟩ := elems_sm (D := d + 1) (fun _ _ _ h => ih h) hx (by simp) (by simp; omega)
          have := depL_le (D := d + 1) (fun x hx => (h1 x hx).1)
          exact ⟨by omega, fun _ => ⟨h2, by simp, SmL_iff.2 fun x hx => (h1 x hx).2⟩⟩
        · have hdp : ∀ {m : Nat} {acc x : List JV} {l r : List Int}, Js.elems (Js.value k d) m acc l = .ok x r → (∀ y ∈ acc, dep y ≤ d + 1) → ∀ y ∈ x, dep y ≤ d + 1 := by
            intro m
            induction m with
            | zero => intro acc x l r h; cases h
            | succ m ihm =>
              intro acc x l r h ha
              rw [elems_s] at h
              obtain ⟨v, r1, h1, h⟩ := bind_ok h
              obtain ⟨b, r2, h2, h⟩ := bind_ok h
              have ha' : ∀ y ∈ acc ++ [v], dep y ≤ d + 1 := fun y hy => by
                rcases List.mem_append.1 hy with hy | hy
                · exact ha y hy
                · obtain rfl := List.mem_singleton.1 hy
                  exact (ih h1).2.1
              split at h
              · exact ihm h ha'
              · injection h with h _
                subst h
                exact ha'
          have := depL_le (hdp hx (by simp))
          exact ⟨by omega, fun h => absurd h hl⟩
    split at h
    · unfold objOf at h
      split at h
      · injection h with h _
        subst h
        have := flat_sm 6 false [] 0 false
        exact low ⟨by show dep (vObj [] []) ≤ 1; unfold vObj; omega, this.2⟩
      · obtain ⟨x, hx, rfl⟩ := map_ok h
        unfold vObj
        rw [dep, Sm]
        by_cases hl : l.length ≤ lim
        · obtain ⟨h1, h2, h3⟩ := members_sm (D := d + 1) (fun _ _ _ h => ih h) hx (by simp) (by simp; omega) (by simp; omega)
          have := depL_le (D := d + 1) (fun x hx => (h1 x hx).1)
          exact ⟨by omega, fun _ => ⟨h2, h3, SmL_iff.2 fun x hx => (h1 x hx).2⟩⟩
        · have hdp : ∀ {m : Nat} {ns : List (List Int)} {acc : List JV} {x : List (List Int) × List JV} {l r : List Int}, Js.members (Js.value k d) k m ns acc l = .ok x r → (∀ y ∈ acc, dep y ≤ d + 1) → ∀ y ∈ x.2, dep y ≤ d + 1 := by
            intro m
            induction m with
            | zero => intro ns acc x l r h; cases h
            | succ m ihm =>
              intro ns acc x l r h ha
              rw [members_s] at h
              obtain ⟨s, r0, h0, h⟩ := bind_ok h
              obtain ⟨v, r1, h1, h⟩ := bind_ok h
              obtain ⟨b, r2, h2, h⟩ := bind_ok h
              have ha' : ∀ y ∈ acc ++ [v], dep y ≤ d + 1 := fun y hy => by
                rcases List.mem_append.1 hy with hy | hy
                · exact ha y hy
                · obtain rfl := List.mem_singleton.1 hy
                  exact (ih h1).2.1
              split at h
              · exact ihm h ha'
              · injection h with h _
                subst h
                exact ha'
          have := depL_le (hdp hx (by simp))
          exact ⟨by omega, fun h => absurd h hl⟩
    have := number_sm h
    exact low ⟨by omega, this.2⟩
theorem zero_sm : dep JV.zero ≤ 33 ∧ Sm JV.zero := by
  have := flat_sm 0 false [] 0 false
  unfold JV.zero
  exact ⟨by omega, this.2⟩
theorem parse_sm (s : List Int) : dep (Js.parse s).1 ≤ 33 ∧ Sm (Js.parse s).1 := by
  have hlim : lim = 9223372036854775807 := rfl
  unfold Js.parse
  split
  · exact zero_sm
  · split
    · exact zero_sm
    · rename_i v r hv
      have := value_sm hv
      split
      · exact ⟨this.2.1, this.2.2 (by omega)⟩
      · exact zero_sm
theorem num_v {n : Nat} (e : Int) : turnstilelaw06Num n e = some e := by
  unfold turnstilelaw06Num
  by_cases h : e = 0
  · subst h; rfl
  · rw [if_neg (by simpa using h), if_neg (by simpa using h)]
theorem works_true : works 9223372036854776000 () = some true := by kernel_rfl
end Go.Sx.YtmbakmdgmccgiaaDoor
