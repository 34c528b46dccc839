/- Part of a proof by a small interpreter on plain values; no condition. -/
import Derived.Test.YtmbakmdgmccgiabDoorSx2
/-! Sx3: a state is read by a shape. -/
namespace Go.Sx
open Go
set_option autoImplicit false
set_option linter.unusedSimpArgs false
set_option linter.unusedVariables false

theorem K.conv_eq {a b : K} {x : a.T} {y : b.T} (h : K.conv a b x = some y) : ∃ e : a = b, y = e ▸ x := by
  unfold K.conv at h
  split at h
  · rename_i e
    injection h with h
    exact ⟨e, h.symm⟩
  · cases h
theorem upds_app (en : Nat → EnS) (l m : List (Nat × EnS)) : upds en (l ++ m) = upds (upds en l) m := by simp [upds, List.foldl_append]
theorem upds_snoc (en : Nat → EnS) (l : List (Nat × EnS)) (h : Nat) (e : EnS) : upds en (l ++ [(h, e)]) = upd (upds en l) h e := by rw [upds_app]; rfl
/-- what a shape's numbers stand for. -/
def rg (g : Gh) (ren : List (Nat × Option Nat)) : Gh := fun h => match ren.lookup h with
  | some (some i) => g i
  | some none => some (.slice none 0 0)
  | none => none
structure GInv (C : Ctx) (en0 : Nat → EnS) (g : Gh) (w : World) (γ : GSt) (R : Part) (enS : Nat → EnS) (cons : Nat → Prop) : Prop where
  inv : Inv C R g enS w
  le : ∀ i, γ.en i = enS i ∨ γ.en i = .dead
  log : ∀ i, upds en0 γ.log i = enS i ∨ upds en0 γ.log i = .dead
  cons : ∀ i, cons i → γ.en i = .dead ∧ upds en0 γ.log i = .dead ∧ ∃ e, enS i = .live e
  inj : ∀ h h' i, γ.ren.lookup h = some (some i) → γ.ren.lookup h' = some (some i) → h = h'
  dom : ∀ h x, γ.ren.lookup h = some x → h ∈ γ.dom
/-- from one point of the reading to a later one. -/
structure GLe (γ γ' : GSt) (R R' : Part) : Prop where
  part : R.le R'
  nd : R'.nd = R.nd
  ren : ∀ h x, γ.ren.lookup h = some x → γ'.ren.lookup h = some x
  dead : ∀ i, γ.en i = .dead → γ'.en i = .dead
  dom : γ'.dom = γ.dom
  lv : ∀ i e, γ'.en i = .live e → γ.en i = .live e
theorem GLe.refl (γ : GSt) (R : Part) : GLe γ γ R R := ⟨Part.le_refl R, rfl, fun _ _ h => h, fun _ h => h, rfl, fun _ _ h => h⟩
theorem GLe.trans {a b c : GSt} {R R' R'' : Part} (h : GLe a b R R') (k : GLe b c R' R'') : GLe a c R R'' := ⟨h.part.trans k.part, k.nd.trans h.nd, fun i x e => k.ren i x (h.ren i x e), fun i e => k.dead i (h.dead i e), k.dom.trans h.dom, fun i e x => h.lv i e (k.lv i e x)⟩
theorem rg_le {g : Gh} {γ γ' : GSt} {R R' : Part} (h : GLe γ γ' R R') : (rg g γ.ren).le (rg g γ'.ren) := by
  intro i v hi
  unfold rg at *
  cases hl : γ.ren.lookup i with
  | none => rw [hl] at hi; cases hi
  | some x => rw [hl] at hi; rw [h.ren i x hl]; exact hi
theorem Rd_cut {E : TypeId} {R : Part} {κ : K} {xs : List κ.T} {b off m cp lo n c : Nat} (h : (K.list κ).Rd E R xs [.slice (some ⟨b, off, none⟩) m cp]) (hn : n ≠ 0) (hl : lo + n ≤ xs.length) (hc : n ≤ c) :
    (K.list κ).Rd E R ((xs.drop lo).take n) [.slice (some ⟨b, off + lo * κ.sz, none⟩) n c] := by
  obtain ⟨A, c', e, hlim, hx⟩ := h
  have hlen : ((xs.drop lo).take n).length = n := by rw [List.length_take, List.length_drop]; omega
  refine ⟨some ⟨b, off + lo * κ.sz, none⟩, c, by rw [hlen], ⟨by omega, by omega⟩, fun _ => ?_⟩
  obtain ⟨b', off', arr, ty, fr, hA, hb, hj⟩ := hx (by intro e; rw [e] at hl; simp at hl; omega)
  subst hA
  simp only [List.cons.injEq, Value.slice.injEq, Option.some.injEq, Addr.mk.injEq, and_true] at e
  obtain ⟨⟨rfl, rfl⟩, _, _⟩ := e
  refine ⟨b, _, arr, ty, fr, rfl, hb, fun j x hx => ?_⟩
  have hj' : j < n := by
    rcases Nat.lt_or_ge j n with h | h
    · exact h
    · rw [List.getElem?_eq_none (by omega)] at hx; cases hx
  have := hj (lo + j) x (by rw [List.getElem?_take, if_pos hj', List.getElem?_drop] at hx; exact hx)
  rw [Nat.add_mul, ← Nat.add_assoc] at this
  exact this
section
variable {C : Ctx} {en0 : Nat → EnS} {g : Gh} {w : World} {γ γ' : GSt} {R : Part} {enS : Nat → EnS} {cons : Nat → Prop}
theorem roRow_sound (G : GInv C en0 g w γ R enS cons) {h : Nat} {p : (κ : K) × List κ.T × GSt} (hp : roRow γ h = some p) :
    ∃ R' enS', GInv C en0 g w p.2.2 R' enS' cons ∧ GLe γ p.2.2 R R' ∧ p.2.2.ren = γ.ren ∧ ∃ v, g h = some v ∧ (K.list p.1).Rd C.E R' p.2.1 [v] := by
  unfold roRow at hp
  split at hp
  · rename_i ety κ xs he
    injection hp with hp
    subst hp
    have heS : enS h = .live (.row ety κ xs) := by
      rcases G.le h with x | x
      · rw [← x]; exact he
      · rw [he] at x; cases x
    obtain ⟨R', hle, hnd, hi⟩ := G.inv.leak heS
    obtain ⟨v, hv, hr⟩ := hi.ro h κ xs (upd_same _ _ _)
    refine ⟨R', _, ⟨hi, fun i => ?_, fun i => ?_, fun i hc => ?_, G.inj, G.dom⟩, ⟨hle, hnd, fun _ _ x => x, fun i x => ?_, rfl, fun i e x => ?_⟩, rfl, v, hv, hr⟩
    · show upd γ.en h (.ro κ xs) i = upd enS h (.ro κ xs) i ∨ _
      by_cases hih : i = h
      · subst hih; simp only [upd_same]; exact .inl trivial
      · rw [upd_ne _ _ hih, upd_ne _ _ hih]
        rcases G.le i with x | x
        · exact .inl x
        · exact .inr (by show upd γ.en h (.ro κ xs) i = _; rw [upd_ne _ _ hih]; exact x)
    · show upds en0 (γ.log ++ [(h, .ro κ xs)]) i = upd enS h (.ro κ xs) i ∨ upds en0 (γ.log ++ [(h, .ro κ xs)]) i = _
      rw [upds_snoc]
      by_cases hih : i = h
      · subst hih; simp only [upd_same]; exact .inl trivial
      · rw [upd_ne _ _ hih, upd_ne _ _ hih]
        exact G.log i
    · obtain ⟨c1, c2, e, c3⟩ := G.cons i hc
      have hih : i ≠ h := fun e => by subst e; rw [he] at c1; cases c1
      refine ⟨?_, ?_, e, ?_⟩
      · show upd γ.en h (.ro κ xs) i = _
        rw [upd_ne _ _ hih]; exact c1
      · show upds en0 (γ.log ++ [(h, .ro κ xs)]) i = _
        rw [upds_snoc, upd_ne _ _ hih]; exact c2
      · rw [upd_ne _ _ hih]; exact c3
    · have hih : i ≠ h := fun e => by subst e; rw [he] at x; cases x
      show upd γ.en h (.ro κ xs) i = _
      rw [upd_ne _ _ hih]; exact x
    · change upd γ.en h (.ro κ xs) i = _ at x
      by_cases hih : i = h
      · subst hih; rw [upd_same] at x; cases x
      · rw [upd_ne _ _ hih] at x; exact x
  · rename_i κ xs he
    injection hp with hp
    subst hp
    have heS : enS h = .ro κ xs := by
      rcases G.le h with x | x
      · rw [← x]; exact he
      · rw [he] at x; cases x
    exact ⟨R, enS, G, GLe.refl _ _, rfl, G.inv.ro h κ xs heS⟩
  · cases hp
theorem toDat_sound (G : GInv C en0 g w γ R enS cons) {κ : K} {c : CV} {v : Value} (hv : CVRel C.E R g c v) {p : κ.T × GSt} (hp : toDat γ κ c = some p) :
    ∃ R' enS', GInv C en0 g w p.2 R' enS' cons ∧ GLe γ p.2 R R' ∧ p.2.ren = γ.ren ∧ κ.Rd C.E R' p.1 [v] := by
  cases c with
  | dat κ' x =>
    simp only [toDat, Option.map_eq_some_iff] at hp
    obtain ⟨y, hy, rfl⟩ := hp
    obtain ⟨rfl, rfl⟩ := K.conv_eq hy
    exact ⟨R, enS, G, GLe.refl _ _, rfl, hv⟩
  | nils =>
    cases κ with
    | list a =>
      simp only [toDat, Option.some.injEq] at hp
      subst hp
      refine ⟨R, enS, G, GLe.refl _ _, rfl, none, 0, ?_, ⟨by simp [lim], by simp⟩, fun h => absurd rfl h⟩
      rw [show v = _ from hv]; rfl
    | _ => simp [toDat] at hp
  | own h =>
    simp only [toDat, Option.bind_eq_some_iff] at hp
    obtain ⟨⟨q1, q2, q3⟩, hq, hp⟩ := hp
    obtain ⟨R', enS', G', hle, hren, v', hv', hr⟩ := roRow_sound G hq
    simp only [Option.map_eq_some_iff] at hp
    obtain ⟨y, hy, e2⟩ := hp
    have e : v' = v := by have := hv.1; rw [hv'] at this; exact Option.some.inj this
    subst e
    obtain ⟨e1, hy⟩ := K.conv_eq hy
    subst e1
    subst hy
    subst e2
    exact ⟨R', enS', G', hle, hren, hr⟩
  | sub h sz lo n =>
    simp only [toDat, Option.bind_eq_some_iff] at hp
    obtain ⟨⟨q1, q2, q3⟩, hq, hp⟩ := hp
    obtain ⟨R', enS', G', hle, hren, v', hv', hr⟩ := roRow_sound G hq
    simp only at hp
    split at hp
    · rename_i hc
      rw [Option.map_eq_some_iff] at hp
      obtain ⟨y, hy, e2⟩ := hp
      obtain ⟨e1, hy⟩ := K.conv_eq hy
      subst e1
      subst hy
      subst e2
      refine ⟨R', enS', G', hle, hren, ?_⟩
      obtain ⟨A, c, rfl, hlim, hn⟩ := hv
      rcases Nat.eq_zero_or_pos n with h0 | h0
      · subst h0
        refine ⟨A, c, by simp, ⟨by simp [lim], by simp⟩, fun h => absurd ?_ h⟩
        simp
      · obtain ⟨b, m, cp, hg, rfl, hm⟩ := hn (by omega)
        rw [hg] at hv'
        injection hv' with hv'
        subst hv'
        have hml : m = List.length q2 := by
          obtain ⟨A0, c0, e0, _⟩ := hr
          injection e0 with e0 _
          injection e0
        have := Rd_cut (c := c) hr (by omega) (by rw [← hml]; exact hm) hlim.2
        rw [Nat.zero_add, ← hc] at this
        exact this
    · cases hp
  | nilp =>
    cases κ with
    | nd q =>
      simp only [toDat, Option.some.injEq] at hp
      subst hp
      exact ⟨R, enS, G, GLe.refl _ _, rfl, .inl ⟨(by decide : (-1 : Int) < 0), by rw [show v = _ from hv]⟩⟩
    | _ => simp [toDat] at hp
  | ndf => simp [toDat] at hp
  | clo => simp [toDat] at hp
  | nilm => simp [toDat] at hp
  | ptr => simp [toDat] at hp
  | elt => simp [toDat] at hp
  | roA => simp [toDat] at hp
  | fn => simp [toDat] at hp
  | slf => simp [toDat] at hp
  | oel => simp [toDat] at hp
  | nl => simp [toDat] at hp
  | pel => simp [toDat] at hp
  | psub => simp [toDat] at hp
  | ful κ' x =>
    simp only [toDat, Option.map_eq_some_iff] at hp
    obtain ⟨y, hy, rfl⟩ := hp
    obtain ⟨e, hy⟩ := K.conv_eq hy
    subst e
    subst hy
    exact ⟨R, enS, G, GLe.refl _ _, rfl, hv.2⟩
  | nn κ' x =>
    simp only [toDat, Option.map_eq_some_iff] at hp
    obtain ⟨y, hy, rfl⟩ := hp
    obtain ⟨e, hy⟩ := K.conv_eq hy
    subst e
    subst hy
    exact ⟨R, enS, G, GLe.refl _ _, rfl, hv.2⟩
theorem bind_sound (G : GInv C en0 g w γ R enS cons) {h : Nat} {x : Option Nat} (hp : γ.bind? h x = some γ') :
    GInv C en0 g w γ' R enS cons ∧ GLe γ γ' R R ∧ γ'.ren.lookup h = some x := by
  unfold GSt.bind? at hp
  split at hp
  · cases hp
  rename_i hdom
  have hdom : h ∈ γ.dom := by
    have : γ.dom.any (Nat.beq h) = true := by simpa using hdom
    obtain ⟨y, hy, hb⟩ := List.any_eq_true.1 this
    rw [Nat.eq_of_beq_eq_true hb]
    exact hy
  split at hp
  · rename_i y hl
    split at hp
    · rename_i i j
      split at hp
      · rename_i e
        subst e
        injection hp with hp
        subst hp
        exact ⟨G, GLe.refl _ _, hl⟩
      · cases hp
    · cases hp
  · rename_i hl
    have key : ∀ (x : Option Nat), (∀ i, x = some i → γ.ren.any (fun p => p.2 == some i) = false) → GInv C en0 g w { γ with ren := (h, x) :: γ.ren } R enS cons ∧ GLe γ { γ with ren := (h, x) :: γ.ren } R R ∧ ((h, x) :: γ.ren).lookup h = some x := by
      intro x hx
      have hne : ∀ h' y, γ.ren.lookup h' = some y → (h' == h) = false := fun h' y e => by
        cases hb : (h' == h) with
        | false => rfl
        | true => rw [beq_iff_eq] at hb; subst hb; rw [hl] at e; cases e
      have hnot : ∀ i h', x = some i → γ.ren.lookup h' ≠ some (some i) := fun i h' e el => by
        have := hx i e
        rw [List.any_eq_false] at this
        have hm : ∃ q ∈ γ.ren, q.2 = some i := by
          clear hx hne hl this
          generalize γ.ren = l at el
          induction l with
          | nil => simp at el
          | cons q r ih =>
            rw [List.lookup_cons] at el
            split at el
            · injection el with el
              exact ⟨q, by simp, el⟩
            · obtain ⟨q', hq, e'⟩ := ih el
              exact ⟨q', by simp [hq], e'⟩
        obtain ⟨q, hq, e'⟩ := hm
        exact this q hq (by simp [e'])
      refine ⟨⟨G.inv, G.le, G.log, G.cons, fun a b i ha hb => ?_, fun a y ha => ?_⟩, ⟨Part.le_refl R, rfl, fun h' y e => ?_, fun _ e => e, rfl, fun _ _ e => e⟩, by simp⟩
      · simp only [List.lookup_cons] at ha hb
        split at ha
        · rename_i e1
          split at hb
          · rename_i e2
            simp only [beq_iff_eq] at e1 e2
            rw [e1, e2]
          · injection ha with ha
            exact absurd hb (hnot i b ha)
        · split at hb
          · injection hb with hb
            exact absurd ha (hnot i a hb)
          · exact G.inj a b i ha hb
      · simp only [List.lookup_cons] at ha
        split at ha
        · rename_i e1
          simp only [beq_iff_eq] at e1
          rw [e1]; exact hdom
        · exact G.dom a y ha
      · show ((h, x) :: γ.ren).lookup h' = some y
        rw [List.lookup_cons, hne h' y e]
        exact e
    split at hp
    · injection hp with hp
      subst hp
      exact key none (fun i e => by cases e)
    · rename_i i
      split at hp
      · cases hp
      · rename_i hany
        injection hp with hp
        subst hp
        exact key (some i) (fun j e => by injection e with e; subst e; simpa only [Bool.not_eq_true] using hany)
theorem rg_bound {h : Nat} {i : Nat} (hl : γ.ren.lookup h = some (some i)) : rg g γ.ren h = g i := by simp [rg, hl]
theorem rg_nil {h : Nat} (hl : γ.ren.lookup h = some none) : rg g γ.ren h = some (.slice none 0 0) := by simp [rg, hl]
theorem Tup.hd_cons : ∀ (a : K) (r : List K) (x : a.T) (t : Tup r), Tup.hd a r (Tup.cons a r x t) = x
  | _, [], _, _ => rfl
  | _, _ :: _, _, _ => rfl
theorem Tup.tl_cons : ∀ (a : K) (r : List K) (x : a.T) (t : Tup r), Tup.tl a r (Tup.cons a r x t) = t
  | _, [], _, _ => rfl
  | _, _ :: _, _, _ => rfl
theorem bindAll_sound : ∀ {hs hs' : List (Option Nat)} {γ γ' : GSt} (_ : GInv C en0 g w γ R enS cons) (_ : γ.bindAll hs hs' = some γ') {us : List Value}, All2 (CapRel g) hs' us →
    GInv C en0 g w γ' R enS cons ∧ GLe γ γ' R R ∧ All2 (CapRel (rg g γ'.ren)) hs us
  | [], [], γ, γ', G, hb, us, ha => by
    simp only [GSt.bindAll, Option.some.injEq] at hb
    subst hb
    cases ha
    exact ⟨G, GLe.refl _ _, .nil⟩
  | none :: r, none :: r', γ, γ', G, hb, us, ha => by
    simp only [GSt.bindAll] at hb
    cases ha with
    | cons hx hr =>
      obtain ⟨G', hle, hc⟩ := bindAll_sound G hb hr
      exact ⟨G', hle, .cons hx hc⟩
  | some h :: r, some h' :: r', γ, γ', G, hb, us, ha => by
    simp only [GSt.bindAll, Option.bind_eq_some_iff] at hb
    obtain ⟨γ1, hb1, hb⟩ := hb
    obtain ⟨G1, hle1, hl⟩ := bind_sound G hb1
    cases ha with
    | cons hx hr =>
      obtain ⟨G', hle, hc⟩ := bindAll_sound G1 hb hr
      refine ⟨G', hle1.trans hle, .cons ?_ hc⟩
      obtain ⟨b, h1, h2⟩ := hx
      exact ⟨b, by rw [rg_bound (hle.ren _ _ hl)]; exact h1, h2⟩
  | [], _ :: _, _, _, _, hb, _, _ => by simp [GSt.bindAll] at hb
  | _ :: _, [], _, _, _, hb, _, _ => by rename_i x; cases x <;> simp [GSt.bindAll] at hb
  | none :: _, some _ :: _, _, _, _, hb, _, _ => by simp [GSt.bindAll] at hb
  | some _ :: _, none :: _, _, _, _, hb, _, _ => by simp [GSt.bindAll] at hb
theorem CSh.get_sound (G : GInv C en0 g w γ R enS cons) {r : List K} {c : CSh} {cv : CV} {v : Value} (hv : CVRel C.E R g cv v) {p : (Tup r → Tup (c.ks r)) × GSt} (hp : c.get r γ cv = some p) :
    ∃ R' enS', GInv C en0 g w p.2 R' enS' cons ∧ GLe γ p.2 R R' ∧ ∀ t, (c.mk r (p.1 t)).2 = t ∧ CVRel C.E R' (rg g p.2.ren) (c.mk r (p.1 t)).1 v := by
  cases c with
  | dat κ =>
    simp only [CSh.get, Option.map_eq_some_iff] at hp
    obtain ⟨q, hq, rfl⟩ := hp
    obtain ⟨R', enS', G', hle, hren, hr⟩ := toDat_sound G hv hq
    refine ⟨R', enS', G', hle, fun t => ⟨Tup.tl_cons κ r q.1 t, ?_⟩⟩
    show CVRel C.E R' _ (.dat κ (Tup.hd κ r (Tup.cons κ r q.1 t))) v
    rw [Tup.hd_cons]
    exact hr
  | nilp =>
    cases cv <;> simp only [CSh.get, Option.some.injEq, reduceCtorEq] at hp
    subst hp
    exact ⟨R, enS, G, GLe.refl _ _, fun t => ⟨rfl, hv⟩⟩
  | nils =>
    cases cv <;> simp only [CSh.get, Option.some.injEq, reduceCtorEq] at hp
    subst hp
    exact ⟨R, enS, G, GLe.refl _ _, fun t => ⟨rfl, hv⟩⟩
  | nilm =>
    cases cv <;> simp only [CSh.get, Option.some.injEq, reduceCtorEq] at hp
    subst hp
    exact ⟨R, enS, G, GLe.refl _ _, fun t => ⟨rfl, hv⟩⟩
  | fnc fid =>
    cases cv <;> simp only [CSh.get, reduceCtorEq] at hp
    split at hp
    · rename_i e
      subst e
      injection hp with hp
      subst hp
      exact ⟨R, enS, G, GLe.refl _ _, fun t => ⟨rfl, hv⟩⟩
    · cases hp
  | clo f hs =>
    cases cv <;> simp only [CSh.get, reduceCtorEq] at hp
    rename_i f' hs'
    split at hp
    · rename_i e
      subst e
      rw [Option.map_eq_some_iff] at hp
      obtain ⟨γ', hb, rfl⟩ := hp
      obtain ⟨us, rfl, ha⟩ := hv
      obtain ⟨G', hle, hc⟩ := bindAll_sound G hb ha
      exact ⟨R, enS, G', hle, fun t => ⟨rfl, us, rfl, hc⟩⟩
    · cases hp
  | errc n =>
    cases cv <;> simp only [CSh.get, reduceCtorEq] at hp
    rename_i κ x
    cases κ <;> simp only [CSh.get, reduceCtorEq] at hp
    split at hp
    · rename_i e
      obtain rfl : x = n := by simpa [errEq] using e
      simp only [Option.some.injEq] at hp
      subst hp
      exact ⟨R, enS, G, GLe.refl _ _, fun t => ⟨rfl, hv⟩⟩
    · cases hp
  | boolc b =>
    cases cv <;> simp only [CSh.get, reduceCtorEq] at hp
    rename_i κ x
    cases κ <;> simp only [CSh.get, reduceCtorEq] at hp
    split at hp
    · rename_i e
      obtain rfl : x = b := by simpa [boolEq] using e
      simp only [Option.some.injEq] at hp
      subst hp
      exact ⟨R, enS, G, GLe.refl _ _, fun t => ⟨rfl, hv⟩⟩
    · cases hp
  | ptr h off =>
    cases cv <;> simp only [CSh.get, reduceCtorEq] at hp
    rename_i h' off'
    split at hp
    · rename_i e
      subst e
      rw [Option.map_eq_some_iff] at hp
      obtain ⟨γ', hb, rfl⟩ := hp
      obtain ⟨G', hle, hl⟩ := bind_sound G hb
      refine ⟨R, enS, G', hle, fun t => ⟨rfl, ?_⟩⟩
      obtain ⟨b, hg, e⟩ := hv
      exact ⟨b, by rw [rg_bound hl]; exact hg, e⟩
    · cases hp
  | own h =>
    cases cv <;> simp only [CSh.get, Option.map_eq_some_iff, reduceCtorEq] at hp
    · obtain ⟨γ', hb, rfl⟩ := hp
      obtain ⟨G', hle, hl⟩ := bind_sound G hb
      refine ⟨R, enS, G', hle, fun t => ⟨rfl, ?_⟩⟩
      obtain rfl := hv
      exact ⟨rg_nil hl, rfl⟩
    · obtain ⟨γ', hb, rfl⟩ := hp
      obtain ⟨G', hle, hl⟩ := bind_sound G hb
      refine ⟨R, enS, G', hle, fun t => ⟨rfl, ?_⟩⟩
      exact ⟨by rw [rg_bound hl]; exact hv.1, hv.2⟩
  | arr h sz =>
    cases cv <;> simp only [CSh.get, reduceCtorEq] at hp
    rename_i h' sz' i off
    split at hp
    · rename_i e
      obtain ⟨rfl, rfl, rfl⟩ := e
      rw [Option.map_eq_some_iff] at hp
      obtain ⟨γ', hb, rfl⟩ := hp
      obtain ⟨G', hle, hl⟩ := bind_sound G hb
      refine ⟨R, enS, G', hle, fun t => ⟨rfl, ?_⟩⟩
      obtain ⟨b, n, c, hg, hlt, e⟩ := hv
      exact ⟨b, n, c, by rw [rg_bound hl]; exact hg, hlt, e⟩
    · cases hp
  | slf h =>
    cases cv <;> simp only [CSh.get, Option.map_eq_some_iff, Option.some.injEq, reduceCtorEq] at hp
    · subst hp
      exact ⟨R, enS, G, GLe.refl _ _, fun t => ⟨rfl, .inl hv⟩⟩
    · rename_i h' off
      split at hp
      · rename_i e
        subst e
        rw [Option.map_eq_some_iff] at hp
        obtain ⟨γ', hb, rfl⟩ := hp
        obtain ⟨G', hle, hl⟩ := bind_sound G hb
        refine ⟨R, enS, G', hle, fun t => ⟨rfl, ?_⟩⟩
        obtain ⟨b, hg, e⟩ := hv
        exact .inr ⟨b, by rw [rg_bound hl]; exact hg, e⟩
      · cases hp
    · obtain ⟨γ', hb, rfl⟩ := hp
      obtain ⟨G', hle, hl⟩ := bind_sound G hb
      refine ⟨R, enS, G', hle, fun t => ⟨rfl, ?_⟩⟩
      rcases hv with hv | ⟨b, hg, e⟩
      · exact .inl hv
      · exact .inr ⟨b, by rw [rg_bound hl]; exact hg, e⟩
  | oel h sz =>
    cases cv <;> simp only [CSh.get, Option.some.injEq, reduceCtorEq] at hp
    · subst hp
      refine ⟨R, enS, G, GLe.refl _ _, fun t => ⟨Tup.tl_cons (.int .i64) r _ t, ?_⟩⟩
      show CVRel C.E R _ (.oel h sz (Tup.hd (.int .i64) r (Tup.cons (.int .i64) r (-1 : Int) t))) v
      rw [Tup.hd_cons]
      exact .inl ⟨by decide, hv⟩
    · rename_i h' sz' i off
      split at hp
      · rename_i e
        obtain ⟨rfl, rfl⟩ := e
        rw [Option.map_eq_some_iff] at hp
        obtain ⟨γ', hb, rfl⟩ := hp
        obtain ⟨G', hle, hl⟩ := bind_sound G hb
        refine ⟨R, enS, G', hle, fun t => ⟨Tup.tl_cons (.int .i64) r _ t, ?_⟩⟩
        show CVRel C.E R _ (.oel h sz (Tup.hd (.int .i64) r (Tup.cons (.int .i64) r (i : Int) t))) v
        rw [Tup.hd_cons]
        obtain ⟨b, n, c, hg, hlt, e⟩ := hv
        exact .inr ⟨by omega, b, n, c, by rw [rg_bound hl]; exact hg, by simpa using hlt, by simpa using e⟩
      · cases hp
    · rename_i h' sz' x
      split at hp
      · rename_i e
        subst e
        rw [Option.map_eq_some_iff] at hp
        obtain ⟨γ', hb, rfl⟩ := hp
        obtain ⟨G', hle, hl⟩ := bind_sound G hb
        refine ⟨R, enS, G', hle, fun t => ⟨Tup.tl_cons (.int .i64) r _ t, ?_⟩⟩
        show CVRel C.E R _ (.oel h sz (Tup.hd (.int .i64) r (Tup.cons (.int .i64) r x t))) v
        rw [Tup.hd_cons]
        rcases hv with hv | ⟨h0, b, n, c, hg, hlt, e⟩
        · exact .inl hv
        · exact .inr ⟨h0, b, n, c, by rw [rg_bound hl]; exact hg, hlt, e⟩
      · cases hp
  | ref κ =>
    cases cv <;> simp only [CSh.get, Option.map_eq_some_iff, reduceCtorEq] at hp
    obtain ⟨y, hy, rfl⟩ := hp
    obtain ⟨e, hy⟩ := K.conv_eq hy
    subst e
    subst hy
    refine ⟨R, enS, G, GLe.refl _ _, fun t => ⟨Tup.tl_cons _ r y t, ?_⟩⟩
    show CVRel C.E R _ (.roA _ (Tup.hd _ r (Tup.cons _ r y t))) v
    rw [Tup.hd_cons]
    exact hv
  | nl =>
    cases cv <;> simp only [CSh.get, Option.some.injEq, reduceCtorEq] at hp
    subst hp
    exact ⟨R, enS, G, GLe.refl _ _, fun t => ⟨rfl, hv⟩⟩
  | nn κ =>
    cases cv <;> simp only [CSh.get, Option.map_eq_some_iff, reduceCtorEq] at hp
    obtain ⟨y, hy, rfl⟩ := hp
    obtain ⟨e, hy⟩ := K.conv_eq hy
    injection e with e
    subst e
    subst hy
    refine ⟨R, enS, G, GLe.refl _ _, fun t => ⟨Tup.tl_cons (.list _) r y t, ?_⟩⟩
    show CVRel C.E R _ (.nn _ (Tup.hd (.list _) r (Tup.cons (.list _) r y t))) v
    rw [Tup.hd_cons]
    exact hv
  | ful κ =>
    cases cv <;> simp only [CSh.get, Option.map_eq_some_iff, reduceCtorEq] at hp
    obtain ⟨y, hy, rfl⟩ := hp
    obtain ⟨e, hy⟩ := K.conv_eq hy
    injection e with e
    subst e
    subst hy
    refine ⟨R, enS, G, GLe.refl _ _, fun t => ⟨Tup.tl_cons (.list _) r y t, ?_⟩⟩
    show CVRel C.E R _ (.ful _ (Tup.hd (.list _) r (Tup.cons (.list _) r y t))) v
    rw [Tup.hd_cons]
    exact hv
  | part h sz =>
    cases cv <;> simp only [CSh.get, reduceCtorEq] at hp
    · rename_i h'
      split at hp
      · rename_i ety κ xs he
        split at hp
        · rename_i hsz
          rw [Option.map_eq_some_iff] at hp
          obtain ⟨γ', hb, rfl⟩ := hp
          obtain ⟨G', hle, hl⟩ := bind_sound G hb
          refine ⟨R, enS, G', hle, fun t => ?_⟩
          have heS : enS h' = .live (.row ety κ xs) := by
            rcases G.le h' with x | x
            · rw [← x]; exact he
            · rw [he] at x; cases x
          obtain ⟨v', hv', hr⟩ := G.inv.live h' _ heS
          rw [hv.1] at hv'
          injection hv' with hv'
          subst hv'
          simp only [CSh.mk, Tup.hd_cons, Tup.tl_cons, true_and]
          show ∃ A c, v = .slice A xs.length c ∧ (xs.length ≤ lim ∧ xs.length ≤ c) ∧ (xs.length ≠ 0 → ∃ b m cp, rg g γ'.ren h = some (.slice (some ⟨b, 0, none⟩) m cp) ∧ A = some ⟨b, 0 * sz, none⟩ ∧ 0 + xs.length ≤ m)
          rcases hr with ⟨e0, e1⟩ | ⟨b, c, arr, fr, e1, _, _, h3, _, h5, _⟩
          · subst e1; exact ⟨none, 0, e0, by simp [lim], fun h => absurd rfl h⟩
          · exact ⟨_, c, e1, ⟨h5, h3⟩, fun _ => ⟨b, xs.length, c, by rw [rg_bound hl, hv.1, e1], by rw [Nat.zero_mul], by omega⟩⟩
        · cases hp
      · cases hp
    · rename_i h' sz' lo n
      split at hp
      · rename_i e
        subst e
        rw [Option.map_eq_some_iff] at hp
        obtain ⟨γ', hb, rfl⟩ := hp
        obtain ⟨G', hle, hl⟩ := bind_sound G hb
        refine ⟨R, enS, G', hle, fun t => ?_⟩
        simp only [CSh.mk, Tup.hd_cons, Tup.tl_cons, true_and]
        show ∃ A c, v = .slice A n c ∧ (n ≤ lim ∧ n ≤ c) ∧ (n ≠ 0 → ∃ b m cp, rg g γ'.ren h = some (.slice (some ⟨b, 0, none⟩) m cp) ∧ A = some ⟨b, lo * sz, none⟩ ∧ lo + n ≤ m)
        obtain ⟨A, c, h1, h2, h3⟩ := hv
        refine ⟨A, c, h1, h2, fun hn => ?_⟩
        obtain ⟨b, m, cp, h4, h5⟩ := h3 hn
        exact ⟨b, m, cp, by rw [rg_bound hl]; exact h4, h5⟩
      · cases hp
theorem getL_sound : ∀ (cs : List CSh) (r : List K) (γ : GSt) (R : Part) (enS : Nat → EnS), GInv C en0 g w γ R enS cons → ∀ (cvs : List CV) (vs : List Value), All2 (CVRel C.E R g) cvs vs →
    ∀ p : (Tup r → Tup (ksL cs r)) × GSt, getL r γ cs cvs = some p →
    ∃ R' enS', GInv C en0 g w p.2 R' enS' cons ∧ GLe γ p.2 R R' ∧ ∀ t, (mkL cs r (p.1 t)).2 = t ∧ All2 (CVRel C.E R' (rg g p.2.ren)) (mkL cs r (p.1 t)).1 vs := by
  intro cs
  induction cs with
  | nil =>
    intro r γ R enS G cvs vs hv p hp
    cases hv with
    | nil =>
      simp only [getL, Option.some.injEq] at hp
      subst hp
      exact ⟨R, enS, G, GLe.refl _ _, fun t => ⟨rfl, .nil⟩⟩
    | cons => simp [getL] at hp
  | cons c cs ih =>
    intro r γ R enS G cvs vs hv p hp
    cases hv with
    | nil => simp [getL] at hp
    | cons hx hv =>
      simp only [getL, Option.bind_eq_some_iff, Option.map_eq_some_iff] at hp
      obtain ⟨q, hq, q', hq', rfl⟩ := hp
      obtain ⟨R1, en1, G1, l1, h1⟩ := CSh.get_sound G hx hq
      obtain ⟨R2, en2, G2, l2, h2⟩ := ih r q.2 R1 en1 G1 _ _ (hv.cv_mono l1.part (Gh.le_refl _)) q' hq'
      refine ⟨R2, en2, G2, l1.trans l2, fun t => ?_⟩
      have a1 := h1 (q'.1 t)
      have a2 := h2 t
      simp only [mkL]
      rw [a1.1]
      exact ⟨a2.1, .cons (a1.2.mono l2.part (rg_le l2)) a2.2⟩
theorem SSh.get_sound {c : SSh} {r : List K} (G : GInv C en0 g w γ R enS cons) {sg : Seg} {vs : List Value} (hv : SegsRel C.E R g [sg] vs) {p : (Tup r → Tup (c.ks r)) × GSt} (hp : c.get r γ sg = some p) :
    ∃ R' enS', GInv C en0 g w p.2 R' enS' cons ∧ GLe γ p.2 R R' ∧ ∀ t, (c.mk r (p.1 t)).2 = t ∧ SegsRel C.E R' (rg g p.2.ren) [(c.mk r (p.1 t)).1] vs := by
  cases c with
  | one x =>
    cases sg with
    | one y =>
      cases hv with
      | one h hn =>
        cases hn
        have hp' : CSh.get r γ x y = some p := hp
        obtain ⟨R', enS', G', l, h⟩ := CSh.get_sound (c := x) (cv := y) G h hp'
        exact ⟨R', enS', G', l, fun t => ⟨(h t).1, .one (h t).2 .nil⟩⟩
    | blk => simp [SSh.get] at hp
  | blk κ =>
    cases sg with
    | one y => simp [SSh.get] at hp
    | blk κ' y =>
      simp only [SSh.get, Option.map_eq_some_iff] at hp
      obtain ⟨z, hz, rfl⟩ := hp
      obtain ⟨e, hz⟩ := K.conv_eq hz
      subst e
      subst hz
      refine ⟨R, enS, G, GLe.refl _ _, fun t => ⟨Tup.tl_cons _ r z t, ?_⟩⟩
      show SegsRel C.E R _ [.blk _ (Tup.hd _ r (Tup.cons _ r z t))] _
      rw [Tup.hd_cons]
      cases hv with
      | blk h hn =>
        cases hn
        exact .blk h .nil
theorem SegsRel.uncons {E : TypeId} {R : Part} {g : Gh} {sg : Seg} {ss : List Seg} {vs : List Value} (h : SegsRel E R g (sg :: ss) vs) : ∃ v1 v2, vs = v1 ++ v2 ∧ SegsRel E R g [sg] v1 ∧ SegsRel E R g ss v2 := by
  cases h with
  | one h hr => exact ⟨[_], _, rfl, .one h .nil, hr⟩
  | blk h hr => exact ⟨_, _, rfl, by have := SegsRel.blk h (SegsRel.nil (g := g)); rwa [List.append_nil] at this, hr⟩
theorem getS_sound : ∀ (cs : List SSh) (r : List K) (γ : GSt) (R : Part) (enS : Nat → EnS), GInv C en0 g w γ R enS cons → ∀ (ss : List Seg) (vs : List Value), SegsRel C.E R g ss vs →
    ∀ p : (Tup r → Tup (ksS cs r)) × GSt, getS r γ cs ss = some p →
    ∃ R' enS', GInv C en0 g w p.2 R' enS' cons ∧ GLe γ p.2 R R' ∧ ∀ t, (mkS cs r (p.1 t)).2 = t ∧ SegsRel C.E R' (rg g p.2.ren) (mkS cs r (p.1 t)).1 vs := by
  intro cs
  induction cs with
  | nil =>
    intro r γ R enS G ss vs hv p hp
    cases ss with
    | nil =>
      cases hv
      simp only [getS, Option.some.injEq] at hp
      subst hp
      exact ⟨R, enS, G, GLe.refl _ _, fun t => ⟨rfl, .nil⟩⟩
    | cons => simp [getS] at hp
  | cons c cs ih =>
    intro r γ R enS G ss vs hv p hp
    cases ss with
    | nil => simp [getS] at hp
    | cons sg ss =>
      obtain ⟨v1, v2, rfl, hx, hv⟩ := hv.uncons
      simp only [getS, Option.bind_eq_some_iff, Option.map_eq_some_iff] at hp
      obtain ⟨q, hq, q', hq', rfl⟩ := hp
      obtain ⟨R1, en1, G1, l1, h1⟩ := SSh.get_sound G hx hq
      obtain ⟨R2, en2, G2, l2, h2⟩ := ih r q.2 R1 en1 G1 _ _ (hv.mono l1.part (Gh.le_refl _)) q' hq'
      refine ⟨R2, en2, G2, l1.trans l2, fun t => ?_⟩
      have a1 := h1 (q'.1 t)
      have a2 := h2 t
      simp only [mkS]
      rw [a1.1]
      exact ⟨a2.1, SegsRel.app (a1.2.mono l2.part (rg_le l2)) a2.2⟩
theorem RSh.get_sound {c : RSh} {r : List K} (G : GInv C en0 g w γ R enS cons) {rv : RV} {v : Value} (hv : RVRel C.E R g rv v) {p : (Tup r → Tup (c.ks r)) × GSt} (hp : c.get r γ rv = some p) :
    ∃ R' enS', GInv C en0 g w p.2 R' enS' cons ∧ GLe γ p.2 R R' ∧ ∀ t, (c.mk r (p.1 t)).2 = t ∧ RVRel C.E R' (rg g p.2.ren) (c.mk r (p.1 t)).1 v := by
  cases c with
  | c x =>
    cases rv with
    | c y =>
      have hp' : CSh.get r γ x y = some p := hp
      obtain ⟨R', enS', G', l, h⟩ := CSh.get_sound (c := x) (cv := y) G hv hp'
      exact ⟨R', enS', G', l, fun t => ⟨(h t).1, (h t).2⟩⟩
    | a ys => simp [RSh.get] at hp
    | sg ys => simp [RSh.get] at hp
  | sg cs =>
    cases rv with
    | c y => simp [RSh.get] at hp
    | a y => simp [RSh.get] at hp
    | sg ys =>
      obtain ⟨vs, e, hv⟩ := hv
      have hp' : getS r γ cs ys = some p := hp
      obtain ⟨R', enS', G', l, h⟩ := getS_sound cs r γ R enS G ys vs hv p hp'
      exact ⟨R', enS', G', l, fun t => ⟨(h t).1, vs, e, (h t).2⟩⟩
  | a cs =>
    cases rv with
    | c y => simp [RSh.get] at hp
    | sg y => simp [RSh.get] at hp
    | a ys =>
      obtain ⟨vs, e, hv⟩ := hv
      have hp' : getL r γ cs ys = some p := hp
      obtain ⟨R', enS', G', l, h⟩ := getL_sound cs r γ R enS G ys vs hv p hp'
      exact ⟨R', enS', G', l, fun t => ⟨(h t).1, vs, e, (h t).2⟩⟩
theorem getR_sound : ∀ (cs : List RSh) (r : List K) (γ : GSt) (R : Part) (enS : Nat → EnS), GInv C en0 g w γ R enS cons → ∀ (cvs : List RV) (vs : List Value), All2 (RVRel C.E R g) cvs vs →
    ∀ p : (Tup r → Tup (ksR cs r)) × GSt, getR r γ cs cvs = some p →
    ∃ R' enS', GInv C en0 g w p.2 R' enS' cons ∧ GLe γ p.2 R R' ∧ ∀ t, (mkR cs r (p.1 t)).2 = t ∧ All2 (RVRel C.E R' (rg g p.2.ren)) (mkR cs r (p.1 t)).1 vs := by
  intro cs
  induction cs with
  | nil =>
    intro r γ R enS G cvs vs hv p hp
    cases hv with
    | nil =>
      simp only [getR, Option.some.injEq] at hp
      subst hp
      exact ⟨R, enS, G, GLe.refl _ _, fun t => ⟨rfl, .nil⟩⟩
    | cons => simp [getR] at hp
  | cons c cs ih =>
    intro r γ R enS G cvs vs hv p hp
    cases hv with
    | nil => simp [getR] at hp
    | cons hx hv =>
      simp only [getR, Option.bind_eq_some_iff, Option.map_eq_some_iff] at hp
      obtain ⟨q, hq, q', hq', rfl⟩ := hp
      obtain ⟨R1, en1, G1, l1, h1⟩ := RSh.get_sound G hx hq
      obtain ⟨R2, en2, G2, l2, h2⟩ := ih r q.2 R1 en1 G1 _ _ (All2.imp (fun _ _ x => RVRel.mono l1.part (Gh.le_refl _) x) hv) q' hq'
      refine ⟨R2, en2, G2, l1.trans l2, fun t => ?_⟩
      have a1 := h1 (q'.1 t)
      have a2 := h2 t
      simp only [mkR]
      rw [a1.1]
      exact ⟨a2.1, .cons (a1.2.mono l2.part (rg_le l2)) a2.2⟩
/-- an object of the shape, as it lies in the world: with what it was, or a nil row. -/
def EntOk (C : Ctx) (g : Gh) (w : World) (γ : GSt) (R : Part) (cons : Nat → Prop) (p : Nat × Ent) : Prop :=
  ∃ v, rg g γ.ren p.1 = some v ∧ EntRel C.E R (rg g γ.ren) w p.2 v ∧ ((∃ i, γ.ren.lookup p.1 = some (some i) ∧ cons i ∧ g i = some v) ∨ v = .slice none 0 0) ∧ ∀ ty κ xs, p.2 = .pool ty κ xs → PoolOk R p.1 xs.length ∧ v = .int .i64 (p.1 : Int)
theorem EntOk.mono {γ γ' : GSt} {R R' : Part} {cons cons' : Nat → Prop} (l : GLe γ γ' R R') (hc : ∀ i, cons i → cons' i) {p : Nat × Ent} (h : EntOk C g w γ R cons p) : EntOk C g w γ' R' cons' p := by
  obtain ⟨v, h1, h2, h3, h4⟩ := h
  refine ⟨v, rg_le l _ _ h1, h2.mono l.part (rg_le l) (fun _ _ => rfl), ?_, fun ty κ xs e => by have := h4 ty κ xs e; unfold PoolOk at this ⊢; rw [l.nd]; exact this⟩
  rcases h3 with ⟨i, a, b, c⟩ | h3
  · exact .inl ⟨i, l.ren _ _ a, hc i b, c⟩
  · exact .inr h3
theorem GInv.eat (G : GInv C en0 g w γ R enS cons) {i : Nat} {e : Ent} (he : γ.en i = .live e) :
    enS i = .live e ∧ GInv C en0 g w (γ.set i .dead) R enS (fun j => cons j ∨ j = i) ∧ GLe γ (γ.set i .dead) R R := by
  have heS : enS i = .live e := by
    rcases G.le i with x | x
    · rw [← x]; exact he
    · rw [he] at x; cases x
  refine ⟨heS, ⟨G.inv, fun j => ?_, fun j => ?_, fun j hj => ?_, G.inj, G.dom⟩, ⟨Part.le_refl R, rfl, fun _ _ x => x, fun j x => ?_, rfl, fun j e' x => ?_⟩⟩
  · show upd γ.en i .dead j = _ ∨ upd γ.en i .dead j = _
    by_cases h : j = i
    · subst h; exact .inr (upd_same _ _ _)
    · rw [upd_ne _ _ h]; exact G.le j
  · show upds en0 (γ.log ++ [(i, .dead)]) j = _ ∨ upds en0 (γ.log ++ [(i, .dead)]) j = _
    rw [upds_snoc]
    by_cases h : j = i
    · subst h; exact .inr (upd_same _ _ _)
    · rw [upd_ne _ _ h]; exact G.log j
  · show upd γ.en i .dead j = _ ∧ upds en0 (γ.log ++ [(i, .dead)]) j = _ ∧ _
    rw [upds_snoc]
    by_cases h : j = i
    · subst h; exact ⟨upd_same _ _ _, upd_same _ _ _, e, heS⟩
    · rw [upd_ne _ _ h, upd_ne _ _ h]
      rcases hj with hj | hj
      · exact G.cons j hj
      · exact absurd hj h
  · show upd γ.en i .dead j = _
    by_cases h : j = i
    · subst h; exact upd_same _ _ _
    · rw [upd_ne _ _ h]; exact x
  · change upd γ.en i .dead j = _ at x
    by_cases h : j = i
    · subst h; rw [upd_same] at x; cases x
    · rw [upd_ne _ _ h] at x; exact x
theorem ESh.get_sound {h : Nat} {e : ESh} {r : List K} (G : GInv C en0 g w γ R enS cons) {p : (Tup r → Tup (e.ks r)) × GSt} (hp : e.get r γ h = some p) :
    ∃ R' enS' cons', GInv C en0 g w p.2 R' enS' cons' ∧ (∀ i, cons i → cons' i) ∧ GLe γ p.2 R R' ∧ ∀ t, (e.mk r (p.1 t)).2 = t ∧ EntOk C g w p.2 R' cons' (h, (e.mk r (p.1 t)).1) := by
  cases e with
  | cells ty cs =>
    simp only [ESh.get] at hp
    split at hp
    · rename_i i hl
      split at hp
      · rename_i ty' vs he
        by_cases ety : ty = ty'
        · rw [if_pos ety] at hp
          subst ety
          obtain ⟨heS, G1, l1⟩ := G.eat he
          obtain ⟨v, hv, hr⟩ := G.inv.live i _ heS
          obtain ⟨b, arr, fr, rfl, h1, h2, h3⟩ := hr
          obtain ⟨R2, en2, G2, l2, hh⟩ := getL_sound cs r _ R enS G1 vs arr.toList h3 p hp
          have hl2 := (l1.trans l2).ren _ _ hl
          refine ⟨R2, en2, _, G2, fun i hi => .inl hi, l1.trans l2, fun t => ⟨(hh t).1, _, by rw [rg_bound hl2]; exact hv, ⟨b, arr, fr, rfl, h1, h2, (hh t).2⟩, .inl ⟨i, hl2, .inr rfl, hv⟩, fun _ _ _ e => nomatch e⟩⟩
        · rw [if_neg ety] at hp; cases hp
      · cases hp
    · cases hp
  | segs ty cs =>
    simp only [ESh.get] at hp
    split at hp
    · rename_i i hl
      split at hp
      · rename_i ty' vs he
        by_cases ety : ty = ty'
        · rw [if_pos ety] at hp
          subst ety
          obtain ⟨heS, G1, l1⟩ := G.eat he
          obtain ⟨v, hv, hr⟩ := G.inv.live i _ heS
          obtain ⟨b, arr, fr, rfl, h1, h2, h3⟩ := hr
          obtain ⟨R2, en2, G2, l2, hh⟩ := getS_sound cs r _ R enS G1 vs arr.toList h3 p hp
          have hl2 := (l1.trans l2).ren _ _ hl
          refine ⟨R2, en2, _, G2, fun i hi => .inl hi, l1.trans l2, fun t => ⟨(hh t).1, _, by rw [rg_bound hl2]; exact hv, ⟨b, arr, fr, rfl, h1, h2, (hh t).2⟩, .inl ⟨i, hl2, .inr rfl, hv⟩, fun _ _ _ e => nomatch e⟩⟩
        · rw [if_neg ety] at hp; cases hp
      · cases hp
    · cases hp
  | row ety κ =>
    simp only [ESh.get] at hp
    split at hp
    · rename_i i hl
      split at hp
      · rename_i ety' κ' xs he
        by_cases e1 : ety = ety'
        · rw [if_pos e1] at hp
          subst e1
          rw [Option.map_eq_some_iff] at hp
          obtain ⟨y, hy, rfl⟩ := hp
          obtain ⟨e2, hy⟩ := K.conv_eq hy
          injection e2 with e2
          subst e2
          obtain rfl : y = xs := hy
          obtain ⟨heS, G1, l1⟩ := G.eat he
          obtain ⟨v, hv, hr⟩ := G.inv.live i _ heS
          refine ⟨R, enS, _, G1, fun i hi => .inl hi, l1, fun t => ⟨Tup.tl_cons (.list κ') r _ t, v, by rw [rg_bound (l1.ren _ _ hl)]; exact hv, ?_, .inl ⟨i, hl, .inr rfl, hv⟩, fun _ _ _ e => nomatch e⟩⟩
          show EntRel C.E R _ w (.row ety κ' (Tup.hd (.list κ') r (Tup.cons (.list κ') r y t))) v
          rw [Tup.hd_cons]
          exact hr
        · rw [if_neg e1] at hp; cases hp
      · cases hp
    · rename_i hl
      injection hp with hp
      subst hp
      refine ⟨R, enS, cons, G, fun i hi => hi, GLe.refl _ _, fun t => ⟨Tup.tl_cons (.list κ) r _ t, _, rg_nil hl, ?_, .inr rfl, fun _ _ _ e => nomatch e⟩⟩
      show EntRel C.E R _ w (.row ety κ (Tup.hd (.list κ) r (Tup.cons (.list κ) r ([] : List κ.T) t))) _
      rw [Tup.hd_cons]
      exact .inl ⟨rfl, rfl⟩
    · cases hp
  | mp κk κv =>
    simp only [ESh.get] at hp
    split at hp
    · rename_i i hl
      split at hp
      · rename_i κk' κv' xs he
        rw [Option.map_eq_some_iff] at hp
        obtain ⟨y, hy, rfl⟩ := hp
        obtain ⟨e2, hy⟩ := K.conv_eq hy
        injection e2 with e2
        injection e2 with e2 e3
        subst e2 e3
        obtain rfl : y = xs := hy
        obtain ⟨heS, G1, l1⟩ := G.eat he
        obtain ⟨v, hv, hr⟩ := G.inv.live i _ heS
        refine ⟨R, enS, _, G1, fun i hi => .inl hi, l1, fun t => ⟨Tup.tl_cons (.list (.pair κk' κv')) r _ t, v, by rw [rg_bound (l1.ren _ _ hl)]; exact hv, ?_, .inl ⟨i, hl, .inr rfl, hv⟩, fun _ _ _ e => nomatch e⟩⟩
        show EntRel C.E R _ w (.mp κk' κv' (Tup.hd (.list (.pair κk' κv')) r (Tup.cons (.list (.pair κk' κv')) r y t))) v
        rw [Tup.hd_cons]
        exact hr
      · cases hp
    · cases hp
  | pool ty κ =>
    simp only [ESh.get, Option.bind_eq_some_iff] at hp
    obtain ⟨γ1, hb, hp⟩ := hp
    obtain ⟨Gb, lb, hl⟩ := bind_sound G hb
    split at hp
    · rename_i ty' κ' xs he
      by_cases e1 : ty = ty'
      · rw [if_pos e1] at hp
        subst e1
        rw [Option.map_eq_some_iff] at hp
        obtain ⟨y, hy, rfl⟩ := hp
        obtain ⟨e2, hy⟩ := K.conv_eq hy
        injection e2 with e2
        subst e2
        obtain rfl : y = xs := hy
        obtain ⟨heS, G1, l1⟩ := Gb.eat he
        obtain ⟨v, hv, hr⟩ := Gb.inv.live h _ heS
        refine ⟨R, enS, _, G1, fun i hi => .inl hi, lb.trans l1, fun t => ⟨Tup.tl_cons (.list κ') r _ t, v, by rw [rg_bound (l1.ren _ _ hl)]; exact hv, ?_, .inl ⟨h, l1.ren _ _ hl, .inr rfl, hv⟩, fun ty2 κ2 xs2 e => ?_⟩⟩
        case refine_2 =>
          have e' : Ent.pool ty κ' (Tup.hd (.list κ') r (Tup.cons (.list κ') r y t)) = .pool ty2 κ2 xs2 := e
          rw [Tup.hd_cons] at e'
          injection e' with _ ek ex
          subst ek
          obtain rfl := eq_of_heq ex
          obtain ⟨q1, _, q2⟩ := Gb.inv.pl h _ _ _ heS
          rw [hv] at q1
          injection q1 with q1
          exact ⟨q2, q1⟩
        show EntRel C.E R _ w (.pool ty κ' (Tup.hd (.list κ') r (Tup.cons (.list κ') r y t))) v
        rw [Tup.hd_cons]
        exact hr
      · rw [if_neg e1] at hp; cases hp
    · cases hp
  | it =>
    simp only [ESh.get] at hp
    split at hp
    · rename_i i hl
      split at hp
      · rename_i l pos he
        injection hp with hp
        subst hp
        obtain ⟨heS, G1, l1⟩ := G.eat he
        obtain ⟨v, hv, hr⟩ := G.inv.live i _ heS
        refine ⟨R, enS, _, G1, fun i hi => .inl hi, l1, fun t => ⟨?_, v, by rw [rg_bound (l1.ren _ _ hl)]; exact hv, ?_, .inl ⟨i, hl, .inr rfl, hv⟩, fun _ _ _ e => nomatch e⟩⟩
        · show Tup.tl (.int .i64) r (Tup.tl .str (.int .i64 :: r) (Tup.cons .str (.int .i64 :: r) l (Tup.cons (.int .i64) r (pos : Int) t))) = t
          rw [Tup.tl_cons, Tup.tl_cons]
        · show EntRel C.E R _ w (.it (Tup.hd .str (.int .i64 :: r) (Tup.cons .str (.int .i64 :: r) l (Tup.cons (.int .i64) r (pos : Int) t))) (Int.toNat (Tup.hd (.int .i64) r (Tup.tl .str (.int .i64 :: r) (Tup.cons .str (.int .i64 :: r) l (Tup.cons (.int .i64) r (pos : Int) t)))))) v
          rw [Tup.hd_cons, Tup.tl_cons, Tup.hd_cons]
          exact hr
      · cases hp
    · cases hp
theorem getE_sound : ∀ (es : List (Nat × ESh)) (r : List K) (γ : GSt) (R : Part) (enS : Nat → EnS) (cons : Nat → Prop), GInv C en0 g w γ R enS cons →
    ∀ p : (Tup r → Tup (ksE es r)) × GSt, getE r γ es = some p →
    ∃ R' enS' cons', GInv C en0 g w p.2 R' enS' cons' ∧ (∀ i, cons i → cons' i) ∧ GLe γ p.2 R R' ∧ ∀ t, (mkE es r (p.1 t)).2 = t ∧ ∀ q ∈ (mkE es r (p.1 t)).1, EntOk C g w p.2 R' cons' q := by
  intro es
  induction es with
  | nil =>
    intro r γ R enS cons G p hp
    simp only [getE, Option.some.injEq] at hp
    subst hp
    exact ⟨R, enS, cons, G, fun i h => h, GLe.refl _ _, fun t => ⟨rfl, fun q hq => by simp [mkE] at hq⟩⟩
  | cons e es ih =>
    intro r γ R enS cons G p hp
    simp only [getE, Option.bind_eq_some_iff, Option.map_eq_some_iff] at hp
    obtain ⟨q, hq, q', hq', rfl⟩ := hp
    obtain ⟨R1, en1, c1, G1, k1, l1, h1⟩ := ESh.get_sound G hq
    obtain ⟨R2, en2, c2, G2, k2, l2, h2⟩ := ih r q.2 R1 en1 c1 G1 q' hq'
    refine ⟨R2, en2, c2, G2, fun i hi => k2 i (k1 i hi), l1.trans l2, fun t => ?_⟩
    have a1 := h1 (q'.1 t)
    have a2 := h2 t
    simp only [mkE]
    rw [a1.1]
    refine ⟨a2.1, fun y hy => ?_⟩
    rcases List.mem_cons.1 hy with rfl | hy
    · exact a1.2.mono l2 k2
    · exact a2.2 y hy
theorem mkE_fst : ∀ (es : List (Nat × ESh)) (r : List K) (t : Tup (ksE es r)), (mkE es r t).1.map (·.1) = es.map (·.1)
  | [], _, _ => rfl
  | e :: es, r, t => by simp only [mkE, List.map_cons]; rw [mkE_fst es r]
/-- THE READING OF A STATE: 'en' is the part that is looked at, 'en0' the whole. -/
theorem Shape.get_sound {sh : Shape} {en : Nat → EnS} (hi : Inv C R g en0 w) (hen : ∀ i, en i = en0 i ∨ en i = .dead) {rvs : List RV} {vs : List Value} (hv : All2 (RVRel C.E R g) rvs vs) {p : sh.T × GSt} (hp : sh.get rvs en = some p) :
    ∃ R' enS cons, GInv C en0 g w p.2 R' enS cons ∧ R.le R' ∧ p.2.dom = sh.ents.map (·.1) ∧ All2 (RVRel C.E R' (rg g p.2.ren)) (sh.vs p.1) vs ∧ ∀ q ∈ sh.es p.1, EntOk C g w p.2 R' cons q := by
  simp only [Shape.get, Option.bind_eq_some_iff, Option.map_eq_some_iff] at hp
  obtain ⟨q, hq, q', hq', rfl⟩ := hp
  have G0 : GInv C en0 g w ⟨en, [], [], sh.ents.map (·.1)⟩ R en0 (fun _ => False) := ⟨hi, hen, fun i => .inl rfl, fun i h => h.elim, fun h h' i x => by simp at x, fun h x e => by simp at e⟩
  obtain ⟨R1, en1, G1, l1, h1⟩ := getR_sound sh.vals _ _ R en0 G0 rvs vs hv q hq
  obtain ⟨R2, en2, c2, G2, k2, l2, h2⟩ := getE_sound sh.ents [] q.2 R1 en1 _ G1 q' hq'
  refine ⟨R2, en2, c2, G2, l1.part.trans l2.part, l2.dom.trans l1.dom, ?_, ?_⟩
  · have a := (h1 (q'.1 ())).2
    exact All2.imp (fun _ _ x => RVRel.mono l2.part (rg_le l2) x) a
  · intro y hy
    have a := (h1 (q'.1 ())).1
    have b := (h2 ()).2
    unfold Shape.es at hy
    simp only at hy
    rw [a] at hy
    exact b y hy
theorem imp1_sound (κ : K) (γ : GSt) (R : Part) (enS : Nat → EnS) (G : GInv C en0 g w γ R enS cons) (cs : List CV) (vs : List Value) (hv : All2 (CVRel C.E R g) cs vs) (p : κ.T × List CV × GSt) (hp : imp1 γ κ cs = some p) :
    ∃ R' enS', GInv C en0 g w p.2.2 R' enS' cons ∧ GLe γ p.2.2 R R' ∧ ∃ v1 v2, vs = v1 :: v2 ∧ κ.Rd C.E R' p.1 [v1] ∧ All2 (CVRel C.E R' g) p.2.1 v2 := by
  cases hv with
  | nil => cases hp
  | cons hx hr =>
    simp only [imp1, Option.map_eq_some_iff] at hp
    obtain ⟨q, hq, rfl⟩ := hp
    obtain ⟨R', enS', G', l, _, h⟩ := toDat_sound G hx hq
    exact ⟨R', enS', G', l, _, _, rfl, h, hr.cv_mono l.part (Gh.le_refl _)⟩
theorem implode_sound : ∀ (κ : K) (γ : GSt) (R : Part) (enS : Nat → EnS), GInv C en0 g w γ R enS cons → ∀ (cs : List CV) (vs : List Value), All2 (CVRel C.E R g) cs vs → ∀ p : κ.T × List CV × GSt, implode γ κ cs = some p →
    ∃ R' enS', GInv C en0 g w p.2.2 R' enS' cons ∧ GLe γ p.2.2 R R' ∧ ∃ v1 v2, vs = v1 ++ v2 ∧ κ.Rd C.E R' p.1 v1 ∧ All2 (CVRel C.E R' g) p.2.1 v2 := by
  have base : ∀ (κ : K) (γ : GSt) (R : Part) (enS : Nat → EnS), GInv C en0 g w γ R enS cons → ∀ (cs : List CV) (vs : List Value), All2 (CVRel C.E R g) cs vs → ∀ p : κ.T × List CV × GSt,
      (match cs with | [] => none | c :: r => (toDat γ κ c).map fun p => (p.1, r, p.2)) = some p →
      ∃ R' enS', GInv C en0 g w p.2.2 R' enS' cons ∧ GLe γ p.2.2 R R' ∧ ∃ v1 v2, vs = v1 ++ v2 ∧ κ.Rd C.E R' p.1 v1 ∧ All2 (CVRel C.E R' g) p.2.1 v2 := by
    intro κ γ R enS G cs vs hv p hp
    cases hv with
    | nil => cases hp
    | cons hx hr =>
      simp only [Option.map_eq_some_iff] at hp
      obtain ⟨q, hq, rfl⟩ := hp
      obtain ⟨R', enS', G', l, _, h⟩ := toDat_sound G hx hq
      exact ⟨R', enS', G', l, [_], _, rfl, h, hr.cv_mono l.part (Gh.le_refl _)⟩
  intro κ
  induction κ with
  | pair a b iha ihb =>
    intro γ R enS G cs vs hv p hp
    simp only [implode, Option.bind_eq_some_iff, Option.map_eq_some_iff] at hp
    obtain ⟨q, hq, q', hq', rfl⟩ := hp
    obtain ⟨R1, e1, G1, l1, v1, v2, rfl, h1, h2⟩ := iha γ R enS G cs vs hv q hq
    obtain ⟨R2, e2, G2, l2, v3, v4, rfl, h3, h4⟩ := ihb _ R1 e1 G1 _ _ h2 q' hq'
    exact ⟨R2, e2, G2, l1.trans l2, v1 ++ v3, v4, by simp, ⟨v1, v3, rfl, K.Rd_mono l2.part a _ _ h1, h3⟩, h4⟩
  | unit =>
    intro γ R enS G cs vs hv p hp
    simp only [implode, Option.some.injEq] at hp
    subst hp
    exact ⟨R, enS, G, GLe.refl _ _, [], vs, rfl, rfl, hv⟩
  | int k => intro γ R enS G cs vs hv p hp; exact base _ γ R enS G cs vs hv p hp
  | bool => intro γ R enS G cs vs hv p hp; exact base _ γ R enS G cs vs hv p hp
  | str => intro γ R enS G cs vs hv p hp; exact base _ γ R enS G cs vs hv p hp
  | err => intro γ R enS G cs vs hv p hp; exact base _ γ R enS G cs vs hv p hp
  | list a _ => intro γ R enS G cs vs hv p hp; exact base _ γ R enS G cs vs hv p hp
  | arr n a _ => intro γ R enS G cs vs hv p hp; exact base _ γ R enS G cs vs hv p hp
  | nd q => intro γ R enS G cs vs hv p hp; exact base _ γ R enS G cs vs hv p hp
  | js =>
    intro γ R enS G cs vs hv p hp
    simp only [implode, Option.bind_eq_some_iff, Option.some.injEq] at hp
    obtain ⟨p1, e1, p2, e2, p3, e3, p4, e4, p5, e5, p6, e6, p7, e7, rfl⟩ := hp
    obtain ⟨R1, n1, G1, l1, v1, w1, rfl, h1, r1⟩ := imp1_sound _ γ R enS G cs vs hv p1 e1
    obtain ⟨R2, n2, G2, l2, v2, w2, rfl, h2, r2⟩ := imp1_sound _ _ R1 n1 G1 _ _ r1 p2 e2
    obtain ⟨R3, n3, G3, l3, v3, w3, rfl, h3, r3⟩ := imp1_sound _ _ R2 n2 G2 _ _ r2 p3 e3
    obtain ⟨R4, n4, G4, l4, v4, w4, rfl, h4, r4⟩ := imp1_sound _ _ R3 n3 G3 _ _ r3 p4 e4
    obtain ⟨R5, n5, G5, l5, v5, w5, rfl, h5, r5⟩ := imp1_sound _ _ R4 n4 G4 _ _ r4 p5 e5
    obtain ⟨R6, n6, G6, l6, v6, w6, rfl, h6, r6⟩ := imp1_sound _ _ R5 n5 G5 _ _ r5 p6 e6
    obtain ⟨R7, n7, G7, l7, v7, w7, rfl, h7, r7⟩ := imp1_sound _ _ R6 n6 G6 _ _ r6 p7 e7
    refine ⟨R7, n7, G7, l1.trans (l2.trans (l3.trans (l4.trans (l5.trans (l6.trans l7))))), [v1, v2, v3, v4, v5, v6, v7], w7, rfl, ?_, r7⟩
    have m7 := l7.part
    have m6 := l6.part.trans m7
    have m5 := l5.part.trans m6
    have m4 := l4.part.trans m5
    have m3 := l3.part.trans m4
    have m2 := l2.part.trans m3
    exact js_rd.2 ⟨v1, v2, v3, v4, v5, v6, v7, rfl, K.Rd_mono m2 _ _ _ h1, K.Rd_mono m3 _ _ _ h2, K.Rd_mono m4 _ _ _ h3, K.Rd_mono m5 _ _ _ h4, K.Rd_mono m6 _ _ _ h5, K.Rd_mono m7 _ _ _ h6, h7⟩
end
end Go.Sx
