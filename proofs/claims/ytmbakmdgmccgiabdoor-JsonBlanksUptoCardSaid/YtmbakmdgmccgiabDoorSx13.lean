/- Part of a proof by a small interpreter on plain values; no condition. -/
import Derived.Test.YtmbakmdgmccgiabDoorSx12
/-! Sx13: a region whose order is drawn: whatever the order, it comes to what the order of the text comes to. -/
namespace Go.Sx
open Go
set_option autoImplicit false
set_option linter.unusedSimpArgs false
set_option linter.unusedVariables false

def appL (b : Nat → Bool) : List Item → Nat → VSt → VSt
  | [], _, s => s
  | it :: r, i, s => appL b r (i + 1) (if b i = true then s.app it.dst it.δ else s)
structure Cm (x y : Item) : Prop where
  d : ∀ t, x.dst = some t → y.dst ≠ some t
  u : ∀ h ∈ x.δ.ups.map (·.1), h ∉ y.δ.ups.map (·.1)
theorem upds_not {l : List (Nat × EnS)} : ∀ {en : Nat → EnS} {h : Nat}, h ∉ l.map (·.1) → upds en l h = en h := by
  induction l with
  | nil => intro en h _; rfl
  | cons p r ih =>
    intro en h hn
    simp only [List.map_cons, List.mem_cons, not_or] at hn
    have : upds en (p :: r) h = upds (upd en p.1 p.2) r h := rfl
    rw [this, ih hn.2, upd_ne _ _ hn.1]
theorem upds_congr {l : List (Nat × EnS)} : ∀ {en en2 : Nat → EnS} {h : Nat}, en h = en2 h → upds en l h = upds en2 l h := by
  induction l with
  | nil => intro en en2 h e; exact e
  | cons p r ih =>
    intro en en2 h e
    apply ih (en := upd en p.1 p.2) (en2 := upd en2 p.1 p.2)
    by_cases hp : h = p.1
    · subst hp; rw [upd_same, upd_same]
    · rw [upd_ne _ _ hp, upd_ne _ _ hp]; exact e
theorem app_sl_ne {s : VSt} {d : Option Tmp} {δ : Delta} {t : Nat} (h : d ≠ some t) : (s.app d δ).sl t = s.sl t := by
  unfold VSt.app
  cases d with
  | none => rfl
  | some u => exact upd_ne _ _ (fun e => h (by rw [e]))
theorem app_sl_same {s : VSt} {t : Nat} {δ : Delta} : (s.app (some t) δ).sl t = δ.v := upd_same _ _ _
theorem app_en {s : VSt} {d : Option Tmp} {δ : Delta} : (s.app d δ).en = upds s.en δ.ups := rfl
theorem appL_gl {b : Nat → Bool} : ∀ {its : List Item} {i : Nat} {s : VSt}, (appL b its i s).gl = s.gl
  | [], _, _ => rfl
  | it :: r, i, s => by
    unfold appL
    rw [appL_gl]
    split <;> rfl
theorem VSt.ext' {s s' : VSt} (h1 : ∀ t, s.sl t = s'.sl t) (h2 : ∀ h, s.en h = s'.en h) (h3 : s.gl = s'.gl) : s = s' := by
  obtain ⟨a, b, e⟩ := s
  obtain ⟨c, d, f⟩ := s'
  obtain rfl : e = f := h3
  obtain rfl : a = c := funext h1
  obtain rfl : b = d := funext h2
  rfl
theorem app_comm {s : VSt} {x y : Item} (h : Cm x y) : (s.app x.dst x.δ).app y.dst y.δ = (s.app y.dst y.δ).app x.dst x.δ := by
  apply VSt.ext'
  · intro t
    by_cases hx : x.dst = some t
    · have hy := h.d t hx
      rw [app_sl_ne hy, hx, app_sl_same, app_sl_same]
    · rw [app_sl_ne hx]
      by_cases hy : y.dst = some t
      · rw [hy, app_sl_same, app_sl_same]
      · rw [app_sl_ne hy, app_sl_ne hy, app_sl_ne hx]
  · intro j
    rw [app_en, app_en, app_en, app_en]
    by_cases hx : j ∈ x.δ.ups.map (·.1)
    · rw [upds_not (h.u j hx)]
      exact upds_congr (upds_not (h.u j hx)).symm
    · rw [upds_not hx]
      exact upds_congr (upds_not hx)
  · rfl
theorem appL_congr {b b' : Nat → Bool} : ∀ {its : List Item} {i : Nat} {s : VSt}, (∀ k it, its[k]? = some it → b (i + k) = b' (i + k)) → appL b its i s = appL b' its i s
  | [], _, _, _ => rfl
  | it :: r, i, s, h => by
    have h0 := h 0 it rfl
    unfold appL
    rw [Nat.add_zero] at h0
    rw [h0]
    exact appL_congr (fun k x hx => by
      have := h (k + 1) x (by simpa using hx)
      rw [show i + 1 + k = i + (k + 1) from by omega]; exact this)
theorem appL_none {b : Nat → Bool} : ∀ {its : List Item} {i : Nat} {s : VSt}, (∀ k it, its[k]? = some it → b (i + k) = false) → appL b its i s = s
  | [], _, _, _ => rfl
  | it :: r, i, s, h => by
    have h0 := h 0 it rfl
    rw [Nat.add_zero] at h0
    unfold appL
    rw [h0, if_neg (by simp)]
    exact appL_none (fun k x hx => by
      have := h (k + 1) x (by simpa using hx)
      rw [show i + 1 + k = i + (k + 1) from by omega]; exact this)
theorem appL_comm {b : Nat → Bool} {it : Item} : ∀ {its : List Item} {i : Nat} {s : VSt}, (∀ k x, its[k]? = some x → b (i + k) = true → Cm it x) → appL b its i (s.app it.dst it.δ) = (appL b its i s).app it.dst it.δ
  | [], _, _, _ => rfl
  | x :: r, i, s, h => by
    have hr : ∀ k y, r[k]? = some y → b (i + 1 + k) = true → Cm it y := fun k y hy hb => h (k + 1) y (by simpa using hy) (by rw [show i + (k + 1) = i + 1 + k from by omega]; exact hb)
    unfold appL
    cases hb : b i with
    | true =>
      rw [if_pos rfl, if_pos rfl, app_comm (h 0 x rfl hb)]
      exact appL_comm hr
    | false =>
      rw [if_neg (by simp), if_neg (by simp)]
      exact appL_comm hr
theorem appL_ins {b b' : Nat → Bool} : ∀ {its : List Item} {k : Nat} {i : Nat} {s : VSt} {it : Item}, its[k]? = some it → b (i + k) = false → (∀ j, b' j = (b j || j == i + k)) →
    (∀ j x, its[j]? = some x → k < j → b (i + j) = true → Cm it x) → appL b' its i s = (appL b its i s).app it.dst it.δ
  | [], k, i, s, it, h, _, _, _ => by simp at h
  | x :: r, 0, i, s, it, h, hb, hb', hc => by
    simp at h
    subst h
    unfold appL
    have h1 : b' i = true := by rw [hb' i]; simp
    rw [Nat.add_zero] at hb
    rw [h1, hb, if_pos rfl, if_neg (by simp)]
    rw [appL_congr (b := b') (b' := b) (fun k y _ => by rw [hb' (i + 1 + k)]; simp; omega)]
    exact appL_comm (fun k y hy hk => hc (k + 1) y (by simpa using hy) (by omega) (by rw [show i + (k + 1) = i + 1 + k from by omega]; exact hk))
  | x :: r, k + 1, i, s, it, h, hb, hb', hc => by
    unfold appL
    have h1 : b' i = b i := by rw [hb' i]; simp
    rw [h1]
    refine appL_ins (k := k) (by simpa using h) (by rw [show i + 1 + k = i + (k + 1) from by omega]; exact hb) (fun j => by rw [hb' j, show i + 1 + k = i + (k + 1) from by omega]) (fun j y hy hj hbj => ?_)
    exact hc (j + 1) y (by simpa using hy) (by omega) (by rw [show i + (j + 1) = i + 1 + j from by omega]; exact hbj)
theorem appL_sl {b b' : Nat → Bool} {t : Nat} : ∀ {its : List Item} {i : Nat} {s s' : VSt}, (∀ k it, its[k]? = some it → b (i + k) ≠ b' (i + k) → it.dst ≠ some t) → s.sl t = s'.sl t → (appL b its i s).sl t = (appL b' its i s').sl t
  | [], _, _, _, _, e => e
  | it :: r, i, s, s', h, e => by
    unfold appL
    refine appL_sl (fun k x hx hb => h (k + 1) x (by simpa using hx) (by rw [show i + (k + 1) = i + 1 + k from by omega]; exact hb)) ?_
    have h0 := h 0 it rfl
    rw [Nat.add_zero] at h0
    cases hb : b i <;> cases hb' : b' i
    · rw [if_neg (by simp), if_neg (by simp)]; exact e
    · rw [if_neg (by simp), if_pos rfl, app_sl_ne (h0 (by rw [hb, hb']; simp))]; exact e
    · rw [if_pos rfl, if_neg (by simp), app_sl_ne (h0 (by rw [hb, hb']; simp))]; exact e
    · rw [if_pos rfl, if_pos rfl]
      by_cases hd : it.dst = some t
      · rw [hd, app_sl_same, app_sl_same]
      · rw [app_sl_ne hd, app_sl_ne hd]; exact e
theorem appL_en {b b' : Nat → Bool} {j : Nat} : ∀ {its : List Item} {i : Nat} {s s' : VSt}, (∀ k it, its[k]? = some it → b (i + k) ≠ b' (i + k) → j ∉ it.δ.ups.map (·.1)) → s.en j = s'.en j → (appL b its i s).en j = (appL b' its i s').en j
  | [], _, _, _, _, e => e
  | it :: r, i, s, s', h, e => by
    unfold appL
    refine appL_en (fun k x hx hb => h (k + 1) x (by simpa using hx) (by rw [show i + (k + 1) = i + 1 + k from by omega]; exact hb)) ?_
    have h0 := h 0 it rfl
    rw [Nat.add_zero] at h0
    cases hb : b i <;> cases hb' : b' i
    · rw [if_neg (by simp), if_neg (by simp)]; exact e
    · rw [if_neg (by simp), if_pos rfl, app_en, upds_not (h0 (by rw [hb, hb']; simp))]; exact e
    · rw [if_pos rfl, if_neg (by simp), app_en, upds_not (h0 (by rw [hb, hb']; simp))]; exact e
    · rw [if_pos rfl, if_pos rfl, app_en, app_en]
      exact upds_congr e
section
variable {C : Ctx} {ops : Array Oper} {id : Nat}
theorem tr_at {todo : List Oper} {i0 : Nat} {s s' : VSt} {its : List Item} (h : Tr C ops todo i0 s its s') : its.length = todo.length ∧ s' = appL (fun _ => true) its i0 s ∧
    ∀ k it, its[k]? = some it → ∃ o, todo[k]? = some o ∧ ItemOK C ops (appL (fun j => decide (j < i0 + k)) its i0 s) (i0 + k) o it := by
  induction h with
  | nil => exact ⟨rfl, rfl, fun k it h => by simp at h⟩
  | @cons o r i s s' it its hit _ ih =>
    obtain ⟨h1, h2, h3⟩ := ih
    refine ⟨by simp [h1], by rw [h2]; rfl, fun k x hx => ?_⟩
    cases k with
    | zero =>
      simp at hx
      subst hx
      refine ⟨o, rfl, ?_⟩
      rw [appL_none (fun k y _ => by simp)]
      exact hit
    | succ k =>
      obtain ⟨o', ho', hk⟩ := h3 k x (by simpa using hx)
      refine ⟨o', by simpa using ho', ?_⟩
      have e : appL (fun j => decide (j < i + (k + 1))) (it :: its) i s = appL (fun j => decide (j < i + 1 + k)) its (i + 1) (s.app it.dst it.δ) := by
        show appL _ its (i + 1) (if decide (i < i + (k + 1)) = true then s.app it.dst it.δ else s) = _
        rw [if_pos (by simp)]
        rw [show i + (k + 1) = i + 1 + k from by omega]
      rw [e, show i + (k + 1) = i + 1 + k from by omega]
      exact hk

structure Ap (x y : Info) : Prop where
  d1 : ∀ t ∈ x.dst, t ∉ y.ts
  d2 : ∀ t ∈ x.dst, t ∉ y.dst
  d3 : ∀ t ∈ y.dst, t ∉ x.ts
  u1 : ∀ h ∈ x.ups, h ∉ y.ids
  u2 : ∀ h ∈ x.ups, h ∉ y.ups
  u3 : ∀ h ∈ y.ups, h ∉ x.ids
  b1 : ∀ h ∈ x.ups, inBase y.base h = false
  b2 : ∀ h ∈ y.ups, inBase x.base h = false
theorem Ap.symm {x y : Info} (h : Ap x y) : Ap y x := ⟨h.d3, fun t ht hx => h.d2 t hx ht, h.d1, h.u3, fun t ht hx => h.u2 t hx ht, h.u1, h.b2, h.b1⟩
theorem apartL_spec {xs ys : List Nat} (h : apartL xs ys = true) : ∀ x ∈ xs, x ∉ ys := by
  intro x hx hy
  unfold apartL at h
  have := List.all_eq_true.1 h x hx
  rw [any_beq.2 hy] at this
  cases this
theorem apart_spec {x y : Info} (h : x.apart y = true) : Ap x y := by
  unfold Info.apart at h
  simp only [Bool.and_eq_true] at h
  obtain ⟨⟨⟨⟨⟨h1, h2⟩, h3⟩, h4⟩, h5⟩, h6⟩ := h
  have a1 := apartL_spec h1
  have a2 := apartL_spec h2
  have a3 := apartL_spec h3
  have a4 := apartL_spec h4
  refine ⟨fun t ht hy => a1 t ht (List.mem_append_left _ hy), fun t ht hy => a1 t ht (List.mem_append_right _ hy), a2, fun t ht hy => a3 t ht (List.mem_append_left _ hy), fun t ht hy => a3 t ht (List.mem_append_right _ hy), a4, fun t ht => ?_, fun t ht => ?_⟩
  · simpa using List.all_eq_true.1 h5 t ht
  · simpa using List.all_eq_true.1 h6 t ht
theorem orderOk_spec {ms : List Nat} : ∀ {l : List Info}, orderOk ms l = true → ∀ (p q : Nat) (x y : Info), p < q → l[p]? = some x → l[q]? = some y → (ms.getD y.i 0).testBit x.i = true ∨ Ap x y
  | [], _, p, q, x, y, _, h, _ => by simp at h
  | z :: r, h, p, q, x, y, hpq, hx, hy => by
    unfold orderOk at h
    rw [Bool.and_eq_true] at h
    cases q with
    | zero => omega
    | succ q =>
      cases p with
      | zero =>
        simp at hx
        subst hx
        have hm : y ∈ r := List.mem_of_getElem? (i := q) (by simpa using hy)
        have := List.all_eq_true.1 h.1 y hm
        rw [Bool.or_eq_true] at this
        exact this.imp (fun x => x) apart_spec
      | succ p => exact orderOk_spec h.2 p q x y (by omega) (by simpa using hx) (by simpa using hy)

/-! what an operation waits for -/
def Shut (ops : List Oper) (D : Nat → Prop) : Prop := ∀ (k : Nat) (o : Oper), ops[k]? = some o → D k → ∀ e ∈ o.after, bindsAny e = true → D e.on
theorem mask_fold (D : Nat → Prop) (acc : List Nat) (hacc : ∀ k j, D k → (acc.getD k 0).testBit j = true → D j) : ∀ (l : List Edge) (m : Nat), (∀ j, m.testBit j = true → D j) → (∀ e ∈ l, bindsAny e = true → D e.on) →
    ∀ j, (l.foldl (fun m e => if bindsAny e then m ||| 2 ^ e.on ||| acc.getD e.on 0 else m) m).testBit j = true → D j
  | [], m, hm, _, j, h => hm j h
  | e :: r, m, hm, hl, j, h => by
    refine mask_fold D acc hacc r _ (fun j hj => ?_) (fun e' he' => hl e' (List.mem_cons_of_mem _ he')) j h
    simp only at hj
    split at hj
    · rename_i hb
      have hD := hl e List.mem_cons_self hb
      rw [Nat.testBit_or, Nat.testBit_or, Bool.or_eq_true, Bool.or_eq_true] at hj
      rcases hj with (hj | hj) | hj
      · exact hm j hj
      · rw [Nat.testBit_two_pow] at hj
        obtain rfl : e.on = j := by simpa using hj
        exact hD
      · exact hacc _ j hD hj
    · exact hm j hj
theorem masks_ok {D : Nat → Prop} {all : List Oper} (hs : Shut all D) : ∀ (todo : List Oper) (acc : List Nat), all.drop acc.length = todo →
    (∀ k o, all[k]? = some o → k < acc.length → (∀ e ∈ o.after, bindsAny e = true → D e.on) → ∀ j, (acc.getD k 0).testBit j = true → D j) →
    ∀ k o, all[k]? = some o → (∀ e ∈ o.after, bindsAny e = true → D e.on) → ∀ j, ((masks todo acc).getD k 0).testBit j = true → D j
  | [], acc, hd, hacc, k, o, ho, he, j, hj => by
    have hk : k < all.length := (List.getElem?_eq_some_iff.1 ho).1
    have : all.length ≤ acc.length := by
      have := congrArg List.length hd
      simp at this
      omega
    exact hacc k o ho (by omega) he j hj
  | p :: r, acc, hd, hacc, k, o, ho, he, j, hj => by
    unfold masks at hj
    have hp : all[acc.length]? = some p := by
      have : (all.drop acc.length)[0]? = some p := by rw [hd]; rfl
      rw [List.getElem?_drop] at this
      simpa using this
    refine masks_ok hs r _ ?_ ?_ k o ho he j hj
    · rw [List.length_append, List.length_singleton, ← List.drop_drop, hd]; rfl
    · intro k o ho hk he j hj
      rw [List.length_append, List.length_singleton] at hk
      have hacc' : ∀ k j, D k → (acc.getD k 0).testBit j = true → D j := by
        intro k j hD hj
        by_cases hk : k < acc.length
        · have hk2 : k < all.length := by
            have := congrArg List.length hd
            simp at this
            omega
          have ho : all[k]? = some all[k] := List.getElem?_eq_getElem hk2
          exact hacc k _ ho hk (hs k _ ho hD) j hj
        · rw [List.getD_eq_getElem?_getD, List.getElem?_eq_none (by omega)] at hj
          simp at hj
      by_cases hlt : k < acc.length
      · rw [List.getD_eq_getElem?_getD, List.getElem?_append_left hlt, ← List.getD_eq_getElem?_getD] at hj
        exact hacc k o ho hlt he j hj
      · obtain rfl : k = acc.length := by omega
        rw [hp] at ho
        injection ho with ho
        subst ho
        rw [List.getD_eq_getElem?_getD, List.getElem?_append_right (by omega)] at hj
        simp only [Nat.sub_self, List.getElem?_cons_zero, Option.getD_some] at hj
        exact mask_fold D acc hacc' _ 0 (by simp) (fun e hm hb => he e (by simpa using hm) hb) j hj

/-! the count of what is left -/
def unl (l : Array Bool) : Nat → Nat
  | 0 => 0
  | n + 1 => unl l n + (if l.getD n true = true then 0 else 1)
theorem unl_le (l : Array Bool) : ∀ n, unl l n ≤ n
  | 0 => Nat.le_refl _
  | n + 1 => by
    have := unl_le l n
    unfold unl
    split <;> omega
theorem unl_zero {l : Array Bool} : ∀ {n : Nat}, unl l n = 0 → ∀ j, j < n → l.getD j true = true
  | 0, _, j, hj => by omega
  | n + 1, h, j, hj => by
    unfold unl at h
    split at h
    · rename_i hn
      by_cases e : j = n
      · subst e; exact hn
      · exact unl_zero (by omega) j (by omega)
    · omega
theorem unl_ge {l : Array Bool} {i : Nat} : ∀ {n : Nat}, n ≤ i → unl (l.setIfInBounds i true) n = unl l n
  | 0, _ => rfl
  | n + 1, h => by
    unfold unl
    rw [unl_ge (by omega), getD_set_ne true (by omega)]
theorem unl_lt {l : Array Bool} {i : Nat} (hi : l.getD i true = false) : ∀ {n : Nat}, i < n → unl (l.setIfInBounds i true) n + 1 = unl l n
  | 0, h => by omega
  | n + 1, h => by
    unfold unl
    by_cases e : i = n
    · subst e
      rw [unl_ge (Nat.le_refl _), hi]
      have : (l.setIfInBounds i true).getD i true = true := by
        have hlt : i < l.size := by
          rcases Nat.lt_or_ge i l.size with h' | h'
          · exact h'
          · simp [Array.getElem?_eq_none h'] at hi
        simp [hlt]
      rw [this]; simp
    · rw [← unl_lt hi (n := n) (by omega), getD_set_ne true e]
      omega
theorem listed_eq {l : Array Bool} {j : Nat} (h : j < l.size) : l.getD j false = l.getD j true := by
  simp [h]
theorem edgesBack_spec (h : edgesBack ops = true) {j : Nat} {o : Oper} (ho : ops[j]? = some o) {e : Edge} (he : e ∈ o.after) (hb : bindsAny e = true) : e.on < j := by
  unfold edgesBack at h
  have hm : (o, j) ∈ ops.toList.zipIdx := by
    rw [List.mem_zipIdx_iff_getElem?]
    simpa using ho
  have := List.all_eq_true.1 h _ hm
  have := List.all_eq_true.1 this e (by simpa using he)
  rw [hb] at this
  simp at this
  omega
theorem region_any (hm : C.P.follows .mixedOrders = true) {Q : Exit → Act → World → Prop} {s s' : VSt} {its : List Item} (htr : Tr C ops ops.toList 0 s its s') (hback : edgesBack ops = true) (hord : orderOk (masks ops.toList []) (its.map (·.inf)) = true)
    {a : Act} {w : World} (hr : RelE C s a w) (hQ : ∀ a' w', RelE C s' a' w' → Q .normal a' w') : (Code.region id ops true).wp C.P Q a w := by
  apply wp_region_any hm
  obtain ⟨hlen, hs', hat⟩ := tr_at htr
  have hlen : its.length = ops.size := by simpa using hlen
  have hord := orderOk_spec hord
  have main : ∀ (fuel : Nat) (listed : Array Bool) (a : Act) (w : World), listed.size = ops.size → unl listed ops.size ≤ fuel → Shut ops.toList (fun k => listed.getD k false = true) →
      RelE C (appL (fun k => listed.getD k false) its 0 s) a w → wpAny C.P .any ops Q fuel listed a w := by
    have done : ∀ (listed : Array Bool) (a : Act) (w : World), listed.size = ops.size → RelE C (appL (fun k => listed.getD k false) its 0 s) a w → Region.ready .any ops listed = [] → Q .normal a w := by
      intro listed a w hsz hr hnil
      have hall : ∀ n j, j < n → j < ops.size → listed.getD j false = true := by
        intro n
        induction n with
        | zero => intro j hj; omega
        | succ n ih =>
          intro j hj hjs
          cases hl : listed.getD j false with
          | true => rfl
          | false =>
            have ho : ops[j]? = some ops[j] := by simp [hjs]
            have : j ∈ Region.ready .any ops listed := by
              rw [mem_ready]
              refine ⟨by rw [← listed_eq (by omega)]; exact hl, _, ho, fun e he hb => ?_⟩
              have := edgesBack_spec hback ho he hb
              exact ih e.on (by omega) (by omega)
            rw [hnil] at this
            cases this
      apply hQ
      rw [hs']
      rw [appL_congr (b' := fun _ => true) (fun k it hk => ?_)] at hr
      · exact hr
      · have hk : k < its.length := (List.getElem?_eq_some_iff.1 hk).1
        rw [Nat.zero_add]
        exact hall (k + 1) k (by omega) (by omega)
    intro fuel
    induction fuel with
    | zero =>
      intro listed a w hsz hfu hsh hr
      have hnil : Region.ready .any ops listed = [] := by
        rw [List.eq_nil_iff_forall_not_mem]
        intro j hj
        obtain ⟨h0, o, ho, _⟩ := mem_ready.1 hj
        have := unl_zero (Nat.le_zero.1 hfu) j (Array.getElem?_eq_some_iff.1 ho).1
        rw [h0] at this
        cases this
      exact ⟨hnil, done listed a w hsz hr hnil⟩
    | succ fuel ih =>
      intro listed a w hsz hfu hsh hr
      refine ⟨done listed a w hsz hr, fun i hi => ?_⟩
      obtain ⟨h0, o, ho, hedge⟩ := mem_ready.1 hi
      have hilt : i < ops.size := (Array.getElem?_eq_some_iff.1 ho).1
      obtain ⟨it, hit⟩ : ∃ it, its[i]? = some it := ⟨its[i]'(by omega), by simp⟩
      obtain ⟨o', ho', hok⟩ := hat i it hit
      have hoo : o' = o := by
        rw [Array.getElem?_toList, ho] at ho'
        injection ho' with ho'
        exact ho'.symm
      subst hoo
      rw [Nat.zero_add] at hok
      have hif : listed.getD i false = false := by rw [listed_eq (by omega)]; exact h0
      have hinf : ∀ (k : Nat) (x : Item), its[k]? = some x → (its.map (·.inf))[k]? = some x.inf ∧ x.inf.i = k := by
        intro k x hx
        obtain ⟨_, _, hk⟩ := hat k x hx
        exact ⟨by simp [hx], by simpa using hk.i⟩
      -- what is not apart is waited for
      have hap : ∀ (k : Nat) (x : Item), its[k]? = some x → k ≠ i → (listed.getD k false ≠ decide (k < i)) → Ap it.inf x.inf := by
        intro k x hx hki hne
        obtain ⟨e1, e2⟩ := hinf k x hx
        obtain ⟨e3, e4⟩ := hinf i it hit
        have hko : k < ops.size := by
          have := (List.getElem?_eq_some_iff.1 hx).1
          omega
        by_cases hlt : k < i
        · have hk : listed.getD k false = false := by
            cases hc : listed.getD k false with
            | false => rfl
            | true => rw [hc] at hne; simp [hlt] at hne
          rcases hord k i _ _ hlt e1 e3 with h | h
          · rw [e2, e4] at h
            have := masks_ok hsh ops.toList [] rfl (by intro k o _ hk; simp at hk) i o' (by simpa using ho) (fun e he hb => hedge e he hb) k h
            rw [hk] at this; cases this
          · exact h.symm
        · have hk : listed.getD k false = true := by
            cases hc : listed.getD k false with
            | true => rfl
            | false => rw [hc] at hne; simp [hlt] at hne
          rcases hord i k _ _ (by omega) e3 e1 with h | h
          · rw [e2, e4] at h
            have hko' : ops.toList[k]? = some ops[k] := by simp [hko]
            have := masks_ok hsh ops.toList [] rfl (by intro k o _ hk; simp at hk) k _ hko' (fun e he hb => hsh k _ hko' hk e he hb) i h
            rw [hif] at this; cases this
          · exact h
      have hag : Agree it.inf (appL (fun j => decide (j < i)) its 0 s) (appL (fun k => listed.getD k false) its 0 s) := by
        refine ⟨?_, ?_, by rw [appL_gl, appL_gl]⟩
        · intro t ht
          refine appL_sl (fun k x hx hne hd => ?_) rfl
          rw [Nat.zero_add] at hne
          by_cases hki : k = i
          · subst hki
            rw [hif] at hne
            simp at hne
          · have hA := hap k x hx hki hne
            obtain ⟨_, _, hk⟩ := hat k x hx
            have : t ∈ x.inf.dst := by
              rw [hk.dsts, ← hk.od, hd]; simp
            exact hA.d3 t this ht
        · intro h hh
          refine appL_en (fun k x hx hne hu => ?_) rfl
          rw [Nat.zero_add] at hne
          by_cases hki : k = i
          · subst hki
            rw [hif] at hne
            simp at hne
          · have hA := hap k x hx hki hne
            obtain ⟨_, _, hk⟩ := hat k x hx
            rw [← hk.ups] at hu
            rcases hh with hh | hh
            · exact hA.u3 h hu hh
            · have := hA.b2 h hu
              rw [hh] at this; cases this
      refine item_step ho hok hag hr (fun a' w' hr' => ?_)
      refine ih _ a' w' (by simpa using hsz) ?_ ?_ ?_
      · have := unl_lt h0 hilt
        omega
      · intro k p hp hk e he hb
        by_cases hki : k = i
        · subst hki
          rw [Array.getElem?_toList, ho] at hp
          injection hp with hp
          subst hp
          exact getD_set_true (hedge e he hb)
        · rw [getD_set_ne false (Ne.symm hki)] at hk
          exact getD_set_true (hsh k p hp hk e he hb)
      · have e : appL (fun k => (listed.setIfInBounds i true).getD k false) its 0 s = (appL (fun k => listed.getD k false) its 0 s).app it.dst it.δ := by
          refine appL_ins hit (by rw [Nat.zero_add]; exact hif) (fun j => ?_) (fun j x hx hj hb => ?_)
          · rw [Nat.zero_add]
            by_cases hji : j = i
            · subst hji
              have : j < listed.size := by omega
              simp [this]
            · rw [getD_set_ne false (Ne.symm hji)]
              simp [hji]
          · rw [Nat.zero_add] at hb
            have hA := hap j x hx (by omega) (by rw [hb]; simp; omega)
            obtain ⟨_, _, hk⟩ := hat j x hx
            refine ⟨fun t ht hx' => ?_, fun h hh hx' => ?_⟩
            · exact hA.d2 t (by rw [hok.dsts, ← hok.od, ht]; simp) (by rw [hk.dsts, ← hk.od, hx']; simp)
            · rw [← hok.ups] at hh
              rw [← hk.ups] at hx'
              exact hA.u2 h hh hx'
        rw [e]
        exact hr'
  obtain ⟨R, g, hr⟩ := hr
  refine main ops.size _ a _ (by simp) (unl_le _ _) ?_ ⟨R, g, ?_⟩
  · intro k p _ hk
    exfalso
    simp [Array.getElem?_replicate] at hk
    split at hk <;> simp at hk
  · rw [appL_none (fun k it _ => ?_)]
    · exact ⟨hr.inv.same rfl rfl rfl rfl, hr.slots, hr.defers, hr.size, hr.glob, hr.gleq⟩
    · simp [Array.getElem?_replicate]
      split <;> rfl
end
end Go.Sx
