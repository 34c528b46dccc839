/- Part of a proof by a small interpreter on plain values; no condition. -/
import Derived.Test.YtmhimaefondndaaDoorWk
namespace Go.Sx.YtmhimaefondndaaDoor
open Go Go.Sx Go.Proofs
set_option autoImplicit false
set_option linter.unusedVariables false
set_option linter.unusedSimpArgs false
/-! the order of adding. -/
def pa (ps : List (List Int)) (i : Nat) : List Int := ps.getD i []
/-- the first pattern that is the same. -/
def isId (ps : List (List Int)) (i v : Nat) : Prop := v ≤ i ∧ LW (pa ps v) = LW (pa ps i) ∧ ∀ j, j < v → LW (pa ps j) ≠ LW (pa ps i)
theorem isId_uniq {ps : List (List Int)} {i k v w : Nat} (h1 : isId ps i v) (h2 : isId ps k w) (he : LW (pa ps i) = LW (pa ps k)) : v = w := by
  rcases Nat.lt_trichotomy v w with h | h | h
  · exact absurd (h1.2.1.trans he) (h2.2.2 v h)
  · exact h
  · exact absurd (h2.2.1.trans he.symm) (h1.2.2 w h)
/-- what has been added. -/
structure Added (ps : List (List Int)) (S : Nat → Prop) (E : List En) (c : Nat) : Prop where
  we : WE E
  from_ : ∀ e ∈ E, ∃ i v : Nat, i < ps.length ∧ S i ∧ okP (pa ps i) ∧ e.1 = LW (pa ps i) ∧ e.2 = (v : Int) ∧ isId ps i v
  all : ∀ i, i < ps.length → S i → okP (pa ps i) → ∃ e ∈ E, e.1 = LW (pa ps i)
  len : E.length ≤ c
theorem Added.add {ps : List (List Int)} {S S' : Nat → Prop} {E : List En} {c i v : Nat} (h : Added ps S E c) (hc : c < 64) (hi : i < ps.length) (tp : TX (pa ps i)) (hv : isId ps i v) (h1 : ∀ j, S j → S' j) (h2 : S' i) (h3 : ∀ j, S' j → S j ∨ j = i) :
    Added ps S' (addV E (pa ps i) (v : Int)).1 (c + 1) := by
  have hw := WE_add (id := (v : Int)) h.we tp
  refine ⟨hw, ?_, ?_, ?_⟩
  · intro e he
    unfold addV at he
    by_cases hp : okP (pa ps i)
    · rw [if_pos hp] at he
      by_cases hf : (fnd E (LW (pa ps i))).isSome = true
      · rw [if_pos hf] at he
        obtain ⟨k, w, g1, g2, g3⟩ := h.from_ e he
        exact ⟨k, w, g1, h1 k g2, g3⟩
      · rw [if_neg hf, if_neg (by have := h.len; omega)] at he
        rcases List.mem_append.1 he with he | he
        · obtain ⟨k, w, g1, g2, g3⟩ := h.from_ e he
          exact ⟨k, w, g1, h1 k g2, g3⟩
        · rw [List.mem_singleton.1 he]
          exact ⟨i, v, hi, h2, hp, rfl, rfl, hv⟩
    · rw [if_neg hp] at he
      obtain ⟨k, w, g1, g2, g3⟩ := h.from_ e he
      exact ⟨k, w, g1, h1 k g2, g3⟩
  · have keep : ∀ e ∈ E, e ∈ (addV E (pa ps i) (v : Int)).1 := fun e he => by
      unfold addV
      split
      · split
        · exact he
        · split
          · exact he
          · exact List.mem_append_left _ he
      · exact he
    intro k hk hS hp
    rcases h3 k hS with hS | rfl
    · obtain ⟨e, he, hq⟩ := h.all k hk hS hp
      exact ⟨e, keep e he, hq⟩
    · by_cases hf : (fnd E (LW (pa ps k))).isSome = true
      · have : fnd E (LW (pa ps k)) ≠ none := fun e => by rw [e] at hf; cases hf
        rw [Ne, fnd_none] at this
        have : ∃ e ∈ E, e.1 = LW (pa ps k) := Classical.byContradiction fun hn => this fun e he hq => hn ⟨e, he, hq⟩
        obtain ⟨e, he, hq⟩ := this
        exact ⟨e, keep e he, hq⟩
      · refine ⟨(LW (pa ps k), (v : Int)), ?_, rfl⟩
        unfold addV
        rw [if_pos hp, if_neg hf, if_neg (by have := h.len; omega)]
        simp
  · unfold addV
    have := h.len
    split
    · split
      · dsimp only; omega
      · split
        · dsimp only; omega
        · simp; omega
    · dsimp only; omega
theorem mem_pt {E : List En} {e : En} (h : e ∈ E) : ∃ j, j < E.length ∧ pt E j = e.1 ∧ E.getD j ([], 0) = e := by
  obtain ⟨j, hj, rfl⟩ := List.mem_iff_getElem.1 h
  have : E.getD j ([], 0) = E[j] := by rw [List.getD_eq_getElem?_getD, List.getElem?_eq_getElem hj]; rfl
  exact ⟨j, hj, by unfold pt; rw [this], this⟩
/-- what is found: it fits, and none that fits goes ahead of it. -/
theorem find_spec {E : List En} {h : List Int} (hw : WE E) : (findV E h).2 = 0 → ∃ e ∈ E, (findV E h).1 = e.2 ∧ okS false h = true ∧ ft e.1 h = true ∧ ∀ e' ∈ E, ft e'.1 h = true → ag e'.1 e.1 = false := by
  intro h0
  obtain ⟨b1, b2, b3⟩ := best_spec E h E.length
  unfold findV at h0 ⊢
  by_cases hh : okS false h = true
  · rw [if_pos hh] at h0 ⊢
    by_cases hb : bestV E h E.length < 0
    · rw [if_pos hb] at h0; cases h0
    · rw [if_neg hb]
      have hbl : (bestV E h E.length).toNat < E.length := by omega
      obtain ⟨g1, g2⟩ := b3 (by omega)
      refine ⟨E.getD (bestV E h E.length).toNat ([], 0), getD_mem hbl, rfl, hh, g1, fun e' he' hf => ?_⟩
      obtain ⟨j, hj, hp, _⟩ := mem_pt he'
      rw [← hp] at hf ⊢
      exact g2 j hj hf
  · rw [if_neg hh] at h0; cases h0
theorem find_none {E : List En} {h : List Int} : (findV E h).2 ≠ 0 → findV E h = (0, (findV E h).2) ∧ ((okS false h = false ∧ (findV E h).2 = 3) ∨ (okS false h = true ∧ (findV E h).2 = 8 ∧ ∀ e ∈ E, ft e.1 h = false)) := by
  intro h0
  obtain ⟨b1, b2, b3⟩ := best_spec E h E.length
  unfold findV at h0 ⊢
  by_cases hh : okS false h = true
  · rw [if_pos hh] at h0 ⊢
    by_cases hb : bestV E h E.length < 0
    · rw [if_pos hb]
      refine ⟨rfl, .inr ⟨hh, rfl, fun e he => ?_⟩⟩
      obtain ⟨j, hj, hp, _⟩ := mem_pt he
      rw [← hp]; exact b2 hb j hj
    · rw [if_neg hb] at h0; exact absurd rfl h0
  · rw [if_neg hh]; exact ⟨rfl, .inl ⟨by simpa using hh, rfl⟩⟩
theorem find_same {ps : List (List Int)} {h : List Int} {A B : List En} {c d : Nat} {S : Nat → Prop} (hA : Added ps S A c) (hB : Added ps S B d) : findV A h = findV B h := by
  have cross : ∀ {A B : List En} {c d : Nat}, Added ps S A c → Added ps S B d → ∀ e ∈ A, ∃ e' ∈ B, e'.1 = e.1 ∧ e'.2 = e.2 := fun {A B c d} hA hB e he => by
    obtain ⟨i, v, g1, g2, g3, g4, g5, g6⟩ := hA.from_ e he
    obtain ⟨e', he', hq⟩ := hB.all i g1 g2 g3
    obtain ⟨k, w, f1, f2, f3, f4, f5, f6⟩ := hB.from_ e' he'
    refine ⟨e', he', by rw [hq, g4], ?_⟩
    rw [f5, g5, isId_uniq g6 f6 (by rw [← f4, hq])]
  by_cases h0 : (findV A h).2 = 0
  · by_cases h1 : (findV B h).2 = 0
    · obtain ⟨a, ha, a1, _, a2, a3⟩ := find_spec hA.we h0
      obtain ⟨b, hb, b1, _, b2, b3⟩ := find_spec hB.we h1
      obtain ⟨a', ha', e1, e2⟩ := cross hA hB a ha
      obtain ⟨b', hb', e3, e4⟩ := cross hB hA b hb
      have hab : a.1 = b.1 := by
        apply Classical.byContradiction; intro hne
        have t1 := ag_tri a2 b2 (fun e => hne (by rw [← (hA.we.ok a ha).2.2, ← (hB.we.ok b hb).2.2, e]))
        have t2 := b3 a' ha' (by rw [e1]; exact a2)
        have t3 := a3 b' hb' (by rw [e3]; exact b2)
        rw [e1] at t2
        rw [e3] at t3
        rw [t2, t3] at t1; cases t1
      have hv : a.2 = b.2 := by
        have f1 := fnd_of hB.we.dis ha'
        have f2 := fnd_of hB.we.dis hb
        rw [e1, hab, f2] at f1
        rw [← e2]; exact (Option.some.inj f1).symm
      rw [Prod.ext_iff]
      exact ⟨by rw [a1, b1, hv], by rw [h0, h1]⟩
    · obtain ⟨a, ha, a1, ah, a2, a3⟩ := find_spec hA.we h0
      obtain ⟨_, g⟩ := find_none h1
      rcases g with ⟨g, _⟩ | ⟨_, _, g⟩
      · rw [ah] at g; cases g
      · obtain ⟨a', ha', e1, _⟩ := cross hA hB a ha
        have := g a' ha'
        rw [e1, a2] at this; cases this
  · obtain ⟨g1, g⟩ := find_none h0
    by_cases h1 : (findV B h).2 = 0
    · obtain ⟨b, hb, b1, bh, b2, b3⟩ := find_spec hB.we h1
      rcases g with ⟨g, _⟩ | ⟨_, _, g⟩
      · rw [bh] at g; cases g
      · obtain ⟨b', hb', e1, _⟩ := cross hB hA b hb
        have := g b' hb'
        rw [e1, b2] at this; cases this
    · obtain ⟨k1, k⟩ := find_none h1
      rw [g1, k1]
      rcases g with ⟨g, e⟩ | ⟨g, e, _⟩ <;> rcases k with ⟨k, e'⟩ | ⟨k, e', _⟩
      · rw [e, e']
      · rw [g] at k; cases k
      · rw [g] at k; cases k
      · rw [e, e']
/-- the order of the second table. -/
def kth (t n i : Nat) : Nat := (t + n - i) % n
theorem kth_onto {t n m : Nat} (ht : t < n) (hm : m < n) : ∃ j, j < n ∧ kth t n j = m := by
  unfold kth
  by_cases h : m ≤ t
  · refine ⟨t - m, by omega, ?_⟩
    rw [show t + n - (t - m) = n + m by omega, Nat.add_mod_left, Nat.mod_eq_of_lt hm]
  · refine ⟨t + n - m, by omega, ?_⟩
    rw [show t + n - (t + n - m) = m by omega, Nat.mod_eq_of_lt hm]
theorem hostOrder_f {ps : List (List Int)} {h : List Int} {turn : Int} (tp : TXs ps) (th : TX h) (ht : -9223372036854775808 ≤ turn ∧ turn ≤ 9223372036854775807) : hostOrder FU (ps, (h, turn)) = some true := by
  refine Gives.eq ?_
  unfold hostOrder
  dsimp only
  refine Gives.bind_eq (show tnew FU () = some (TI [], TO []) from rfl) ?_
  refine Gives.bind_eq (show tnew FU () = some (TI [], TO []) from rfl) ?_
  refine Gives.dite (fun h1 => Gives.bind_eq works_v (Gives.of_some rfl)) (fun h1 => ?_)
  refine Gives.dite (fun h2 => Gives.bind_eq works_v (Gives.of_some rfl)) (fun h2 => ?_)
  have hn : 1 ≤ ps.length ∧ ps.length ≤ 60 := by omega
  clear h1 h2
  refine Gives.neg (by omega) ?_
  refine Gives.neg (by omega) ?_
  obtain ⟨t, htl, hte⟩ : ∃ t : Nat, t < ps.length ∧ Int.tmod (IntKind.wrap .i64 (Int.tmod turn (ps.length : Int) + (ps.length : Int))) (ps.length : Int) = (t : Int) := by
    have hr := Int.tmod_lt_of_pos turn (show (0 : Int) < (ps.length : Int) by omega)
    have hl : -(ps.length : Int) < Int.tmod turn (ps.length : Int) := by
      have := Int.lt_tmod_of_pos turn (show (0 : Int) < (ps.length : Int) by omega)
      omega
    rw [wrap64 (by omega) (by omega), Int.tmod_eq_emod_of_nonneg (by omega)]
    have g1 := Int.emod_nonneg (Int.tmod turn (ps.length : Int) + (ps.length : Int)) (show (ps.length : Int) ≠ 0 by omega)
    have g2 := Int.emod_lt_of_pos (Int.tmod turn (ps.length : Int) + (ps.length : Int)) (show (0 : Int) < (ps.length : Int) by omega)
    exact ⟨((Int.tmod turn (ps.length : Int) + (ps.length : Int)) % (ps.length : Int)).toNat, by omega, by omega⟩
  rw [hte]
  refine Gives.loop (I := fun z => z.1 = ps ∧ z.2.1 = h ∧ z.2.2.1 = (t : Int) ∧ z.2.2.2.2.1 = TI [] ∧ z.2.2.2.2.2.1 = TO [] ∧ z.2.2.2.2.2.2.1 = TI [] ∧ z.2.2.2.2.2.2.2.1 = TO [] ∧ ∃ i : Nat, z.2.2.2.1 = (i : Int) ∧ i ≤ ps.length ∧ z.2.2.2.2.2.2.2.2.length = i ∧ ∀ j, j < i → ∃ v : Nat, z.2.2.2.2.2.2.2.2.getD j 0 = (v : Int) ∧ isId ps j v) (μ := fun z => ps.length - z.2.2.2.1.toNat) ?_ FU _ ⟨rfl, rfl, rfl, rfl, rfl, rfl, rfl, 0, rfl, by omega, rfl, fun j hj => absurd hj (Nat.not_lt_zero _)⟩ (by simp; unfold FU; omega)
  rintro rec ⟨a11, a12, a13, a14, a15, a16, a17, a18, a19⟩ ⟨e1, e2, e3, e4, e5, e6, e7, i, e8, e9, e10, e11⟩ hrec
  dsimp only at e1 e2 e3 e4 e5 e6 e7 e8 e10 e11 hrec ⊢
  subst e1 e2 e3 e4 e5 e6 e7 e8
  refine Gives.dite (fun hlt => ?_) (fun hge => ?_)
  · have hi : i < a11.length := by omega
    refine Gives.loop (I := fun z => z.1 = a11 ∧ z.2.1 = a12 ∧ z.2.2.1 = (t : Int) ∧ z.2.2.2.1 = (i : Int) ∧ z.2.2.2.2.2.2.1 = TI [] ∧ z.2.2.2.2.2.2.2.1 = TO [] ∧ z.2.2.2.2.2.2.2.2.1 = TI [] ∧ z.2.2.2.2.2.2.2.2.2.1 = TO [] ∧ z.2.2.2.2.2.2.2.2.2.2 = a19 ∧ ∃ k v : Nat, z.2.2.2.2.2.1 = (k : Int) ∧ z.2.2.2.2.1 = (v : Int) ∧ k ≤ i ∧ v ≤ i ∧ LW (pa a11 v) = LW (pa a11 i) ∧ ∀ j, j < k → j < v → LW (pa a11 j) ≠ LW (pa a11 i)) (μ := fun z => i - z.2.2.2.2.2.1.toNat) ?_ FU _ ⟨rfl, rfl, rfl, rfl, rfl, rfl, rfl, rfl, rfl, 0, i, rfl, rfl, by omega, by omega, rfl, fun j hj => absurd hj (Nat.not_lt_zero _)⟩ (by simp; unfold FU; omega)
    rintro rec2 ⟨b1, b2, b3, b4, b5, b6, b7, b8, b9, b10, b11⟩ ⟨f1, f2, f3, f4, f5, f6, f7, f8, f9, k, v, f10, f11, f12, f13, f14, f15⟩ hrec2
    dsimp only at f1 f2 f3 f4 f5 f6 f7 f8 f9 f10 f11 hrec2 ⊢
    subst f1 f2 f3 f4 f5 f6 f7 f8 f9 f10 f11
    refine Gives.dite (fun hlt2 => ?_) (fun hge2 => ?_)
    · have hk : k < i := by omega
      refine Gives.idx [] (by omega) (by omega) ?_
      refine Gives.idx [] (by omega) (by omega) ?_
      rw [Int.toNat_natCast, Int.toNat_natCast]
      refine Gives.bind_eq (show rSame FU (pa b1 k, pa b1 i) = some (LW (pa b1 k) == LW (pa b1 i)) from rSame_f (tp.at (by omega)) (tp.at (by omega))) ?_
      have hw1 : IntKind.wrap .i64 ((k : Int) + 1) = ((k + 1 : Nat) : Int) := by rw [wrap64 (by omega) (by omega)]; omega
      rw [hw1]
      by_cases hs : LW (pa b1 k) = LW (pa b1 i)
      · rw [if_pos (by simpa using hs)]
        by_cases hkv : k < v
        · refine hrec2 _ ⟨rfl, rfl, rfl, rfl, rfl, rfl, rfl, rfl, rfl, k + 1, k, rfl, by dsimp only; rw [if_pos (by omega)], by omega, by omega, hs, fun j h1 h2 => f15 j h2 (by omega)⟩ (by dsimp only; omega)
        · refine hrec2 _ ⟨rfl, rfl, rfl, rfl, rfl, rfl, rfl, rfl, rfl, k + 1, v, rfl, by dsimp only; rw [if_neg (by omega)], by omega, by omega, f14, fun j h1 h2 => f15 j (by omega) h2⟩ (by dsimp only; omega)
      · rw [if_neg (by simpa using hs)]
        refine hrec2 _ ⟨rfl, rfl, rfl, rfl, rfl, rfl, rfl, rfl, rfl, k + 1, v, rfl, rfl, by omega, by omega, f14, fun j h1 h2 => ?_⟩ (by dsimp only; omega)
        by_cases hjk : j = k
        · rw [hjk]; exact hs
        · exact f15 j (by omega) h2
    · have hki : k = i := by omega
      refine Gives.pos (by omega) ?_
      have hw1 : IntKind.wrap .i64 ((i : Int) + 1) = ((i + 1 : Nat) : Int) := by rw [wrap64 (by omega) (by omega)]; omega
      rw [hw1]
      refine hrec _ ⟨rfl, rfl, rfl, rfl, rfl, rfl, rfl, i + 1, rfl, by omega, by simp [e10], fun j hj => ?_⟩ (by dsimp only; omega)
      by_cases hji : j = i
      · subst hji
        exact ⟨v, by simp [List.getD_eq_getElem?_getD, e10], f13, f14, fun m hm => f15 m (by omega) hm⟩
      · obtain ⟨w, g1, g2⟩ := e11 j (by omega)
        refine ⟨w, ?_, g2⟩
        rw [← g1]
        simp only [List.getD_eq_getElem?_getD]
        rw [List.getElem?_append_left (by omega)]
  · have hii : i = a11.length := by omega
    clear hrec hge
    rw [hii] at e10 e11
    clear hii e9
    have id_at : ∀ j, j < a11.length → ∃ v : Nat, a19.getD j 0 = (v : Int) ∧ isId a11 j v := e11
    have klt : ∀ j, kth t a11.length j < a11.length := fun j => Nat.mod_lt _ (by omega)
    refine Gives.loop (I := fun z => z.1 = a11 ∧ z.2.1 = a12 ∧ z.2.2.1 = (t : Int) ∧ z.2.2.2.2.2.2.2.2 = a19 ∧ ∃ (j : Nat) (A B : List En), z.2.2.2.1 = (j : Int) ∧ j ≤ a11.length ∧ z.2.2.2.2.1 = TI A ∧ z.2.2.2.2.2.1 = TO A ∧ z.2.2.2.2.2.2.1 = TI B ∧ z.2.2.2.2.2.2.2.1 = TO B ∧ Added a11 (fun m => m < j) A j ∧ Added a11 (fun m => ∃ j', j' < j ∧ kth t a11.length j' = m) B j) (μ := fun z => a11.length - z.2.2.2.1.toNat) ?_ FU _
      ⟨rfl, rfl, rfl, rfl, 0, [], [], rfl, by omega, rfl, rfl, rfl, rfl, ⟨WE_nil, fun e he => (nomatch he), fun m _ hm => absurd hm (Nat.not_lt_zero _), by simp⟩, ⟨WE_nil, fun e he => (nomatch he), fun m _ hm => by obtain ⟨j', hj', _⟩ := hm; exact absurd hj' (Nat.not_lt_zero _), by simp⟩⟩ (by simp; unfold FU; omega)
    rintro rec ⟨b1, b2, b3, b4, b5, b6, b7, b8, b9⟩ ⟨f1, f2, f3, f4, j, A, B, f5, f6, f7, f8, f9, f10, hA, hB⟩ hrec
    dsimp only at f1 f2 f3 f4 f5 f7 f8 f9 f10 hrec ⊢
    subst f1 f2 f3 f4 f5 f7 f8 f9 f10
    refine Gives.dite (fun hlt => ?_) (fun hge => ?_)
    · have hj : j < b1.length := by omega
      obtain ⟨v, v1, v2⟩ := id_at j hj
      have tj : TX (pa b1 j) := tp.at hj
      have kl := klt j
      obtain ⟨w, w1, w2⟩ := id_at _ kl
      have tk : TX (pa b1 (kth t b1.length j)) := tp.at kl
      refine Gives.idx [] (by omega) hlt ?_
      refine Gives.pos (by omega) ?_
      rw [Int.toNat_natCast, v1]
      refine Gives.bind_eq (show tadd FU (pa b1 j, ((v : Int), (TI A, TO A))) = _ from tadd_f hA.we tj) ?_
      dsimp only
      refine Gives.neg (by omega) ?_
      have hu : Int.tmod (IntKind.wrap .i64 (IntKind.wrap .i64 ((t : Int) + (b1.length : Int)) - (j : Int))) (b1.length : Int) = ((kth t b1.length j : Nat) : Int) := by
        rw [wrap64 (n := (t : Int) + (b1.length : Int)) (by omega) (by omega), wrap64 (by omega) (by omega), Int.tmod_eq_emod_of_nonneg (by omega)]
        unfold kth
        rw [show (((t + b1.length - j) % b1.length : Nat) : Int) = ((t + b1.length - j : Nat) : Int) % (b1.length : Int) from rfl]
        congr 1; omega
      rw [hu]
      refine Gives.idx [] (by omega) (by omega) ?_
      refine Gives.pos (by omega) ?_
      rw [Int.toNat_natCast, w1]
      refine Gives.bind_eq (show tadd FU (pa b1 (kth t b1.length j), ((w : Int), (TI B, TO B))) = _ from tadd_f hB.we tk) ?_
      have hw1 : IntKind.wrap .i64 ((j : Int) + 1) = ((j + 1 : Nat) : Int) := by rw [wrap64 (by omega) (by omega)]; omega
      rw [hw1]
      refine hrec _ ⟨rfl, rfl, rfl, rfl, j + 1, _, _, rfl, by omega, rfl, rfl, rfl, rfl, ?_, ?_⟩ (by dsimp only; omega)
      · exact hA.add (by omega) hj tj v2 (fun m hm => by omega) (by omega) (fun m hm => by omega)
      · refine hB.add (by omega) kl tk w2 (fun m ⟨j', h1, h2⟩ => ⟨j', by omega, h2⟩) ⟨j, by omega, rfl⟩ (fun m ⟨j', h1, h2⟩ => ?_)
        by_cases hjj : j' = j
        · exact .inr (by rw [← h2, hjj])
        · exact .inl ⟨j', by omega, h2⟩
    · have hjj : j = b1.length := by omega
      clear hrec hge
      subst hjj
      have hA' : Added b1 (fun _ => True) A b1.length := ⟨hA.we, fun e he => by
        obtain ⟨i, v, g1, g2, g3⟩ := hA.from_ e he
        exact ⟨i, v, g1, trivial, g3⟩, fun i hi _ hp => hA.all i hi hi hp, hA.len⟩
      have hB' : Added b1 (fun _ => True) B b1.length := ⟨hB.we, fun e he => by
        obtain ⟨i, v, g1, g2, g3⟩ := hB.from_ e he
        exact ⟨i, v, g1, trivial, g3⟩, fun i hi _ hp => hB.all i hi (kth_onto htl hi) hp, hB.len⟩
      have hsame := find_same (h := b2) hA' hB'
      refine Gives.bind_eq (tfind_f hA.we th) ?_
      refine Gives.bind_eq (tfind_f hB.we th) ?_
      refine Gives.nneg (by rw [hsame]) ?_
      refine Gives.bind_eq (num_f _) ?_
      refine Gives.bind_eq (num_f _) ?_
      refine Gives.nneg (by rw [hsame]) ?_
      by_cases h0 : (findV A b2).2 = 0
      · obtain ⟨e, he, g1, g2, g3, g4⟩ := find_spec hA.we h0
        obtain ⟨i, v, k1, _, k2, k3, k4, k5⟩ := hA'.from_ e he
        refine Gives.mneg h0 ?_
        have hv : (findV A b2).1 = (v : Int) := by rw [g1, k4]
        rw [hv]
        have hvl : v < b1.length := by have := k5.1; omega
        refine Gives.dneg (by omega) ?_
        refine Gives.dneg (by omega) ?_
        refine Gives.idx [] (by omega) (by omega) ?_
        rw [Int.toNat_natCast]
        have tv : TX (pa b1 v) := tp.at hvl
        have hpv : okP (pa b1 v) := by rw [← okP_LW, k5.2.1, okP_LW]; exact k2
        have he1 : e.1 = LW (pa b1 v) := by rw [k3, k5.2.1]
        have hfv : ft (pa b1 v) b2 = true := by rw [← ft_LW, ← he1]; exact g3
        have hfit : fits FU (pa b1 v, b2) = some (true, 0) := by
          rw [fits_f tv th]; unfold fitsV; rw [if_pos ⟨hpv, g2⟩, hfv]
        refine Gives.bind_eq hfit ?_
        refine Gives.neg (by decide) ?_
        refine Gives.mneg rfl ?_
        refine Gives.loop (I := fun z => z.1 = b1 ∧ z.2.1 = b2 ∧ z.2.2.1 = (v : Int) ∧ ∃ m : Nat, z.2.2.2 = (m : Int) ∧ m ≤ b1.length) (μ := fun z => b1.length - z.2.2.2.toNat) ?_ FU _ ⟨rfl, rfl, rfl, 0, rfl, by omega⟩ (by simp; unfold FU; omega)
        rintro rec ⟨c1, c2, c3, c4⟩ ⟨q1, q2, q3, m, q4, q5⟩ hrec
        dsimp only at q1 q2 q3 q4 hrec ⊢
        subst q1 q2 q3 q4
        refine Gives.dite (fun hlt => ?_) (fun hge => Gives.bind_eq works_v (Gives.of_some rfl))
        have hm : m < c1.length := by omega
        have tm : TX (pa c1 m) := tp.at hm
        refine Gives.idx [] (by omega) hlt ?_
        refine Gives.idx [] (by omega) (by omega) ?_
        rw [Int.toNat_natCast, Int.toNat_natCast]
        refine Gives.bind_eq (show beats FU (pa c1 m, (pa c1 v, c2)) = _ from beats_f tm tv th) ?_
        have hb : (beatsV (pa c1 m) (pa c1 v) c2).1 = false := by
          unfold beatsV
          by_cases hc : okP (pa c1 m) ∧ okP (pa c1 v) ∧ okS false c2 = true
          · rw [if_pos hc]
            by_cases hf : ft (pa c1 m) c2 = true ∧ ft (pa c1 v) c2 = true
            · rw [if_pos hf]
              obtain ⟨e', he', hq⟩ := hA'.all m hm trivial hc.1
              have := g4 e' he' (by rw [hq, ft_LW]; exact hf.1)
              rw [hq, he1, ag_LW] at this
              exact this
            · rw [if_neg hf]
          · rw [if_neg hc]
        refine Gives.neg (by rw [hb]; simp) ?_
        rw [wrap64 (by omega) (by omega)]
        exact hrec _ ⟨rfl, rfl, rfl, m + 1, by simp, by omega⟩ (by dsimp only; omega)
      · exact Gives.mpos h0 (Gives.bind_eq works_v (Gives.of_some rfl))
end Go.Sx.YtmhimaefondndaaDoor
