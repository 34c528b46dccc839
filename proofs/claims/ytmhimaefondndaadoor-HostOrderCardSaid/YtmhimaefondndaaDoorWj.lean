/- Part of a proof by a small interpreter on plain values; no condition. -/
import Derived.Test.YtmhimaefondndaaDoorWi
namespace Go.Sx.YtmhimaefondndaaDoor
open Go Go.Sx Go.Proofs
set_option autoImplicit false
set_option linter.unusedVariables false
set_option linter.unusedSimpArgs false
/-! tables: entries (a pattern in small letters, its id). -/
abbrev En : Type := List Int × Int
def ky (p : List Int) : List Int × (Bool × Unit) := (p, (!p.isEmpty, ()))
def TI (E : List En) : List ((List Int × (Bool × Unit)) × Int) := E.map fun e => (ky e.1, e.2)
def TO (E : List En) : List (List Int × (Bool × Unit)) := E.map fun e => ky e.1
def RQ (E : List En) : List (List Int × (Int × Unit)) := E.map fun e => (e.1, (e.2, ()))
structure WE (E : List En) : Prop where
  ok : ∀ e ∈ E, okP e.1 ∧ TX e.1 ∧ LW e.1 = e.1
  dis : (E.map (·.1)).Nodup
  len : E.length ≤ 64
theorem WE_nil : WE [] := ⟨fun e h => (nomatch h), List.nodup_nil, by simp⟩
theorem okP_LW {p : List Int} : okP (LW p) ↔ okP p := by unfold okP; rw [LW_nil, okS_LW]
theorem ft_LW (p h : List Int) : ft (LW p) h = ft p h := by
  rw [Bool.eq_iff_iff, ft_iff, ft_iff]; unfold ftP; rw [LW_nil, LW_LW]
theorem ag_LW (a b : List Int) : ag (LW a) (LW b) = ag a b := by
  rw [Bool.eq_iff_iff, ag_iff, ag_iff]; unfold agP; rw [Ne, Ne, LW_nil, LW_nil, LW_LW, LW_LW]
theorem eqb_ky (q p : List Int) : K.eqb (.pair .str (.pair .bool .unit)) (ky q) (ky p) = (q == p) := by
  show (eqS q p && (eqB (!q.isEmpty) (!p.isEmpty) && true)) = _
  unfold eqS eqB
  by_cases h : q = p
  · subst h; simp
  · have : (q == p) = false := by simpa using h
    rw [this]; rfl
def fnd (E : List En) (q : List Int) : Option Int := (E.find? fun e => q == e.1).map (·.2)
theorem mget_TI : ∀ (E : List En) (q : List Int), mget (K.eqb (.pair .str (.pair .bool .unit))) (ky q) (TI E) = fnd E q
  | [], _ => rfl
  | e :: E, q => by
    have ih := mget_TI E q
    show (if K.eqb (.pair .str (.pair .bool .unit)) (ky q) (ky e.1) = true then some e.2 else mget _ (ky q) (TI E)) = _
    rw [eqb_ky, ih]
    unfold fnd
    rw [List.find?_cons]
    by_cases h : (q == e.1) = true
    · rw [if_pos h, h]; rfl
    · rw [if_neg h]; simp only [Bool.not_eq_true] at h; rw [h]
theorem mput_TI : ∀ (E : List En) (q : List Int) (v : Int), fnd E q = none → mput (K.eqb (.pair .str (.pair .bool .unit))) (ky q) v (TI E) = TI (E ++ [(q, v)])
  | [], _, _, _ => rfl
  | e :: E, q, v, h => by
    show (if K.eqb (.pair .str (.pair .bool .unit)) (ky q) (ky e.1) = true then (ky q, v) :: TI E else (ky e.1, e.2) :: mput _ (ky q) v (TI E)) = _
    rw [eqb_ky]
    unfold fnd at h
    rw [List.find?_cons] at h
    by_cases hq : (q == e.1) = true
    · rw [hq] at h; cases h
    · rw [if_neg hq]; simp only [Bool.not_eq_true] at hq; rw [hq] at h
      rw [mput_TI E q v h]; rfl
theorem fnd_none {E : List En} {q : List Int} : fnd E q = none ↔ ∀ e ∈ E, e.1 ≠ q := by
  unfold fnd
  rw [Option.map_eq_none_iff, List.find?_eq_none]
  constructor
  · intro h e he e1; exact h e he (by simp [e1])
  · intro h e he e1; exact h e he (by simpa using Eq.symm (by simpa using e1))
theorem fnd_of : ∀ {E : List En} {e : En}, (E.map (·.1)).Nodup → e ∈ E → fnd E e.1 = some e.2
  | [], _, _, h => nomatch h
  | a :: E, e, hd, h => by
    unfold fnd
    rw [List.find?_cons]
    rw [List.map_cons, List.nodup_cons] at hd
    rcases List.mem_cons.1 h with rfl | h
    · simp
    · have hne : ¬ e.1 = a.1 := fun e1 => hd.1 (by rw [← e1]; exact List.mem_map_of_mem h)
      rw [show (e.1 == a.1) = false by simpa using hne]
      exact fnd_of hd.2 h
open Classical in
noncomputable def addV (E : List En) (p : List Int) (id : Int) : List En × Int :=
  if okP p then (if (fnd E (LW p)).isSome = true then (E, 6) else if E.length = 64 then (E, 9) else (E ++ [(LW p, id)], 0)) else (E, 3)
theorem WE_add {E : List En} {p : List Int} {id : Int} (hw : WE E) (tp : TX p) : WE (addV E p id).1 := by
  unfold addV
  by_cases hp : okP p
  · rw [if_pos hp]
    by_cases hf : (fnd E (LW p)).isSome = true
    · rw [if_pos hf]; exact hw
    · rw [if_neg hf]
      by_cases hl : E.length = 64
      · rw [if_pos hl]; exact hw
      · rw [if_neg hl]
        have hn : fnd E (LW p) = none := by simpa using hf
        refine ⟨fun e he => ?_, ?_, by have := hw.len; simp; omega⟩
        · rcases List.mem_append.1 he with he | he
          · exact hw.ok e he
          · rw [List.mem_singleton.1 he]; exact ⟨okP_LW.2 hp, tp.lw, LW_LW p⟩
        · rw [List.map_append, List.nodup_append]
          refine ⟨hw.dis, by simp, fun a ha b hb => ?_⟩
          obtain ⟨e, he, rfl⟩ := List.mem_map.1 ha
          simp only [List.map_cons, List.map_nil, List.mem_singleton] at hb
          rw [hb]; exact fnd_none.1 hn e he
  · rw [if_neg hp]; exact hw
theorem pattern_k {p : List Int} (tp : TX p) : ∃ r, pattern FU p = some r ∧ (okP p → (r.1, (r.2.1, ())) = ky (LW p) ∧ r.2.2 = 0) ∧ (¬ okP p → r.2.2 = 3) := by
  refine ⟨_, pattern_f tp, fun hp => ?_, fun hp => ?_⟩
  · rcases hp with rfl | hp
    · exact ⟨rfl, rfl⟩
    · have hne : p ≠ [] := fun e => by subst e; cases hp
      rw [if_neg hne, if_pos hp]
      refine ⟨?_, rfl⟩
      unfold ky
      rw [nonE (fun e => hne (LW_nil.1 e))]; rfl
  · rw [if_neg (fun e => hp (.inl e)), if_neg (fun e => hp (.inr e))]
theorem tadd_f {E : List En} {p : List Int} {id : Int} (hw : WE E) (tp : TX p) : tadd FU (p, (id, (TI E, TO E))) = some ((addV E p id).2, (TI (addV E p id).1, TO (addV E p id).1)) := by
  unfold tadd addV
  dsimp only
  obtain ⟨r, h1, h2, h3⟩ := pattern_k tp
  rw [h1, Option.bind_some]
  by_cases hp : okP p
  · obtain ⟨e1, e2⟩ := h2 hp
    rw [if_pos hp, if_neg (by rw [e2]; simp), e1, mget_TI]
    by_cases hf : (fnd E (LW p)).isSome = true
    · rw [if_pos hf, if_pos hf]
    · rw [if_neg hf, if_neg hf]
      have hlen : (TO E).length = E.length := by simp [TO]
      have h64 := hw.len
      by_cases hl : E.length = 64
      · rw [if_pos hl, if_pos (by rw [hlen, hl]; rfl)]
      · rw [if_neg hl, if_neg (by rw [hlen]; simp; omega), if_pos (by omega), mput_TI E _ _ (by simpa using hf)]
        simp [TO]
  · rw [if_neg hp, if_pos (by rw [h3 hp]; rfl), h3 hp]
theorem RQ_at (E : List En) {i : Nat} (h : i < E.length) : (RQ E).getD i ([], (0, ())) = ((E.getD i ([], 0)).1, ((E.getD i ([], 0)).2, ())) := by
  simp [RQ, List.getD_eq_getElem?_getD, h]
theorem TO_at (E : List En) {i : Nat} (h : i < E.length) : (TO E).getD i ([], (false, ())) = ky (E.getD i ([], 0)).1 := by
  simp [TO, List.getD_eq_getElem?_getD, h]
theorem rAdd_f {E : List En} {p : List Int} {id : Int} (hw : WE E) (tp : TX p) : rAdd FU (RQ E, (p, id)) = some (RQ (addV E p id).1, (addV E p id).2) := by
  refine Gives.eq ?_
  unfold rAdd
  dsimp only
  refine Gives.bind_eq (rCheck_f tp) ?_
  have hlen : (RQ E).length = E.length := by simp [RQ]
  have h64 := hw.len
  by_cases hp : okP p
  · rw [if_pos (show p = [] ∨ okS true p = true from hp)]
    refine Gives.nneg rfl ?_
    refine Gives.loop (I := fun z => z.1 = RQ E ∧ z.2.1 = p ∧ z.2.2.1 = id ∧ ∃ i : Nat, z.2.2.2 = (i : Int) ∧ i ≤ E.length ∧ ∀ j, j < i → (E.getD j ([], 0)).1 ≠ LW p) (μ := fun z => E.length - z.2.2.2.toNat) ?_ FU _ ⟨rfl, rfl, rfl, 0, rfl, by omega, fun j hj => by omega⟩ (by simp; unfold FU; omega)
    rintro rec ⟨a7, a8, a9, a10⟩ ⟨e1, e2, e3, i, e4, e5, e6⟩ hrec
    dsimp only at e1 e2 e3 e4 hrec ⊢
    subst e1 e2 e3 e4
    refine Gives.dite (fun hlt => ?_) (fun hge => ?_)
    · have hi : i < E.length := by omega
      refine Gives.idx ([], (0, ())) (by omega) hlt ?_
      rw [Int.toNat_natCast, RQ_at E hi]
      refine Gives.bind_eq (rLower_f tp) ?_
      by_cases hq : (E.getD i ([], 0)).1 = LW a8
      · rw [if_pos (by simpa using hq)]
        refine Gives.of_some ?_
        have hm : E.getD i ([], 0) ∈ E := getD_mem hi
        have : (fnd E (LW a8)).isSome = true := by rw [← hq, fnd_of hw.dis hm]; rfl
        unfold addV; rw [if_pos hp, if_pos this]
      · rw [if_neg (by simpa using hq)]
        rw [wrap64 (by omega) (by omega)]
        refine hrec _ ⟨rfl, rfl, rfl, i + 1, by simp, by omega, fun j hj => ?_⟩ (by dsimp only; omega)
        by_cases hji : j = i
        · rw [hji]; exact hq
        · exact e6 j (by omega)
    · have hnone : fnd E (LW a8) = none := by
        rw [fnd_none]; intro e he
        obtain ⟨j, hj, rfl⟩ := List.mem_iff_getElem.1 he
        have := e6 j (by omega)
        rwa [List.getD_eq_getElem?_getD, List.getElem?_eq_getElem hj] at this
      have hadd : addV E a8 a9 = if E.length = 64 then (E, 9) else (E ++ [(LW a8, a9)], 0) := by
        unfold addV; rw [if_pos hp, if_neg (by rw [hnone]; simp)]
      rw [hadd]
      by_cases hl : E.length = 64
      · rw [if_pos (by simp; omega), if_pos hl]; exact Gives.of_some rfl
      · rw [if_neg (by simp; omega), if_neg hl]
        refine Gives.pos (by omega) ?_
        refine Gives.bind_eq (rLower_f tp) ?_
        refine Gives.pos (by omega) (Gives.of_some ?_)
        simp [RQ]
  · rw [if_neg (show ¬ (p = [] ∨ okS true p = true) from hp)]
    refine Gives.npos (by decide) (Gives.of_some ?_)
    unfold addV; rw [if_neg hp]
/-! who goes ahead of all that fit. -/
def pt (E : List En) (i : Nat) : List Int := (E.getD i ([], 0)).1
noncomputable def bestV (E : List En) (h : List Int) : Nat → Int
  | 0 => -1
  | i + 1 => if ft (pt E i) h = true ∧ (bestV E h i < 0 ∨ ag (pt E i) (pt E (bestV E h i).toNat) = true) then (i : Int) else bestV E h i
theorem best_spec (E : List En) (h : List Int) : ∀ i : Nat, (-1 ≤ bestV E h i ∧ bestV E h i < i) ∧ (bestV E h i < 0 → ∀ j, j < i → ft (pt E j) h = false) ∧
    (0 ≤ bestV E h i → ft (pt E (bestV E h i).toNat) h = true ∧ ∀ j, j < i → ft (pt E j) h = true → ag (pt E j) (pt E (bestV E h i).toNat) = false)
  | 0 => ⟨by simp [bestV], fun _ j hj => absurd hj (Nat.not_lt_zero _), fun h0 => by simp [bestV] at h0⟩
  | i + 1 => by
    obtain ⟨h1, h2, h3⟩ := best_spec E h i
    by_cases hc : ft (pt E i) h = true ∧ (bestV E h i < 0 ∨ ag (pt E i) (pt E (bestV E h i).toNat) = true)
    · have e : bestV E h (i + 1) = (i : Int) := by rw [bestV, if_pos hc]
      rw [e, Int.toNat_natCast]
      refine ⟨by omega, fun h0 => by omega, fun _ => ⟨hc.1, fun j hj hf => ?_⟩⟩
      by_cases hji : j = i
      · rw [hji]; exact ag_irr rfl
      · rcases hc.2 with hb | hb
        · rw [h2 hb j (by omega)] at hf; cases hf
        · have h0 : 0 ≤ bestV E h i := by
            apply Decidable.byContradiction; intro hn
            have := h2 (by omega) j (by omega)
            rw [this] at hf; cases hf
          obtain ⟨g1, g2⟩ := h3 h0
          have hg := g2 j (by omega) hf
          cases hx : ag (pt E j) (pt E i) with
          | false => rfl
          | true => rw [ag_trans hf hc.1 g1 hx hb] at hg; cases hg
    · have e : bestV E h (i + 1) = bestV E h i := by rw [bestV, if_neg hc]
      rw [e]
      refine ⟨by omega, fun h0 j hj => ?_, fun h0 => ⟨(h3 h0).1, fun j hj hf => ?_⟩⟩
      · by_cases hji : j = i
        · rw [hji]
          cases hx : ft (pt E i) h with
          | false => rfl
          | true => exact absurd ⟨hx, .inl h0⟩ hc
        · exact h2 h0 j (by omega)
      · by_cases hji : j = i
        · rw [hji] at hf ⊢
          cases hx : ag (pt E i) (pt E (bestV E h i).toNat) with
          | false => rfl
          | true => exact absurd ⟨hf, .inr hx⟩ hc
        · exact (h3 h0).2 j (by omega) hf
noncomputable def findV (E : List En) (h : List Int) : Int × Int :=
  if okS false h = true then (if bestV E h E.length < 0 then (0, 8) else ((E.getD (bestV E h E.length).toNat ([], 0)).2, 0)) else (0, 3)
theorem WE.pt {E : List En} (hw : WE E) {i : Nat} (h : i < E.length) : okP (pt E i) ∧ TX (pt E i) ∧ LW (pt E i) = pt E i := hw.ok _ (getD_mem h)
theorem tfind_f {E : List En} {h : List Int} (hw : WE E) (th : TX h) : tfind FU (h, (TI E, TO E)) = some ((findV E h).1, ((findV E h).2, (TI E, TO E))) := by
  refine Gives.eq ?_
  unfold tfind
  dsimp only
  refine Gives.bind_eq (labels_f false th) ?_
  by_cases hh : okS false h = true
  · rw [if_pos hh]
    refine Gives.mneg rfl ?_
    have hlen : (TO E).length = E.length := by simp [TO]
    have h64 := hw.len
    refine Gives.loop (I := fun z => z.1 = spl 46 (LW h) ∧ z.2.2.1 = (E.length : Int) ∧ z.2.2.2.2.1 = TI E ∧ z.2.2.2.2.2 = TO E ∧ ∃ i : Nat, z.2.2.2.1 = (i : Int) ∧ i ≤ E.length ∧ z.2.1 = bestV E h i) (μ := fun z => E.length - z.2.2.2.1.toNat) ?_ FU _ ⟨rfl, by dsimp only; rw [hlen], rfl, rfl, 0, rfl, by omega, rfl⟩ (by simp; unfold FU; omega)
    rintro rec ⟨a7, a8, a9, a10, a11, a12⟩ ⟨e1, e2, e3, e4, i, e5, e6, e7⟩ hrec
    dsimp only at e1 e2 e3 e4 e5 e7 hrec ⊢
    subst e1 e2 e3 e4 e5 e7
    obtain ⟨b1, b2, b3⟩ := best_spec E h i
    refine Gives.dite (fun hlt => ?_) (fun hge => ?_)
    · have hi : i < E.length := by omega
      refine Gives.pos (by omega) ?_
      have hw1 : IntKind.wrap .i64 ((i : Int) + 1) = ((i + 1 : Nat) : Int) := by rw [wrap64 (by omega) (by omega)]; omega
      rw [hw1]
      simp only [Int.toNat_natCast]
      rw [TO_at E hi]
      obtain ⟨p1, p2, p3⟩ := hw.pt hi
      have hkf := keyfits_f (p := pt E i) (h := h) p1
      rw [p3] at hkf
      refine Gives.bind_eq (show keyfits FU ((ky (E.getD i ([], 0)).1).1, ((ky (E.getD i ([], 0)).1).2.1, spl 46 (LW h))) = some (ft (pt E i) h) from hkf) ?_
      have nx : ∀ b : Int, bestV E h (i + 1) = b → Gives (rec (spl 46 (LW h), (b, ((E.length : Int), (((i + 1 : Nat) : Int), (TI E, TO E)))))) (· = ((findV E h).1, ((findV E h).2, (TI E, TO E)))) := fun b hb =>
        hrec _ ⟨rfl, rfl, rfl, rfl, i + 1, rfl, by omega, hb.symm⟩ (by dsimp only; omega)
      by_cases hf : ft (pt E i) h = true
      · rw [if_pos hf]
        refine Gives.dite (fun hb => nx _ ?_) (fun hb => ?_)
        · rw [bestV, if_pos ⟨hf, .inl hb⟩]
        · refine Gives.neg hb ?_
          have hbl : (bestV E h i).toNat < E.length := by omega
          rw [TO_at E hbl]
          obtain ⟨q1, q2, q3⟩ := hw.pt hbl
          have hka := keyahead_f (a := pt E i) (b := pt E (bestV E h i).toNat) (h := h) p1 q1 hf (b3 (by omega)).1
          rw [p3, q3] at hka
          refine Gives.bind_eq (show keyahead FU ((ky (E.getD i ([], 0)).1).1, ((ky (E.getD i ([], 0)).1).2.1, ((ky (E.getD (bestV E h i).toNat ([], 0)).1).1, (ky (E.getD (bestV E h i).toNat ([], 0)).1).2.1))) = some (ag (pt E i) (pt E (bestV E h i).toNat)) from hka) ?_
          by_cases hg : ag (pt E i) (pt E (bestV E h i).toNat) = true
          · rw [if_pos hg]; exact nx _ (by rw [bestV, if_pos ⟨hf, .inr hg⟩])
          · rw [if_neg hg]; exact nx _ (by rw [bestV, if_neg]; rintro ⟨_, g | g⟩; exact hb g; exact hg g)
      · rw [if_neg hf]; exact nx _ (by rw [bestV, if_neg (fun g => hf g.1)])
    · have hii : i = E.length := by omega
      subst hii
      unfold findV
      rw [if_pos hh]
      refine Gives.dite (fun hb => Gives.of_some ?_) (fun hb => ?_)
      · rw [if_pos hb]
      · refine Gives.neg hb ?_
        have hbl : (bestV E h E.length).toNat < E.length := by omega
        rw [TO_at E hbl, if_neg hb]
        refine Gives.of_some ?_
        have hmg := mget_TI E (E.getD (bestV E h E.length).toNat ([], 0)).1
        rw [fnd_of hw.dis (getD_mem hbl)] at hmg
        have hmg' : mget (K.eqb (.pair .str (.pair .bool .unit))) ((ky (E.getD (bestV E h E.length).toNat ([], 0)).1).1, ((ky (E.getD (bestV E h E.length).toNat ([], 0)).1).2.1, ())) (TI E) = some (E.getD (bestV E h E.length).toNat ([], 0)).2 := hmg
        rw [hmg']; rfl
  · rw [if_neg hh]
    refine Gives.mpos (by decide) (Gives.of_some ?_)
    unfold findV; rw [if_neg hh]
noncomputable def rfindV (E : List En) (h : List Int) : Int × Int :=
  if okS false h = true then (if bestV E h E.length < 0 then (-1, 8) else (bestV E h E.length, 0)) else (-1, 3)
theorem rFind_f {E : List En} {h : List Int} (hw : WE E) (th : TX h) : rFind FU (RQ E, h) = some (rfindV E h) := by
  refine Gives.eq ?_
  unfold rFind
  dsimp only
  refine Gives.bind_eq (rLabels_f false th) ?_
  by_cases hh : okS false h = true
  · rw [if_pos hh]
    refine Gives.neg (by simp) ?_
    have hlen : (RQ E).length = E.length := by simp [RQ]
    have h64 := hw.len
    refine Gives.loop (I := fun z => z.1 = RQ E ∧ z.2.1 = h ∧ ∃ i : Nat, z.2.2.2 = (i : Int) ∧ i ≤ E.length ∧ z.2.2.1 = bestV E h i) (μ := fun z => E.length - z.2.2.2.toNat) ?_ FU _ ⟨rfl, rfl, 0, rfl, by omega, rfl⟩ (by simp; unfold FU; omega)
    rintro rec ⟨a6, a7, a8, a9⟩ ⟨e1, e2, i, e5, e6, e7⟩ hrec
    dsimp only at e1 e2 e5 e7 hrec ⊢
    subst e1 e2 e5 e7
    obtain ⟨b1, b2, b3⟩ := best_spec E a7 i
    refine Gives.dite (fun hlt => ?_) (fun hge => ?_)
    · have hi : i < E.length := by omega
      refine Gives.idx ([], (0, ())) (by omega) hlt ?_
      have hw1 : IntKind.wrap .i64 ((i : Int) + 1) = ((i + 1 : Nat) : Int) := by rw [wrap64 (by omega) (by omega)]; omega
      rw [hw1, Int.toNat_natCast, RQ_at E hi]
      obtain ⟨p1, p2, p3⟩ := hw.pt hi
      refine Gives.bind_eq (show turnstileref16RFits FU (pt E i, a7) = some (ft (pt E i) a7) from rfits_f p1 hh p2 th) ?_
      have nx : ∀ b : Int, bestV E a7 (i + 1) = b → Gives (rec (RQ E, (a7, (b, ((i + 1 : Nat) : Int))))) (· = rfindV E a7) := fun b hb =>
        hrec _ ⟨rfl, rfl, i + 1, rfl, by omega, hb.symm⟩ (by dsimp only; omega)
      by_cases hf : ft (pt E i) a7 = true
      · rw [if_pos hf]
        refine Gives.dite (fun hb => nx _ ?_) (fun hb => ?_)
        · rw [bestV, if_pos ⟨hf, .inl hb⟩]
        · have hbl : (bestV E a7 i).toNat < E.length := by omega
          refine Gives.idx ([], (0, ())) (by omega) hlt ?_
          refine Gives.idx ([], (0, ())) (by omega) (by omega) ?_
          rw [Int.toNat_natCast, RQ_at E hi, RQ_at E hbl]
          obtain ⟨q1, q2, q3⟩ := hw.pt hbl
          refine Gives.bind_eq (show rAhead FU (pt E i, pt E (bestV E a7 i).toNat) = some (ag (pt E i) (pt E (bestV E a7 i).toNat)) from rAhead_f p1 q1 p2 q2 hf (b3 (by omega)).1) ?_
          by_cases hg : ag (pt E i) (pt E (bestV E a7 i).toNat) = true
          · rw [if_pos hg]; exact nx _ (by rw [bestV, if_pos ⟨hf, .inr hg⟩])
          · rw [if_neg hg]; exact nx _ (by rw [bestV, if_neg]; rintro ⟨_, g | g⟩; exact hb g; exact hg g)
      · rw [if_neg hf]; exact nx _ (by rw [bestV, if_neg (fun g => hf g.1)])
    · have hii : i = E.length := by omega
      subst hii
      unfold rfindV
      rw [if_pos hh]
      refine Gives.dite (fun hb => Gives.of_some ?_) (fun hb => Gives.of_some ?_)
      · rw [if_pos hb]
      · rw [if_neg hb]
  · rw [if_neg hh]
    refine Gives.pos (by simp) (Gives.of_some ?_)
    unfold rfindV; rw [if_neg hh]
theorem tall_f {E : List En} (hw : WE E) : tall FU (TI E, TO E) = some (E.map (·.1), (TI E, TO E)) := by
  refine Gives.eq ?_
  unfold tall
  dsimp only
  have hlen : (TO E).length = E.length := by simp [TO]
  have h64 := hw.len
  refine Gives.loop (I := fun z => z.1 = (E.length : Int) ∧ z.2.2.1 = TO E ∧ z.2.2.2.1 = TI E ∧ ∃ i : Nat, z.2.1 = (i : Int) ∧ i ≤ E.length ∧ z.2.2.2.2 = (E.take i).map (·.1)) (μ := fun z => E.length - z.2.1.toNat) ?_ FU _ ⟨by dsimp only; rw [hlen], rfl, rfl, 0, rfl, by omega, rfl⟩ (by simp; unfold FU; omega)
  rintro rec ⟨a5, a6, a7, a8, a9⟩ ⟨e1, e2, e3, i, e4, e5, e6⟩ hrec
  dsimp only at e1 e2 e3 e4 e6 hrec ⊢
  subst e1 e2 e3 e4 e6
  refine Gives.dite (fun hlt => ?_) (fun hge => ?_)
  · have hi : i < E.length := by omega
    refine Gives.pos (by omega) ?_
    have hw1 : IntKind.wrap .i64 ((i : Int) + 1) = ((i + 1 : Nat) : Int) := by rw [wrap64 (by omega) (by omega)]; omega
    rw [hw1, Int.toNat_natCast, TO_at E hi]
    refine Gives.pos (by simp; omega) ?_
    refine hrec _ ⟨rfl, rfl, rfl, i + 1, rfl, by omega, ?_⟩ (by dsimp only; omega)
    rw [take_succ E i ([], 0) hi, List.map_append]; rfl
  · refine Gives.of_some ?_
    rw [List.take_of_length_le (by omega)]
theorem tlen_f {E : List En} (hw : WE E) : tlen FU (TI E, TO E) = some ((E.length : Int), (TI E, TO E)) := by
  unfold tlen
  dsimp only
  rw [tall_f hw, Option.bind_some]; simp
end Go.Sx.YtmhimaefondndaaDoor
