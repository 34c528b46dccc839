/- Part of a proof by a small interpreter on plain values; no condition. -/
import Derived.Test.YtmhimaefondndaaDoorWd
namespace Go.Sx.YtmhimaefondndaaDoor
open Go Go.Sx Go.Proofs
set_option autoImplicit false
set_option linter.unusedVariables false
set_option linter.unusedSimpArgs false
def FU : Nat := 281474976710700
/-- a text of bytes that can be. -/
def TX (s : List Int) : Prop := BL s ∧ s.length ≤ 140737488355327
theorem TX.lw {s : List Int} (h : TX s) : TX (LW s) := ⟨LW_BL h.1, by rw [LW_len]; exact h.2⟩
theorem okS_len {w : Bool} {s : List Int} (h : okS w s = true) : 1 ≤ s.length ∧ s.length ≤ 253 ∧ (spl 46 s).all (okL w) = true := by
  unfold okS at h
  simp only [Bool.and_eq_true, decide_eq_true_eq] at h
  exact ⟨h.1.1, h.1.2, h.2⟩
theorem okS_nil (w : Bool) : okS w [] = false := rfl
theorem labels_f {x : List Int} (w : Bool) (h : TX x) : labels FU (x, w) = some (if okS w x = true then (spl 46 (LW x), (0 : Int)) else ([], (3 : Int))) := labels_v FU x w h.1 (by have := h.2; omega) (by decide)
theorem rLabels_f {x : List Int} (w : Bool) (h : TX x) : rLabels FU (x, w) = some (if okS w x = true then (spl 46 (LW x), true) else ([], false)) := rLabels_v FU x w h.1 (by have := h.2; omega) (by decide)
theorem rLower_f {x : List Int} (h : TX x) : rLower FU x = some (LW x) := rLower_v FU x h.1 (by have := h.2; omega) (by have := h.2; unfold FU; omega)
theorem join_f {x : List Int} {w : Bool} (h : okS w x = true) : join FU (spl 46 (LW x), [46]) = some (LW x) := by
  have h1 := okS_len h
  have := join_v FU (spl 46 (LW x)) 46 (by rw [jn_spl, LW_len]; omega) (by
    rw [spl_count]
    have := List.count_le_length (a := (46 : Int)) (l := LW x)
    rw [LW_len] at this; omega) (by decide)
  rw [this, jn_spl]
theorem split_f {x : List Int} {w : Bool} (h : okS w x = true) : stringsSplit FU (LW x, [46]) = some (spl 46 (LW x)) := by
  have h1 := okS_len h
  exact split_v FU (LW x) 46 (by rw [LW_len]; omega) (by rw [LW_len]; unfold FU; omega)
theorem pattern_f {x : List Int} (h : TX x) : pattern FU x = some (if x = [] then ([], (false, (0 : Int))) else if okS true x = true then (LW x, (true, (0 : Int))) else ([], (true, (3 : Int)))) := by
  unfold pattern
  by_cases h0 : x = []
  · subst h0; rfl
  · rw [if_neg (by simpa using h0), if_neg h0, labels_f true h]
    simp only [Option.bind_some]
    by_cases hk : okS true x = true
    · rw [if_pos hk, if_pos hk]; dsimp only; rw [join_f hk]; rfl
    · rw [if_neg hk, if_neg hk]; rfl
theorem canon_f {x : List Int} (h : TX x) : canon FU x = some (if okS false x = true then (LW x, (0 : Int)) else ([], (3 : Int))) := by
  unfold canon
  rw [labels_f false h]
  simp only [Option.bind_some]
  by_cases hk : okS false x = true
  · rw [if_pos hk, if_pos hk]; dsimp only; rw [join_f hk]; rfl
  · rw [if_neg hk, if_neg hk]; rfl
theorem rCanon_f {x : List Int} (h : TX x) : rCanon FU x = some (if okS false x = true then (LW x, (0 : Int)) else ([], (3 : Int))) := by
  unfold rCanon
  rw [rLabels_f false h]
  simp only [Option.bind_some]
  by_cases hk : okS false x = true
  · rw [if_pos hk, if_pos hk]; rw [rLower_f h]; rfl
  · rw [if_neg hk, if_neg hk]; rfl
/-- is it a pattern? -/
def okP (x : List Int) : Prop := x = [] ∨ okS true x = true
theorem check_f {x : List Int} (h : TX x) : check FU x = some (if x = [] ∨ okS true x = true then (0 : Int) else 3) := by
  unfold check
  by_cases h0 : x = []
  · subst h0; rfl
  · rw [if_neg (by simpa using h0), labels_f true h]
    simp only [Option.bind_some]
    by_cases hk : okS true x = true
    · rw [if_pos hk, if_pos (.inr hk)]
    · rw [if_neg hk, if_neg (by rintro (e | e) <;> contradiction)]
theorem rCheck_f {x : List Int} (h : TX x) : rCheck FU x = some (if x = [] ∨ okS true x = true then (0 : Int) else 3) := by
  unfold rCheck
  rw [rLabels_f true h]
  simp only [Option.bind_some]
  by_cases hk : okS true x = true
  · rw [if_pos hk, if_neg (by simp), if_pos (.inr hk)]
  · rw [if_neg hk, if_pos (by simp)]
    by_cases h0 : x = []
    · subst h0; rfl
    · rw [if_pos (by simpa using h0), if_neg (by rintro (e | e) <;> contradiction)]
/-! fits. -/
def mtP (p h : List (List Int)) : Prop := p.length = h.length ∧ ∀ j, j < p.length → p.getD j [] = [42] ∨ p.getD j [] = h.getD j []
theorem equalFunc_v (n : Nat) (p h : List (List Int)) (hl : p.length ≤ 1000000) (hn : 1000001 < n) : Gives (equalFunc n (p, h)) (fun r => r = true ↔ mtP p h) := by
  unfold equalFunc
  dsimp only
  refine Gives.nite (fun hne => ?_) (fun he => ?_)
  · refine Gives.of_some ?_
    simp only [Bool.false_eq_true, false_iff]
    intro h2; exact hne (by rw [h2.1])
  have he' : p.length = h.length := by omega
  refine Gives.loop (I := fun z => z.1 = h ∧ z.2.1 = p ∧ z.2.2.1 = (p.length : Int) ∧ ∃ i : Nat, z.2.2.2 = (i : Int) ∧ i ≤ p.length ∧ ∀ j, j < i → p.getD j [] = [42] ∨ p.getD j [] = h.getD j []) (μ := fun z => p.length - z.2.2.2.toNat) ?_ n _ ⟨rfl, rfl, rfl, 0, rfl, by omega, fun j hj => by omega⟩ (by simp; omega)
  rintro rec ⟨a5, a6, a7, a8⟩ ⟨e1, e2, e3, i, e4, e5, e6⟩ hrec
  dsimp only at e1 e2 e3 e4 hrec ⊢
  subst e1 e2 e3 e4
  refine Gives.dite (fun hlt => ?_) (fun hge => ?_)
  · refine Gives.idx [] (by omega) hlt ?_
    refine Gives.idx [] (by omega) (by omega) ?_
    rw [Int.toNat_natCast]
    have nx : a6.getD i [] = [42] ∨ a6.getD i [] = a5.getD i [] → Gives (rec (a5, (a6, ((a6.length : Int), IntKind.wrap .i64 ((i : Int) + 1))))) (fun r => r = true ↔ mtP a6 a5) := fun hc => by
      rw [wrap64 (by omega) (by omega)]
      refine hrec _ ⟨rfl, rfl, rfl, i + 1, by simp, by omega, fun j hj => ?_⟩ (by dsimp only; omega)
      by_cases hji : j = i
      · subst hji; exact hc
      · exact e6 j (by omega)
    unfold keyfits1
    dsimp only
    by_cases h42 : a6.getD i [] = [42]
    · rw [if_pos (by rw [h42]; rfl)]
      exact nx (.inl h42)
    · rw [if_neg (by simpa using h42), Option.bind_some]
      refine Gives.ite (fun hq => Gives.of_some ?_) (fun hq => nx (.inr ?_))
      · simp only [Bool.not_eq_true', beq_eq_false_iff_ne, ne_eq] at hq
        simp only [Bool.false_eq_true, false_iff]
        intro h2
        rcases h2.2 i (by omega) with e | e
        · exact h42 e
        · exact hq e
      · simpa using hq
  · refine Gives.of_some ?_
    simp only [true_iff]
    exact ⟨he', fun j hj => e6 j (by omega)⟩
theorem rFitsL_v (n : Nat) (p h : List (List Int)) (hl : p.length ≤ 1000000) (he' : p.length = h.length) (hn : 1000001 < n) : Gives ((loopF (X := (List (List Int)) × (List (List Int)) × Int) (A := Bool) (fun rec5 y6 => match y6 with
  | (a7, (a8, a9)) =>
  (if (decide (a9 < (a7.length : Int))) = true then
  (Option.bind (idx a7 a9) fun v10 =>
  (if (!(v10 == ([(42 : Int)] : List Int))) = true then
  (Option.bind (idx a7 a9) fun v11 =>
  (Option.bind (idx a8 a9) fun v12 =>
  (if (!(v11 == v12)) = true then
  some false
  else
  rec5 (a7, (a8, (IntKind.wrap .i64 (a9 + (1 : Int))))))))
  else
  rec5 (a7, (a8, (IntKind.wrap .i64 (a9 + (1 : Int)))))))
  else
  some true)) n (p, (h, (0 : Int))))) (fun r => r = true ↔ mtP p h) := by
  refine Gives.loop (I := fun z => z.1 = p ∧ z.2.1 = h ∧ ∃ i : Nat, z.2.2 = (i : Int) ∧ i ≤ p.length ∧ ∀ j, j < i → p.getD j [] = [42] ∨ p.getD j [] = h.getD j []) (μ := fun z => p.length - z.2.2.toNat) ?_ n _ ⟨rfl, rfl, 0, rfl, by omega, fun j hj => by omega⟩ (by simp; omega)
  rintro rec ⟨a6, a5, a8⟩ ⟨e1, e2, i, e4, e5, e6⟩ hrec
  dsimp only at e1 e2 e4 hrec ⊢
  subst e1 e2 e4
  refine Gives.dite (fun hlt => ?_) (fun hge => ?_)
  · refine Gives.idx [] (by omega) hlt ?_
    rw [Int.toNat_natCast]
    have nx : a6.getD i [] = [42] ∨ a6.getD i [] = a5.getD i [] → Gives (rec (a6, (a5, (IntKind.wrap .i64 ((i : Int) + 1))))) (fun r => r = true ↔ mtP a6 a5) := fun hc => by
      rw [wrap64 (by omega) (by omega)]
      refine hrec _ ⟨rfl, rfl, i + 1, by simp, by omega, fun j hj => ?_⟩ (by dsimp only; omega)
      by_cases hji : j = i
      · subst hji; exact hc
      · exact e6 j (by omega)
    by_cases h42 : a6.getD i [] = [42]
    · rw [if_neg (by rw [h42]; simp)]
      exact nx (.inl h42)
    · rw [if_pos (by simpa using h42)]
      refine Gives.idx [] (by omega) hlt ?_
      refine Gives.idx [] (by omega) (by omega) ?_
      rw [Int.toNat_natCast]
      refine Gives.ite (fun hq => Gives.of_some ?_) (fun hq => nx (.inr ?_))
      · simp only [Bool.not_eq_true', beq_eq_false_iff_ne, ne_eq] at hq
        simp only [Bool.false_eq_true, false_iff]
        intro h2
        rcases h2.2 i (by omega) with e | e
        · exact h42 e
        · exact hq e
      · simpa using hq
  · refine Gives.of_some ?_
    simp only [true_iff]
    exact ⟨he', fun j hj => e6 j (by omega)⟩
/-- does a pattern (in small letters, one that may be) fit a host's labels? -/
def ftP (p h : List Int) : Prop := p = [] ∨ mtP (spl 46 (LW p)) (spl 46 (LW h))
noncomputable instance (p h : List Int) : Decidable (ftP p h) := Classical.propDecidable _
noncomputable def ft (p h : List Int) : Bool := decide (ftP p h)
theorem ft_iff {p h : List Int} : ft p h = true ↔ ftP p h := by unfold ft; exact decide_eq_true_iff
theorem ft_nil (h : List Int) : ft [] h = true := ft_iff.2 (.inl rfl)
theorem spl_small {w : Bool} {x : List Int} (h : okS w x = true) : (spl 46 (LW x)).length ≤ 254 := by
  have h1 := okS_len h
  rw [spl_count]
  have := List.count_le_length (a := (46 : Int)) (l := LW x)
  rw [LW_len] at this; omega
/-- key.fits at a pattern's key. -/
theorem keyfits_f {p h : List Int} (hp : okP p) : keyfits FU (LW p, ((!p.isEmpty), spl 46 (LW h))) = some (ft p h) := by
  unfold keyfits
  dsimp only
  rcases hp with rfl | hp
  · rw [if_pos (by simp), ft_nil]
  · have hne : p ≠ [] := fun e => by subst e; cases hp
    have he : p.isEmpty = false := by cases p with | nil => exact absurd rfl hne | cons => rfl
    rw [he, if_neg (by simp), split_f hp, Option.bind_some]
    obtain ⟨r, h1, h2⟩ := equalFunc_v FU (spl 46 (LW p)) (spl 46 (LW h)) (by have := spl_small hp; omega) (by decide)
    rw [h1, Option.bind_some]
    congr 1
    rw [Bool.eq_iff_iff, h2, ft_iff]
    unfold ftP
    simp [hne]
theorem rfits_f {p h : List Int} (hp : okP p) (hh : okS false h = true) (tp : TX p) (th : TX h) : turnstileref16RFits FU (p, h) = some (ft p h) := by
  unfold turnstileref16RFits
  dsimp only
  rcases hp with rfl | hp
  · rw [if_pos (by simp), ft_nil]
  · have hne : p ≠ [] := fun e => by subst e; cases hp
    rw [if_neg (by simpa using hne), rLabels_f true tp, if_pos hp, rLabels_f false th, if_pos hh]
    simp only [Option.bind_some]
    have fin : ∀ r : Bool, (r = true ↔ mtP (spl 46 (LW p)) (spl 46 (LW h))) → r = ft p h := fun r h2 => by
      rw [Bool.eq_iff_iff, h2, ft_iff]; unfold ftP; simp [hne]
    by_cases hl : (spl 46 (LW p)).length = (spl 46 (LW h)).length
    · rw [if_neg (by simp [hl])]
      obtain ⟨r, h1, h2⟩ := rFitsL_v FU (spl 46 (LW p)) (spl 46 (LW h)) (by have := spl_small hp; omega) hl (by decide)
      rw [h1, fin r h2]
    · rw [if_pos (by simpa using fun e => hl (by omega))]
      congr 1
      refine fin false ?_
      simp only [Bool.false_eq_true, false_iff]
      intro h2; exact hl h2.1
/-! ahead. -/
def ahP (a b : List (List Int)) : Prop := ∃ i, i < a.length ∧ a.getD i [] ≠ [42] ∧ b.getD i [] = [42] ∧ ∀ j, i < j → j < a.length → (a.getD j [] = [42] ↔ b.getD j [] = [42])
theorem ahLoop_v (n : Nat) (a b : List (List Int)) (hl : a.length ≤ 1000000) (hab : a.length = b.length) (hn : 1000001 < n) : Gives ((loopF (X := (List (List Int)) × (List (List Int)) × Int) (A := Bool) (fun rec8 y9 => match y9 with
  | (a10, (a11, a12)) =>
  (if (decide (a12 ≥ (0 : Int))) = true then
  (Option.bind (idx a10 a12) fun v13 =>
  (Option.bind (idx a11 a12) fun v14 =>
  (if (!((v13 == ([(42 : Int)] : List Int)) == (v14 == ([(42 : Int)] : List Int)))) = true then
  (Option.bind (idx a11 a12) fun v15 =>
  some (v15 == ([(42 : Int)] : List Int)))
  else
  (let u16 : Int := (IntKind.wrap .i64 (a12 - (1 : Int)))
  rec8 (a10, (a11, u16))))))
  else
  some false)) n (a, (b, (IntKind.wrap .i64 ((a.length : Int) - (1 : Int))))))) (fun r => r = true ↔ ahP a b) := by
  refine Gives.loop (I := fun z => z.1 = a ∧ z.2.1 = b ∧ ∃ i : Nat, z.2.2 = (i : Int) - 1 ∧ i ≤ a.length ∧ ∀ j, i ≤ j → j < a.length → (a.getD j [] = [42] ↔ b.getD j [] = [42])) (μ := fun z => (z.2.2 + 1).toNat) ?_ n _ ⟨rfl, rfl, a.length, by rw [wrap64 (by omega) (by omega)], by omega, fun j h1 h2 => by omega⟩ (by dsimp only; rw [wrap64 (by omega) (by omega)]; omega)
  rintro rec ⟨a10, a11, a12⟩ ⟨e1, e2, i, e3, e4, e5⟩ hrec
  dsimp only at e1 e2 e3 hrec ⊢
  subst e1 e2 e3
  refine Gives.dite (fun hlt => ?_) (fun hge => ?_)
  · obtain ⟨k, rfl⟩ : ∃ k, i = k + 1 := ⟨i - 1, by omega⟩
    have hk : ((k + 1 : Nat) : Int) - 1 = (k : Int) := by omega
    rw [hk] at hrec ⊢
    refine Gives.idx [] (by omega) (by omega) ?_
    refine Gives.idx [] (by omega) (by omega) ?_
    rw [Int.toNat_natCast]
    refine Gives.ite (fun hd => ?_) (fun hd => ?_)
    · refine Gives.idx [] (by omega) (by omega) (Gives.of_some ?_)
      rw [Int.toNat_natCast]
      simp only [Bool.not_eq_true', beq_eq_false_iff_ne, ne_eq] at hd
      constructor
      · intro hb
        have hb' : a11.getD k [] = [42] := by simpa using hb
        exact ⟨k, by omega, fun ha => hd (by rw [ha, hb']), hb', fun j h1 h2 => e5 j (by omega) h2⟩
      · rintro ⟨i, h1, h2, h3, h4⟩
        by_cases hik : i = k
        · subst hik; rw [h3]; rfl
        · rcases Nat.lt_or_gt_of_ne hik with h | h
          · exfalso; apply hd
            rw [Bool.eq_iff_iff]; simpa using h4 k h (by omega)
          · exact absurd ((e5 i (by omega) h1).2 h3) h2
    · rw [wrap64 (by omega) (by omega)]
      refine hrec _ ⟨rfl, rfl, k, rfl, by omega, fun j h1 h2 => ?_⟩ (by dsimp only; omega)
      by_cases hjk : j = k
      · subst hjk
        simp only [Bool.not_eq_true', Bool.not_eq_false, beq_iff_eq] at hd
        rw [Bool.eq_iff_iff] at hd; simpa using hd
      · exact e5 j (by omega) h2
  · refine Gives.of_some ?_
    simp only [Bool.false_eq_true, false_iff]
    rintro ⟨i', h1, h2, h3, h4⟩
    exact h2 ((e5 i' (by omega) h1).2 h3)
/-- does one pattern go ahead of another? -/
def agP (a b : List Int) : Prop := a ≠ [] ∧ (b = [] ∨ ahP (spl 46 (LW a)) (spl 46 (LW b)))
noncomputable instance (a b : List Int) : Decidable (agP a b) := Classical.propDecidable _
noncomputable def ag (a b : List Int) : Bool := decide (agP a b)
theorem ag_iff {a b : List Int} : ag a b = true ↔ agP a b := by unfold ag; exact decide_eq_true_iff
theorem ag_nl (b : List Int) : ag [] b = false := by rw [Bool.eq_false_iff, Ne, ag_iff]; exact fun h => h.1 rfl
theorem ag_nr {a : List Int} (h : a ≠ []) : ag a [] = true := ag_iff.2 ⟨h, .inl rfl⟩
theorem ft_len {a b h : List Int} (ha : ft a h = true) (hb : ft b h = true) (h1 : a ≠ []) (h2 : b ≠ []) : (spl 46 (LW a)).length = (spl 46 (LW b)).length := by
  rw [ft_iff] at ha hb
  rcases ha with ha | ha
  · exact absurd ha h1
  rcases hb with hb | hb
  · exact absurd hb h2
  rw [ha.1, hb.1]
theorem nonE {p : List Int} (h : p ≠ []) : p.isEmpty = false := by cases p with | nil => exact absurd rfl h | cons => rfl
theorem keyahead_f {a b h : List Int} (pa : okP a) (pb : okP b) (ha : ft a h = true) (hb : ft b h = true) : keyahead FU (LW a, ((!a.isEmpty), (LW b, (!b.isEmpty)))) = some (ag a b) := by
  unfold keyahead
  dsimp only
  by_cases h1 : a = []
  · subst h1; rw [if_pos (by simp), ag_nl]; rfl
  by_cases h2 : b = []
  · subst h2; rw [nonE h1, if_neg (by simp), if_pos (by simp), ag_nr h1]; rfl
  rw [nonE h1, nonE h2, if_neg (by simp), if_neg (by simp), split_f (pa.resolve_left h1), split_f (pb.resolve_left h2)]
  simp only [Option.bind_some]
  obtain ⟨r, g1, g2⟩ := ahLoop_v FU (spl 46 (LW a)) (spl 46 (LW b)) (by have := spl_small (pa.resolve_left h1); omega) (ft_len ha hb h1 h2) (by decide)
  rw [g1]
  congr 1
  rw [Bool.eq_iff_iff, g2, ag_iff]; unfold agP; simp [h1, h2]
theorem rAhead_g (n : Nat) {a b : List Int} {la lb : List (List Int)} (h1 : a ≠ []) (h2 : b ≠ []) (e1 : rLabels n (a, true) = some (la, true)) (e2 : rLabels n (b, true) = some (lb, true)) (hl : la.length ≤ 1000000) (hab : la.length = lb.length) (hn : 1000001 < n) :
    Gives (rAhead n (a, b)) (fun r => r = true ↔ ahP la lb) := by
  unfold rAhead
  dsimp only
  rw [if_neg (by simpa using h1), if_neg (by simpa using h2), e1, e2]
  exact ahLoop_v n la lb hl hab hn
theorem rAhead_f {a b h : List Int} (pa : okP a) (pb : okP b) (ta : TX a) (tb : TX b) (ha : ft a h = true) (hb : ft b h = true) : rAhead FU (a, b) = some (ag a b) := by
  by_cases h1 : a = []
  · subst h1; unfold rAhead; dsimp only; rw [if_pos (by simp), if_neg (by simp), ag_nl]
  by_cases h2 : b = []
  · subst h2; unfold rAhead; dsimp only; rw [if_neg (by simpa using h1), if_pos (by simp), if_pos (by simpa using h1), ag_nr h1]; rfl
  obtain ⟨r, g1, g2⟩ := rAhead_g FU h1 h2 (by rw [rLabels_f true ta, if_pos (pa.resolve_left h1)]) (by rw [rLabels_f true tb, if_pos (pb.resolve_left h2)]) (by have := spl_small (pa.resolve_left h1); omega) (ft_len ha hb h1 h2) (by decide)
  rw [g1]
  congr 1
  rw [Bool.eq_iff_iff, g2, ag_iff]; unfold agP; simp [h1, h2]
/-! what the program and the document answer. -/
open Classical in
noncomputable def fitsV (p h : List Int) : Bool × Int := if okP p ∧ okS false h = true then (ft p h, 0) else (false, 3)
open Classical in
theorem both_f {p h : List Int} (tp : TX p) (th : TX h) : ∃ l, both FU (p, h) = some (if okP p then LW p else [], ((!p.isEmpty), (l, if okP p ∧ okS false h = true then (0 : Int) else 3))) ∧ (okS false h = true → l = spl 46 (LW h)) := by
  unfold both
  dsimp only
  refine ⟨if okS false h = true then spl 46 (LW h) else [], ?_, fun e => if_pos e⟩
  rw [pattern_f tp, Option.bind_some, labels_f false th, Option.bind_some]
  by_cases h0 : p = []
  · have hp : okP p := .inl h0
    subst h0
    simp only [if_true, hp, true_and]
    by_cases hh : okS false h = true
    · simp only [hh, if_true]; rfl
    · simp only [hh, if_false]; rfl
  · simp only [h0, if_false, nonE h0]
    by_cases hp : okS true p = true
    · have hp' : okP p := .inr hp
      simp only [hp, hp', if_true, true_and]
      by_cases hh : okS false h = true
      · simp only [hh, if_true]; rfl
      · simp only [hh, if_false]; rfl
    · have hnp : ¬ okP p := fun e => e.elim h0 hp
      simp only [hp, hnp, if_false, false_and]
      by_cases hh : okS false h = true
      · simp only [hh, if_true]; rfl
      · simp only [hh, if_false]; rfl
theorem fits_f {p h : List Int} (tp : TX p) (th : TX h) : fits FU (p, h) = some (fitsV p h) := by
  unfold fits fitsV
  dsimp only
  obtain ⟨l, h1, h2⟩ := both_f tp th
  rw [h1, Option.bind_some]
  by_cases hk : okP p ∧ okS false h = true
  · rw [if_pos hk, if_pos hk.1, if_pos (by simp), h2 hk.2]
    dsimp only
    rw [keyfits_f hk.1, if_pos hk]; rfl
  · rw [if_neg hk, if_neg (by simp), if_neg hk]
theorem rFits_f {p h : List Int} (tp : TX p) (th : TX h) : rFits FU (p, h) = some (fitsV p h) := by
  unfold rFits fitsV
  dsimp only
  rw [rLabels_f false th, Option.bind_some, rCheck_f tp, Option.bind_some]
  by_cases hp : okP p
  · rw [if_pos (show p = [] ∨ okS true p = true from hp), if_neg (by simp)]
    by_cases hh : okS false h = true
    · rw [if_pos hh, if_neg (by simp), rfits_f hp hh tp th, if_pos ⟨hp, hh⟩]; rfl
    · rw [if_neg hh, if_pos (by simp), if_neg (fun e => hh e.2)]
  · rw [if_neg (show ¬ (p = [] ∨ okS true p = true) from hp), if_pos (by simp), if_neg (fun e => hp e.1)]
open Classical in
noncomputable def beatsV (a b h : List Int) : Bool × Int := if okP a ∧ okP b ∧ okS false h = true then (if ft a h = true ∧ ft b h = true then (ag a b, 0) else (false, 8)) else (false, 3)
theorem beats_f {a b h : List Int} (ta : TX a) (tb : TX b) (th : TX h) : beats FU (a, (b, h)) = some (beatsV a b h) := by
  unfold beats beatsV
  dsimp only
  obtain ⟨l, h1, h2⟩ := both_f ta th
  obtain ⟨l', h1', h2'⟩ := both_f tb th
  rw [h1, Option.bind_some, h1', Option.bind_some]
  by_cases hk : okP a ∧ okS false h = true
  · rw [if_pos hk, if_pos hk.1, if_neg (by simp)]
    by_cases hk' : okP b ∧ okS false h = true
    · rw [if_pos hk', if_pos hk'.1, if_neg (by simp), h2 hk.2, if_pos ⟨hk.1, hk'.1, hk.2⟩]
      dsimp only
      rw [keyfits_f hk.1, Option.bind_some]
      by_cases fa : ft a h = true
      · rw [if_neg (by simp [fa]), keyfits_f hk'.1, Option.bind_some]
        by_cases fb : ft b h = true
        · rw [if_neg (by simp [fb]), keyahead_f hk.1 hk'.1 fa fb, if_pos ⟨fa, fb⟩]; rfl
        · rw [if_pos (by simpa using fb), if_neg (fun e => fb e.2)]
      · rw [if_pos (by simpa using fa), if_neg (fun e => fa e.1)]
    · rw [if_neg hk', if_pos (by simp), if_neg (fun e => hk' ⟨e.2.1, e.2.2⟩)]
  · rw [if_neg hk, if_pos (by simp), if_neg (fun e => hk ⟨e.1, e.2.2⟩)]
theorem rBeats_f {a b h : List Int} (ta : TX a) (tb : TX b) (th : TX h) : rBeats FU (a, (b, h)) = some (beatsV a b h) := by
  unfold rBeats beatsV
  dsimp only
  rw [rFits_f ta th, Option.bind_some, rFits_f tb th, Option.bind_some]
  unfold fitsV
  by_cases hk : okP a ∧ okS false h = true
  · rw [if_pos hk, if_neg (by simp)]
    by_cases hk' : okP b ∧ okS false h = true
    · rw [if_pos hk', if_neg (by simp), if_pos (show okP a ∧ okP b ∧ okS false h = true from ⟨hk.1, hk'.1, hk.2⟩)]
      by_cases fa : ft a h = true
      · rw [if_neg (by simp [fa])]
        by_cases fb : ft b h = true
        · rw [if_neg (by simp [fb]), rAhead_f hk.1 hk'.1 ta tb fa fb, if_pos ⟨fa, fb⟩]; rfl
        · rw [if_pos (by simpa using fb), if_neg (fun e => fb e.2)]
      · rw [if_pos (by simpa using fa), if_neg (fun e => fa e.1)]
    · rw [if_neg hk', if_pos (by simp), if_neg (fun e => hk' ⟨e.2.1, e.2.2⟩)]
  · rw [if_neg hk, if_pos (by simp), if_neg (fun e => hk ⟨e.1, e.2.2⟩)]
theorem num_f (x : Int) : turnstilelaw16Num FU x = some x := by
  unfold turnstilelaw16Num
  by_cases h : x = 0
  · rw [if_pos (by simpa using h), h]
  · rw [if_neg (by simpa using h), if_neg (by simpa using h)]
theorem works_v : works FU () = some true := by kernel_rfl
theorem hostFits_f {a b h : List Int} (ta : TX a) (tb : TX b) (th : TX h) : hostFits FU (a, (b, h)) = some true := by
  unfold hostFits
  dsimp only
  rw [fits_f ta th, rFits_f ta th, beats_f ta tb th, rBeats_f ta tb th]
  simp only [Option.bind_some, num_f, works_v, beq_self_eq_true, if_true]
end Go.Sx.YtmhimaefondndaaDoor
