/- Part of a proof by a small interpreter on plain values; no condition. -/
import Derived.Test.YtmhimaefondndaaDoorWc
namespace Go.Sx.YtmhimaefondndaaDoor
open Go Go.Sx Go.Proofs
set_option autoImplicit false
set_option linter.unusedVariables false
set_option linter.unusedSimpArgs false
def okL (w : Bool) (x : List Int) : Bool := (x.all lch && decide (1 ≤ x.length) && decide (x.length ≤ 63)) || (w && x == [42])
def okS (w : Bool) (s : List Int) : Bool := decide (1 ≤ s.length) && decide (s.length ≤ 253) && (spl 46 s).all (okL w)
theorem lw_46 (c : Int) : lw c = 46 ↔ c = 46 := by unfold lw; split <;> omega
theorem lw_42 (c : Int) : lw c = 42 ↔ c = 42 := by unfold lw; split <;> omega
theorem lw_lw (c : Int) : lw (lw c) = lw c := by unfold lw; split <;> (try split) <;> omega
theorem lch_lw (c : Int) : lch (lw c) = lch c := by
  unfold lw lch
  split
  · rename_i h
    simp [h]; left; left; left; left; omega
  · rfl
theorem LW_LW (s : List Int) : LW (LW s) = LW s := by unfold LW; rw [List.map_map]; exact List.map_congr_left fun c _ => lw_lw c
theorem LW_len (s : List Int) : (LW s).length = s.length := by simp [LW]
theorem LW_BL {s : List Int} (h : BL s) : BL (LW s) := fun c hc => by
  obtain ⟨d, hd, rfl⟩ := List.mem_map.1 hc
  have := h d hd
  unfold lw; split <;> omega
theorem LW_star (s : List Int) : (LW s = [42]) ↔ s = [42] := by
  match s with
  | [] => simp [LW]
  | [c] => simp [LW, lw_42]
  | a :: b :: r => simp [LW]
theorem spl_LW : ∀ s : List Int, spl 46 (LW s) = (spl 46 s).map LW
  | [] => rfl
  | c :: r => by
    have ih := spl_LW r
    show spl 46 (lw c :: LW r) = _
    unfold spl
    by_cases h : c = 46
    · rw [if_pos ((lw_46 c).2 h), if_pos h, ih]; rfl
    · rw [if_neg (fun e => h ((lw_46 c).1 e)), if_neg h, ih]
      cases e : spl 46 r with
      | nil => rfl
      | cons a t => rfl
theorem all_LW (x : List Int) : (LW x).all lch = x.all lch := by
  unfold LW; rw [List.all_map]; congr 1; funext c; exact lch_lw c
theorem okL_LW (w : Bool) (x : List Int) : okL w (LW x) = okL w x := by
  unfold okL
  rw [all_LW, LW_len]
  congr 2
  rw [Bool.eq_iff_iff]; simp only [beq_iff_eq]; exact LW_star x
theorem okS_LW (w : Bool) (s : List Int) : okS w (LW s) = okS w s := by
  unfold okS
  rw [LW_len, spl_LW, List.all_map]
  congr 2; funext x; exact okL_LW w x
theorem okL_empty (w : Bool) {x : List Int} (h : x.length < 1) : okL w x = false := by
  have : x = [] := List.length_eq_zero_iff.1 (by omega)
  subst this; simp [okL]
theorem okL_long (w : Bool) {x : List Int} (h : 63 < x.length) : okL w x = false := by
  unfold okL
  have h1 : ¬ x.length ≤ 63 := by omega
  have h2 : (x == [42]) = false := by
    simp only [beq_eq_false_iff_ne, ne_eq]; intro e; rw [e] at h; simp at h
  simp [h1, h2]
theorem okS_bad {w : Bool} {s x : List Int} (h : x ∈ spl 46 s) (hx : okL w x = false) : okS w s = false := by
  unfold okS
  have : (spl 46 s).all (okL w) = false := by rw [List.all_eq_false]; exact ⟨x, h, by simpa using hx⟩
  rw [this]; simp
theorem labels_v (n : Nat) (x : List Int) (w : Bool) (hx : BL x) (hl : x.length ≤ 281474976710656) (hn : 1000 < n) : labels n (x, w) = some (if okS w x = true then (spl 46 (LW x), (0 : Int)) else ([], (3 : Int))) := by
  refine Gives.eq ?_
  unfold labels
  dsimp only
  refine Gives.dite (fun h => ?_) (fun h1 => ?_)
  · refine Gives.of_some ?_
    rw [if_neg]; unfold okS; have : ¬ 1 ≤ x.length := by omega
    simp [this]
  refine Gives.dite (fun h => ?_) (fun h2 => ?_)
  · refine Gives.of_some ?_
    rw [if_neg]; unfold okS; have : ¬ x.length ≤ 253 := by omega
    simp [this]
  have hd : decide (1 ≤ x.length) = true ∧ decide (x.length ≤ 253) = true := ⟨by simp; omega, by simp; omega⟩
  refine Gives.bind_eq (lower_v n x hx (by omega) (by omega)) ?_
  refine Gives.bind_eq (split_v n (LW x) 46 (by rw [LW_len]; omega) (by rw [LW_len]; omega)) ?_
  rw [← okS_LW]
  have hlen := LW_len x
  have hBL := LW_BL hx
  generalize hX : LW x = X at hlen hBL
  have hd' : decide (1 ≤ X.length) = true ∧ decide (X.length ≤ 253) = true := by rw [hlen]; exact hd
  have hcl := spl_count 46 X
  have hcc := List.count_le_length (a := (46 : Int)) (l := X)
  refine Gives.loop (I := fun z => z.1 = w ∧ z.2.1 = spl 46 X ∧ z.2.2.1 = spl 46 X ∧ z.2.2.2.1 = ((spl 46 X).length : Int) ∧ ∃ i : Nat, z.2.2.2.2 = (i : Int) ∧ i ≤ (spl 46 X).length ∧ ((spl 46 X).take i).all (okL w) = true) (μ := fun z => (spl 46 X).length - z.2.2.2.2.toNat) ?_ n _ ⟨rfl, rfl, rfl, rfl, 0, rfl, by omega, rfl⟩ (by simp; omega)
  rintro rec ⟨a7, a8, a9, a10, a11⟩ ⟨e1, e2, e3, e4, i, e5, e6, e7⟩ hrec
  dsimp only at e1 e2 e3 e4 e5 hrec ⊢
  subst e1 e2 e3 e4 e5
  refine Gives.dite (fun hlt => ?_) (fun hge => ?_)
  · have hi : i < (spl 46 X).length := by omega
    refine Gives.idx [] (by omega) hlt ?_
    rw [Int.toNat_natCast]
    have htk := take_succ (spl 46 X) i [] hi
    have hmm : (spl 46 X).getD i [] ∈ spl 46 X := getD_mem hi
    obtain ⟨-, hml, hmb⟩ := spl_piece X _ hmm
    revert htk hmm hml hmb
    generalize (spl 46 X).getD i [] = y
    intro htk hmm hml hmb
    refine Gives.bind_eq (label_v n y (fun c hc => hBL c (hmb c hc)) (by omega) (by omega)) ?_
    have nx : okL a7 y = true → Gives (rec (a7, (spl 46 X, (spl 46 X, (((spl 46 X).length : Int), IntKind.wrap .i64 ((i : Int) + 1)))))) (· = if okS a7 X = true then (spl 46 X, (0 : Int)) else ([], (3 : Int))) := fun hc => by
      rw [wrap64 (by omega) (by omega)]
      refine hrec _ ⟨rfl, rfl, rfl, rfl, i + 1, by simp, by omega, ?_⟩ (by dsimp only; omega)
      rw [htk, List.all_append, e7]; simp [hc]
    have bad : okL a7 y = false → Gives (some (([] : List (List Int)), (3 : Int))) (· = if okS a7 X = true then (spl 46 X, (0 : Int)) else ([], (3 : Int))) := fun hc => by
      refine Gives.of_some ?_
      rw [okS_bad hmm hc]; rfl
    refine Gives.ite (fun hL => ?_) (fun hL => nx ?_)
    · simp only [Bool.not_eq_true'] at hL
      refine Gives.ite (fun hw => bad ?_) (fun hw => ?_)
      · unfold okL; rw [hL]; simp only [Bool.not_eq_true'] at hw; simp [hw]
      · refine Gives.ite (fun hs => bad ?_) (fun hs => nx ?_)
        · unfold okL; rw [hL]; simp only [Bool.not_eq_true'] at hs; simp [hs]
        · unfold okL
          simp only [Bool.not_eq_true', Bool.not_eq_false] at hw hs
          simp only [hw, hs]; simp
    · unfold okL; simp only [Bool.not_eq_true', Bool.not_eq_false] at hL; rw [hL]; rfl
  · refine Gives.of_some ?_
    have hii : i = (spl 46 X).length := by omega
    subst hii
    rw [List.take_length] at e7
    rw [if_pos]
    unfold okS; rw [hd'.1, hd'.2, e7]; rfl
theorem rLabels_v (n : Nat) (x : List Int) (w : Bool) (hx : BL x) (hl : x.length ≤ 281474976710656) (hn : 1000 < n) : rLabels n (x, w) = some (if okS w x = true then (spl 46 (LW x), true) else ([], false)) := by
  refine Gives.eq ?_
  unfold rLabels
  dsimp only
  refine Gives.ite (fun h => ?_) (fun h1 => ?_)
  · refine Gives.of_some ?_
    have : x = [] := by simpa using h
    subst this; rfl
  refine Gives.dite (fun h => ?_) (fun h2 => ?_)
  · refine Gives.of_some ?_
    rw [if_neg]; unfold okS; have : ¬ x.length ≤ 253 := by omega
    simp [this]
  have h1' : 1 ≤ x.length := by
    cases x with
    | nil => simp at h1
    | cons a r => simp
  have h2' : x.length ≤ 253 := by omega
  clear h1 h2
  have hcl := spl_count 46 x
  have hcc := List.count_le_length (a := (46 : Int)) (l := x)
  generalize hA : (if okS w x = true then (spl 46 (LW x), true) else (([] : List (List Int)), false)) = A
  have bad : ∀ y ∈ spl 46 x, okL w y = false → Gives (some (([] : List (List Int)), false)) (· = A) := fun y hy hc => by
    refine Gives.of_some ?_
    rw [← hA, okS_bad hy hc]; rfl
  refine Gives.loop (I := fun z => z.1 = x ∧ z.2.1 = w ∧ ∃ (fr i : Nat) (done : List (List Int)), z.2.2.1 = (fr : Int) ∧ z.2.2.2.1 = (i : Int) ∧ z.2.2.2.2 = done.map LW ∧ done.all (okL w) = true ∧
    ((i ≤ x.length ∧ fr ≤ i ∧ spl 46 x = done ++ spl 46 (x.drop fr) ∧ (46 : Int) ∉ (x.drop fr).take (i - fr)) ∨ (i = x.length + 1 ∧ spl 46 x = done))) (μ := fun z => x.length + 1 - z.2.2.2.1.toNat) ?_ n _ ⟨rfl, rfl, 0, 0, [], rfl, rfl, rfl, rfl, .inl ⟨by omega, by omega, by simp, by simp⟩⟩ (by simp; omega)
  rintro rec ⟨a5, a6, a7, a8, a9⟩ ⟨e1, e2, fr, i, done, e3, e4, e5, e6, e7⟩ hrec
  dsimp only at e1 e2 e3 e4 e5 hrec ⊢
  subst e1 e2 e3 e4 e5
  have hwi : i ≤ a5.length → IntKind.wrap .i64 ((i : Int) + 1) = ((i + 1 : Nat) : Int) := fun h => by rw [wrap64 (by omega) (by omega)]; omega
  refine Gives.dite (fun hlt => ?_) (fun hge => ?_)
  · have hi : i ≤ a5.length := by omega
    obtain ⟨hfi, hsp, hno⟩ : fr ≤ i ∧ spl 46 a5 = done ++ spl 46 (a5.drop fr) ∧ (46 : Int) ∉ (a5.drop fr).take (i - fr) := by
      rcases e7 with h | ⟨h, _⟩
      · exact h.2
      · omega
    refine Gives.bind_eq (r := Out.go (a5, (a6, ((fr : Int), ((i : Int), ((decide (i < a5.length) && (a5.getD i 0 != 46)), done.map LW)))))) ?_ ?_
    · by_cases hl2 : i < a5.length
      · rw [if_pos (by simp; omega), idx_eq 0 (by omega) (by omega), Int.toNat_natCast]
        simp only [Option.bind_some, hl2, decide_true, Bool.true_and]
      · rw [if_neg (by simp; omega)]
        simp [hl2]
    dsimp only
    refine Gives.ite (fun hb => ?_) (fun hb => ?_)
    · simp only [Bool.and_eq_true, decide_eq_true_eq, bne_iff_ne, ne_eq] at hb
      rw [hwi hi]
      refine hrec _ ⟨rfl, rfl, fr, i + 1, done, rfl, rfl, rfl, e6, .inl ⟨by omega, by omega, hsp, ?_⟩⟩ (by dsimp only; omega)
      have : i + 1 - fr = (i - fr) + 1 := by omega
      rw [this, take_succ (a5.drop fr) (i - fr) 0 (by simp; omega)]
      have hg : (a5.drop fr).getD (i - fr) 0 = a5.getD i 0 := by
        simp only [List.getD_eq_getElem?_getD, List.getElem?_drop]; rw [show fr + (i - fr) = i by omega]
      rw [hg]
      simp only [List.mem_append, List.mem_singleton, not_or]
      exact ⟨hno, fun e => hb.2 e.symm⟩
    · refine Gives.pos (by omega) ?_
      rw [hwi hi]
      have hll : ((a5.drop fr).take (i - fr)).length = i - fr := by simp; omega
      have hspl : spl 46 a5 = done ++ (a5.drop fr).take (i - fr) :: (if i < a5.length then spl 46 (a5.drop (i + 1)) else []) := by
        rw [hsp]; congr 1
        by_cases hl2 : i < a5.length
        · rw [if_pos hl2]
          have h46 : a5.getD i 0 = 46 := by simpa [hl2] using hb
          have hdr : a5.drop fr = (a5.drop fr).take (i - fr) ++ 46 :: a5.drop (i + 1) := by
            conv => lhs; rw [← List.take_append_drop (i - fr) (a5.drop fr)]
            congr 1
            rw [List.drop_drop, show fr + (i - fr) = i by omega, drop_cons a5 i 0 hl2, h46]
          conv => lhs; rw [hdr, spl_app _ _ hno]
        · rw [if_neg hl2]
          have : (a5.drop fr).take (i - fr) = a5.drop fr := List.take_of_length_le (by simp; omega)
          rw [this] at hno ⊢
          exact spl_no hno
      have hmb : ∀ c ∈ (a5.drop fr).take (i - fr), c ∈ a5 := fun c hc => List.mem_of_mem_drop (List.mem_of_mem_take hc)
      have hE : (List.take (((i : Nat) : Int).toNat - ((fr : Nat) : Int).toNat) (List.drop ((fr : Nat) : Int).toNat a5)) = (a5.drop fr).take (i - fr) := rfl
      rw [← hE] at hll hspl hmb
      clear hE
      revert hll hspl hmb
      generalize List.take (((i : Nat) : Int).toNat - ((fr : Nat) : Int).toNat) (List.drop ((fr : Nat) : Int).toNat a5) = y
      intro hll hspl hmb
      have hmy : y ∈ spl 46 a5 := by rw [hspl]; simp
      have hdl : done.length ≤ 253 := by
        have := congrArg List.length hspl
        simp only [List.length_append, List.length_cons] at this
        omega
      have hyB : BL y := fun c hc => hx c (hmb c hc)
      refine Gives.dite (fun h => bad y hmy (okL_empty _ (by omega))) (fun hy1 => ?_)
      refine Gives.dite (fun h => bad y hmy (okL_long _ (by omega))) (fun hy2 => ?_)
      refine Gives.bind_eq (rLower_v n y hyB (by omega) (by omega)) ?_
      refine Gives.pos (by simp; omega) ?_
      have hnx : okL a6 y = true → Gives (rec (a5, (a6, (((i + 1 : Nat) : Int), (((i + 1 : Nat) : Int), done.map LW ++ [LW y]))))) (· = A) := fun hok => by
        refine hrec _ ⟨rfl, rfl, i + 1, i + 1, done ++ [y], rfl, rfl, by simp, by simp [e6, hok], ?_⟩ (by dsimp only; omega)
        by_cases hl2 : i < a5.length
        · rw [if_pos hl2] at hspl
          exact .inl ⟨by omega, by omega, by rw [hspl]; simp, by simp⟩
        · rw [if_neg hl2] at hspl
          exact .inr ⟨by omega, hspl⟩
      refine Gives.bind_eq (r := Out.go (a5, (a6, (((i + 1 : Nat) : Int), ((i : Int), (y, ((a6 && (y == [42])), done.map LW ++ [LW y]))))))) ?_ ?_
      · cases a6 <;> rfl
      dsimp only
      refine Gives.ite (fun hs => ?_) (fun hs => ?_)
      · rw [hwi hi]; exact hnx (by unfold okL; rw [hs]; simp)
      · have hs' : (a6 && (y == [42])) = false := by simpa using hs
        refine Gives.loop (I := fun z => z.1 = a5 ∧ z.2.1 = a6 ∧ z.2.2.1 = ((i + 1 : Nat) : Int) ∧ z.2.2.2.1 = (i : Int) ∧ z.2.2.2.2.1 = y ∧ z.2.2.2.2.2.2 = done.map LW ++ [LW y] ∧ ∃ k : Nat, z.2.2.2.2.2.1 = (k : Int) ∧ k ≤ y.length ∧ (y.take k).all lch = true) (μ := fun z => y.length - z.2.2.2.2.2.1.toNat) ?_ n _ ⟨rfl, rfl, rfl, rfl, rfl, rfl, 0, rfl, by omega, rfl⟩ (by simp; omega)
        rintro rec2 ⟨b1, b2, b3, b4, b5, b6, b7⟩ ⟨f1, f2, f3, f4, f5, f6, k, f7, f8, f9⟩ hrec2
        dsimp only at f1 f2 f3 f4 f5 f6 f7 hrec2 ⊢
        subst f1 f2 f3 f4 f5 f6 f7
        refine Gives.dite (fun hlt2 => ?_) (fun hge2 => ?_)
        · have hk : k < b5.length := by omega
          refine Gives.idx 0 (by omega) hlt2 ?_
          rw [Int.toNat_natCast]
          have htk := take_succ b5 k 0 hk
          have hmm : b5.getD k 0 ∈ b5 := getD_mem hk
          revert htk hmm
          generalize b5.getD k 0 = c
          intro htk hmm
          refine Gives.bind (P := fun o => o = Out.go (b1, (b2, (((i + 1 : Nat) : Int), ((i : Int), (b5, ((k : Int), ((!lch c), done.map LW ++ [LW b5])))))))) ?_ ?_
          · have go : ∀ b : Bool, b = !lch c → Gives (some (Out.go (b1, (b2, (((i + 1 : Nat) : Int), ((i : Int), (b5, ((k : Int), (b, done.map LW ++ [LW b5])))))))) : Option (Out ((List Int) × Bool × Int × Int × (List Int) × Int × Bool × List (List Int)) ((List (List Int)) × Bool))) (fun o => o = Out.go (b1, (b2, (((i + 1 : Nat) : Int), ((i : Int), (b5, ((k : Int), ((!lch c), done.map LW ++ [LW b5])))))))) := fun b hb => by
              rw [hb]; exact Gives.of_some rfl
            have rest : ¬ ((97 ≤ c ∧ c ≤ 122) ∨ (65 ≤ c ∧ c ≤ 90)) → Gives (Option.bind (rDigit n c) fun r41 =>
                (if (!r41) = true then
                (if (c != (45 : Int)) = true then
                (some (Out.go (b1, (b2, (((i + 1 : Nat) : Int), ((i : Int), (b5, ((k : Int), ((c != (95 : Int)), done.map LW ++ [LW b5]))))))))  : Option (Out ((List Int) × Bool × Int × Int × (List Int) × Int × Bool × List (List Int)) ((List (List Int)) × Bool)))
                else
                (some (Out.go (b1, (b2, (((i + 1 : Nat) : Int), ((i : Int), (b5, ((k : Int), (false, done.map LW ++ [LW b5]))))))))))
                else
                (some (Out.go (b1, (b2, (((i + 1 : Nat) : Int), ((i : Int), (b5, ((k : Int), (false, done.map LW ++ [LW b5]))))))))))) (fun o => o = Out.go (b1, (b2, (((i + 1 : Nat) : Int), ((i : Int), (b5, ((k : Int), ((!lch c), done.map LW ++ [LW b5])))))))) := fun hno => by
              refine Gives.bind_eq (rDigit_v n c) ?_
              refine Gives.ite (fun hd => ?_) (fun hd => ?_)
              · simp only [Bool.not_eq_true', decide_eq_false_iff_not] at hd
                refine Gives.nite (fun h1 => go _ ?_) (fun h1 => go _ ?_)
                · unfold lch
                  rw [Bool.eq_iff_iff]; simp [h1]; omega
                · unfold lch; simp [h1]
              · refine go _ ?_
                simp only [Bool.not_eq_true', decide_eq_false_iff_not, Decidable.not_not] at hd
                unfold lch; simp [hd]
            have let' : ((97 ≤ c ∧ c ≤ 122) ∨ (65 ≤ c ∧ c ≤ 90)) → false = !lch c := fun h => by
              unfold lch; rcases h with h | h <;> simp [h]
            refine Gives.dite (fun g1 => ?_) (fun g1 => ?_)
            · refine Gives.dite (fun g2 => rest (by omega)) (fun g2 => ?_)
              refine Gives.dite (fun g3 => rest (by omega)) (fun g3 => go _ (let' (by omega)))
            · refine Gives.dite (fun g2 => ?_) (fun g2 => go _ (let' (by omega)))
              refine Gives.dite (fun g3 => rest (by omega)) (fun g3 => ?_)
              refine Gives.dite (fun g4 => rest (by omega)) (fun g4 => go _ (let' (by omega)))
          · rintro _ rfl
            dsimp only
            refine Gives.ite (fun hc => ?_) (fun hc => ?_)
            · refine bad b5 hmy ?_
              simp only [Bool.not_eq_true'] at hc
              unfold okL
              have : b5.all lch = false := by rw [List.all_eq_false]; exact ⟨c, hmm, by simpa using hc⟩
              rw [this, hs']; rfl
            · simp only [Bool.not_eq_true', Bool.not_eq_false] at hc
              rw [wrap64 (by omega) (by omega)]
              refine hrec2 _ ⟨rfl, rfl, rfl, rfl, rfl, rfl, k + 1, by simp, by omega, ?_⟩ (by dsimp only; omega)
              rw [htk, List.all_append, f9]; simp [hc]
        · rw [hwi hi]
          refine hnx ?_
          have hkk : k = b5.length := by omega
          subst hkk
          rw [List.take_length] at f9
          unfold okL; rw [f9]
          have h5 : 1 ≤ b5.length := by omega
          have h6 : b5.length ≤ 63 := by omega
          simp [h5, h6]
  · rcases e7 with ⟨h, _⟩ | ⟨hi, hsp⟩
    · omega
    refine Gives.of_some ?_
    subst hsp
    rw [← hA, if_pos, spl_LW]
    unfold okS; simp [h1', h2', e6]
end Go.Sx.YtmhimaefondndaaDoor
