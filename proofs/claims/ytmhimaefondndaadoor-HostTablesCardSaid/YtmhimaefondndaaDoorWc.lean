/- Part of a proof by a small interpreter on plain values; no condition. -/
import Derived.Test.YtmhimaefondndaaDoorWb
namespace Go.Sx.YtmhimaefondndaaDoor
open Go Go.Sx Go.Proofs
set_option autoImplicit false
set_option linter.unusedVariables false
set_option linter.unusedSimpArgs false
def sumL (l : List (List Int)) : Nat := (l.map List.length).sum
theorem sumL_take (l : List (List Int)) (i : Nat) (h : i < l.length) : sumL (l.take (i + 1)) = sumL (l.take i) + (l.getD i []).length := by
  unfold sumL
  rw [take_succ l i [] h]; simp
theorem sumL_le (l : List (List Int)) (i : Nat) : sumL (l.take i) ≤ sumL l := by
  have : sumL l = sumL (l.take i) + sumL (l.drop i) := by
    unfold sumL
    conv => lhs; rw [← List.take_append_drop i l]
    rw [List.map_append, List.sum_append]
  omega
theorem sumL_cons (a : List Int) (r : List (List Int)) : sumL (a :: r) = a.length + sumL r := by simp [sumL]
theorem fm_len (k : Int) : ∀ (r : List (List Int)), (r.flatMap fun b => k :: b).length = sumL r + r.length
  | [] => rfl
  | a :: r => by
    have ih := fm_len k r
    rw [List.flatMap_cons, List.length_append, ih, sumL_cons]
    simp only [List.length_cons]; omega
theorem jn_len (k : Int) (l : List (List Int)) : (jn k l).length = sumL l + (l.length - 1) := by
  cases l with
  | nil => rfl
  | cons a r =>
    show (a ++ r.flatMap _).length = _
    rw [List.length_append, fm_len, sumL_cons]
    simp only [List.length_cons]; omega
theorem bldStr_v (n : Nat) (s b : List Int) (h : b.length + s.length ≤ 1000000000) : bldStr n (s, b) = some ((s.length : Int), b ++ s) := by
  unfold bldStr
  dsimp only
  rw [show bldCheck n b = some b from rfl, Option.bind_some, if_pos (by omega)]
theorem join_v (n : Nat) (l : List (List Int)) (k : Int) (hl : (jn k l).length ≤ 1000000) (h2 : l.length ≤ 1000000) (hn : 1000001 < n) : join n (l, [k]) = some (jn k l) := by
  refine Gives.eq ?_
  rw [jn_len] at hl
  unfold join
  dsimp only
  refine Gives.eite (fun h0 => ?_) (fun h0 => ?_)
  · have : l = [] := List.length_eq_zero_iff.1 (by omega)
    subst this; exact Gives.of_some rfl
  refine Gives.eite (fun h1 => ?_) (fun h1 => ?_)
  · match l, h1 with
    | [a], _ => exact Gives.of_some (by simp [jn])
  have hw1 : IntKind.wrap .i64 ((l.length : Int) - 1) = ((l.length - 1 : Nat) : Int) := by rw [wrap64 (by omega) (by omega)]; omega
  have hlen1 : (([k] : List Int).length : Int) = 1 := rfl
  refine Gives.bind_eq (r := Out.go (l, ([k], ((l.length - 1 : Nat) : Int)))) ?_ ?_
  · rw [if_pos (by simp), hw1, hlen1]
    rw [if_neg (by omega)]
    have hq : (9223372036854775807 : Int) / ((l.length - 1 : Nat) : Int) ≥ 2 ∧ (9223372036854775807 : Int) / ((l.length - 1 : Nat) : Int) ≤ 9223372036854775807 := by
      constructor
      · exact (Int.le_ediv_iff_mul_le (by omega)).2 (by omega)
      · exact Int.ediv_le_self _ (by omega)
    rw [Int.tdiv_eq_ediv_of_nonneg (by omega), wrap64 (by omega) (by omega), if_neg (by simp; omega)]
    rw [wrap64 (n := 1 * _) (by omega) (by omega), wrap64 (by omega) (by omega)]
    congr 5; omega
  dsimp only
  have hsum : ∀ i, sumL (l.take i) ≤ 1000000 := fun i => Nat.le_trans (sumL_le l i) (by omega)
  refine Gives.loop (I := fun z => z.1 = l ∧ z.2.1 = [k] ∧ z.2.2.2.1 = l ∧ z.2.2.2.2.1 = (l.length : Int) ∧ ∃ i : Nat, z.2.2.2.2.2 = (i : Int) ∧ i ≤ l.length ∧ z.2.2.1 = ((l.length - 1 + sumL (l.take i) : Nat) : Int)) (μ := fun z => l.length - z.2.2.2.2.2.toNat) ?_ n _ ⟨rfl, rfl, rfl, rfl, 0, rfl, by omega, by simp [sumL]⟩ (by simp; omega)
  rintro rec ⟨a14, a15, a16, a17, a18, a19⟩ ⟨e1, e2, e3, e4, i, e5, e6, e7⟩ hrec
  dsimp only at e1 e2 e3 e4 e5 e7 hrec ⊢
  subst e1 e2 e3 e4 e5 e7
  have hs := hsum i
  refine Gives.dite (fun hlt => ?_) (fun hge => ?_)
  · have hi : i < a17.length := by omega
    refine Gives.idx [] (by omega) hlt ?_
    rw [Int.toNat_natCast]
    have hsu := sumL_take a17 i hi
    have hs1 := hsum (i + 1)
    rw [wrap64 (by omega) (by omega)]
    refine Gives.dneg (by omega) ?_
    rw [wrap64 (by omega) (by omega), wrap64 (by omega) (by omega)]
    refine hrec _ ⟨rfl, rfl, rfl, rfl, i + 1, by simp, by omega, ?_⟩ (by dsimp only; omega)
    show ((_ : Nat) : Int) + ((_ : Nat) : Int) = _
    rw [hsu]; omega
  · have hii : i = a17.length := by omega
    subst hii
    rw [List.take_length] at hs
    refine Gives.bind_eq (r := ([] : List Int)) ?_ ?_
    · show growRun _ = _
      unfold growRun
      rw [List.take_length, if_pos (by omega)]
    refine Gives.idx [] (by omega) (by omega) ?_
    obtain ⟨a, r, rfl⟩ : ∃ a r, a17 = a :: r := by
      cases a17 with
      | nil => simp at h0
      | cons a r => exact ⟨a, r, rfl⟩
    have hsa : a.length + sumL r = sumL (a :: r) := by simp [sumL]
    simp only [List.length_cons] at hl h2 hs
    show Gives (Option.bind (bldStr n (a, [])) _) _
    rw [bldStr_v n a [] (by simp; omega)]
    refine Gives.bind_eq rfl ?_
    refine Gives.pos (by simp; omega) ?_
    have htl : (((a :: r).drop 1).take ((((a :: r).length : Int)).toNat - 1)) = r := by simp
    rw [htl]
    dsimp only
    refine Gives.loop (I := fun z => z.1 = [k] ∧ z.2.1 = r ∧ z.2.2.1 = (r.length : Int) ∧ ∃ i : Nat, z.2.2.2.1 = (i : Int) ∧ i ≤ r.length ∧ z.2.2.2.2 = a ++ (r.take i).flatMap (fun b => k :: b)) (μ := fun z => r.length - z.2.2.2.1.toNat) ?_ n _ ⟨rfl, rfl, rfl, 0, rfl, by omega, by simp⟩ (by simp; omega)
    rintro rec2 ⟨b1, b2, b3, b4, b5⟩ ⟨f1, f2, f3, j, f4, f5, f6⟩ hrec2
    dsimp only at f1 f2 f3 f4 f6 hrec2 ⊢
    subst f1 f2 f3 f4 f6
    refine Gives.dite (fun hlt => ?_) (fun hge => ?_)
    · have hj : j < b2.length := by omega
      refine Gives.idx [] (by omega) hlt ?_
      rw [Int.toNat_natCast]
      have hfl := fm_len k (b2.take j)
      have hfs := sumL_le b2 j
      have hfs1 := sumL_le b2 (j + 1)
      have hft := sumL_take b2 j hj
      have htj : (b2.take j).length = j := by simp; omega
      rw [bldStr_v n [k] _ (by simp only [List.length_append, hfl, htj]; simp; omega)]
      refine Gives.bind_eq rfl ?_
      dsimp only
      rw [bldStr_v n _ _ (by simp only [List.length_append, hfl, htj]; simp only [List.length_cons, List.length_nil]; omega)]
      refine Gives.bind_eq rfl ?_
      dsimp only
      rw [wrap64 (by omega) (by omega)]
      refine hrec2 _ ⟨rfl, rfl, rfl, j + 1, by simp, by omega, ?_⟩ (by dsimp only; omega)
      dsimp only
      rw [take_succ b2 j [] hj]; simp
    · have hjj : j = b2.length := by omega
      subst hjj
      refine Gives.of_some ?_
      rw [List.take_length]; rfl
/-! labels. -/
def lch (c : Int) : Bool := decide (97 ≤ c ∧ c ≤ 122) || decide (65 ≤ c ∧ c ≤ 90) || decide (48 ≤ c ∧ c ≤ 57) || c == 45 || c == 95
theorem or32_lch : ∀ c : Fin 256, (97 ≤ bits .or .u8 (c.val : Int) 32 ∧ bits .or .u8 (c.val : Int) 32 ≤ 122) ↔ ((97 ≤ c.val ∧ c.val ≤ 122) ∨ (65 ≤ c.val ∧ c.val ≤ 90)) := by decide +kernel
theorem or32_l {c : Int} (h : 0 ≤ c ∧ c ≤ 255) : (97 ≤ bits .or .u8 c 32 ∧ bits .or .u8 c 32 ≤ 122) ↔ ((97 ≤ c ∧ c ≤ 122) ∨ (65 ≤ c ∧ c ≤ 90)) := by
  have := or32_lch ⟨c.toNat, by omega⟩
  rw [show (((⟨c.toNat, by omega⟩ : Fin 256).val : Nat) : Int) = c by simp; omega] at this
  rw [this]
  have e : (⟨c.toNat, by omega⟩ : Fin 256).val = c.toNat := rfl
  rw [e]; omega
theorem digit_v (n : Nat) (c : Int) : digit n c = some (decide (48 ≤ c ∧ c ≤ 57)) := by
  unfold digit
  by_cases h : 48 ≤ c
  · rw [if_pos (by simpa using h)]; simp [h]
  · rw [if_neg (by simpa using h)]; simp [h]
theorem rDigit_v (n : Nat) (c : Int) : rDigit n c = some (decide (48 ≤ c ∧ c ≤ 57)) := digit_v n c
theorem label_v (n : Nat) (x : List Int) (hx : BL x) (hl : x.length ≤ 140737488355328) (hn : x.length < n) : label n x = some (x.all lch && decide (1 ≤ x.length) && decide (x.length ≤ 63)) := by
  refine Gives.eq ?_
  unfold label
  refine Gives.loop (I := fun z => z.1 = x ∧ z.2.1 = (x.length : Int) ∧ ∃ i : Nat, z.2.2 = (i : Int) ∧ i ≤ x.length ∧ (x.take i).all lch = true) (μ := fun z => x.length - z.2.2.toNat) ?_ n _ ⟨rfl, rfl, 0, rfl, by omega, rfl⟩ (by simpa using hn)
  rintro rec ⟨a4, a5, a6⟩ ⟨e1, e2, i, e3, e4, e5⟩ hrec
  dsimp only at e1 e2 e3 hrec ⊢
  subst e1 e2 e3
  refine Gives.dite (fun hlt => ?_) (fun hge => ?_)
  · have hi : i < a4.length := by omega
    refine Gives.idx 0 (by omega) hlt ?_
    rw [Int.toNat_natCast]
    have hb := hx.at hi
    have hor := or32_l hb
    have htk := take_succ a4 i 0 hi
    have hmm : a4.getD i 0 ∈ a4 := getD_mem hi
    revert hb hor htk hmm
    generalize a4.getD i 0 = c
    intro hb hor htk hmm
    have nx : lch c = true → Gives (rec (a4, ((a4.length : Int), IntKind.wrap .i64 ((i : Int) + 1)))) (· = (a4.all lch && decide (1 ≤ a4.length) && decide (a4.length ≤ 63))) := fun hc => by
      rw [wrap64 (by omega) (by omega)]
      refine hrec _ ⟨rfl, rfl, i + 1, by simp, by omega, ?_⟩ (by dsimp only; omega)
      rw [htk, List.all_append, e5]; simp [hc]
    have bad : lch c = false → Gives (some false) (· = (a4.all lch && decide (1 ≤ a4.length) && decide (a4.length ≤ 63))) := fun hc => by
      refine Gives.of_some ?_
      have : a4.all lch = false := by
        rw [List.all_eq_false]; exact ⟨_, hmm, by simpa using hc⟩
      rw [this]; rfl
    have rest : ¬ ((97 ≤ c ∧ c ≤ 122) ∨ (65 ≤ c ∧ c ≤ 90)) → Gives (Option.bind (digit n c) fun r8 =>
        (if (!r8) = true then
        (if (c != (45 : Int)) = true then
        (if (c != (95 : Int)) = true then
        some false
        else
        rec (a4, ((a4.length : Int), (IntKind.wrap .i64 ((i : Int) + (1 : Int))))))
        else
        rec (a4, ((a4.length : Int), (IntKind.wrap .i64 ((i : Int) + (1 : Int))))))
        else
        rec (a4, ((a4.length : Int), (IntKind.wrap .i64 ((i : Int) + (1 : Int))))))) (· = (a4.all lch && decide (1 ≤ a4.length) && decide (a4.length ≤ 63))) := fun hno => by
      refine Gives.bind_eq (digit_v n _) ?_
      refine Gives.ite (fun hd => ?_) (fun hd => ?_)
      · refine Gives.nite (fun h1 => ?_) (fun h1 => ?_)
        · refine Gives.nite (fun h2 => bad ?_) (fun h2 => nx ?_)
          · unfold lch
            simp only [Bool.not_eq_true', decide_eq_false_iff_not] at hd
            simp [h1, h2]; omega
          · unfold lch; simp [h2]
        · exact nx (by unfold lch; simp [h1])
      · exact nx (by unfold lch; simp only [Bool.not_eq_true', decide_eq_false_iff_not, Decidable.not_not] at hd; simp [hd])
    refine Gives.dite (fun h97 => ?_) (fun h97 => ?_)
    · by_cases h122 : bits .or .u8 c 32 ≤ 122
      · refine Gives.neg (by simpa using h122) (nx ?_)
        have := hor.1 ⟨h97, h122⟩
        unfold lch; rcases this with h | h <;> simp [h]
      · refine Gives.pos (by simpa using h122) (rest fun h => h122 (hor.2 h).2)
    · exact rest fun h => h97 (hor.2 h).1
  · have hii : i = a4.length := by omega
    subst hii
    rw [List.take_length] at e5
    rw [e5]
    refine Gives.dite (fun h1 => Gives.of_some ?_) (fun h1 => Gives.of_some ?_)
    · have : 1 ≤ a4.length := by omega
      simp [this]; omega
    · have : ¬ 1 ≤ a4.length := by omega
      simp [this]
end Go.Sx.YtmhimaefondndaaDoor
