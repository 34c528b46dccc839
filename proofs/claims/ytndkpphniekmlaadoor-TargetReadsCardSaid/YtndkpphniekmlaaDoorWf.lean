/- Part of a proof by a small interpreter on plain values; no condition. -/
import Derived.Test.YtndkpphniekmlaaDoorWe
namespace Go.Sx.YtndkpphniekmlaaDoor
open Go Go.Sx Go.Proofs
set_option autoImplicit false
set_option linter.unusedVariables false
set_option linter.unusedSimpArgs false
/-! the document's functions. -/
theorem rLetter_v (n : Nat) (c : Int) : rLetter n c = some (lett c || isd c) := by
  unfold rLetter lett isd
  simp only [decide_eq_true_eq]
  repeat' split
  all_goals (congr 1; symm; first | (rw [Bool.or_eq_true, decide_eq_true_eq, decide_eq_true_eq]; omega) | (rw [Bool.eq_iff_iff, Bool.or_eq_true, decide_eq_true_eq, decide_eq_true_eq, decide_eq_true_eq]; omega) | (rw [Bool.or_eq_false_iff, decide_eq_false_iff_not, decide_eq_false_iff_not]; omega))
theorem rAmong_v (n : Nat) (c : Int) (l : List Int) (hl : l.length < 1000) (hn : 1000 < n) : rAmong n (c, l) = some (l.contains c) := by
  refine Gives.eq ?_
  unfold rAmong
  dsimp only
  refine Gives.loop (I := fun z => z.1 = c ∧ z.2.1 = l ∧ ∃ i : Nat, z.2.2 = (i : Int) ∧ i ≤ l.length ∧ (l.drop i).contains c = l.contains c) (μ := fun z => l.length - z.2.2.toNat) ?_ n _ ⟨rfl, rfl, 0, rfl, by omega, rfl⟩ (by simp; omega)
  rintro rec ⟨a5, a6, a7⟩ ⟨e1, e2, i, e3, e4, e5⟩ hrec
  dsimp only at e1 e2 e3 e5 hrec ⊢
  subst e1 e2 e3
  refine Gives.dite (fun hlt => ?_) (fun hge => ?_)
  · have hi : i < a6.length := by omega
    rw [drop_cons a6 i 0 hi, List.contains_cons] at e5
    refine Gives.idx 0 (by omega) hlt ?_
    rw [Int.toNat_natCast]
    refine Gives.eite (fun h => Gives.of_some ?_) (fun h => ?_)
    · rw [← e5, h]; simp
    · rw [wr1 hi (by omega)]
      refine hrec _ ⟨rfl, rfl, i + 1, rfl, by omega, ?_⟩ (by dsimp only; omega)
      rw [← e5, show (a5 == a6.getD i 0) = false by rw [beq_eq_false_iff_ne]; exact fun e => h e.symm]; rfl
  · refine Gives.of_some ?_
    rw [← e5, show i = a6.length by omega, List.drop_length]; rfl
theorem rUnreserved_v (n : Nat) (c : Int) (hn : 1000 < n) : rUnreserved n c = some (unres c) := by
  unfold rUnreserved unres
  rw [rLetter_v, Option.bind_some]
  cases (lett c || isd c) with
  | true => rfl
  | false => rw [if_neg (by simp), rAmong_v n c _ (by simp) hn]; rfl
theorem rPlain_v (n : Nat) (c : Int) (hn : 1000 < n) : rPlain n c = some (pByte c) := by
  unfold rPlain pByte
  rw [rUnreserved_v n c hn, Option.bind_some]
  cases unres c with
  | true => rfl
  | false => rw [if_neg (by simp), rAmong_v n c _ (by simp) hn]; rfl
def HX : List Int := [48, 49, 50, 51, 52, 53, 54, 55, 56, 57, 97, 98, 99, 100, 101, 102]
theorem hex_hit : ∀ (c : Fin 256) (j : Fin 16), decide (HX.getD j.val 0 = (c.val : Int) ∨ (65 ≤ (c.val : Int) ∧ (c.val : Int) ≤ 70 ∧ HX.getD j.val 0 = IntKind.wrap .u8 ((c.val : Int) + 32))) = decide (hexV (c.val : Int) = ((j.val : Int), true)) := by decide +kernel
theorem rHex_v (n : Nat) {c : Int} (h : 0 ≤ c ∧ c ≤ 255) (hn : 1000 < n) : rHex n c = some (if (hexV c).2 = true then (hexV c).1 else -1) := by
  refine Gives.eq ?_
  have hit : ∀ j : Nat, j < 16 → ((HX.getD j 0 = c ∨ (65 ≤ c ∧ c ≤ 70 ∧ HX.getD j 0 = IntKind.wrap .u8 (c + 32))) ↔ hexV c = ((j : Int), true)) := fun j hj => by
    have := hex_hit ⟨c.toNat, by omega⟩ ⟨j, hj⟩
    rw [show (((⟨c.toNat, by omega⟩ : Fin 256).val : Nat) : Int) = c by simp; omega, decide_eq_decide] at this
    exact this
  unfold rHex
  refine Gives.loop (I := fun z => z.1 = c ∧ ∃ i : Nat, z.2 = (i : Int) ∧ i ≤ 16 ∧ ∀ j : Nat, j < i → hexV c ≠ ((j : Int), true)) (μ := fun z => 16 - z.2.toNat) ?_ n _ ⟨rfl, 0, rfl, by omega, fun j hj => absurd hj (by omega)⟩ (by simp; omega)
  rintro rec ⟨a4, a5⟩ ⟨e1, i, e2, e3, e4⟩ hrec
  dsimp only at e1 e2 e4 hrec ⊢
  subst e1 e2
  refine Gives.dite (fun hlt => ?_) (fun hge => Gives.of_some ?_)
  · have hi : i < 16 := by omega
    have hh := hit i hi
    have nx : ¬ (HX.getD i 0 = a4 ∨ (65 ≤ a4 ∧ a4 ≤ 70 ∧ HX.getD i 0 = IntKind.wrap .u8 (a4 + 32))) → Gives (rec (a4, IntKind.wrap .i64 ((i : Int) + 1))) (· = if (hexV a4).2 = true then (hexV a4).1 else -1) := fun hno => by
      rw [show IntKind.wrap .i64 ((i : Int) + 1) = ((i + 1 : Nat) : Int) by rw [wrap64 (by omega) (by omega)]; omega]
      refine hrec _ ⟨rfl, i + 1, rfl, by omega, fun j hj => ?_⟩ (by dsimp only; omega)
      by_cases hji : j < i
      · exact e4 j hji
      · rw [show j = i by omega]; exact fun e => hno (hh.2 e)
    have yes : (HX.getD i 0 = a4 ∨ (65 ≤ a4 ∧ a4 ≤ 70 ∧ HX.getD i 0 = IntKind.wrap .u8 (a4 + 32))) → Gives (some (i : Int)) (· = if (hexV a4).2 = true then (hexV a4).1 else -1) := fun hy => Gives.of_some (by rw [hh.1 hy]; simp)
    refine Gives.bind_eq (show idx _ _ = some (HX.getD i 0) from by rw [← Int.toNat_natCast i]; exact idx_eq (xs := HX) 0 (by omega) (show _ < ((16 : Nat) : Int) by omega)) ?_
    refine Gives.eite (fun h1 => yes (.inl h1)) (fun h1 => ?_)
    refine Gives.dite (fun h2 => ?_) (fun h2 => nx (by omega))
    refine Gives.dite (fun h3 => ?_) (fun h3 => nx (by omega))
    refine Gives.bind_eq (show idx _ _ = some (HX.getD i 0) from by rw [← Int.toNat_natCast i]; exact idx_eq (xs := HX) 0 (by omega) (show _ < ((16 : Nat) : Int) by omega)) ?_
    exact Gives.eite (fun h4 => yes (.inr ⟨h2, h3, h4⟩)) (fun h4 => nx (fun e => e.elim h1 (fun e => h4 e.2.2)))
  · have hr := hexV_range (c := a4)
    rw [if_neg (fun e => ?_)]
    exact e4 (hexV a4).1.toNat (by omega) (Prod.ext (by simp; omega) e)
theorem rCode_v (n : Nat) {s : List Int} {i : Nat} (h : BL s) (hl : s.length ≤ 100000000) (hi : i < s.length) (hn : 1000 < n) : rCode n (s, (i : Int)) = some (if (codeV s i).2 = true then (codeV s i).1 else -1) := by
  unfold rCode codeV
  dsimp only
  have hw : IntKind.wrap .i64 ((i : Int) + 2) = ((i + 2 : Nat) : Int) := by rw [wrap64 (by omega) (by omega)]; omega
  rw [hw, wr1 hi hl]
  by_cases h2 : i + 2 < s.length
  · rw [if_neg (by simp; omega), idx_eq 0 (by omega) (by omega), Option.bind_some, Int.toNat_natCast]
    by_cases h37 : s.getD i 0 = 37
    · rw [if_neg (c := (s.getD i 0 != 37) = true) (by rw [h37]; decide), if_pos (c := i + 2 < s.length ∧ s.getD i 0 = 37) ⟨h2, h37⟩, idx_eq 0 (by omega) (by omega), Option.bind_some, Int.toNat_natCast, rHex_v n (h.at (by omega)) hn, Option.bind_some]
      have r1 := hexV_range (c := s.getD (i + 1) 0)
      have r2 := hexV_range (c := s.getD (i + 2) 0)
      cases x1 : (hexV (s.getD (i + 1) 0)).2 with
      | false => simp
      | true =>
        rw [if_pos rfl, if_neg (by rw [decide_eq_true_eq]; omega), idx_eq 0 (by omega) (by omega), Option.bind_some, Int.toNat_natCast, rHex_v n (h.at (by omega)) hn, Option.bind_some]
        cases x2 : (hexV (s.getD (i + 2) 0)).2 with
        | false => simp
        | true =>
          rw [if_pos rfl, if_neg (by rw [decide_eq_true_eq]; omega), Option.bind_some, rHex_v n (h.at (by omega)) hn, Option.bind_some, Option.bind_some, rHex_v n (h.at (by omega)) hn, Option.bind_some, x1, x2, if_pos rfl, if_pos rfl]
          dsimp only
          rw [wrap64 (n := (hexV (s.getD (i + 1) 0)).1 * 16) (by omega) (by omega), wrap64 (by omega) (by omega)]
          rfl
    · rw [if_pos (by simpa only [bne_iff_ne, ne_eq] using h37), if_neg (c := i + 2 < s.length ∧ s.getD i 0 = 37) (fun e => h37 e.2)]; rfl
  · rw [if_pos (by simp; omega), if_neg (c := i + 2 < s.length ∧ s.getD i 0 = 37) (fun e => h2 e.1)]; rfl
theorem unres37 : pByte 37 = false := by decide
theorem codeV_37 {s : List Int} {i : Nat} (h : s.getD i 0 ≠ 37) : (codeV s i).2 = false := by
  unfold codeV
  rw [if_neg (fun e => h e.2)]
theorem rMade_v (n : Nat) (s o : List Int) (b : Bool) (ho : o.contains 37 = false) (hol : o.length < 1000) (h : TX s) (hn : 20000000 < n) : rMade n (s, (o, b)) = some (madeP o b s) := by
  have hl := h.2
  refine Gives.eq ?_
  unfold rMade
  dsimp only
  refine Gives.loop (I := fun z => z.1 = s ∧ z.2.1 = o ∧ z.2.2.1 = b ∧ ∃ i : Nat, z.2.2.2 = (i : Int) ∧ i ≤ s.length ∧ madeP o b (s.drop i) = madeP o b s) (μ := fun z => s.length - z.2.2.2.toNat) ?_ n _ ⟨rfl, rfl, rfl, 0, rfl, by omega, rfl⟩ (by simp; omega)
  rintro rec ⟨a6, a7, a8, a9⟩ ⟨e1, e2, e3, i, e4, e5, e6⟩ hrec
  dsimp only at e1 e2 e3 e4 hrec ⊢
  subst e1 e2 e3 e4
  refine Gives.dite (fun hlt => ?_) (fun hge => ?_)
  · have hi : i < a6.length := by omega
    have hb := h.1.at hi
    refine Gives.idx 0 (by omega) hlt ?_
    rw [Int.toNat_natCast]
    rw [drop_cons a6 i 0 hi, madeP, ← drop_cons a6 i 0 hi, ← codeV_cd] at e6
    have nx : a6.getD i 0 ≠ 37 → (pByte (a6.getD i 0) || a7.contains (a6.getD i 0)) = true → Gives (rec (a6, (a7, (a8, IntKind.wrap .i64 ((i : Int) + 1))))) (· = madeP a7 a8 a6) := fun h37 e => by
      rw [if_neg h37] at e6
      rw [wr1 hi (by omega)]
      exact hrec _ ⟨rfl, rfl, rfl, i + 1, rfl, by omega, by rw [← e6, e]; rfl⟩ (by dsimp only; omega)
    rw [rPlain_v n _ (by omega), Option.bind_some]
    refine Gives.ite (fun hp => nx (fun e => by rw [e, unres37] at hp; cases hp) (by rw [hp]; rfl)) (fun hp => ?_)
    refine Gives.idx 0 (by omega) hlt ?_
    rw [Int.toNat_natCast, rAmong_v n _ _ hol (by omega), Option.bind_some]
    refine Gives.ite (fun hq => nx (fun e => by rw [e, ho] at hq; cases hq) (by rw [hq, Bool.or_true])) (fun hq => ?_)
    rw [rCode_v n h.1 (by omega) hi (by omega), Option.bind_some]
    have hp' : pByte (a6.getD i 0) = false := by simpa using hp
    have hq' : a7.contains (a6.getD i 0) = false := Bool.eq_false_iff.2 hq
    have hr := codeV_range a6 i
    by_cases h37 : a6.getD i 0 = 37
    · rw [if_pos h37] at e6
      cases hok : (codeV a6 i).2 with
      | false =>
        rw [hok] at e6
        rw [if_neg Bool.false_ne_true]
        refine Gives.dpos (by omega) (Gives.of_some ?_)
        rw [← e6]; rfl
      | true =>
        have hlt2 := codeV_lt hok
        rw [if_pos rfl, wr3 hi (by omega)]
        rw [hok, drop3] at e6
        have nx : madeP a7 a8 (a6.drop (i + 3)) = madeP a7 a8 a6 → Gives (rec (a6, (a7, (a8, ((i + 3 : Nat) : Int))))) (· = madeP a7 a8 a6) := fun e =>
          hrec _ ⟨rfl, rfl, rfl, i + 3, rfl, by omega, e⟩ (by dsimp only; omega)
        refine Gives.dneg (by omega) ?_
        refine Gives.ite (fun h8 => ?_) (fun h8 => ?_)
        · subst h8
          refine Gives.dite (fun h32 => Gives.of_some ?_) (fun h32 => Gives.eite (fun h127 => Gives.of_some ?_) (fun h127 => ?_))
          · rw [← e6]; simp [h32]
          · rw [← e6]; simp [h127]
          · refine nx ?_
            rw [← e6]; simp [h32, h127]
        · have h8' : a8 = false := by simpa using h8
          subst h8'
          exact nx (by rw [← e6]; simp)
    · rw [if_neg h37, hp', hq'] at e6
      rw [codeV_37 h37, if_neg Bool.false_ne_true]
      exact Gives.dpos (by omega) (Gives.of_some (by rw [← e6]; rfl))
  · refine Gives.of_some ?_
    rw [← e6, show i = a6.length by omega, List.drop_length]; simp [madeP]
theorem rPath_v (n : Nat) {s : List Int} (h : TX s) (hn : 20000000 < n) : rPath n s = some (pathP s) := by
  unfold rPath pathP
  cases s with
  | nil => simp
  | cons a r =>
    rw [if_pos (by simp), idx_eq 0 (by omega) (by simp), Option.bind_some, show (a :: r).getD (0 : Int).toNat 0 = a from rfl]
    by_cases ha : a = 47
    · subst ha
      rw [if_pos (by simp), rMade_v n _ _ _ (by decide) (by simp) h hn, Option.bind_some]; simp
    · rw [if_neg (by simpa using ha)]; simp [ha]
theorem rQuery_v (n : Nat) {s : List Int} (h : TX s) (hn : 20000000 < n) : rQuery n s = some (queryP s) := by
  unfold rQuery queryP
  rw [rMade_v n s _ _ (by decide) (by simp) h hn, Option.bind_some]
theorem rDecode_v (n : Nat) {s : List Int} (h : TX s) (hn : 20000000 < n) : rDecode n s = some (decV s) := by
  have hl := h.2
  refine Gives.eq ?_
  unfold rDecode decV
  refine Gives.loop (I := fun z => z.1 = s ∧ ∃ i : Nat, z.2.1 = (i : Int) ∧ i ≤ s.length ∧ z.2.2.length ≤ i ∧ (decP (s.drop i)).map (z.2.2 ++ ·) = decP s) (μ := fun z => s.length - z.2.1.toNat) ?_ n _ ⟨rfl, 0, rfl, by omega, by simp, by simp⟩ (by simp; omega)
  rintro rec ⟨a4, a5, a6⟩ ⟨e1, i, e2, e3, e4, e5⟩ hrec
  dsimp only at e1 e2 e4 e5 hrec ⊢
  subst e1 e2
  refine Gives.dite (fun hlt => ?_) (fun hge => ?_)
  · have hi : i < a4.length := by omega
    have hr := codeV_range a4 i
    rw [drop_cons a4 i 0 hi, decP, ← drop_cons a4 i 0 hi, ← codeV_cd] at e5
    refine Gives.idx 0 (by omega) hlt ?_
    rw [Int.toNat_natCast]
    refine Gives.nite (fun h37 => ?_) (fun h37 => ?_)
    · rw [if_neg h37] at e5
      refine Gives.idx 0 (by omega) hlt ?_
      rw [Int.toNat_natCast, wr1 hi (by omega)]
      refine Gives.pos (by omega) ?_
      refine hrec _ ⟨rfl, i + 1, rfl, by omega, by simp; omega, ?_⟩ (by dsimp only; omega)
      rw [← e5]; cases decP (a4.drop (i + 1)) <;> simp
    · rw [if_pos h37] at e5
      rw [rCode_v n h.1 (by omega) hi (by omega), Option.bind_some]
      cases hok : (codeV a4 i).2 with
      | false =>
        rw [hok] at e5
        rw [if_neg Bool.false_ne_true]
        refine Gives.dpos (by omega) (Gives.of_some ?_)
        rw [← e5]; rfl
      | true =>
        have hlt2 := codeV_lt hok
        rw [hok, if_pos rfl, drop3] at e5
        rw [if_pos rfl]
        refine Gives.dneg (by omega) ?_
        refine Gives.pos (by omega) ?_
        rw [wr3 hi (by omega), show IntKind.wrap .u8 (codeV a4 i).1 = (codeV a4 i).1 by rw [wrap_u8]; omega]
        refine hrec _ ⟨rfl, i + 3, rfl, by omega, by simp; omega, ?_⟩ (by dsimp only; omega)
        rw [← e5]; cases decP (a4.drop (i + 3)) <;> simp
  · refine Gives.of_some ?_
    rw [← e5, show i = a4.length by omega, List.drop_length]; simp [decP]
theorem great : ∀ j : Fin 16, idx [(48 : Int), 49, 50, 51, 52, 53, 54, 55, 56, 57, 65, 66, 67, 68, 69, 70] (j.val : Int) = some (hdg (j.val : Int)) := by decide +kernel
theorem great_v {v : Int} (h : 0 ≤ v ∧ v < 16) : idx [(48 : Int), 49, 50, 51, 52, 53, 54, 55, 56, 57, 65, 66, 67, 68, 69, 70] v = some (hdg v) := by
  have := great ⟨v.toNat, by omega⟩
  rw [show (((⟨v.toNat, by omega⟩ : Fin 16).val : Nat) : Int) = v by simp; omega] at this
  exact this
theorem rMeant_v (n : Nat) {s : List Int} (h : TX s) (hn : 20000000 < n) : rMeant n s = some (meantP s) := by
  have hl := h.2
  refine Gives.eq ?_
  unfold rMeant
  refine Gives.loop (I := fun z => z.1 = s ∧ ∃ i : Nat, z.2.1 = (i : Int) ∧ i ≤ s.length ∧ z.2.2.length ≤ i ∧ z.2.2 ++ meantP (s.drop i) = meantP s) (μ := fun z => s.length - z.2.1.toNat) ?_ n _ ⟨rfl, 0, rfl, by omega, by simp, rfl⟩ (by simp; omega)
  rintro rec ⟨a4, a5, a6⟩ ⟨e1, i, e2, e3, e4, e5⟩ hrec
  dsimp only at e1 e2 e4 e5 hrec ⊢
  subst e1 e2
  refine Gives.dite (fun hlt => ?_) (fun hge => ?_)
  · have hi : i < a4.length := by omega
    have hr := codeV_range a4 i
    rw [drop_cons a4 i 0 hi, meantP, ← drop_cons a4 i 0 hi, ← codeV_cd] at e5
    rw [rCode_v n h.1 (by omega) hi (by omega), Option.bind_some]
    cases hok : (codeV a4 i).2 with
    | false =>
      rw [hok, if_neg Bool.false_ne_true] at e5
      rw [if_neg Bool.false_ne_true]
      refine Gives.dpos (by omega) ?_
      refine Gives.idx 0 (by omega) hlt ?_
      rw [Int.toNat_natCast, wr1 hi (by omega)]
      refine Gives.pos (by omega) ?_
      exact hrec _ ⟨rfl, i + 1, rfl, by omega, by simp; omega, by rw [← e5]; simp⟩ (by dsimp only; omega)
    | true =>
      have hlt2 := codeV_lt hok
      rw [hok, if_pos rfl, drop3] at e5
      rw [if_pos rfl]
      refine Gives.dneg (by omega) ?_
      rw [show IntKind.wrap .u8 (codeV a4 i).1 = (codeV a4 i).1 by rw [wrap_u8]; omega, rUnreserved_v n _ (by omega), Option.bind_some, wr3 hi (by omega)]
      generalize hv : (codeV a4 i).1 = v at e5 hr
      refine Gives.ite (fun hu => ?_) (fun hu => ?_)
      · rw [if_pos hu] at e5
        refine Gives.pos (by omega) ?_
        exact hrec _ ⟨rfl, i + 3, rfl, by omega, by simp; omega, by rw [← e5]; simp⟩ (by dsimp only; omega)
      · rw [if_neg hu] at e5
        have ht : Int.tdiv v 16 = v / 16 := Int.tdiv_eq_ediv_of_nonneg (by omega)
        have hm : Int.tmod v 16 = v % 16 := Int.tmod_eq_emod_of_nonneg (by omega)
        rw [ht, hm, wrap64 (by omega) (by omega), great_v (by omega), Option.bind_some, great_v (by omega), Option.bind_some]
        refine Gives.pos (by omega) ?_
        exact hrec _ ⟨rfl, i + 3, rfl, by omega, by simp; omega, by rw [← e5]; simp [enc1]⟩ (by dsimp only; omega)
  · refine Gives.of_some ?_
    rw [← e5, show i = a4.length by omega, List.drop_length]; simp [meantP]
end Go.Sx.YtndkpphniekmlaaDoor
