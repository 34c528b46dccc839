/- Part of a proof by a small interpreter on plain values; no condition. -/
import Derived.Test.YtkaflgmmkocjcaaDoorSx24
import Derived.Test.YtkaflgmmkocjcaaDoorW
namespace Go.Sx.YtkaflgmmkocjcaaDoor
open Go Go.Sx
set_option autoImplicit false
set_option linter.unusedVariables false
set_option linter.unusedSimpArgs false
set_option maxRecDepth 20000
/-- the 64 digits. -/
def DIG : List Int := [65, 66, 67, 68, 69, 70, 71, 72, 73, 74, 75, 76, 77, 78, 79, 80, 81, 82, 83, 84, 85, 86, 87, 88, 89, 90, 97, 98, 99, 100, 101, 102, 103, 104, 105, 106, 107, 108, 109, 110, 111, 112, 113, 114, 115, 116, 117, 118, 119, 120, 121, 122, 48, 49, 50, 51, 52, 53, 54, 55, 56, 57, 45, 95]
theorem dig_back : ∀ k : Nat, k < 64 → ixb DIG (DIG.getD k 0) = (k : Int) := by decide +kernel
theorem ixb_at : ∀ (l : List Int) (c : Int), ixb l c = -1 ∨ ∃ k : Nat, ixb l c = (k : Int) ∧ k < l.length ∧ l.getD k 0 = c
  | [], c => .inl rfl
  | b :: l, c => by
    unfold ixb
    by_cases h : b = c
    · rw [if_pos h]; exact .inr ⟨0, rfl, by simp, by simpa using h⟩
    · rw [if_neg h]
      rcases ixb_at l c with e | ⟨k, e, h1, h2⟩
      · rw [if_pos e]; exact .inl rfl
      · rw [if_neg (by omega)]
        exact .inr ⟨k + 1, by omega, by simp; omega, by simpa using h2⟩
theorem dig_range (c : Int) : ixb DIG c = -1 ∨ (0 ≤ ixb DIG c ∧ ixb DIG c < 64) := by
  rcases ixb_at DIG c with e | ⟨k, e, h1, h2⟩
  · exact .inl e
  · have : k < 64 := h1
    exact .inr ⟨by omega, by omega⟩
theorem dig_of {c : Int} (h : 0 ≤ ixb DIG c) : DIG.getD (ixb DIG c).toNat 0 = c := by
  rcases ixb_at DIG c with e | ⟨k, e, h1, h2⟩
  · omega
  · rw [e]; exact h2
theorem digit_v (n : Nat) (c : Int) : digit n c = some (if 0 ≤ ixb DIG c then (ixb DIG c, true) else (0, false)) := by
  apply Gives.eq
  unfold digit
  refine Gives.bind_eq rfl ?_
  refine Gives.dite (fun h => ?_) (fun h => ?_)
  · exact Gives.of_some (if_pos h).symm
  · exact Gives.of_some (if_neg h).symm
/-- what Decode comes to: of what is left, so many bits that wait, and their number. -/
def dgo (L : Nat) : List Int → Nat → Int → List Int → List Int × Int
  | [], _, n, acc => if n ≠ 0 ∨ L % 4 = 1 then ([], 3) else (acc, 0)
  | c :: cs, p, n, acc =>
    if ixb DIG c < 0 then ([], 3)
    else if p = 0 then dgo L cs 6 (n * 64 + ixb DIG c) acc
    else if p = 6 then dgo L cs 4 ((n * 64 + ixb DIG c) % 16) (acc ++ [(n * 64 + ixb DIG c) / 16])
    else if p = 4 then dgo L cs 2 ((n * 64 + ixb DIG c) % 4) (acc ++ [(n * 64 + ixb DIG c) / 4])
    else dgo L cs 0 0 (acc ++ [n * 64 + ixb DIG c])
/-- how many bits wait, and how great their number can be. -/
def dOk (p : Nat) (n : Int) : Prop := 0 ≤ n ∧ ((p = 0 ∧ n < 1) ∨ (p = 6 ∧ n < 64) ∨ (p = 4 ∧ n < 16) ∨ (p = 2 ∧ n < 4))
theorem drop_cons (c : List Int) (i : Nat) (h : i < c.length) : c.drop i = c.getD i 0 :: c.drop (i + 1) := by
  rw [List.drop_eq_getElem_cons h]
  congr 1
  simp [List.getD_eq_getElem?_getD, h]
theorem decode_v (n : Nat) (s : List Int) (hs : s.length ≤ 140737488355328) (hn : s.length < n) : decode n s = some (dgo s.length s 0 0 []) := by
  apply Gives.eq
  unfold decode
  dsimp only
  refine Gives.loop (X := (List Int) × Int × Int × Int × List Int) (fun y => ∃ (i p : Nat) (m : Int) (acc : List Int), i ≤ s.length ∧ acc.length ≤ i ∧ dOk p m ∧ dgo s.length (s.drop i) p m acc = dgo s.length s 0 0 [] ∧ y = (s, m, (p : Int), (i : Int), acc)) (fun y => ((y.1.length : Int) - y.2.2.2.1).toNat) ?_ n _ ⟨0, 0, 0, [], by omega, by simp, ⟨by omega, .inl ⟨rfl, by omega⟩⟩, rfl, rfl⟩ (by dsimp only; omega)
  rintro rec y ⟨i, p, m, acc, hi, ha, hp, he, rfl⟩ hr
  dsimp only
  refine Gives.dite (fun h1 => ?_) (fun h1 => ?_)
  · refine Gives.idx 0 (by omega) h1 ?_
    rw [Int.toNat_natCast]
    refine Gives.bind_eq (digit_v n _) ?_
    rw [drop_cons s i (by omega), dgo] at he
    generalize s.getD i 0 = c at he ⊢
    rcases dig_range c with hd | ⟨hd1, hd2⟩
    · rw [if_neg (show ¬ 0 ≤ ixb DIG c by omega)]
      rw [if_pos (show ixb DIG c < 0 by omega)] at he
      refine Gives.pos (by simp) (Gives.of_some he)
    · rw [if_pos (show 0 ≤ ixb DIG c from hd1)]
      rw [if_neg (show ¬ ixb DIG c < 0 by omega)] at he
      refine Gives.neg (by simp) ?_
      generalize ixb DIG c = d at he hd1 hd2 ⊢
      dsimp only
      obtain ⟨hm0, hp⟩ := hp
      have hm : m < 64 := by omega
      have hor : bits .or .u64 (IntKind.wrap .u64 (m * 64)) (IntKind.wrap .u64 d) = m * 64 + d := by
        rw [wrap_u64_in (by omega) (by omega), wrap_u64_in (by omega) (by omega)]
        exact or_shl (.inl rfl) 6 rfl hm0 (by omega) hd1 hd2 (by omega)
      rw [hor, wrap64 (n := (p : Int) + 6) (by omega) (by omega), wrap64 (n := (i : Int) + 1) (by omega) (by omega)]
      rcases hp with ⟨rfl, hq⟩ | ⟨rfl, hq⟩ | ⟨rfl, hq⟩ | ⟨rfl, hq⟩
      · rw [if_pos rfl] at he
        refine Gives.dneg (by omega) ?_
        exact hr _ ⟨i + 1, 6, _, _, by omega, by omega, ⟨by omega, .inr (.inl ⟨rfl, by omega⟩)⟩, he, rfl⟩ (by dsimp only; omega)
      · rw [if_neg (by omega), if_pos rfl] at he
        refine Gives.dpos (by omega) ?_
        have e4 : IntKind.wrap .i64 (((6 : Nat) : Int) + 6 - 8) = 4 := by decide
        rw [e4]
        refine Gives.neg (by omega) ?_
        have e5 : Int.fdiv (m * 64 + d) (2 ^ (min (4 : Int).toNat 64)) = (m * 64 + d) / 16 := by rw [show (2 : Int) ^ (min (4 : Int).toNat 64) = 16 from rfl, fdiv_pos (by omega)]
        rw [e5]
        refine Gives.pos (by omega) (Gives.neg (by omega) ?_)
        have e6 : IntKind.wrap .u64 (IntKind.wrap .u64 (1 * 2 ^ (min (4 : Int).toNat 64)) - 1) = 15 := by decide
        rw [e6, and_low (m := 15) (.inl rfl) 4 rfl (by omega) (by omega) (by omega), wrap_u8 (n := (m * 64 + d) / 16) (by omega) (by omega)]
        exact hr _ ⟨i + 1, 4, _, _, by omega, by simp; omega, ⟨by omega, .inr (.inr (.inl ⟨rfl, by omega⟩))⟩, he, rfl⟩ (by dsimp only; omega)
      · rw [if_neg (by omega), if_neg (by omega), if_pos rfl] at he
        refine Gives.dpos (by omega) ?_
        have e4 : IntKind.wrap .i64 (((4 : Nat) : Int) + 6 - 8) = 2 := by decide
        rw [e4]
        refine Gives.neg (by omega) ?_
        have e5 : Int.fdiv (m * 64 + d) (2 ^ (min (2 : Int).toNat 64)) = (m * 64 + d) / 4 := by rw [show (2 : Int) ^ (min (2 : Int).toNat 64) = 4 from rfl, fdiv_pos (by omega)]
        rw [e5]
        refine Gives.pos (by omega) (Gives.neg (by omega) ?_)
        have e6 : IntKind.wrap .u64 (IntKind.wrap .u64 (1 * 2 ^ (min (2 : Int).toNat 64)) - 1) = 3 := by decide
        rw [e6, and_low (m := 3) (.inl rfl) 2 rfl (by omega) (by omega) (by omega), wrap_u8 (n := (m * 64 + d) / 4) (by omega) (by omega)]
        exact hr _ ⟨i + 1, 2, _, _, by omega, by simp; omega, ⟨by omega, .inr (.inr (.inr ⟨rfl, by omega⟩))⟩, he, rfl⟩ (by dsimp only; omega)
      · rw [if_neg (by omega), if_neg (by omega), if_neg (by omega)] at he
        refine Gives.dpos (by omega) ?_
        have e4 : IntKind.wrap .i64 (((2 : Nat) : Int) + 6 - 8) = 0 := by decide
        rw [e4]
        refine Gives.neg (by omega) ?_
        have e5 : Int.fdiv (m * 64 + d) (2 ^ (min (0 : Int).toNat 64)) = m * 64 + d := by rw [show (2 : Int) ^ (min (0 : Int).toNat 64) = 1 from rfl, fdiv_pos (by omega)]; omega
        rw [e5]
        refine Gives.pos (by omega) (Gives.neg (by omega) ?_)
        have e6 : IntKind.wrap .u64 (IntKind.wrap .u64 (1 * 2 ^ (min (0 : Int).toNat 64)) - 1) = 0 := by decide
        rw [e6, and_low (m := 0) (.inl rfl) 0 rfl (by omega) (by omega) (by omega), wrap_u8 (n := m * 64 + d) (by omega) (by omega)]
        have e7 : (m * 64 + d) % (0 + 1) = 0 := by omega
        rw [e7]
        exact hr _ ⟨i + 1, 0, _, _, by omega, by simp; omega, ⟨by omega, .inl ⟨rfl, by omega⟩⟩, he, rfl⟩ (by dsimp only; omega)
  · have : i = s.length := by omega
    subst this
    rw [List.drop_length, dgo] at he
    refine Gives.nite (fun h2 => ?_) (fun h2 => ?_)
    · rw [if_pos (.inl h2)] at he
      exact Gives.of_some he
    · rw [Int.tmod_eq_emod_of_nonneg (by omega)]
      refine Gives.eite (fun h3 => ?_) (fun h3 => ?_)
      · rw [if_pos (.inr (by omega))] at he
        exact Gives.of_some he
      · rw [if_neg (by omega)] at he
        exact Gives.of_some he
end Go.Sx.YtkaflgmmkocjcaaDoor
