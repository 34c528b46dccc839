/- Part of a proof by a small interpreter on plain values; no condition. -/
import Derived.Test.YtndkpphniekmlaaDoorWb
namespace Go.Sx.YtndkpphniekmlaaDoor
open Go Go.Sx Go.Proofs
set_option autoImplicit false
set_option linter.unusedVariables false
set_option linter.unusedSimpArgs false
def FU : Nat := 281474976710700
def TX (s : List Int) : Prop := BL s ∧ s.length ≤ 20000000
theorem TX.take {s : List Int} (h : TX s) (n : Nat) : TX (s.take n) := ⟨h.1.take n, by have := h.2; simp; omega⟩
theorem TX.drop {s : List Int} (h : TX s) (n : Nat) : TX (s.drop n) := ⟨h.1.drop n, by have := h.2; simp; omega⟩
theorem BL.app {a b : List Int} (ha : BL a) (hb : BL b) : BL (a ++ b) := fun c hc => (List.mem_append.1 hc).elim (ha c) (hb c)
/-! bytes. -/
theorem or32_lch : ∀ c : Fin 256, (97 ≤ bits .or .u8 (c.val : Int) 32 ∧ bits .or .u8 (c.val : Int) 32 ≤ 122) ↔ ((97 ≤ c.val ∧ c.val ≤ 122) ∨ (65 ≤ c.val ∧ c.val ≤ 90)) := by decide +kernel
theorem or32_l {c : Int} (h : 0 ≤ c ∧ c ≤ 255) : (97 ≤ bits .or .u8 c 32 ∧ bits .or .u8 c 32 ≤ 122) ↔ ((97 ≤ c ∧ c ≤ 122) ∨ (65 ≤ c ∧ c ≤ 90)) := by
  have := or32_lch ⟨c.toNat, by omega⟩
  rw [show (((⟨c.toNat, by omega⟩ : Fin 256).val : Nat) : Int) = c by simp; omega] at this
  rw [this]
  have e : (⟨c.toNat, by omega⟩ : Fin 256).val = c.toNat := rfl
  rw [e]; omega
def lett (c : Int) : Bool := decide ((97 ≤ c ∧ c ≤ 122) ∨ (65 ≤ c ∧ c ≤ 90))
def isd (c : Int) : Bool := decide (48 ≤ c ∧ c ≤ 57)
theorem letter_v (n : Nat) {c : Int} (h : 0 ≤ c ∧ c ≤ 255) : letter n c = some (lett c) := by
  have := or32_l h
  unfold letter
  by_cases h1 : bits .or .u8 c 32 ≥ 97
  · rw [if_pos (by simpa using h1)]
    congr 1
    rw [Bool.eq_iff_iff]; unfold lett; simp only [decide_eq_true_eq]; rw [← this]
    exact ⟨fun h => ⟨h1, h⟩, fun h => h.2⟩
  · rw [if_neg (by simpa using h1)]
    congr 1; symm
    unfold lett; rw [decide_eq_false_iff_not]; exact fun h => h1 (this.2 h).1
theorem digit_v (n : Nat) (c : Int) : digit n c = some (isd c) := by
  unfold digit isd
  by_cases h : 48 ≤ c
  · rw [if_pos (by simpa using h)]; simp [h]
  · rw [if_neg (by simpa using h)]; simp [h]
theorem ixb_mem (l : List Int) (c : Int) : decide (ixb l c ≥ 0) = l.contains c := by
  rcases ixb_case l c with ⟨e, h⟩ | ⟨i, e, h1, h2, h3⟩
  · rw [e]; simp [h]
  · rw [e]
    have : c ∈ l := by rw [h3]; simp
    simp [this]
def unres (c : Int) : Bool := lett c || isd c || [45, 46, 95, 126].contains c
theorem unreserved_v (n : Nat) {c : Int} (h : 0 ≤ c ∧ c ≤ 255) : unreserved n c = some (unres c) := by
  unfold unreserved unres
  rw [letter_v n h, Option.bind_some]
  cases lett c with
  | true => rfl
  | false =>
    rw [if_neg (by simp), digit_v, Option.bind_some]
    cases isd c with
    | true => rfl
    | false =>
      rw [if_neg (by simp)]
      show some (decide (ixb [45, 46, 95, 126] c ≥ 0)) = _
      rw [ixb_mem]; rfl
def pByte (c : Int) : Bool := unres c || [33, 36, 38, 39, 40, 41, 42, 43, 44, 59, 61, 58, 64].contains c
theorem pathByte_v (n : Nat) {c : Int} (h : 0 ≤ c ∧ c ≤ 255) : pathByte n c = some (pByte c) := by
  unfold pathByte pByte
  rw [unreserved_v n h, Option.bind_some]
  cases unres c with
  | true => rfl
  | false =>
    rw [if_neg (by simp)]
    show some (decide (ixb [33, 36, 38, 39, 40, 41, 42, 43, 44, 59, 61, 58, 64] c ≥ 0)) = _
    rw [ixb_mem]; rfl
def hexV (c : Int) : Int × Bool := if 65 ≤ c ∧ c ≤ 70 then (c - 55, true) else if 97 ≤ c ∧ c ≤ 102 then (c - 87, true) else if 48 ≤ c ∧ c ≤ 57 then (c - 48, true) else (0, false)
theorem hex_v (n : Nat) {c : Int} (h : 0 ≤ c ∧ c ≤ 255) : hex n c = some (hexV c) := by
  have dg : (Option.bind (digit n c) fun r8 => (if r8 = true then some ((IntKind.wrap .u8 (c - (48 : Int))), true) else some ((0 : Int), false))) = some (if 48 ≤ c ∧ c ≤ 57 then (c - 48, true) else (0, false)) := by
    rw [digit_v, Option.bind_some]
    unfold isd
    by_cases h4 : 48 ≤ c ∧ c ≤ 57
    · rw [if_pos (by simpa using h4), if_pos h4, show IntKind.wrap .u8 (c - 48) = c - 48 by rw [wrap_u8]; omega]
    · rw [if_neg (by simpa using h4), if_neg h4]
  have lo : (if (decide (c ≥ (97 : Int))) = true then
      (if (decide (c ≤ (102 : Int))) = true then
      (let u3 : Int := (IntKind.wrap .u8 ((IntKind.wrap .u8 (c - (97 : Int))) + (10 : Int)))
      some (u3, true))
      else
      (Option.bind (digit n c) fun r4 => (if r4 = true then some ((IntKind.wrap .u8 (c - (48 : Int))), true) else some ((0 : Int), false))))
      else
      (Option.bind (digit n c) fun r5 => (if r5 = true then some ((IntKind.wrap .u8 (c - (48 : Int))), true) else some ((0 : Int), false)))) =
      some (if 97 ≤ c ∧ c ≤ 102 then (c - 87, true) else if 48 ≤ c ∧ c ≤ 57 then (c - 48, true) else (0, false)) := by
    by_cases h1 : 97 ≤ c
    · rw [if_pos (by simpa using h1)]
      by_cases h2 : c ≤ 102
      · rw [if_pos (by simpa using h2), if_pos ⟨h1, h2⟩]
        dsimp only
        rw [show IntKind.wrap .u8 (IntKind.wrap .u8 (c - 97) + 10) = c - 87 by rw [wrap_u8, wrap_u8]; omega]
      · rw [if_neg (by simpa using h2), dg, if_neg (c := 97 ≤ c ∧ c ≤ 102) (by omega)]
    · rw [if_neg (by simpa using h1), dg, if_neg (c := 97 ≤ c ∧ c ≤ 102) (by omega)]
  unfold hex hexV
  by_cases h1 : 65 ≤ c
  · rw [if_pos (by simpa using h1)]
    by_cases h2 : c ≤ 70
    · rw [if_pos (by simpa using h2), if_pos ⟨h1, h2⟩]
      dsimp only
      rw [show IntKind.wrap .u8 (IntKind.wrap .u8 (IntKind.wrap .u8 (c + 32) - 97) + 10) = c - 55 by rw [wrap_u8, wrap_u8, wrap_u8]; omega]
    · rw [if_neg (by simpa using h2), if_neg (c := 65 ≤ c ∧ c ≤ 70) (by omega)]
      exact lo
  · rw [if_neg (by simpa using h1), if_neg (c := 65 ≤ c ∧ c ≤ 70) (by omega)]
    exact lo
theorem hexV_range {c : Int} : 0 ≤ (hexV c).1 ∧ (hexV c).1 ≤ 15 := by
  unfold hexV; repeat' split
  all_goals dsimp only; omega
theorem or16 : ∀ a b : Fin 16, bits .or .u8 (IntKind.wrap .u8 ((a.val : Int) * 16)) (b.val : Int) = (a.val : Int) * 16 + b.val := by decide +kernel
theorem or16_v {a b : Int} (ha : 0 ≤ a ∧ a ≤ 15) (hb : 0 ≤ b ∧ b ≤ 15) : bits .or .u8 (IntKind.wrap .u8 (a * 16)) b = a * 16 + b := by
  have := or16 ⟨a.toNat, by omega⟩ ⟨b.toNat, by omega⟩
  have e1 : (((⟨a.toNat, by omega⟩ : Fin 16).val : Nat) : Int) = a := by simp; omega
  have e2 : (((⟨b.toNat, by omega⟩ : Fin 16).val : Nat) : Int) = b := by simp; omega
  rw [e1, e2] at this
  exact this
/-- the byte that a code stands for. -/
def codeV (s : List Int) (i : Nat) : Int × Bool :=
  if i + 2 < s.length ∧ s.getD i 0 = 37 then ((hexV (s.getD (i + 1) 0)).1 * 16 + (hexV (s.getD (i + 2) 0)).1, (hexV (s.getD (i + 1) 0)).2 && (hexV (s.getD (i + 2) 0)).2) else (0, false)
theorem codeV_range (s : List Int) (i : Nat) : 0 ≤ (codeV s i).1 ∧ (codeV s i).1 ≤ 255 := by
  unfold codeV
  have h1 := hexV_range (c := s.getD (i + 1) 0)
  have h2 := hexV_range (c := s.getD (i + 2) 0)
  split <;> dsimp only <;> omega
theorem code_v (n : Nat) {s : List Int} {i : Nat} (h : BL s) (hl : s.length ≤ 140737488355328) (hi : i < s.length) : code n (s, (i : Int)) = some (codeV s i) := by
  unfold code codeV
  dsimp only
  have hw : IntKind.wrap .i64 ((i : Int) + 2) = ((i + 2 : Nat) : Int) := by rw [wrap64 (by omega) (by omega)]; omega
  have hw1 : IntKind.wrap .i64 ((i : Int) + 1) = ((i + 1 : Nat) : Int) := by rw [wrap64 (by omega) (by omega)]; omega
  rw [hw, hw1]
  by_cases h2 : i + 2 < s.length
  · rw [if_neg (by simp; omega), idx_eq 0 (by omega) (by omega), Option.bind_some, Int.toNat_natCast]
    by_cases h37 : s.getD i 0 = 37
    · rw [if_neg (c := (s.getD i 0 != 37) = true) (by rw [h37]; decide), if_pos (c := i + 2 < s.length ∧ s.getD i 0 = 37) ⟨h2, h37⟩, idx_eq 0 (by omega) (by omega), Option.bind_some, Int.toNat_natCast, hex_v n (h.at (by omega)), Option.bind_some, idx_eq 0 (by omega) (by omega), Option.bind_some, Int.toNat_natCast, hex_v n (h.at (by omega)), Option.bind_some, or16_v hexV_range hexV_range]
      cases (hexV (s.getD (i + 1) 0)).2 <;> rfl
    · rw [if_pos (by simpa only [bne_iff_ne, ne_eq] using h37), if_neg (c := i + 2 < s.length ∧ s.getD i 0 = 37) (fun e => h37 e.2)]
  · rw [if_pos (by simp; omega), if_neg (c := i + 2 < s.length ∧ s.getD i 0 = 37) (fun e => h2 e.1)]
theorem codeV_lt {s : List Int} {i : Nat} (h : (codeV s i).2 = true) : i + 2 < s.length := by
  unfold codeV at h
  split at h
  · rename_i h1; exact h1.1
  · cases h
theorem hasPrefix_v (n : Nat) (s : List Int) (k : Int) (hl : s.length ≤ 140737488355328) : hasPrefix n (s, [k]) = some (decide (s.take 1 = [k])) := by
  unfold hasPrefix stringsliteHasPrefix
  dsimp only
  cases s with
  | nil => rfl
  | cons a r =>
    rw [if_pos (c := decide (((a :: r).length : Int) ≥ (([k] : List Int).length : Int)) = true) (by simp; omega), if_pos (by simp; omega)]
    show some (_ == _) = _
    congr 1
    rw [Bool.eq_iff_iff]
    simp
end Go.Sx.YtndkpphniekmlaaDoor
