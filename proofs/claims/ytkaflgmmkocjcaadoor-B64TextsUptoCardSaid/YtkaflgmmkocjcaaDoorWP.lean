/- Part of a proof by a small interpreter on plain values; no condition. -/
import Derived.Test.YtkaflgmmkocjcaaDoorWO
namespace Go.Sx.YtkaflgmmkocjcaaDoor
open Go Go.Sx
set_option autoImplicit false
set_option linter.unusedVariables false
set_option linter.unusedSimpArgs false
set_option maxRecDepth 20000
/-- the bit of a row of bytes, the highest first. -/
def bitAt (b : List Int) (p : Nat) : Int := b.getD (p / 8) 0 / 2 ^ (7 - p % 8) % 2
/-- the number of the first k bits behind i. -/
def sixU (b : List Int) (i : Nat) : Nat → Int
  | 0 => 0
  | k + 1 => 2 * sixU b i k + bitAt b (i + k)
theorem bitAt_range (b : List Int) (p : Nat) : 0 ≤ bitAt b p ∧ bitAt b p < 2 := by
  unfold bitAt
  have h1 := Int.emod_nonneg (b.getD (p / 8) 0 / 2 ^ (7 - p % 8)) (show (2 : Int) ≠ 0 by omega)
  have h2 := Int.emod_lt_of_pos (b.getD (p / 8) 0 / 2 ^ (7 - p % 8)) (show (0 : Int) < 2 by omega)
  exact ⟨h1, h2⟩
theorem sixU_range (b : List Int) (i : Nat) : ∀ k : Nat, k ≤ 6 → 0 ≤ sixU b i k ∧ sixU b i k < 64 ∧ (k < 6 → sixU b i k < 32) := by
  have h0 := bitAt_range b (i + 0); have h1 := bitAt_range b (i + 1); have h2 := bitAt_range b (i + 2); have h3 := bitAt_range b (i + 3); have h4 := bitAt_range b (i + 4); have h5 := bitAt_range b (i + 5)
  intro k hk
  match k, hk with
  | 0, _ => simp [sixU]
  | 1, _ => simp only [sixU]; omega
  | 2, _ => simp only [sixU]; omega
  | 3, _ => simp only [sixU]; omega
  | 4, _ => simp only [sixU]; omega
  | 5, _ => simp only [sixU]; omega
  | 6, _ => simp only [sixU]; omega
  | k + 7, h => omega
theorem bitAt_3 (a b c : Int) (r : List Int) (p : Nat) : bitAt (a :: b :: c :: r) (p + 24) = bitAt r p := by
  unfold bitAt
  rw [show (p + 24) / 8 = p / 8 + 1 + 1 + 1 by omega, show (p + 24) % 8 = p % 8 by omega]
  rfl
theorem sixU_3 (a b c : Int) (r : List Int) (i : Nat) : ∀ k : Nat, sixU (a :: b :: c :: r) (i + 24) k = sixU r i k
  | 0 => rfl
  | k + 1 => by
    simp only [sixU, sixU_3 a b c r i k]
    rw [show i + 24 + k = i + k + 24 by omega, bitAt_3]
/-- the j-th digit. -/
theorem enc_at : ∀ (b : List Int) (j : Nat), (∀ x ∈ b, 0 ≤ x ∧ x ≤ 255) → j < (enc b).length → (enc b).getD j 0 = DIG.getD (sixU b (6 * j) 6).toNat 0
  | [], j, _, h => by simp [enc] at h
  | [a], j, hb, h => by
    have ha := hb a (by simp)
    have : j < 2 := h
    match j, this with
    | 0, _ =>
      have e : sixU [a] (6 * 0) 6 = a * 65536 / 262144 % 64 := by simp [sixU, bitAt]; omega
      rw [e]; rfl
    | 1, _ =>
      have e : sixU [a] (6 * 1) 6 = a * 65536 / 4096 % 64 := by simp [sixU, bitAt]; omega
      rw [e]; rfl
  | [a, b], j, hb, h => by
    have ha := hb a (by simp); have hb' := hb b (by simp)
    have : j < 3 := h
    match j, this with
    | 0, _ =>
      have e : sixU [a, b] (6 * 0) 6 = (a * 65536 + b * 256) / 262144 % 64 := by simp [sixU, bitAt]; omega
      rw [e]; rfl
    | 1, _ =>
      have e : sixU [a, b] (6 * 1) 6 = (a * 65536 + b * 256) / 4096 % 64 := by simp [sixU, bitAt]; omega
      rw [e]; rfl
    | 2, _ =>
      have e : sixU [a, b] (6 * 2) 6 = (a * 65536 + b * 256) / 64 % 64 := by simp [sixU, bitAt]; omega
      rw [e]; rfl
  | a :: b :: c :: r, j, hb, h => by
    have ha := hb a (by simp); have hb' := hb b (by simp); have hc := hb c (by simp)
    match j with
    | 0 =>
      have e : sixU (a :: b :: c :: r) (6 * 0) 6 = (a * 65536 + b * 256 + c) / 262144 % 64 := by simp [sixU, bitAt]; omega
      rw [e]; rfl
    | 1 =>
      have e : sixU (a :: b :: c :: r) (6 * 1) 6 = (a * 65536 + b * 256 + c) / 4096 % 64 := by simp [sixU, bitAt]; omega
      rw [e]; rfl
    | 2 =>
      have e : sixU (a :: b :: c :: r) (6 * 2) 6 = (a * 65536 + b * 256 + c) / 64 % 64 := by simp [sixU, bitAt]; omega
      rw [e]; rfl
    | 3 =>
      have e : sixU (a :: b :: c :: r) (6 * 3) 6 = (a * 65536 + b * 256 + c) % 64 := by simp [sixU, bitAt]; omega
      rw [e]; rfl
    | j + 4 =>
      have ih := enc_at r j (fun x hx => hb x (by simp [hx])) (by simp only [enc, List.length_append, show (dg4 (a * 65536 + b * 256 + c)).length = 4 from rfl] at h; omega)
      rw [show 6 * (j + 4) = 6 * j + 24 by omega, sixU_3, ← ih]
      rfl
theorem rBit_v (n : Nat) (b : List Int) (hb : ∀ x ∈ b, 0 ≤ x ∧ x ≤ 255) (p : Nat) (hp : p < 4611686018427387904) : rBit n (b, (p : Int)) = some (bitAt b p) := by
  apply Gives.eq
  unfold rBit
  dsimp only
  have e1 : Int.tdiv (p : Int) 8 = ((p / 8 : Nat) : Int) := by rw [Int.tdiv_eq_ediv_of_nonneg (by omega)]; rfl
  have e2 : Int.tmod (p : Int) 8 = ((p % 8 : Nat) : Int) := by rw [Int.tmod_eq_emod_of_nonneg (by omega)]; rfl
  rw [e1, e2, wrap64 (n := ((p / 8 : Nat) : Int)) (by omega) (by omega), wrap64 (n := 7 - ((p % 8 : Nat) : Int)) (by omega) (by omega), wrap_u64_in (n := 7 - ((p % 8 : Nat) : Int)) (by omega) (by omega)]
  refine Gives.dite (fun h => ?_) (fun h => ?_)
  · refine Gives.of_some ?_
    unfold bitAt
    rw [getD_ge b _ (by omega)]
    simp
  · refine Gives.idx 0 (by omega) (by omega) ?_
    rw [Int.toNat_natCast]
    refine Gives.neg (by omega) (Gives.of_some ?_)
    have hg := getD_byte hb (p / 8)
    have e3 : min (7 - ((p % 8 : Nat) : Int)).toNat 8 = 7 - p % 8 := by omega
    rw [e3]
    have hpow : (0 : Int) < 2 ^ (7 - p % 8) := Int.pow_pos (by omega)
    rw [fdiv_pos (by omega)]
    have hq := Int.ediv_nonneg hg.1 (show (0 : Int) ≤ 2 ^ (7 - p % 8) by omega)
    have hq2 := Int.ediv_le_self (2 ^ (7 - p % 8)) hg.1
    unfold bitAt
    generalize b.getD (p / 8) 0 / 2 ^ (7 - p % 8) = q at hq hq2 ⊢
    rw [wrap64 (by omega) (by omega), and_low (m := 1) (.inr rfl) 1 rfl (by omega) hq (by omega)]
    rfl
theorem rEncode_v (n : Nat) (b : List Int) (hb : ∀ x ∈ b, 0 ≤ x ∧ x ≤ 255) (hl : b.length ≤ 35184372088832) (hn : 2 * b.length + 10 < n) : rEncode n b = some (enc b) := by
  have hel := enc_len b
  apply Gives.eq
  unfold rEncode
  dsimp only
  refine Gives.loop (X := (List Int) × Int × List Int) (fun y => ∃ j : Nat, j ≤ (enc b).length ∧ y = (b, ((6 * j : Nat) : Int), (enc b).take j)) (fun y => ((8 * y.1.length : Int) + 5 - y.2.1).toNat / 6) ?_ n _ ⟨0, by omega, rfl⟩ (by dsimp only; omega)
  rintro rec y ⟨j, hj, rfl⟩ hr
  dsimp only
  rw [wrap64 (n := 8 * (b.length : Int)) (by omega) (by omega)]
  refine Gives.dite (fun h1 => ?_) (fun h1 => ?_)
  · refine Gives.loop (X := (List Int) × Int × Int × Int × List Int) (fun y => ∃ k : Nat, k ≤ 6 ∧ y = (b, ((6 * j : Nat) : Int), sixU b (6 * j) k, (k : Int), (enc b).take j)) (fun y => (6 - y.2.2.2.1).toNat) ?_ n _ ⟨0, by omega, rfl⟩ (by dsimp only; omega)
    rintro rec2 y ⟨k, hk, rfl⟩ hr2
    dsimp only
    obtain ⟨s0, s1, s2⟩ := sixU_range b (6 * j) k hk
    refine Gives.dite (fun h2 => ?_) (fun h2 => ?_)
    · have s2 := s2 (by omega)
      have hbit := bitAt_range b (6 * j + k)
      rw [wrap64 (n := 2 * sixU b (6 * j) k) (by omega) (by omega), wrap64 (n := ((6 * j : Nat) : Int) + (k : Int)) (by omega) (by omega)]
      rw [show ((6 * j : Nat) : Int) + (k : Int) = ((6 * j + k : Nat) : Int) by omega]
      refine Gives.bind_eq (rBit_v n b hb _ (by omega)) ?_
      rw [wrap64 (n := 2 * sixU b (6 * j) k + bitAt b (6 * j + k)) (by omega) (by omega), wrap64 (n := (k : Int) + 1) (by omega) (by omega)]
      exact hr2 _ ⟨k + 1, by omega, rfl⟩ (by dsimp only; omega)
    · have : k = 6 := by omega
      subst this
      refine Gives.idx 0 s0 (show _ < (DIG.length : Int) by have : DIG.length = 64 := rfl; omega) ?_
      have htl : ((enc b).take j).length ≤ (enc b).length := by rw [List.length_take]; omega
      refine Gives.pos (by omega) ?_
      rw [wrap64 (n := ((6 * j : Nat) : Int) + 6) (by omega) (by omega)]
      have hjl : j < (enc b).length := by omega
      have hat := enc_at b j hb hjl
      have e : (enc b).take j ++ [DIG.getD (sixU b (6 * j) 6).toNat 0] = (enc b).take (j + 1) := by
        rw [← hat, List.take_add_one]
        congr 1
        simp [List.getD_eq_getElem?_getD, hjl]
      refine hr _ ⟨j + 1, by omega, ?_⟩ (by dsimp only; omega)
      rw [← e]
      rfl
  · have : j = (enc b).length := by omega
    subst this
    exact Gives.of_some (List.take_length)
theorem rLen_v (n : Nat) (x : Int) : rLen n x = len n x := by
  unfold rLen len
  by_cases h1 : x < 0
  · rw [if_pos (decide_eq_true h1), if_pos (decide_eq_true h1)]
  · have d1 : ¬ decide (x < 0) = true := by simpa using h1
    rw [if_neg d1, if_neg d1]
    by_cases h2 : x > 1099511627776
    · rw [if_pos (decide_eq_true h2), if_pos (decide_eq_true h2)]
    · have d2 : ¬ decide (x > 1099511627776) = true := by simpa using h2
      rw [if_neg d2, if_neg d2]
      rw [wrap64 (n := 8 * x) (by omega) (by omega), wrap64 (n := 8 * x + 5) (by omega) (by omega), wrap64 (n := 4 * x) (by omega) (by omega), wrap64 (n := 4 * x + 2) (by omega) (by omega)]
      dsimp only
      rw [Int.tdiv_eq_ediv_of_nonneg (by omega), Int.tdiv_eq_ediv_of_nonneg (by omega)]
      congr 2
      rw [wrap64 (by omega) (by omega), wrap64 (by omega) (by omega)]
      omega
theorem b64Texts_true (b : List Int) (c x : Int) (hb : ∀ z ∈ b, 0 ≤ z ∧ z ≤ 255) (h1 : b.length ≤ 1048576) : b64Texts 9000000 (b, c, x) = some true := by
  apply Gives.eq
  unfold b64Texts
  dsimp only
  refine Gives.bind_eq (digit_v _ c) (Gives.bind_eq (rDigit_v _ (by omega) c) ?_)
  have hlen : ∃ r, len 9000000 x = some r := by
    unfold len
    split
    · exact ⟨_, rfl⟩
    · split
      · exact ⟨_, rfl⟩
      · exact ⟨_, rfl⟩
  obtain ⟨r, er⟩ := hlen
  refine Gives.bind_eq er (Gives.bind_eq (by rw [rLen_v]; exact er) ?_)
  refine Gives.pos (by omega) ?_
  refine Gives.bind_eq (encode_v _ b hb (by omega) (by omega)) (Gives.bind_eq (rEncode_v _ b hb (by omega) (by omega)) ?_)
  refine Gives.pos (by simp) (Gives.epos rfl (Gives.pos (by simp) (Gives.epos rfl ?_)))
  refine Gives.bind_eq (num_eq _ _) (Gives.epos rfl ?_)
  exact Gives.bind_eq sure_v (Gives.of_some rfl)
end Go.Sx.YtkaflgmmkocjcaaDoor
