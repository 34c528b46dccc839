/- Part of a proof by a small interpreter on plain values; no condition. -/
import Derived.Test.YtkaflgmmkocjcaaDoorWL
namespace Go.Sx.YtkaflgmmkocjcaaDoor
open Go Go.Sx
set_option autoImplicit false
set_option linter.unusedVariables false
set_option linter.unusedSimpArgs false
set_option maxRecDepth 20000
/-- the number of the first k bytes. -/
def num3 (p : List Int) : Nat → Int
  | 0 => 0
  | k + 1 => num3 p k * 256 + p.getD k 0
/-- the four digits of a number of 24 bits. -/
def dg4 (N : Int) : List Int := [DIG.getD (N / 262144 % 64).toNat 0, DIG.getD (N / 4096 % 64).toNat 0, DIG.getD (N / 64 % 64).toNat 0, DIG.getD (N % 64).toNat 0]
/-- what Encode comes to. -/
def enc : List Int → List Int
  | [] => []
  | [a] => (dg4 (a * 65536)).take 2
  | [a, b] => (dg4 (a * 65536 + b * 256)).take 3
  | a :: b :: c :: r => dg4 (a * 65536 + b * 256 + c) ++ enc r
theorem enc_len : ∀ (b : List Int), (enc b).length = (4 * b.length + 2) / 3
  | [] => rfl
  | [a] => by simp [enc, dg4]
  | [a, b] => by simp [enc, dg4]
  | a :: b :: c :: r => by
    have := enc_len r
    simp only [enc, List.length_append, List.length_cons, this]
    have : (dg4 (a * 65536 + b * 256 + c)).length = 4 := rfl
    omega
theorem enc_step (b : List Int) (h : b ≠ []) : enc b = (dg4 (num3 (b.take 3) 3)).take ((b.take 3).length + 1) ++ enc (b.drop 3) := by
  match b, h with
  | [a], _ =>
    have e : num3 ([a].take 3) 3 = a * 65536 := by simp [num3]; omega
    rw [e]
    simp [enc, dg4]
  | [a, b], _ =>
    have e : num3 ([a, b].take 3) 3 = a * 65536 + b * 256 := by simp [num3]; omega
    rw [e]
    simp [enc, dg4]
  | a :: b :: c :: r, _ =>
    have e : num3 ((a :: b :: c :: r).take 3) 3 = a * 65536 + b * 256 + c := by simp [num3]; omega
    rw [e]
    simp [enc, dg4]
theorem num3_le (p : List Int) (hp : ∀ x ∈ p, 0 ≤ x ∧ x ≤ 255) : ∀ k : Nat, k ≤ 3 → 0 ≤ num3 p k ∧ num3 p k < 16777216 ∧ (k < 3 → num3 p k < 65536) := by
  have hg : ∀ j : Nat, 0 ≤ p.getD j 0 ∧ p.getD j 0 ≤ 255 := fun j => by
    by_cases h : j < p.length
    · rw [List.getD_eq_getElem?_getD, List.getElem?_eq_getElem h]
      exact hp _ (List.getElem_mem _)
    · rw [List.getD_eq_getElem?_getD, List.getElem?_eq_none (by omega)]
      simp
  have h0 := hg 0; have h1 := hg 1; have h2 := hg 2
  intro k hk
  match k, hk with
  | 0, _ => simp [num3]
  | 1, _ => simp only [num3]; omega
  | 2, _ => simp only [num3]; omega
  | 3, _ => simp only [num3]; omega
  | k + 4, h => omega
theorem getD_byte {b : List Int} (hb : ∀ x ∈ b, 0 ≤ x ∧ x ≤ 255) (j : Nat) : 0 ≤ b.getD j 0 ∧ b.getD j 0 ≤ 255 := by
  by_cases h : j < b.length
  · rw [List.getD_eq_getElem?_getD, List.getElem?_eq_getElem h]
    exact hb _ (List.getElem_mem _)
  · rw [List.getD_eq_getElem?_getD, List.getElem?_eq_none (by omega)]
    simp
theorem bldByte_v (n : Nat) (c : Int) (acc : List Int) (h : acc.length < 140737488355328) : bldByte n (c, acc) = some (acc ++ [c]) := by
  unfold bldByte bldCheck
  dsimp only
  rw [Option.bind_some, if_pos (by omega)]
theorem encode_v (n : Nat) (b : List Int) (hb : ∀ x ∈ b, 0 ≤ x ∧ x ≤ 255) (hl : b.length ≤ 70368744177664) (hn : b.length + 10 < n) : encode n b = some (enc b) := by
  have hel := enc_len b
  apply Gives.eq
  unfold encode
  dsimp only
  refine Gives.loop (X := (List Int) × Int × List Int) (fun y => ∃ (i : Nat) (acc : List Int), i ≤ b.length + 2 ∧ acc ++ enc (b.drop i) = enc b ∧ y = (b, (i : Int), acc)) (fun y => ((y.1.length : Int) + 3 - y.2.1).toNat) ?_ n _ ⟨0, [], by omega, rfl, rfl⟩ (by dsimp only; omega)
  rintro rec y ⟨i, acc, hi, he, rfl⟩ hr
  dsimp only
  have hal : acc.length + (enc (b.drop i)).length = (enc b).length := by rw [← he, List.length_append]
  refine Gives.dite (fun h1 => ?_) (fun h1 => ?_)
  · rw [wrap64 (n := (i : Int) + 3) (by omega) (by omega)]
    obtain ⟨m, hm, hm1⟩ : ∃ m : Nat, (if (b.length : Int) < (i : Int) + 3 then (b.length : Int) else (i : Int) + 3) = ((i + m : Nat) : Int) ∧ m = min 3 (b.length - i) := by
      refine ⟨min 3 (b.length - i), ?_, rfl⟩
      split <;> omega
    rw [hm]
    refine Gives.pos (by omega) ?_
    have e1 : (b.drop (i : Int).toNat).take (((i + m : Nat) : Int).toNat - (i : Int).toNat) = (b.drop i).take 3 := by
      rw [Int.toNat_natCast, Int.toNat_natCast, Nat.add_sub_cancel_left, hm1]
      rcases Nat.le_total 3 (b.length - i) with hh | hh
      · rw [Nat.min_eq_left hh]
      · rw [Nat.min_eq_right hh, List.take_of_length_le (by rw [List.length_drop]; omega), List.take_of_length_le (by rw [List.length_drop]; omega)]
    rw [e1]
    have hne : b.drop i ≠ [] := by
      intro h
      have := congrArg List.length h
      rw [List.length_drop] at this
      simp at this
      omega
    have hstep := enc_step (b.drop i) hne
    rw [List.drop_drop] at hstep
    have hp : ∀ x ∈ (b.drop i).take 3, 0 ≤ x ∧ x ≤ 255 := fun x hx => hb x (List.mem_of_mem_drop (List.mem_of_mem_take hx))
    have hpl : ((b.drop i).take 3).length = m := by rw [List.length_take, List.length_drop]; omega
    generalize (b.drop i).take 3 = p at hstep hp hpl ⊢
    have hm3 : m ≤ 3 := by omega
    have hstepl := congrArg List.length hstep
    rw [List.length_append, List.length_take, show (dg4 (num3 p 3)).length = 4 from rfl, hpl] at hstepl
    refine Gives.loop (X := (List Int) × Int × (List Int) × Int × Int × List Int) (fun y => ∃ k : Nat, k ≤ 3 ∧ y = (b, (i : Int), p, num3 p k, (k : Int), acc)) (fun y => (3 - y.2.2.2.2.1).toNat) ?_ n _ ⟨0, by omega, rfl⟩ (by dsimp only; omega)
    rintro rec2 y ⟨k, hk, rfl⟩ hr2
    dsimp only
    refine Gives.dite (fun h2 => ?_) (fun h2 => ?_)
    · have hk3 : k < 3 := by omega
      obtain ⟨hn0, hn1, hn2⟩ := num3_le p hp k (by omega)
      have hn2 := hn2 hk3
      have hg := getD_byte hp k
      refine Gives.dite (fun h3 => ?_) (fun h3 => ?_)
      · refine Gives.idx 0 (by omega) h3 ?_
        rw [Int.toNat_natCast]
        have hor : bits .or .u64 (IntKind.wrap .u64 (num3 p k * 256)) (IntKind.wrap .u64 (p.getD k 0)) = num3 p k * 256 + p.getD k 0 := by
          rw [wrap_u64_in (by omega) (by omega), wrap_u64_in (by omega) (by omega)]
          exact or_shl (.inl rfl) 8 rfl hn0 (by omega) hg.1 (by omega) (by omega)
        rw [hor, wrap64 (n := (k : Int) + 1) (by omega) (by omega)]
        exact hr2 _ ⟨k + 1, by omega, rfl⟩ (by dsimp only; omega)
      · have hz : p.getD k 0 = 0 := getD_ge p k (by omega)
        rw [wrap_u64_in (n := num3 p k * 256) (by omega) (by omega), wrap64 (n := (k : Int) + 1) (by omega) (by omega)]
        exact hr2 _ ⟨k + 1, by omega, by simp only [num3, hz]; simp⟩ (by dsimp only; omega)
    · have hk3 : k = 3 := by omega
      subst hk3
      obtain ⟨hn0, hn1, _⟩ := num3_le p hp 3 (by omega)
      rw [hpl, wrap64 (n := (m : Int) + 1) (by omega) (by omega)]
      generalize num3 p 3 = N at hn0 hn1 hstep hstepl ⊢
      refine Gives.loop (X := (List Int) × Int × Int × Int × Int × List Int) (fun y => ∃ (q : Nat), q ≤ m + 1 ∧ y = (b, (i : Int), N, (m : Int) + 1, (q : Int), acc ++ (dg4 N).take q)) (fun y => (y.2.2.2.1 - y.2.2.2.2.1).toNat) ?_ n _ ⟨0, by omega, by simp⟩ (by dsimp only; omega)
      rintro rec3 y ⟨q, hq, rfl⟩ hr3
      dsimp only
      have htl : (acc ++ (dg4 N).take q).length ≤ acc.length + 4 := by
        rw [List.length_append, List.length_take]
        have : (dg4 N).length = 4 := rfl
        omega
      refine Gives.dite (fun h4 => ?_) (fun h4 => ?_)
      · have hq3 : q < 4 := by omega
        rw [wrap64 (n := 6 * (q : Int)) (by omega) (by omega), wrap64 (n := 18 - 6 * (q : Int)) (by omega) (by omega), wrap64 (n := (q : Int) + 1) (by omega) (by omega)]
        refine Gives.neg (by omega) ?_
        have key : ∀ (D : Int), 0 < D → Int.fdiv N (2 ^ (min (18 - 6 * (q : Int)).toNat 64)) = N / D → (dg4 N).getD q 0 = DIG.getD (N / D % 64).toNat 0 → Gives (Option.bind (idx DIG (bits .and .u64 (Int.fdiv N (2 ^ (min (18 - 6 * (q : Int)).toNat 64))) 63)) fun v33 => Option.bind (bldByte n (v33, acc ++ (dg4 N).take q)) fun r34 => rec3 (b, ((i : Int), (N, ((m : Int) + 1, ((q : Int) + 1, r34)))))) (fun r => r = enc b) := by
          intro D hD e2 e3
          have hN : 0 ≤ N / D := Int.ediv_nonneg hn0 (by omega)
          have hN2 : N / D ≤ N := Int.ediv_le_self _ hn0
          rw [e2, and_low (m := 63) (.inl rfl) 6 rfl (by omega) hN (by omega)]
          refine Gives.idx 0 (by omega) (by have : DIG.length = 64 := rfl; omega) ?_
          refine Gives.bind_eq (bldByte_v n _ _ (by omega)) ?_
          refine hr3 _ ⟨q + 1, by omega, ?_⟩ (by dsimp only; omega)
          have : (dg4 N).take (q + 1) = (dg4 N).take q ++ [(dg4 N).getD q 0] := by
            rw [List.take_add_one]
            congr 1
            have : q < (dg4 N).length := hq3
            simp [List.getD_eq_getElem?_getD, this]
          rw [this, e3, ← List.append_assoc]
          rfl
        match q, hq3, key with
        | 0, _, key => exact key 262144 (by omega) (by rw [show (2 : Int) ^ (min (18 - 6 * ((0 : Nat) : Int)).toNat 64) = 262144 from rfl, fdiv_pos (by omega)]) rfl
        | 1, _, key => exact key 4096 (by omega) (by rw [show (2 : Int) ^ (min (18 - 6 * ((1 : Nat) : Int)).toNat 64) = 4096 from rfl, fdiv_pos (by omega)]) rfl
        | 2, _, key => exact key 64 (by omega) (by rw [show (2 : Int) ^ (min (18 - 6 * ((2 : Nat) : Int)).toNat 64) = 64 from rfl, fdiv_pos (by omega)]) rfl
        | 3, _, key => exact key 1 (by omega) (by rw [show (2 : Int) ^ (min (18 - 6 * ((3 : Nat) : Int)).toNat 64) = 1 from rfl, fdiv_pos (by omega)]) (by rw [Int.ediv_one]; rfl)
      · have : q = m + 1 := by omega
        subst this
        rw [wrap64 (n := (i : Int) + 3) (by omega) (by omega)]
        refine hr _ ⟨i + 3, acc ++ (dg4 N).take (m + 1), by omega, ?_, ?_⟩ (by dsimp only; omega)
        · rw [List.append_assoc]
          rw [hpl] at hstep
          rw [← hstep, he]
        · rfl
  · have : b.drop i = [] := List.drop_eq_nil_of_le (by omega)
    rw [this] at he
    refine Gives.bind_eq rfl (Gives.of_some ?_)
    rw [← he]
    simp [enc]
end Go.Sx.YtkaflgmmkocjcaaDoor
