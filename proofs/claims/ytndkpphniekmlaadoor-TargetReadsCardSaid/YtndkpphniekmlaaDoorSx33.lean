/- Part of a proof by a small interpreter on plain values; no condition. -/
import Derived.Test.YtndkpphniekmlaaDoorSx31
import Derived.Test.YtndkpphniekmlaaDoorSx30
/-! Sx33: strings.ToLower at texts of ASCII, and what no other text comes to. -/
namespace Go.Sx
open Go
set_option autoImplicit false
set_option linter.unusedVariables false
set_option linter.unusedSimpArgs false
def lwA (c : Int) : Int := if 65 ≤ c ∧ c ≤ 90 then c + 32 else c
theorem i8s_u8s {s : List Int} (h : ∀ c ∈ s, 0 ≤ c ∧ c ≤ 255) : i8s (u8s s) = s := by
  unfold i8s u8s
  rw [List.map_map]
  conv => rhs; rw [← List.map_id s]
  apply List.map_congr_left
  intro c hc
  have := h c hc
  simp [Nat.toUInt8]
  omega
theorem decL_eq (l : List UInt8) : Lib.decodeL l = u8d (i8s l) 0 := by
  unfold Lib.decodeL
  rw [decode_eq, i8s_bytes]
theorem u8d_ascii {s : List Int} {i : Nat} (h : (s.getD i 0).toNat < 128) : u8d s i = ((s.getD i 0).toNat, 1) := by
  unfold u8d
  dsimp only
  exact if_pos h
theorem u8d_high {s : List Int} {i : Nat} (h : 128 ≤ (s.getD i 0).toNat) : 128 ≤ (u8d s i).1 := by
  unfold u8d
  dsimp only
  rw [if_neg (show ¬ (s.getD (i + 0) 0).toNat < 128 by rw [Nat.add_zero]; omega)]
  split
  · split
    · assumption
    · decide
  · split
    · split
      · rename_i hc
        simp only [Bool.and_eq_true, decide_eq_true_eq] at hc
        dsimp only; omega
      · decide
    · split
      · split
        · rename_i hc
          simp only [Bool.and_eq_true, decide_eq_true_eq] at hc
          dsimp only; omega
        · decide
      · decide
theorem enc_one {v : Int} (h0 : 0 ≤ v) (h1 : v ≤ 127) : i8s (Lib.encodeRune v) = [v] := by
  unfold Lib.encodeRune i8s
  rw [Lib.encodeRuneZ_one h0 h1]
  simp [Nat.toUInt8]
  omega
theorem i8s_app (a b : List UInt8) : i8s (a ++ b) = i8s a ++ i8s b := by simp [i8s]
/-! the table of letters. -/
def rowOk (x : Lib.CaseRow) : Bool :=
  decide (x.2.1 < 128) || (decide (128 ≤ x.1) && (decide (x.2.2.2.1 > 1114111) || (decide (0 ≤ (x.1 : Int) + x.2.2.2.1) && [47, 58, 104, 112, 116].all fun t => !(decide ((x.1 : Int) + x.2.2.2.1 ≤ t) && decide (t ≤ (x.2.1 : Int) + x.2.2.2.1)))))
theorem rows_ok : Lib.caseT.all rowOk = true := by decide +kernel
theorem lookup_in (T : Array Lib.CaseRow) (r : Int) : ∀ (f lo hi i : Nat), Lib.lookupIdx T r f lo hi = some i → ((T.getD i (0, 0, 0, 0, 0)).1 : Int) ≤ r ∧ r ≤ ((T.getD i (0, 0, 0, 0, 0)).2.1 : Int)
  | 0, _, _, _, h => by simp [Lib.lookupIdx] at h
  | f + 1, lo, hi, i, h => by
    unfold Lib.lookupIdx at h
    split at h
    · split at h
      · injection h with h; subst h; assumption
      · split at h
        · exact lookup_in T r f _ _ i h
        · exact lookup_in T r f _ _ i h
    · cases h
theorem lower_high {r : Int} (h : 128 ≤ r) : 0 ≤ Lib.toLowerU r ∧ Lib.toLowerU r ∉ [47, 58, 104, 112, 116] := by
  unfold Lib.toLowerU
  rw [if_neg (by omega)]
  unfold Lib.toR Lib.lookupGo
  cases hx : Lib.lookupIdx Lib.caseA r (Lib.caseA.size + 1) 0 Lib.caseA.size with
  | none =>
    dsimp only [Option.map]
    exact ⟨by omega, by simp; omega⟩
  | some i =>
    dsimp only [Option.map]
    have hin := lookup_in _ _ _ _ _ _ hx
    by_cases hi : i < Lib.caseA.size
    · have hrow := List.all_eq_true.1 rows_ok (Lib.caseA.getD i (0, 0, 0, 0, 0)) (by
        have : Lib.caseA.getD i (0, 0, 0, 0, 0) = Lib.caseA[i] := by simp [Array.getD, hi]
        rw [this]
        exact Array.mem_toList_iff.2 (Array.getElem_mem hi))
      revert hin hrow
      generalize Lib.caseA.getD i (0, 0, 0, 0, 0) = x
      obtain ⟨a, b, u, d, t⟩ := x
      intro hin hrow
      unfold rowOk at hrow
      dsimp only at hin hrow
      have hcv : Lib.convertR 1 r (a, b, u, d, t) = if d > 1114111 then (a : Int) + ((r - a) - (r - a) % 2 + ((1 % 2 : Nat) : Int)) else r + d := rfl
      rw [hcv]
      simp only [Bool.or_eq_true, Bool.and_eq_true, decide_eq_true_eq, List.all_cons, List.all_nil, Bool.not_eq_true', Bool.and_eq_false_iff, decide_eq_false_iff_not] at hrow
      rcases hrow with e | ⟨e1, e | ⟨e2, e3, e4, e5, e6, e7, _⟩⟩
      · omega
      · rw [if_pos e]
        exact ⟨by omega, by simp; omega⟩
      · split
        · exact ⟨by omega, by simp; omega⟩
        · exact ⟨by omega, by simp; omega⟩
    · exfalso
      have : Lib.caseA.getD i (0, 0, 0, 0, 0) = (0, 0, 0, 0, 0) := by simp [Array.getD, hi]
      rw [this] at hin
      dsimp only at hin
      omega
theorem lowGo : ∀ (n : Nat) (l : List UInt8), l.length ≤ n → (∀ c ∈ i8s l, c < 128) → i8s (Lib.mapGoD Lib.toLowerU n l) = (i8s l).map lwA
  | 0, l, h, _ => by
    have : l = [] := List.eq_nil_of_length_eq_zero (by omega)
    subst this; rfl
  | n + 1, [], _, _ => by simp [Lib.mapGoD, i8s]
  | n + 1, b :: r, h, ha => by
    have hb : ((b.toNat : Nat) : Int) < 128 := ha _ (by simp [i8s])
    have hd : Lib.decodeL (b :: r) = (b.toNat, 1) := by
      rw [decL_eq, u8d_ascii (by show ((b.toNat : Nat) : Int).toNat < 128; omega)]
      simp [i8s]
    have ih := lowGo n r (by simp at h; omega) (fun c hc => ha c (by simp [i8s] at hc ⊢; exact .inr hc))
    rw [Lib.mapGoD, if_neg (by simp), hd, i8s_app]
    have hl : Lib.toLowerU (b.toNat : Int) = lwA (b.toNat : Int) := by unfold Lib.toLowerU lwA; rw [if_pos (by omega)]
    have hv : 0 ≤ lwA (b.toNat : Int) ∧ lwA (b.toNat : Int) ≤ 127 := by unfold lwA; split <;> omega
    dsimp only
    rw [hl, if_pos hv.1, enc_one hv.1 hv.2]
    rw [List.drop_one, List.tail_cons, ih]; rfl
theorem lowBad : ∀ (n : Nat) (l : List UInt8), l.length ≤ n → (∃ c ∈ i8s l, 128 ≤ c) → ∃ c ∈ i8s (Lib.mapGoD Lib.toLowerU n l), c ∉ [47, 58, 104, 112, 116]
  | 0, l, h, ha => by
    have : l = [] := List.eq_nil_of_length_eq_zero (by omega)
    subst this
    obtain ⟨c, hc, _⟩ := ha
    exact nomatch hc
  | n + 1, [], _, ha => by
    obtain ⟨c, hc, _⟩ := ha
    exact nomatch hc
  | n + 1, b :: r, h, ha => by
    rw [Lib.mapGoD, if_neg (by simp), i8s_app]
    by_cases hb : b.toNat < 128
    · have hd : Lib.decodeL (b :: r) = (b.toNat, 1) := by
        rw [decL_eq, u8d_ascii (by show ((b.toNat : Nat) : Int).toNat < 128; omega)]
        simp [i8s]
      have hr : ∃ c ∈ i8s r, 128 ≤ c := by
        obtain ⟨c, hc, h128⟩ := ha
        rcases List.mem_cons.1 (show c ∈ (b.toNat : Int) :: i8s r from hc) with e | e
        · omega
        · exact ⟨c, e, h128⟩
      obtain ⟨c, hc, hn⟩ := lowBad n r (by simp at h; omega) hr
      refine ⟨c, List.mem_append.2 (.inr ?_), hn⟩
      rw [hd]
      exact hc
    · have hr : 128 ≤ (Lib.decodeL (b :: r)).1 := by
        rw [decL_eq]
        exact u8d_high (by show 128 ≤ ((b.toNat : Nat) : Int).toNat; omega)
      have hlo := lower_high (r := ((Lib.decodeL (b :: r)).1 : Int)) (by omega)
      revert hlo
      generalize Lib.toLowerU ((Lib.decodeL (b :: r)).1 : Int) = v
      intro hlo
      rw [if_pos hlo.1]
      by_cases h127 : v ≤ 127
      · rw [enc_one hlo.1 h127]
        exact ⟨v, by simp, hlo.2⟩
      · have : ∃ a q, Lib.encodeRuneZ v = a :: q ∧ 192 ≤ a := by
          unfold Lib.encodeRuneZ
          rw [if_neg (by omega)]
          split
          · exact ⟨_, _, rfl, by omega⟩
          · split
            · exact ⟨_, _, rfl, by omega⟩
            · split
              · exact ⟨_, _, rfl, by omega⟩
              · exact ⟨_, _, rfl, by omega⟩
        obtain ⟨a, q, ea, ha⟩ := this
        have hby := Lib.encodeRuneZ_byte v a (by rw [ea]; simp)
        refine ⟨a, List.mem_append.2 (.inl ?_), by simp; omega⟩
        unfold Lib.encodeRune i8s
        rw [ea]
        simp [Nat.toUInt8]
        left; omega
/-- strings.ToLower at ASCII. -/
theorem low_ascii {s : List Int} (h : ∀ c ∈ s, 0 ≤ c ∧ c < 128) : toLowerL s = s.map lwA := by
  have e : i8s (u8s s) = s := i8s_u8s fun c hc => ⟨(h c hc).1, by have := (h c hc).2; omega⟩
  unfold toLowerL Lib.toLowerD Lib.mapD
  rw [lowGo _ _ (Nat.le_refl _) (by rw [e]; exact fun c hc => (h c hc).2), e]
/-- a text that comes to "http://" in small letters is one of ASCII. -/
theorem low_http {s q : List Int} (h : ∀ c ∈ s, 0 ≤ c ∧ c ≤ 255) (hq : ∀ c ∈ q, c ∈ [47, 58, 104, 112, 116]) (e : toLowerL s = q) : ∀ c ∈ s, 0 ≤ c ∧ c < 128 := by
  intro c hc
  refine ⟨(h c hc).1, Int.not_le.1 fun h128 => ?_⟩
  obtain ⟨x, hx, hn⟩ := lowBad (u8s s).length (u8s s) (Nat.le_refl _) ⟨c, by rw [i8s_u8s h]; exact hc, h128⟩
  exact hn (hq x (by rw [← e]; exact hx))
end Go.Sx
