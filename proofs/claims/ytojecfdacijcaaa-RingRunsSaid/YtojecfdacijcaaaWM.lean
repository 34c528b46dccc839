/- Part of a proof by a small interpreter on plain values; no condition. -/
import Derived.Test.YtojecfdacijcaaaWL
namespace Go.Sx.Ytojecfdacijcaaa
open Go Go.Sx
set_option autoImplicit false
set_option linter.unusedVariables false
set_option linter.unusedSimpArgs false
set_option maxRecDepth 20000
/-- where the first of 13 and 10 stands. -/
structure Brk (c : List Int) (k : Nat) : Prop where
  le : k ≤ c.length
  ord : ∀ j, j < k → c.getD j 0 ≠ 13 ∧ c.getD j 0 ≠ 10
  stop : k < c.length → c.getD k 0 = 13 ∨ c.getD k 0 = 10
theorem brk : ∀ c : List Int, ∃ k, Brk c k
  | [] => ⟨0, by simp, fun j h => absurd h (by omega), fun h => by simp at h⟩
  | b :: l => by
    obtain ⟨k, h⟩ := brk l
    by_cases hb : b = 13 ∨ b = 10
    · exact ⟨0, by simp, fun j h => absurd h (by omega), fun _ => by simpa using hb⟩
    · refine ⟨k + 1, by have := h.le; simp; omega, fun j hj => ?_, fun hk => ?_⟩
      · cases j with
        | zero => simpa [not_or] using hb
        | succ j => simpa using h.ord j (by omega)
      · simpa using h.stop (by simpa using hk)
/-- what Line comes to: (code, line, what stays). -/
def lres (c : List Int) (k : Nat) (most : Int) : Int × List Int × List Int :=
  if most < 0 then (1, [], c) else if most < (k : Int) then (2, [], c) else if k = c.length then (8, [], c) else if c.getD k 0 = 13 then (if k + 1 = c.length then (8, [], c) else if c.getD (k + 1) 0 = 10 then (0, c.take k, c.drop (k + 2)) else (3, [], c)) else (3, [], c)
theorem lres_neg {c : List Int} {k : Nat} {most : Int} (h : most < 0) : lres c k most = (1, [], c) := by rw [lres, if_pos h]
section
variable {c : List Int} {k : Nat} {most : Int} (h0 : ¬ most < 0)
include h0
theorem lres_long (h : most < (k : Int)) : lres c k most = (2, [], c) := by rw [lres, if_neg h0, if_pos h]
variable (h1 : ¬ most < (k : Int))
include h1
theorem lres_end (h : k = c.length) : lres c k most = (8, [], c) := by rw [lres, if_neg h0, if_neg h1, if_pos h]
variable (h2 : k < c.length)
include h2
theorem lres_nl (h : c.getD k 0 = 10) : lres c k most = (3, [], c) := by rw [lres, if_neg h0, if_neg h1, if_neg (by omega), if_neg (by rw [h]; decide)]
variable (h3 : c.getD k 0 = 13)
include h3
theorem lres_cr (h : k + 1 = c.length) : lres c k most = (8, [], c) := by rw [lres, if_neg h0, if_neg h1, if_neg (Nat.ne_of_lt h2), if_pos h3, if_pos h]
theorem lres_crx (h : ¬ k + 1 = c.length) (h' : ¬ c.getD (k + 1) 0 = 10) : lres c k most = (3, [], c) := by rw [lres, if_neg h0, if_neg h1, if_neg (by omega), if_pos h3, if_neg h, if_neg h']
theorem lres_ok (h : ¬ k + 1 = c.length) (h' : c.getD (k + 1) 0 = 10) : lres c k most = (0, c.take k, c.drop (k + 2)) := by rw [lres, if_neg h0, if_neg h1, if_neg (by omega), if_pos h3, if_neg h, if_pos h']
end
theorem lres_line {c : List Int} {k : Nat} (hk : Brk c k) (most : Int) (j : Nat) (hj : j < (lres c k most).2.1.length) : (lres c k most).2.1.getD j 0 ≠ 13 ∧ (lres c k most).2.1.getD j 0 ≠ 10 := by
  have key : (lres c k most).2.1 = [] ∨ (lres c k most).2.1 = c.take k := by
    unfold lres
    split
    · left; rfl
    · split
      · left; rfl
      · split
        · left; rfl
        · split
          · split
            · left; rfl
            · split
              · right; rfl
              · left; rfl
          · left; rfl
  rcases key with e | e
  · rw [e] at hj; simp at hj
  · rw [e] at hj ⊢
    rw [List.length_take] at hj
    rw [getD_take, if_pos (by omega)]
    exact hk.ord j (by omega)
theorem rRead_v (n : Nat) (x : Int) (c : List Int) (k : Int) (hc : c.length ≤ 1048576) : rRead n (x, c, k) = some (x, c.drop k.toNat, c.take k.toNat) := by
  apply Gives.eq
  unfold rRead
  dsimp only
  have e : (if (if (c.length : Int) < k then (c.length : Int) else k) > 0 then (if (c.length : Int) < k then (c.length : Int) else k) else 0) = ((min c.length k.toNat : Nat) : Int) := by
    split <;> split <;> omega
  rw [e]
  have h1 : c.drop k.toNat = c.drop (min c.length k.toNat) := by
    rcases Nat.le_total c.length k.toNat with hh | hh
    · rw [Nat.min_eq_left hh, List.drop_eq_nil_of_le hh, List.drop_eq_nil_of_le (Nat.le_refl _)]
    · rw [Nat.min_eq_right hh]
  have h2 : c.take k.toNat = c.take (min c.length k.toNat) := by
    rcases Nat.le_total c.length k.toNat with hh | hh
    · rw [Nat.min_eq_left hh, List.take_of_length_le hh, List.take_of_length_le (Nat.le_refl _)]
    · rw [Nat.min_eq_right hh]
  rw [h1, h2]
  have hq : min c.length k.toNat ≤ c.length := Nat.min_le_left _ _
  generalize min c.length k.toNat = q at hq ⊢
  refine Gives.pos (by omega) ?_
  have e2 : ((c.drop 0).take ((q : Int).toNat - 0)) = c.take q := by simp
  rw [e2]
  refine Gives.pos (by rw [List.length_take]; omega) ?_
  refine Gives.pos (by omega) (Gives.of_some ?_)
  rw [Int.toNat_natCast, Int.toNat_natCast, List.take_of_length_le (l := c.drop q) (by rw [List.length_drop]; exact Nat.le_refl _)]
theorem rWrite_v (n : Nat) (L : Nat) (c b : List Int) (hL : L ≤ 1048576) (hc : c.length ≤ L) : rWrite n ((L : Int), c, b) = some ((L : Int), c ++ b.take (L - c.length), ((min (L - c.length) b.length : Nat) : Int)) := by
  apply Gives.eq
  unfold rWrite
  dsimp only
  rw [wrap64 (by omega) (by omega)]
  have hk : (if (L : Int) - (c.length : Int) < (b.length : Int) then (L : Int) - (c.length : Int) else (b.length : Int)) = ((min (L - c.length) b.length : Nat) : Int) := by
    split <;> omega
  rw [hk]
  have htk : b.take (L - c.length) = b.take (min (L - c.length) b.length) := by
    rcases Nat.le_total b.length (L - c.length) with hh | hh
    · rw [Nat.min_eq_right hh, List.take_of_length_le hh, List.take_of_length_le (Nat.le_refl _)]
    · rw [Nat.min_eq_left hh]
  rw [htk]
  have hq1 : min (L - c.length) b.length ≤ L - c.length := Nat.min_le_left _ _
  have hq2 : min (L - c.length) b.length ≤ b.length := Nat.min_le_right _ _
  generalize min (L - c.length) b.length = q at hq1 hq2 ⊢
  refine Gives.pos (by omega) (Gives.pos (by omega) ?_)
  have e2 : ((b.drop 0).take ((q : Int).toNat - 0)) = b.take q := by simp
  rw [e2]
  refine Gives.pos (by rw [List.length_take]; omega) (Gives.of_some rfl)
theorem rLine_v (n : Nat) (hn : 2000000 < n) (x : Int) (c : List Int) (most : Int) (k : Nat) (hk : Brk c k) (hc : c.length ≤ 1048576) : rLine n (x, c, most) = some (x, (lres c k most).2.2, (lres c k most).2.1, (lres c k most).1) := by
  apply Gives.eq
  unfold rLine
  dsimp only
  refine Gives.dite (fun h0 => ?_) (fun h0 => ?_)
  · rw [lres_neg h0]; exact Gives.of_some rfl
  · refine Gives.loop (X := Int × Int × Int × List Int × Int × List Int) (fun y => ∃ i : Nat, i ≤ k ∧ y = (most, (i : Int), x, c, 0, [])) (fun y => ((y.2.2.2.1.length : Int) - y.2.1).toNat) ?_ n _ ⟨0, by omega, rfl⟩ (by dsimp only; omega)
    rintro rec y ⟨i, hi, rfl⟩ hr
    have hle := hk.le
    dsimp only
    refine Gives.dite (fun h1 => ?_) (fun h1 => ?_)
    · refine Gives.idx 0 (by omega) h1 ?_
      rw [Int.toNat_natCast]
      refine Gives.dite (fun h2 => ?_) (fun h2 => ?_)
      · rw [lres_long h0 (by omega)]; exact Gives.of_some rfl
      · rw [wrap64 (n := (c.length : Int) - 1) (by omega) (by omega)]
        by_cases e : i = k
        · subst e
          rcases hk.stop (by omega) with hb | hb
          · rw [hb]
            refine Gives.eneg (by decide) ?_
            rw [if_pos (by decide)]
            rw [Option.bind_some]
            dsimp only
            refine Gives.eite (fun h3 => ?_) (fun h3 => ?_)
            · rw [lres_cr h0 (by omega) (by omega) hb (by omega)]; exact Gives.of_some rfl
            · refine Gives.epos rfl ?_
              rw [wrap64 (by omega) (by omega)]
              refine Gives.idx 0 (by omega) (by omega) ?_
              rw [show ((i : Int) + 1).toNat = i + 1 by omega]
              refine Gives.nite (fun h4 => ?_) (fun h4 => ?_)
              · rw [lres_crx h0 (by omega) (by omega) hb (by omega) h4]; exact Gives.of_some rfl
              · refine Gives.epos rfl ?_
                refine Gives.bind_eq (rRead_v n x c i hc) ?_
                dsimp only
                refine Gives.bind_eq (rRead_v n x (c.drop (i : Int).toNat) 2 (by rw [List.length_drop]; omega)) ?_
                rw [lres_ok h0 (by omega) (by omega) hb (by omega) h4]
                refine Gives.of_some ?_
                dsimp only
                rw [Int.toNat_natCast, List.drop_drop]
                rfl
          · rw [hb]
            refine Gives.epos rfl ?_
            rw [lres_nl h0 (by omega) (by omega) hb]; exact Gives.of_some rfl
        · have ho := hk.ord i (by omega)
          refine Gives.eneg ho.2 ?_
          rw [if_neg (show ¬ (c.getD i 0 == 13) = true by simpa using ho.1)]
          rw [Option.bind_some]
          dsimp only
          refine Gives.neg (by decide) (Gives.eneg ho.1 (Gives.eneg ho.1 ?_))
          rw [wrap64 (by omega) (by omega)]
          exact hr _ ⟨i + 1, by omega, rfl⟩ (by dsimp only; omega)
    · have : i = k := by omega
      subst this
      refine Gives.dite (fun h2 => ?_) (fun h2 => ?_)
      · rw [lres_long h0 (by omega)]; exact Gives.of_some rfl
      · rw [lres_end h0 (by omega) (by omega)]; exact Gives.of_some rfl
section
variable {L : Nat} {f m : Int} {s c : List Int} (h : RI L f m s c)
include h
theorem at_in (n : Nat) (i : Nat) (hi : i < c.length) : at_ n ((s, (f, (m, ()))), (i : Int)) = some (c.getD i 0, true) := by
  rw [at_v h, if_pos (by omega), Int.toNat_natCast]
theorem at_out (n : Nat) (i : Nat) (hi : ¬ i < c.length) : at_ n ((s, (f, (m, ()))), (i : Int)) = some (0, false) := by
  rw [at_v h, if_neg (by omega)]
theorem line_v (n : Nat) (hn : 2000000 < n) (most : Int) (k : Nat) (hk : Brk c k) : ∃ f' m', line n (most, (f, (m, s))) = some ((lres c k most).1, f', m', s, (lres c k most).2.1) ∧ RI L f' m' s (lres c k most).2.2 := by
  have hL := h.hL; have h2 := h.h2; have hc := h.hc; have h1 := h.h1
  have key : Gives (line n (most, (f, (m, s)))) (fun r => ∃ f' m', r = ((lres c k most).1, f', m', s, (lres c k most).2.1) ∧ RI L f' m' s (lres c k most).2.2) := by
    unfold line
    dsimp only
    refine Gives.dite (fun h0 => ?_) (fun h0 => ?_)
    · rw [lres_neg h0]; exact Gives.of_some ⟨f, m, rfl, h⟩
    refine Gives.bind_eq (len_v h n) ?_
    refine Gives.loop (X := Int × Int × Int × Int × Int × List Int) (fun y => ∃ i : Nat, i ≤ k ∧ (∀ j : Nat, j < i → (j : Int) < most) ∧ y = (most, (c.length : Int), (i : Int), f, m, s)) (fun y => (y.2.1 - y.2.2.1).toNat) ?_ n _ ⟨0, by omega, fun j hj => absurd hj (by omega), rfl⟩ (by dsimp only; omega)
    rintro rec y ⟨i, hi, hm, rfl⟩ hr
    have hle := hk.le
    dsimp only
    refine Gives.dite (fun h1 => ?_) (fun h1 => ?_)
    · refine Gives.bind_eq (at_in h n i (by omega)) ?_
      rw [wrap64 (n := (i : Int) + 1) (by omega) (by omega)]
      by_cases e : i = k
      · subst e
        rcases hk.stop (by omega) with hb | hb
        · by_cases h3 : i + 1 < c.length
          · refine Gives.bind_eq (show _ = some (c.getD (i + 1) 0, true) from at_in h n (i + 1) h3) ?_
            dsimp only
            rw [hb, if_pos (by decide), Option.bind_some]
            dsimp only
            refine Gives.neg (by decide) ?_
            rw [if_pos (by decide), Option.bind_some]
            dsimp only
            refine Gives.eite (fun h4 => ?_) (fun h4 => ?_)
            · refine Gives.dite (fun h5 => ?_) (fun h5 => ?_)
              · rw [lres_long h0 (by omega)]; exact Gives.of_some ⟨f, m, rfl, h⟩
              · obtain ⟨f1, m1, e1, hr1⟩ := read_v h n (i : Int)
                obtain ⟨f2, m2, e2, hr2⟩ := skip_v hr1 n 2
                refine Gives.bind_eq e1 (Gives.bind_eq e2 ?_)
                rw [lres_ok h0 (by omega) (by omega) hb (by omega) h4]
                refine Gives.of_some ⟨f2, m2, ?_, ?_⟩
                · dsimp only; rw [Int.toNat_natCast]
                · rw [Int.toNat_natCast, List.drop_drop] at hr2
                  exact hr2
            · have tail : Gives (if (decide ((i : Int) > most)) = true then some ((2 : Int), (f, (m, (s, ([] : List Int))))) else some ((3 : Int), (f, (m, (s, ([] : List Int)))))) (fun r => ∃ f' m', r = ((lres c i most).1, f', m', s, (lres c i most).2.1) ∧ RI L f' m' s (lres c i most).2.2) := by
                refine Gives.dite (fun h5 => ?_) (fun h5 => ?_)
                · rw [lres_long h0 (by omega)]; exact Gives.of_some ⟨f, m, rfl, h⟩
                · rw [lres_crx h0 (by omega) (by omega) hb (by omega) h4]; exact Gives.of_some ⟨f, m, rfl, h⟩
              by_cases h6 : (i : Int) ≥ most
              · rw [if_pos (decide_eq_true h6), if_neg (by decide), Option.bind_some]
                dsimp only
                exact Gives.neg (by decide) (Gives.epos rfl tail)
              · rw [if_neg (by simpa using h6), Option.bind_some]
                dsimp only
                exact Gives.neg (by decide) (Gives.epos rfl tail)
          · refine Gives.bind_eq (show _ = some (0, false) from at_out h n (i + 1) h3) ?_
            dsimp only
            rw [hb, if_pos (by decide), Option.bind_some]
            dsimp only
            refine Gives.pos (by decide) ?_
            refine Gives.dite (fun h5 => ?_) (fun h5 => ?_)
            · rw [lres_long h0 (by omega)]; exact Gives.of_some ⟨f, m, rfl, h⟩
            · rw [lres_cr h0 (by omega) (by omega) hb (by omega)]; exact Gives.of_some ⟨f, m, rfl, h⟩
        · have hx : ∃ r, at_ n ((s, (f, (m, ()))), (i : Int) + 1) = some r := by
            rw [at_v h]; exact ⟨_, rfl⟩
          obtain ⟨r, er⟩ := hx
          refine Gives.bind_eq er ?_
          dsimp only
          rw [hb, if_neg (by decide), Option.bind_some]
          dsimp only
          refine Gives.neg (by decide) ?_
          rw [if_neg (by decide), Option.bind_some]
          dsimp only
          refine Gives.neg (by decide) ?_
          have tail : Gives (if (decide ((i : Int) > most)) = true then some ((2 : Int), (f, (m, (s, ([] : List Int))))) else some ((3 : Int), (f, (m, (s, ([] : List Int)))))) (fun r => ∃ f' m', r = ((lres c i most).1, f', m', s, (lres c i most).2.1) ∧ RI L f' m' s (lres c i most).2.2) := by
            refine Gives.dite (fun h5 => ?_) (fun h5 => ?_)
            · rw [lres_long h0 (by omega)]; exact Gives.of_some ⟨f, m, rfl, h⟩
            · rw [lres_nl h0 (by omega) (by omega) hb]; exact Gives.of_some ⟨f, m, rfl, h⟩
          by_cases h6 : (i : Int) ≥ most
          · rw [if_pos (decide_eq_true h6), if_pos (by decide), Option.bind_some]
            dsimp only
            exact Gives.neg (by decide) (Gives.eneg (by decide) (Gives.epos rfl tail))
          · rw [if_neg (by simpa using h6), Option.bind_some]
            dsimp only
            exact Gives.neg (by decide) (Gives.eneg (by decide) (Gives.epos rfl tail))
      · have ho := hk.ord i (by omega)
        have hx : ∃ r, at_ n ((s, (f, (m, ()))), (i : Int) + 1) = some r := by
          rw [at_v h]; exact ⟨_, rfl⟩
        obtain ⟨r, er⟩ := hx
        refine Gives.bind_eq er ?_
        dsimp only
        have n1 : ¬ (c.getD i 0 == 13) = true := by simpa using ho.1
        rw [if_neg n1, Option.bind_some]
        dsimp only
        refine Gives.neg (by decide) ?_
        rw [if_neg n1, Option.bind_some]
        dsimp only
        refine Gives.neg (by decide) ?_
        by_cases h6 : (i : Int) ≥ most
        · rw [if_pos (decide_eq_true h6), if_pos (by simpa using ho.1), Option.bind_some]
          dsimp only
          refine Gives.npos ho.2 ?_
          rw [lres_long h0 (by omega)]; exact Gives.of_some ⟨f, m, rfl, h⟩
        · rw [if_neg (by simpa using h6), Option.bind_some]
          dsimp only
          refine Gives.neg (by decide) (Gives.eneg ho.1 (Gives.eneg ho.2 ?_))
          rw [wrap64 (by omega) (by omega)]
          exact hr _ ⟨i + 1, by omega, fun j hj => by omega, rfl⟩ (by dsimp only; omega)
    · have : i = k := by omega
      subst this
      have h5 : ¬ most < (i : Int) := by
        intro h5
        have := hm (i - 1)
        omega
      rw [lres_end h0 h5 (by omega)]; exact Gives.of_some ⟨f, m, rfl, h⟩
  obtain ⟨r, e, f', m', rfl, hr⟩ := key
  exact ⟨f', m', e, hr⟩
end
/-- what Index comes to. -/
def ires (c : List Int) (b i : Int) : Int :=
  if i ≥ (c.length : Int) then -1 else if ixb (c.drop i.toNat) b < 0 then -1 else i + ixb (c.drop i.toNat) b
theorem drop_cons (c : List Int) (i : Nat) (h : i < c.length) : c.drop i = c.getD i 0 :: c.drop (i + 1) := by
  rw [List.drop_eq_getElem_cons h]
  congr 1
  simp [List.getD_eq_getElem?_getD, h]
theorem ires_step (c : List Int) (b : Int) (i : Nat) (h : i < c.length) (hb : c.getD i 0 ≠ b) : ires c b (i : Int) = ires c b ((i : Int) + 1) := by
  unfold ires
  rw [if_neg (by omega), Int.toNat_natCast, drop_cons c i h]
  rw [show ((i : Int) + 1).toNat = i + 1 by omega]
  have hr := ixb_range (c.drop (i + 1)) b
  have e : ixb (c.getD i 0 :: c.drop (i + 1)) b = if ixb (c.drop (i + 1)) b = -1 then -1 else ixb (c.drop (i + 1)) b + 1 := by
    rw [ixb, if_neg hb]
  rw [e]
  rw [List.length_drop] at hr
  generalize ixb (c.drop (i + 1)) b = r at hr ⊢
  by_cases h1 : r = -1
  · subst h1
    simp
  · rw [if_neg h1, if_neg (by omega), if_neg (by omega), if_neg (by omega)]
    omega
theorem rIndex_v (n : Nat) (hn : 2000000 < n) (x : Int) (c : List Int) (b i : Int) (hc : c.length ≤ 1048576) : rIndex n (x, c, b, i) = some (ires c b (if 0 > i then 0 else i)) := by
  apply Gives.eq
  unfold rIndex
  dsimp only
  have hj : 0 ≤ (if 0 > i then 0 else i) := by split <;> omega
  generalize (if 0 > i then 0 else i) = j at hj ⊢
  refine Gives.loop (X := Int × Int × Int × List Int) (fun y => ∃ q : Int, 0 ≤ q ∧ ires c b q = ires c b j ∧ y = (b, q, x, c)) (fun y => ((y.2.2.2.length : Int) - y.2.1).toNat) ?_ n _ ⟨j, hj, rfl, rfl⟩ (by dsimp only; omega)
  rintro rec y ⟨q, hq, he, rfl⟩ hr
  dsimp only
  refine Gives.dite (fun h1 => ?_) (fun h1 => ?_)
  · refine Gives.idx 0 hq h1 ?_
    obtain ⟨p, rfl⟩ : ∃ p : Nat, q = (p : Int) := ⟨q.toNat, by omega⟩
    rw [Int.toNat_natCast]
    refine Gives.eite (fun h2 => ?_) (fun h2 => ?_)
    · refine Gives.of_some ?_
      rw [← he, ires, if_neg (by omega), Int.toNat_natCast, drop_cons c p (by omega), ixb, if_pos h2]
      simp
    · rw [wrap64 (by omega) (by omega)]
      exact hr _ ⟨(p : Int) + 1, by omega, by rw [← he]; exact (ires_step c b p (by omega) h2).symm, rfl⟩ (by dsimp only; omega)
  · refine Gives.of_some ?_
    rw [← he, ires, if_pos (by omega)]
theorem index_v {L : Nat} {f m : Int} {s c : List Int} (h : RI L f m s c) (n : Nat) (b i : Int) : index n ((s, (f, (m, ()))), b, i) = some (ires c b (if 0 > i then 0 else i)) := by
  have hL := h.hL; have h2 := h.h2; have hc := h.hc; have h1 := h.h1
  apply Gives.eq
  unfold index
  dsimp only
  have hj : 0 ≤ (if 0 > i then 0 else i) := by split <;> omega
  generalize (if 0 > i then 0 else i) = j at hj ⊢
  refine Gives.bind_eq (len_v h n) ?_
  refine Gives.dite (fun h3 => ?_) (fun h3 => ?_)
  · refine Gives.of_some ?_
    rw [ires, if_pos h3]
  · refine Gives.bind_eq (len_v h n) ?_
    refine Gives.bind_eq (peek_v h n _) ?_
    have e1 : c.take (c.length : Int).toNat = c := by rw [Int.toNat_natCast]; exact List.take_of_length_le (Nat.le_refl _)
    rw [e1]
    refine Gives.pos (by omega) ?_
    have e2 : (c.drop j.toNat).take ((c.length : Int).toNat - j.toNat) = c.drop j.toNat := List.take_of_length_le (by rw [List.length_drop]; omega)
    rw [e2]
    refine Gives.bind_eq rfl ?_
    dsimp only
    have hr := ixb_range (c.drop j.toNat) b
    rw [List.length_drop] at hr
    refine Gives.dite (fun h4 => ?_) (fun h4 => ?_)
    · refine Gives.of_some ?_
      rw [ires, if_neg h3, if_pos h4]
    · refine Gives.of_some ?_
      rw [ires, if_neg h3, if_neg h4, wrap64 (by omega) (by omega)]
theorem rAt_v (n : Nat) (x : Int) (c : List Int) (i : Int) : rAt n (x, c, i) = some (if 0 ≤ i ∧ i < (c.length : Int) then (c.getD i.toNat 0, true) else (0, false)) := by
  unfold rAt
  dsimp only
  by_cases h0 : i < 0
  · rw [if_pos (decide_eq_true h0), if_neg (by omega)]
  · rw [if_neg (by simpa using h0)]
    by_cases h1 : i ≥ (c.length : Int)
    · rw [if_pos (decide_eq_true h1), if_neg (by omega)]
    · rw [if_neg (by simpa using h1), idx_eq 0 (by omega) (by omega), if_pos (by omega)]
      rfl
theorem same_v {L : Nat} {f m : Int} {s c : List Int} (h : RI L f m s c) (n : Nat) (hn : 2000000 < n) (x : Int) : same n ((s, (f, (m, ()))), ((L : Int), (c, x))) = some true := by
  have hL := h.hL; have h2 := h.h2; have hc := h.hc; have h1 := h.h1
  apply Gives.eq
  unfold same
  dsimp only
  refine Gives.bind_eq (at_v h n x) (Gives.bind_eq (rAt_v n _ c x) (Gives.bind_eq (rRead_v n _ c x (by omega)) (Gives.bind_eq (len_v h n) ?_)))
  refine Gives.epos rfl (Gives.bind_eq (room_v h n) ?_)
  rw [wrap64 (by omega) (by omega)]
  refine Gives.epos rfl (Gives.bind_eq (show size n _ = some (s.length : Int) from rfl) ?_)
  refine Gives.epos (by rw [hL]) ?_
  refine Gives.epos rfl (Gives.pos (by simp) (Gives.bind_eq (peek_v h n x) ?_))
  dsimp only
  refine Gives.pos (by simp) ?_
  refine Gives.bind_eq (index_v h n _ _) (Gives.bind_eq (rIndex_v n hn _ c _ _ (by omega)) ?_)
  exact Gives.of_some (by simp)
end Go.Sx.Ytojecfdacijcaaa
