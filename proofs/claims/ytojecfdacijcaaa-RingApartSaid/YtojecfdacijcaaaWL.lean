/- Part of a proof by a small interpreter on plain values; no condition. -/
import Derived.Test.YtojecfdacijcaaaSx20
import Derived.Test.YtojecfdacijcaaaW
namespace Go.Sx.Ytojecfdacijcaaa
open Go Go.Sx
set_option autoImplicit false
set_option linter.unusedVariables false
set_option linter.unusedSimpArgs false
theorem num_v (n : Nat) (x : Int) : turnstilelaw02Num n x = some x := by
  unfold turnstilelaw02Num
  by_cases h : x = 0
  · simp [h]
  · simp [h]
theorem getD_take (l : List Int) (k j : Nat) : (l.take k).getD j 0 = if j < k then l.getD j 0 else 0 := by
  simp only [List.getD_eq_getElem?_getD, List.getElem?_take]
  split <;> simp
theorem getD_drop (l : List Int) (k j : Nat) : (l.drop k).getD j 0 = l.getD (k + j) 0 := by
  simp only [List.getD_eq_getElem?_getD, List.getElem?_drop]
theorem mod2 {L a b : Nat} (ha : a < L) (hb : b < L) : (a + b) % L = if a + b < L then a + b else a + b - L := by
  split
  · rename_i h; exact Nat.mod_eq_of_lt h
  · rename_i h
    rw [Nat.mod_eq_sub_mod (by omega), Nat.mod_eq_of_lt (by omega)]
/-- a ring and its bytes. -/
structure RI (L : Nat) (f m : Int) (s c : List Int) : Prop where
  hL : s.length = L
  h1 : 1 ≤ L
  h2 : L ≤ 1048576
  f0 : 0 ≤ f
  f1 : f < (L : Int)
  hm : m = (c.length : Int)
  hc : c.length ≤ L
  at_ : ∀ i, i < c.length → c.getD i 0 = s.getD ((f.toNat + i) % L) 0
section
variable {L : Nat} {f m : Int} {s c : List Int} (h : RI L f m s c)
include h
theorem place_v (n : Nat) (i : Int) (h0 : 0 ≤ i) (hi : i ≤ 4000000) : place n ((s, (f, (m, ()))), i) = some (((f.toNat + i.toNat) % L : Nat) : Int) := by
  unfold place
  dsimp only
  have := h.hL; have := h.h1; have := h.h2; have := h.f0; have := h.f1
  rw [if_neg (by omega), wrap64 (by omega) (by omega), Int.tmod_eq_emod_of_nonneg (by omega), h.hL]
  have : f + i = ((f.toNat + i.toNat : Nat) : Int) := by omega
  rw [this]; rfl
theorem len_v (n : Nat) : len n (s, (f, (m, ()))) = some (c.length : Int) := by unfold len; rw [h.hm]
theorem room_v (n : Nat) : room n (s, (f, (m, ()))) = some ((L : Int) - (c.length : Int)) := by
  have := h.hL; have := h.h2; have := h.hc; have := h.hm
  unfold room size len
  simp only [Option.bind_some]
  rw [wrap64 (by omega) (by omega), h.hL, h.hm]
theorem at_v (n : Nat) (i : Int) : at_ n ((s, (f, (m, ()))), i) = some (if 0 ≤ i ∧ i < (c.length : Int) then (c.getD i.toNat 0, true) else (0, false)) := by
  unfold at_
  dsimp only
  have := h.hL; have := h.h2; have := h.hc; have := h.h1
  by_cases h0 : i < 0
  · rw [if_pos (decide_eq_true h0), if_neg (by omega)]
  · rw [if_neg (by simpa using h0), len_v h]
    simp only [Option.bind_some]
    by_cases h1 : i ≥ (c.length : Int)
    · rw [if_pos (decide_eq_true h1), if_neg (by omega)]
    · rw [if_neg (by simpa using h1), place_v h n i (by omega) (by omega)]
      simp only [Option.bind_some]
      have hlt : (f.toNat + i.toNat) % L < L := Nat.mod_lt _ (by omega)
      rw [idx_eq 0 (by omega) (by omega), if_pos (by omega), Int.toNat_natCast, ← h.at_ i.toNat (by omega)]
      rfl
theorem peek_v (n : Nat) (k : Int) : peek n ((s, (f, (m, ()))), k) = some (c.take k.toNat) := by
  have hL := h.hL; have h2 := h.h2; have hc := h.hc; have h1 := h.h1; have f0 := h.f0; have f1 := h.f1
  apply Gives.eq
  unfold peek
  dsimp only
  refine Gives.bind_eq (len_v h n) ?_
  have hk : (if 0 > (if (c.length : Int) < k then (c.length : Int) else k) then (0 : Int) else (if (c.length : Int) < k then (c.length : Int) else k)) = ((min c.length k.toNat : Nat) : Int) := by
    split <;> split <;> omega
  try dsimp only
  rw [hk]
  have htk : c.take k.toNat = c.take (min c.length k.toNat) := by
    rcases Nat.le_total c.length k.toNat with hh | hh
    · rw [Nat.min_eq_left hh, List.take_of_length_le hh, List.take_of_length_le (Nat.le_refl _)]
    · rw [Nat.min_eq_right hh]
  rw [htk]
  have hq : min c.length k.toNat ≤ c.length := Nat.min_le_left _ _
  generalize min c.length k.toNat = q at hq ⊢
  refine Gives.pos (by omega) ?_
  refine Gives.dite (fun h0 => ?_) (fun h0 => Gives.of_some ?_)
  · refine Gives.pos (by omega) ?_
    simp only [Int.toNat_natCast, List.length_replicate]
    have e1 : ((s.drop f.toNat).take (s.length - f.toNat)) = s.drop f.toNat := List.take_of_length_le (by rw [List.length_drop]; exact Nat.le_refl _)
    rw [e1]
    have e2 : (s.drop f.toNat).length = L - f.toNat := by rw [List.length_drop, hL]
    rw [e2]
    have e3 : ((s.drop f.toNat).take q ++ (List.replicate q (0 : Int)).drop (L - f.toNat)).length = q := by
      simp only [List.length_append, List.length_take, List.length_drop, List.length_replicate, hL]; omega
    rw [e3]
    refine Gives.pos (by omega) (Gives.of_some ?_)
    apply ext_getD
    · simp only [List.length_append, List.length_take, List.length_drop, List.length_replicate, hL]; omega
    · intro j hj
      have hjq : j < q := by
        simp only [List.length_append, List.length_take, List.length_drop, List.length_replicate, hL] at hj; omega
      rw [getD_take, if_pos hjq, h.at_ j (by omega), mod2 (by omega) (by omega)]
      rw [getD_app, getD_app]
      simp only [List.length_append, List.length_take, List.length_drop, List.length_replicate, hL, getD_take, getD_drop, getD_app]
      by_cases c1 : j < L - f.toNat
      · rw [if_pos (by omega), if_pos (by omega), if_pos (by omega), if_pos (by omega), if_pos (by omega), if_pos (by omega)]
      · rw [if_neg (show ¬ f.toNat + j < L by omega), if_pos (by omega), if_neg (by omega), if_pos (by omega)]
        congr 1; omega
  · have : q = 0 := by omega
    subst this
    simp
theorem skip_v (n : Nat) (k : Int) : ∃ f' m', skip n (k, (f, (m, s))) = some (((min c.length k.toNat : Nat) : Int), f', m', s) ∧ RI L f' m' s (c.drop k.toNat) := by
  have hL := h.hL; have h2 := h.h2; have hc := h.hc; have h1 := h.h1; have f0 := h.f0; have f1 := h.f1; have hm := h.hm
  unfold skip
  dsimp only
  rw [len_v h]
  simp only [Option.bind_some]
  have hk : (if 0 > (if (c.length : Int) < k then (c.length : Int) else k) then (0 : Int) else (if (c.length : Int) < k then (c.length : Int) else k)) = ((min c.length k.toNat : Nat) : Int) := by
    split <;> split <;> omega
  rw [hk]
  have htk : c.drop k.toNat = c.drop (min c.length k.toNat) := by
    rcases Nat.le_total c.length k.toNat with hh | hh
    · rw [Nat.min_eq_left hh, List.drop_eq_nil_of_le hh, List.drop_eq_nil_of_le (Nat.le_refl _)]
    · rw [Nat.min_eq_right hh]
  rw [htk]
  have hq : min c.length k.toNat ≤ c.length := Nat.min_le_left _ _
  generalize min c.length k.toNat = q at hq ⊢
  by_cases h0 : (q : Int) > 0
  · rw [if_pos (decide_eq_true h0), place_v h n q (by omega) (by omega)]
    simp only [Option.bind_some]
    rw [wrap64 (by omega) (by omega)]
    refine ⟨_, _, rfl, hL, h1, h2, by omega, ?_, by rw [List.length_drop]; omega, by rw [List.length_drop]; omega, fun i hi => ?_⟩
    · have := Nat.mod_lt (f.toNat + (q : Int).toNat) (show 0 < L by omega); omega
    · rw [List.length_drop] at hi
      rw [getD_drop, h.at_ (q + i) (by omega)]
      congr 1
      rw [Int.toNat_natCast, Int.toNat_natCast, Nat.mod_add_mod, Nat.add_assoc]
  · rw [if_neg (by simpa using h0)]
    have : q = 0 := by omega
    subst this
    exact ⟨f, m, rfl, by simpa using h⟩
theorem read_v (n : Nat) (k : Int) : ∃ f' m', read n (k, (f, (m, s))) = some (f', m', s, c.take k.toNat) ∧ RI L f' m' s (c.drop k.toNat) := by
  unfold read
  dsimp only
  rw [peek_v h]
  simp only [Option.bind_some]
  obtain ⟨f', m', e, hr⟩ := skip_v h n ((c.take k.toNat).length : Int)
  rw [e]
  refine ⟨f', m', rfl, ?_⟩
  rw [Int.toNat_natCast, List.length_take] at hr
  have : c.drop (min k.toNat c.length) = c.drop k.toNat := by
    rcases Nat.le_total c.length k.toNat with hh | hh
    · rw [Nat.min_eq_right hh, List.drop_eq_nil_of_le hh, List.drop_eq_nil_of_le (Nat.le_refl _)]
    · rw [Nat.min_eq_left hh]
  rwa [this] at hr
theorem clear_v (n : Nat) : ∃ f' m', clear n (f, (m, s)) = some ((c.length : Int), f', m', s) ∧ RI L f' m' s [] := by
  unfold clear
  dsimp only
  rw [len_v h]
  simp only [Option.bind_some]
  obtain ⟨f', m', e, hr⟩ := skip_v h n (c.length : Int)
  rw [e]
  refine ⟨f', m', ?_, ?_⟩
  · simp
  · simpa using hr
theorem push (v : Int) (hlt : c.length < L) : RI L f (m + 1) (s.set ((f.toNat + c.length) % L) v) (c ++ [v]) := by
  have hL := h.hL; have h2 := h.h2; have h1 := h.h1; have f0 := h.f0; have f1 := h.f1; have hm := h.hm
  refine ⟨by rw [List.length_set]; exact hL, h1, h2, f0, f1, by simp; omega, by simp; omega, fun i hi => ?_⟩
  have hp : (f.toNat + c.length) % L < L := Nat.mod_lt _ (by omega)
  rw [getD_set, getD_app]
  simp only [List.length_append, List.length_cons, List.length_nil] at hi
  by_cases e : i < c.length
  · rw [if_pos e, if_neg ?_, h.at_ i e]
    rw [mod2 (by omega) (by omega), mod2 (by omega) (by omega)]
    split <;> split <;> omega
  · have : i = c.length := by omega
    subst this
    rw [if_neg e, if_pos ⟨rfl, by omega⟩]
    simp
theorem write_v (n : Nat) (hn : 2000000 < n) (b : List Int) : ∃ m' s', write n (b, (f, (m, s))) = some (((min (L - c.length) b.length : Nat) : Int), f, m', s') ∧ RI L f m' s' (c ++ b.take (L - c.length)) := by
  have hL := h.hL; have h2 := h.h2; have hc := h.hc; have h1 := h.h1; have f0 := h.f0; have f1 := h.f1; have hm := h.hm
  have key : Gives (write n (b, (f, (m, s)))) (fun r => ∃ m' s', r = (((min (L - c.length) b.length : Nat) : Int), f, m', s') ∧ RI L f m' s' (c ++ b.take (L - c.length))) := by
    unfold write
    dsimp only
    refine Gives.bind_eq (room_v h n) ?_
    have hk : (if (L : Int) - (c.length : Int) < (b.length : Int) then (L : Int) - (c.length : Int) else (b.length : Int)) = ((min (L - c.length) b.length : Nat) : Int) := by
      split <;> omega
    try dsimp only
    rw [hk]
    have htk : b.take (L - c.length) = b.take (min (L - c.length) b.length) := by
      rcases Nat.le_total b.length (L - c.length) with hh | hh
      · rw [Nat.min_eq_right hh, List.take_of_length_le hh, List.take_of_length_le (Nat.le_refl _)]
      · rw [Nat.min_eq_left hh]
    rw [htk]
    have hq1 : min (L - c.length) b.length ≤ L - c.length := Nat.min_le_left _ _
    have hq2 : min (L - c.length) b.length ≤ b.length := Nat.min_le_right _ _
    generalize min (L - c.length) b.length = q at hq1 hq2 ⊢
    refine Gives.loop (X := List Int × Int × Int × Int × Int × Int × List Int) (fun y => ∃ (i : Nat) (s' : List Int), i ≤ q ∧ RI L f (m + i) s' (c ++ b.take i) ∧ y = (b, (q : Int), (q : Int), (i : Int), f, m, s')) (fun y => (y.2.1 - y.2.2.2.1).toNat) ?_ n _ ⟨0, s, by omega, by simpa using h, rfl⟩ (by dsimp only; omega)
    rintro rec y ⟨i, s', hi, hs, rfl⟩ hr
    dsimp only
    refine Gives.dite (fun hlt => ?_) (fun hge => Gives.of_some ?_)
    · have hs0 : RI L f m s' c := ⟨hs.hL, h1, h2, f0, f1, hm, hc, fun j hj => by
        have := hs.at_ j (by simp; omega)
        rw [getD_app, if_pos hj] at this
        exact this⟩
      rw [wrap64 (n := m + i) (by omega) (by omega)]
      refine Gives.bind_eq (place_v hs0 n (m + i) (by omega) (by omega)) ?_
      refine Gives.idx 0 (by omega) (by omega) ?_
      rw [Int.toNat_natCast]
      have hp : (f.toNat + (m + (i : Int)).toNat) % L < L := Nat.mod_lt _ (by omega)
      refine Gives.pos (by rw [hs.hL]; omega) ?_
      rw [wrap64 (by omega) (by omega), Int.toNat_natCast]
      have hl : (c ++ b.take i).length = c.length + i := by simp; omega
      have hpush := push hs (b.getD i 0) (by omega)
      rw [hl] at hpush
      have e1 : (m + (i : Int)).toNat = c.length + i := by omega
      rw [e1]
      have e2 : c ++ b.take i ++ [b.getD i 0] = c ++ b.take (i + 1) := by
        rw [List.append_assoc, List.take_add_one]
        congr 2
        have : i < b.length := by omega
        simp [List.getD_eq_getElem?_getD, this]
      rw [e2] at hpush
      exact hr _ ⟨i + 1, _, by omega, by rw [show m + ((i + 1 : Nat) : Int) = m + (i : Int) + 1 by omega]; exact hpush, rfl⟩ (by dsimp only; omega)
    · have : i = q := by omega
      subst this
      rw [wrap64 (by omega) (by omega)]
      exact ⟨_, _, rfl, hs⟩
  obtain ⟨r, e, m', s', rfl, hri⟩ := key
  exact ⟨m', s', e, hri⟩
theorem writeK_v (n : Nat) (hn : 2000000 < n) (b : List Int) : ∃ m' s', writeK n (f, (m, (s, b))) = some (((min (L - c.length) b.length : Nat) : Int), f, m', s', b) ∧ RI L f m' s' (c ++ b.take (L - c.length)) := by
  have hL := h.hL; have h2 := h.h2; have hc := h.hc; have h1 := h.h1; have f0 := h.f0; have f1 := h.f1; have hm := h.hm
  have key : Gives (writeK n (f, (m, (s, b)))) (fun r => ∃ m' s', r = (((min (L - c.length) b.length : Nat) : Int), f, m', s', b) ∧ RI L f m' s' (c ++ b.take (L - c.length))) := by
    unfold writeK
    dsimp only
    refine Gives.bind_eq (room_v h n) ?_
    have hk : (if (L : Int) - (c.length : Int) < (b.length : Int) then (L : Int) - (c.length : Int) else (b.length : Int)) = ((min (L - c.length) b.length : Nat) : Int) := by
      split <;> omega
    try dsimp only
    rw [hk]
    have htk : b.take (L - c.length) = b.take (min (L - c.length) b.length) := by
      rcases Nat.le_total b.length (L - c.length) with hh | hh
      · rw [Nat.min_eq_right hh, List.take_of_length_le hh, List.take_of_length_le (Nat.le_refl _)]
      · rw [Nat.min_eq_left hh]
    rw [htk]
    have hq1 : min (L - c.length) b.length ≤ L - c.length := Nat.min_le_left _ _
    have hq2 : min (L - c.length) b.length ≤ b.length := Nat.min_le_right _ _
    generalize min (L - c.length) b.length = q at hq1 hq2 ⊢
    refine Gives.loop (X := Int × Int × Int × Int × Int × List Int × List Int) (fun y => ∃ (i : Nat) (s' : List Int), i ≤ q ∧ RI L f (m + i) s' (c ++ b.take i) ∧ y = ((q : Int), (q : Int), (i : Int), f, m, s', b)) (fun y => (y.1 - y.2.2.1).toNat) ?_ n _ ⟨0, s, by omega, by simpa using h, rfl⟩ (by dsimp only; omega)
    rintro rec y ⟨i, s', hi, hs, rfl⟩ hr
    dsimp only
    refine Gives.dite (fun hlt => ?_) (fun hge => Gives.of_some ?_)
    · have hs0 : RI L f m s' c := ⟨hs.hL, h1, h2, f0, f1, hm, hc, fun j hj => by
        have := hs.at_ j (by simp; omega)
        rw [getD_app, if_pos hj] at this
        exact this⟩
      rw [wrap64 (n := m + i) (by omega) (by omega)]
      refine Gives.bind_eq (place_v hs0 n (m + i) (by omega) (by omega)) ?_
      have hp : (f.toNat + (m + (i : Int)).toNat) % L < L := Nat.mod_lt _ (by omega)
      refine Gives.pos (by omega) (Gives.pos (by rw [hs.hL]; omega) ?_)
      rw [wrap64 (by omega) (by omega), Int.toNat_natCast, Int.toNat_natCast]
      have hl : (c ++ b.take i).length = c.length + i := by simp; omega
      have hpush := push hs (b.getD i 0) (by omega)
      rw [hl] at hpush
      have e1 : (m + (i : Int)).toNat = c.length + i := by omega
      rw [e1]
      have e2 : c ++ b.take i ++ [b.getD i 0] = c ++ b.take (i + 1) := by
        rw [List.append_assoc, List.take_add_one]
        congr 2
        have : i < b.length := by omega
        simp [List.getD_eq_getElem?_getD, this]
      rw [e2] at hpush
      exact hr _ ⟨i + 1, _, by omega, by rw [show m + ((i + 1 : Nat) : Int) = m + (i : Int) + 1 by omega]; exact hpush, rfl⟩ (by dsimp only; omega)
    · have : i = q := by omega
      subst this
      rw [wrap64 (by omega) (by omega)]
      exact ⟨_, _, rfl, hs⟩
  obtain ⟨r, e, m', s', rfl, hri⟩ := key
  exact ⟨m', s', e, hri⟩
end
theorem rnew_v (n : Nat) (x : Int) : (rnew n x = some (Sum.inl ()) ∧ rNew n x = some (0, [], 1)) ∨ (∃ (s : List Int) (L : Nat), x = (L : Int) ∧ rnew n x = some (Sum.inr (0, 0, s)) ∧ rNew n x = some (x, [], 0) ∧ RI L 0 0 s []) := by
  unfold rnew rNew
  by_cases h1 : x < 1
  · left
    rw [if_pos (decide_eq_true h1), if_pos (decide_eq_true h1)]
    exact ⟨rfl, rfl⟩
  · have d1 : ¬ decide (x < 1) = true := by simpa using h1
    rw [if_neg d1, if_neg d1]
    by_cases h2 : x > 1048576
    · left
      rw [if_pos (decide_eq_true h2), if_pos (decide_eq_true h2)]
      exact ⟨rfl, rfl⟩
    · right
      have d2 : ¬ decide (x > 1048576) = true := by simpa using h2
      rw [if_neg d2, if_neg d2, if_pos (by omega)]
      exact ⟨_, x.toNat, by omega, rfl, rfl, by simp, by omega, by omega, by omega, by omega, rfl, by simp, fun i hi => by simp at hi⟩
end Go.Sx.Ytojecfdacijcaaa
