/- Part of a proof by a small interpreter on plain values; no condition. -/
import Derived.Test.YtkaflgmmkocjcaaDoorWN1
namespace Go.Sx.YtkaflgmmkocjcaaDoor
open Go Go.Sx
set_option autoImplicit false
set_option linter.unusedVariables false
set_option linter.unusedSimpArgs false
set_option maxRecDepth 20000
theorem dgo_four (L : Nat) (hL : L % 4 = 1) : ∀ (cs : List Int) (p : Nat) (n : Int) (acc : List Int), dgo L cs p n acc = ([], 3)
  | [], p, n, acc => by rw [dgo, if_pos (.inr hL)]
  | c :: cs, p, n, acc => by
    unfold dgo
    split
    · rfl
    · split
      · exact dgo_four L hL cs _ _ _
      · split
        · exact dgo_four L hL cs _ _ _
        · split
          · exact dgo_four L hL cs _ _ _
          · exact dgo_four L hL cs _ _ _
theorem rDigit_v (n : Nat) (hn : 100 < n) (c : Int) : rDigit n c = some (if 0 ≤ ixb DIG c then (ixb DIG c, true) else (0, false)) := by
  apply Gives.eq
  unfold rDigit
  have hD : DIG.length = 64 := rfl
  refine Gives.loop (X := Int × Int) (fun y => ∃ i : Nat, i ≤ 64 ∧ (if ixb (DIG.drop i) c = -1 then (-1 : Int) else (i : Int) + ixb (DIG.drop i) c) = ixb DIG c ∧ y = (c, (i : Int))) (fun y => (64 - y.2).toNat) ?_ n _ ⟨0, by omega, by rw [List.drop_zero]; split <;> omega, rfl⟩ (by dsimp only; omega)
  rintro rec y ⟨i, hi, he, rfl⟩ hr
  dsimp only
  refine Gives.dite (fun h1 => ?_) (fun h1 => ?_)
  · refine Gives.idx 0 (by omega) (show (i : Int) < (DIG.length : Int) by omega) ?_
    rw [Int.toNat_natCast]
    rw [drop_cons DIG i (by omega), ixb] at he
    refine Gives.eite (fun h2 => ?_) (fun h2 => ?_)
    · rw [if_pos (show DIG.getD i 0 = c from h2)] at he
      refine Gives.of_some ?_
      rw [if_neg (by decide)] at he
      rw [if_pos (by omega), ← he]
      simp
    · rw [if_neg (show ¬ DIG.getD i 0 = c from h2)] at he
      rw [wrap64 (by omega) (by omega)]
      refine hr _ ⟨i + 1, by omega, ?_, rfl⟩ (by dsimp only; omega)
      have hg := ixb_range (DIG.drop (i + 1)) c
      generalize ixb (DIG.drop (i + 1)) c = z at he hg ⊢
      rw [← he]
      by_cases hz : z = -1
      · subst hz; simp
      · rw [if_neg hz, if_neg hz, if_neg (by omega)]; omega
  · have : i = 64 := by omega
    subst this
    refine Gives.of_some ?_
    have e : ixb (DIG.drop 64) c = -1 := rfl
    rw [e, if_pos rfl] at he
    rw [if_neg (by omega)]
theorem rDecode_v (n : Nat) (s : List Int) (hs : s.length ≤ 140737488355328) (hn : s.length < n) (hn2 : 100 < n) : rDecode n s = some (dgo s.length s 0 0 []) := by
  apply Gives.eq
  unfold rDecode
  dsimp only
  rw [Int.tmod_eq_emod_of_nonneg (by omega)]
  refine Gives.eite (fun hL => ?_) (fun hL => ?_)
  · rw [dgo_four _ (by omega)]
    exact Gives.of_some rfl
  refine Gives.loop (X := (List Int) × Int × Int × Int × List Int) (fun y => ∃ (i p : Nat) (m : Int) (acc : List Int), i ≤ s.length ∧ acc.length ≤ i ∧ dOk p m ∧ dgo s.length (s.drop i) p m acc = dgo s.length s 0 0 [] ∧ y = (s, m, (p : Int), (i : Int), acc)) (fun y => ((y.1.length : Int) - y.2.2.2.1).toNat) ?_ n _ ⟨0, 0, 0, [], by omega, by simp, ⟨by omega, .inl ⟨rfl, by omega⟩⟩, rfl, rfl⟩ (by dsimp only; omega)
  rintro rec y ⟨i, p, m, acc, hi, ha, hp, he, rfl⟩ hr
  dsimp only
  refine Gives.dite (fun h1 => ?_) (fun h1 => ?_)
  · refine Gives.idx 0 (by omega) h1 ?_
    rw [Int.toNat_natCast]
    refine Gives.bind_eq (rDigit_v n hn2 _) ?_
    rw [drop_cons s i (by omega), dgo] at he
    generalize s.getD i 0 = c at he ⊢
    rcases dig_range c with hd | ⟨hd1, hd2⟩
    · rw [if_neg (show ¬ 0 ≤ ixb DIG c by omega)]
      rw [if_pos (show ixb DIG c < 0 by omega)] at he
      refine Gives.pos (by simp) (Gives.of_some he)
    · rw [if_pos (show 0 ≤ ixb DIG c from hd1)]
      rw [if_neg (show ¬ ixb DIG c < 0 by omega)] at he
      refine Gives.neg (by simp) ?_
      generalize ixb DIG c = d at he hd1 hd2 ⊢
      dsimp only
      obtain ⟨hm0, hp⟩ := hp
      have hm : m < 64 := by omega
      have hor : bits .or .i64 (IntKind.wrap .i64 (m * 64)) d = m * 64 + d := by
        rw [wrap64 (by omega) (by omega)]
        exact or_shl (.inr rfl) 6 rfl hm0 (by omega) hd1 hd2 (by omega)
      rw [hor, wrap64 (n := (p : Int) + 6) (by omega) (by omega), wrap64 (n := (i : Int) + 1) (by omega) (by omega)]
      rcases hp with ⟨rfl, hq⟩ | ⟨rfl, hq⟩ | ⟨rfl, hq⟩ | ⟨rfl, hq⟩
      · rw [if_pos rfl] at he
        refine Gives.dneg (by omega) ?_
        exact hr _ ⟨i + 1, 6, _, _, by omega, by omega, ⟨by omega, .inr (.inl ⟨rfl, by omega⟩)⟩, he, rfl⟩ (by dsimp only; omega)
      · rw [if_neg (by omega), if_pos rfl] at he
        refine Gives.dpos (by omega) ?_
        have e4 : IntKind.wrap .i64 (((6 : Nat) : Int) + 6 - 8) = 4 := by decide
        rw [e4]
        refine Gives.neg (by decide) ?_
        have e5 : Int.fdiv (m * 64 + d) (2 ^ (min (IntKind.wrap .u64 4).toNat 64)) = (m * 64 + d) / 16 := by rw [show (2 : Int) ^ (min (IntKind.wrap .u64 4).toNat 64) = 16 from rfl, fdiv_pos (by omega)]
        rw [e5]
        refine Gives.pos (by omega) (Gives.neg (by decide) ?_)
        have e6 : IntKind.wrap .i64 (IntKind.wrap .i64 (1 * 2 ^ (min (IntKind.wrap .u64 4).toNat 64)) - 1) = 15 := by decide
        rw [e6, and_low (m := 15) (.inr rfl) 4 rfl (by omega) (by omega) (by omega), wrap_u8 (n := (m * 64 + d) / 16) (by omega) (by omega)]
        exact hr _ ⟨i + 1, 4, _, _, by omega, by simp; omega, ⟨by omega, .inr (.inr (.inl ⟨rfl, by omega⟩))⟩, he, rfl⟩ (by dsimp only; omega)
      · rw [if_neg (by omega), if_neg (by omega), if_pos rfl] at he
        refine Gives.dpos (by omega) ?_
        have e4 : IntKind.wrap .i64 (((4 : Nat) : Int) + 6 - 8) = 2 := by decide
        rw [e4]
        refine Gives.neg (by decide) ?_
        have e5 : Int.fdiv (m * 64 + d) (2 ^ (min (IntKind.wrap .u64 2).toNat 64)) = (m * 64 + d) / 4 := by rw [show (2 : Int) ^ (min (IntKind.wrap .u64 2).toNat 64) = 4 from rfl, fdiv_pos (by omega)]
        rw [e5]
        refine Gives.pos (by omega) (Gives.neg (by decide) ?_)
        have e6 : IntKind.wrap .i64 (IntKind.wrap .i64 (1 * 2 ^ (min (IntKind.wrap .u64 2).toNat 64)) - 1) = 3 := by decide
        rw [e6, and_low (m := 3) (.inr rfl) 2 rfl (by omega) (by omega) (by omega), wrap_u8 (n := (m * 64 + d) / 4) (by omega) (by omega)]
        exact hr _ ⟨i + 1, 2, _, _, by omega, by simp; omega, ⟨by omega, .inr (.inr (.inr ⟨rfl, by omega⟩))⟩, he, rfl⟩ (by dsimp only; omega)
      · rw [if_neg (by omega), if_neg (by omega), if_neg (by omega)] at he
        refine Gives.dpos (by omega) ?_
        have e4 : IntKind.wrap .i64 (((2 : Nat) : Int) + 6 - 8) = 0 := by decide
        rw [e4]
        refine Gives.neg (by decide) ?_
        have e5 : Int.fdiv (m * 64 + d) (2 ^ (min (IntKind.wrap .u64 0).toNat 64)) = m * 64 + d := by rw [show (2 : Int) ^ (min (IntKind.wrap .u64 0).toNat 64) = 1 from rfl, fdiv_pos (by omega)]; omega
        rw [e5]
        refine Gives.pos (by omega) (Gives.neg (by decide) ?_)
        have e6 : IntKind.wrap .i64 (IntKind.wrap .i64 (1 * 2 ^ (min (IntKind.wrap .u64 0).toNat 64)) - 1) = 0 := by decide
        rw [e6, and_low (m := 0) (.inr rfl) 0 rfl (by omega) (by omega) (by omega), wrap_u8 (n := m * 64 + d) (by omega) (by omega)]
        have e7 : (m * 64 + d) % (0 + 1) = 0 := by omega
        rw [e7]
        exact hr _ ⟨i + 1, 0, _, _, by omega, by simp; omega, ⟨by omega, .inl ⟨rfl, by omega⟩⟩, he, rfl⟩ (by dsimp only; omega)
  · have : i = s.length := by omega
    subst this
    rw [List.drop_length, dgo] at he
    refine Gives.nite (fun h2 => ?_) (fun h2 => ?_)
    · rw [if_pos (.inl h2)] at he
      exact Gives.of_some he
    · rw [if_neg (by omega)] at he
      exact Gives.of_some he

theorem sure_w : sure 281474976710700 () = some true := by kernel_rfl
theorem b64Reads_true (s : List Int) (hs : s.length ≤ 140737488355328) : b64Reads 281474976710700 s = some true := by
  apply Gives.eq
  unfold b64Reads
  refine Gives.bind_eq (decode_v _ s hs (by omega)) (Gives.bind_eq (rDecode_v _ s hs (by omega) (by omega)) ?_)
  refine Gives.pos (by simp) (Gives.bind_eq (num_eq _ _) (Gives.epos rfl ?_))
  exact Gives.bind_eq sure_w (Gives.of_some rfl)
end Go.Sx.YtkaflgmmkocjcaaDoor
