/- Part of a proof by a small interpreter on plain values; no condition. -/
import Derived.Test.YtbiipgbejlfkbaaGreatDoorWi
namespace Go.Sx.YtbiipgbejlfkbaaGreatDoor
open Go Go.Sx Go.Proofs
set_option autoImplicit false
set_option linter.unusedVariables false
set_option linter.unusedSimpArgs false
abbrev tab : List Int := [48, 49, 50, 51, 52, 53, 54, 55, 56, 57, 97, 98, 99, 100, 101, 102]
def ds (m : Nat) : List Int := if h : m < 10 then [48 + (m : Int)] else ds (m / 10) ++ [48 + ((m % 10 : Nat) : Int)]
termination_by m
decreasing_by omega
theorem ds_small {m : Nat} (h : m < 10) : ds m = [48 + (m : Int)] := by rw [ds, dif_pos h]
theorem ds_big {m : Nat} (h : ¬ m < 10) : ds m = ds (m / 10) ++ [48 + ((m % 10 : Nat) : Int)] := by rw [ds, dif_neg h]
theorem dig : ∀ d : Fin 10, idx tab (d.val : Int) = some (48 + (d.val : Int)) := by decide
theorem dig2 : ∀ d : Fin 10, (tab.drop d.val).take (d.val + 1 - d.val) = [48 + (d.val : Int)] := by decide
theorem tmod10 (m : Nat) : Int.tmod (m : Int) 10 = ((m % 10 : Nat) : Int) := by
  rw [Int.tmod_eq_emod_of_nonneg (by omega)]; omega
theorem wrap_u {n : Int} (h1 : 0 ≤ n) (h2 : n < 18446744073709551616) : IntKind.wrap .u64 n = n := by rw [wrap_u64]; omega
theorem tdiv10 (m : Nat) (h : m < 18446744073709551616) : IntKind.wrap .u64 (Int.tdiv (m : Int) 10) = ((m / 10 : Nat) : Int) := by
  rw [Int.tdiv_eq_ediv_of_nonneg (by omega), wrap_u (by omega) (by omega)]; omega
theorem ds_len (m : Nat) : ∀ k, m < 10 ^ (k + 1) → (ds m).length ≤ k + 1 := by
  intro k
  induction k generalizing m with
  | zero => intro h; rw [ds_small (by simpa using h)]; simp
  | succ k ih =>
    intro h
    by_cases c : m < 10
    · rw [ds_small c]; simp
    · rw [ds_big c]
      have := ih (m / 10) (by rw [Nat.pow_succ] at h; exact Nat.div_lt_of_lt_mul (by rw [Nat.mul_comm]; exact h))
      simp; omega
theorem rTold_v (n : Nat) (hn : 30 < n) (m : Nat) (hm : m < 18446744073709551616) : rTold n ((m : Int), 10) = some (ds m) := by
  apply Gives.eq
  unfold rTold
  dsimp only
  refine Gives.loop (X := Int × Int × List Int) (fun y => ∃ (k cur : Nat) (acc : List Int), k < 20 ∧ acc.length = k ∧ cur < 10 ^ (20 - k) ∧ cur ≤ m ∧ ds m = ds cur ++ acc ∧ y = ((cur : Int), 10, acc))
    (fun y => 20 - y.2.2.length) ?_ n _ ⟨0, m, [], by omega, rfl, by omega, by omega, by simp, rfl⟩ (by simp; omega)
  rintro rec y ⟨k, cur, acc, hk, ha, hc, hcm, h1, rfl⟩ hr
  dsimp only
  refine Gives.neg (by decide) (Gives.neg (by decide) ?_)
  rw [tmod10, tdiv10 cur (by omega), wrap_u (n := ((cur % 10 : Nat) : Int) + 1) (by omega) (by omega)]
  refine Gives.pos (by omega) ?_
  have e1 : (tab.drop (((cur % 10 : Nat) : Int)).toNat).take ((((cur % 10 : Nat) : Int) + 1).toNat - (((cur % 10 : Nat) : Int)).toNat) = [48 + ((cur % 10 : Nat) : Int)] := by
    have := dig2 ⟨cur % 10, Nat.mod_lt _ (by decide)⟩
    rw [show (((cur % 10 : Nat) : Int) + 1).toNat = cur % 10 + 1 from by omega, Int.toNat_natCast]
    exact this
  rw [e1]
  refine Gives.pos (by simp; omega) (Gives.neg (by decide) ?_)
  refine Gives.eite (fun c => Gives.of_some ?_) (fun c => ?_)
  · have hlt : cur < 10 := by omega
    rw [h1, ds_small hlt, Nat.mod_eq_of_lt hlt]
  · have hge : ¬ cur < 10 := by omega
    have hk19 : k < 19 := by
      rcases Nat.lt_or_ge k 19 with h | h
      · exact h
      · have : 20 - k = 1 := by omega
        rw [this] at hc
        omega
    refine hr _ ⟨k + 1, cur / 10, _, by omega, by simp; omega, ?_, by omega, ?_, rfl⟩ (by simp; omega)
    · have : 10 ^ (20 - k) = 10 * 10 ^ (20 - (k + 1)) := by
        rw [show 20 - k = (20 - (k + 1)) + 1 from by omega, Nat.pow_succ, Nat.mul_comm]
      rw [this] at hc
      exact Nat.div_lt_of_lt_mul hc
    · rw [h1, ds_big hge, List.append_assoc]
def u64N (x : Int) : Nat := (IntKind.wrap .u64 x).toNat
theorem u64N_eq (x : Int) : IntKind.wrap .u64 x = (u64N x : Int) ∧ u64N x < 18446744073709551616 := by
  unfold u64N
  rw [wrap_u64]
  have h1 := Int.emod_nonneg x (show (18446744073709551616 : Int) ≠ 0 by decide)
  have h2 := Int.emod_lt_of_pos x (show (0 : Int) < 18446744073709551616 by decide)
  omega
theorem ds_short (x : Int) : (ds (u64N x)).length ≤ 20 := ds_len _ 19 (Nat.lt_trans (u64N_eq x).2 (by decide))

theorem decD : ∀ m : Nat, i8s (Lib.decDigits m) = ds m := fun m => by
  rw [Lib.decDigits, ds]
  by_cases h : m < 10
  · rw [dif_pos h, dif_pos h]
    simp [i8s]; omega
  · rw [dif_neg h, dif_neg h, i8s_app, decD (m / 10)]
    congr 1
    simp [i8s]; omega
termination_by m => m
decreasing_by omega
theorem itoaL_v (x : Int) (h1 : -9223372036854775808 ≤ x) (h2 : x ≤ 9223372036854775807) : itoaL x = if x < 0 then 45 :: ds (IntKind.wrap .u64 (0 - IntKind.wrap .u64 x)).toNat else ds (IntKind.wrap .u64 x).toNat := by
  unfold itoaL Lib.itoa
  by_cases h : x < 0
  · rw [if_pos h, if_pos h]
    have : (IntKind.wrap .u64 (0 - IntKind.wrap .u64 x)).toNat = x.natAbs := by rw [wrap_u64, wrap_u64]; omega
    rw [this, ← decD]; simp [i8s]
  · rw [if_neg h, if_neg h, decD]
    congr 1
    rw [wrap_u64]; omega
theorem dsW (x : Int) : (ds (IntKind.wrap .u64 x).toNat).length ≤ 20 := ds_short x
theorem itoa_len (x : Int) (h1 : -9223372036854775808 ≤ x) (h2 : x ≤ 9223372036854775807) : (itoaL x).length ≤ 21 := by
  rw [itoaL_v x h1 h2]
  split
  · have := dsW (0 - IntKind.wrap .u64 x); rw [List.length_cons]; omega
  · have := dsW x; omega
theorem strItoa_v (n : Nat) (x : Int) (h1 : -9223372036854775808 ≤ x) (h2 : x ≤ 9223372036854775807) : strItoa n x = some (itoaL x) := by
  unfold strItoa itoaRun
  have := itoa_len x h1 h2
  rw [if_pos (by omega)]
theorem rTxt_v (n : Nat) (hn : 30 < n) (x : Int) (h1 : -9223372036854775808 ≤ x) (h2 : x ≤ 9223372036854775807) : turnstileref01RText n x = some (itoaL x) := by
  rw [itoaL_v x h1 h2]
  unfold turnstileref01RText
  have hu : ∀ y : Int, ∃ m : Nat, IntKind.wrap .u64 y = (m : Int) ∧ m < 18446744073709551616 := fun y => ⟨u64N y, u64N_eq y⟩
  by_cases h : x < 0
  · rw [if_pos (by simpa using h), if_pos h]
    dsimp only
    have hl := dsW (0 - IntKind.wrap .u64 x)
    obtain ⟨m, e, hm⟩ := hu (0 - IntKind.wrap .u64 x)
    rw [e, Int.toNat_natCast] at hl ⊢
    rw [rTold_v n hn m hm, Option.bind_some, if_pos (by omega)]; rfl
  · rw [if_neg (by simpa using h), if_neg h]
    obtain ⟨m, e, hm⟩ := hu x
    rw [e, Int.toNat_natCast, rTold_v n hn m hm, Option.bind_some]

end Go.Sx.YtbiipgbejlfkbaaGreatDoor
