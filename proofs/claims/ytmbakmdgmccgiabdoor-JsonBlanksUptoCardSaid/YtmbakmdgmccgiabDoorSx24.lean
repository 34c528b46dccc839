/- Part of a proof by a small interpreter on plain values; no condition. -/
import Derived.Test.YtmbakmdgmccgiabDoorSx20
/-! Sx24: for the plain laws: bits of numbers that are not below zero. -/
namespace Go.Sx
open Go
set_option autoImplicit false
set_option linter.unusedSimpArgs false
set_option linter.unusedVariables false
theorem ofInt_nat (x : Nat) (h : x < 18446744073709551616) : (BitVec.ofInt 64 (x : Int)).toNat = x := by
  rw [BitVec.toNat_ofInt]
  omega
theorem wrap_nat {k : IntKind} (hk : k = .u64 ∨ k = .i64) (x : Nat) (h : x < 9223372036854775808) : k.wrap (x : Int) = (x : Int) := by
  rcases hk with rfl | rfl
  · rw [wrap_u64]; omega
  · rw [wrap64 (by omega) (by omega)]
theorem bits_or {k : IntKind} (hk : k = .u64 ∨ k = .i64) (x y : Nat) (hx : x < 9223372036854775808) (hy : y < 9223372036854775808) : bits .or k (x : Int) (y : Int) = ((x ||| y : Nat) : Int) := by
  have hb : k.bits = 64 := by rcases hk with rfl | rfl <;> rfl
  have hlt : x ||| y < 9223372036854775808 := Nat.or_lt_two_pow (n := 63) hx hy
  unfold bits
  rw [hb]
  dsimp only
  rw [BitVec.toNat_or, ofInt_nat x (by omega), ofInt_nat y (by omega)]
  exact wrap_nat hk _ hlt
theorem bits_and {k : IntKind} (hk : k = .u64 ∨ k = .i64) (x y : Nat) (hx : x < 9223372036854775808) (hy : y < 9223372036854775808) : bits .and k (x : Int) (y : Int) = ((x &&& y : Nat) : Int) := by
  have hb : k.bits = 64 := by rcases hk with rfl | rfl <;> rfl
  have hlt : x &&& y < 9223372036854775808 := Nat.lt_of_le_of_lt Nat.and_le_left hx
  unfold bits
  rw [hb]
  dsimp only
  rw [BitVec.toNat_and, ofInt_nat x (by omega), ofInt_nat y (by omega)]
  exact wrap_nat hk _ hlt
/-- shifted and laid together. -/
theorem or_shl {k : IntKind} (hk : k = .u64 ∨ k = .i64) {a d m : Int} (j : Nat) (hm : m = ((2 ^ j : Nat) : Int)) (ha : 0 ≤ a) (h1 : a * m < 9223372036854775808) (hd : 0 ≤ d) (hd2 : d < m) (hm63 : m < 9223372036854775808) : bits .or k (a * m) d = a * m + d := by
  obtain ⟨x, rfl⟩ : ∃ x : Nat, a = (x : Int) := ⟨a.toNat, by omega⟩
  obtain ⟨y, rfl⟩ : ∃ y : Nat, d = (y : Int) := ⟨d.toNat, by omega⟩
  subst hm
  have e : (x : Int) * ((2 ^ j : Nat) : Int) = ((x * 2 ^ j : Nat) : Int) := by push_cast; rfl
  rw [e] at h1 ⊢
  rw [bits_or hk _ _ (by omega) (by omega)]
  have h2 : y < 2 ^ j := by omega
  rw [Nat.mul_comm, ← Nat.two_pow_add_eq_or_of_lt h2]
  push_cast
  rfl
/-- the low bits. -/
theorem and_low {k : IntKind} (hk : k = .u64 ∨ k = .i64) {a m : Int} (j : Nat) (hm : m = ((2 ^ j : Nat) : Int) - 1) (h63 : m < 9223372036854775808) (ha : 0 ≤ a) (h1 : a < 9223372036854775808) : bits .and k a m = a % (m + 1) := by
  obtain ⟨x, rfl⟩ : ∃ x : Nat, a = (x : Int) := ⟨a.toNat, by omega⟩
  have hp : 0 < 2 ^ j := Nat.two_pow_pos j
  have e : m = ((2 ^ j - 1 : Nat) : Int) := by omega
  rw [e] at h63 ⊢
  rw [bits_and hk _ _ (by omega) (by omega), Nat.and_two_pow_sub_one_eq_mod]
  have e2 : ((2 ^ j - 1 : Nat) : Int) + 1 = ((2 ^ j : Nat) : Int) := by omega
  rw [e2]
  rfl
theorem wrap_u8 {n : Int} (h1 : 0 ≤ n) (h2 : n ≤ 255) : IntKind.wrap .u8 n = n := by
  simp [IntKind.wrap, IntKind.bits, IntKind.signed]; omega
theorem wrap_u64_in {n : Int} (h1 : 0 ≤ n) (h2 : n < 18446744073709551616) : IntKind.wrap .u64 n = n := by rw [wrap_u64]; omega
theorem fdiv_pos {a b : Int} (hb : 0 ≤ b) : Int.fdiv a b = a / b := Int.fdiv_eq_ediv_of_nonneg a hb
/-! the first place of a byte. -/
end Go.Sx
