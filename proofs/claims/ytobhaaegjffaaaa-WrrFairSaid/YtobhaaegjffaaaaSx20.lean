/- Part of a proof by a small interpreter on plain values; no condition. -/
import Derived.Test.YtobhaaegjffaaaaSx19
/-! Sx20: for the plain laws: what a plain function gives. -/
namespace Go.Sx
open Go
set_option autoImplicit false
set_option linter.unusedSimpArgs false
set_option linter.unusedVariables false
/-- the answer is there, and is as asked. -/
def Gives {A : Type} (o : Option A) (Q : A → Prop) : Prop := ∃ r, o = some r ∧ Q r
namespace Gives
variable {A B X : Type} {Q : A → Prop}
theorem of_some {r : A} (h : Q r) : Gives (some r) Q := ⟨r, rfl, h⟩
theorem mono {o : Option A} {Q' : A → Prop} (h : Gives o Q) (hq : ∀ r, Q r → Q' r) : Gives o Q' := by
  obtain ⟨r, h1, h2⟩ := h
  exact ⟨r, h1, hq r h2⟩
theorem eq {o : Option A} {r : A} (h : Gives o (· = r)) : o = some r := by
  obtain ⟨x, h1, h2⟩ := h
  rw [h1, h2]
theorem of_eq {o : Option A} {r : A} (h : o = some r) (hq : Q r) : Gives o Q := ⟨r, h, hq⟩
theorem ite {c : Prop} [Decidable c] {a b : Option A} (ha : c → Gives a Q) (hb : ¬ c → Gives b Q) : Gives (if c then a else b) Q := by
  by_cases h : c
  · rw [if_pos h]; exact ha h
  · rw [if_neg h]; exact hb h
theorem pos {c : Prop} [Decidable c] {a b : Option A} (h : c) (ha : Gives a Q) : Gives (if c then a else b) Q := by rw [if_pos h]; exact ha
theorem neg {c : Prop} [Decidable c] {a b : Option A} (h : ¬ c) (hb : Gives b Q) : Gives (if c then a else b) Q := by rw [if_neg h]; exact hb
theorem bind {o : Option B} {f : B → Option A} {P : B → Prop} (h : Gives o P) (hf : ∀ r, P r → Gives (f r) Q) : Gives (o.bind f) Q := by
  obtain ⟨r, rfl, hp⟩ := h
  exact hf r hp
theorem bind_eq {o : Option B} {f : B → Option A} {r : B} (h : o = some r) (hf : Gives (f r) Q) : Gives (o.bind f) Q := by rw [h]; exact hf
/-- a loop: what holds each time, and what gets less. -/
theorem loop {body : (X → Option A) → X → Option A} (I : X → Prop) (μ : X → Nat)
    (h : ∀ (rec : X → Option A) (x : X), I x → (∀ x', I x' → μ x' < μ x → Gives (rec x') Q) → Gives (body rec x) Q) : ∀ (n : Nat) (x : X), I x → μ x < n → Gives (loopF body n x) Q
  | 0, _, _, hlt => absurd hlt (Nat.not_lt_zero _)
  | n + 1, x, hI, hlt => h (loopF body n) x hI (fun x' hI' hlt' => loop I μ h n x' hI' (by omega))
end Gives
theorem idx_eq {α : Type} {xs : List α} {i : Int} (d : α) (h0 : 0 ≤ i) (h1 : i < (xs.length : Int)) : idx xs i = some (xs.getD i.toNat d) := by
  unfold idx
  rw [if_pos h0]
  have : i.toNat < xs.length := by omega
  simp [this]
theorem Gives.idx {α A : Type} {Q : A → Prop} {xs : List α} {i : Int} {f : α → Option A} (d : α) (h0 : 0 ≤ i) (h1 : i < (xs.length : Int)) (h : Gives (f (xs.getD i.toNat d)) Q) : Gives (Option.bind (Sx.idx xs i) f) Q :=
  Gives.bind_eq (idx_eq d h0 h1) h
theorem wrap64 {n : Int} (h1 : -9223372036854775808 ≤ n) (h2 : n ≤ 9223372036854775807) : IntKind.wrap .i64 n = n := wrap_i64_in (by rw [k_min_eq]; exact h1) (by rw [k_max_eq]; exact h2)

theorem wrap_u64 (n : Int) : IntKind.wrap .u64 n = n % 18446744073709551616 := by simp [IntKind.wrap, IntKind.bits, IntKind.signed]
end Go.Sx
