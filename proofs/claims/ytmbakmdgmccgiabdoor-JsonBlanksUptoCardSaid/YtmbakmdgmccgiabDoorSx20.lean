/- Part of a proof by a small interpreter on plain values; no condition. -/
import Derived.Test.YtmbakmdgmccgiabDoorSx19
/-! Sx20: for the plain laws: what a plain function gives. -/
namespace Go.Sx
open Go
set_option autoImplicit false
set_option linter.unusedSimpArgs false
set_option linter.unusedVariables false
/-- the answer is there, and is as asked. -/
def Gives {A : Type} (o : Option A) (Q : A → Prop) : Prop := ∃ r, o = some r ∧ Q r
namespace Gives
variable {A B X : Type} {Q : A → Prop}
theorem of_some {r : A} (h : Q r) : Gives (some r) Q := ⟨r, rfl, h⟩
theorem mono {o : Option A} {Q' : A → Prop} (h : Gives o Q) (hq : ∀ r, Q r → Q' r) : Gives o Q' := by
  obtain ⟨r, h1, h2⟩ := h
  exact ⟨r, h1, hq r h2⟩
theorem eq {o : Option A} {r : A} (h : Gives o (· = r)) : o = some r := by
  obtain ⟨x, h1, h2⟩ := h
  rw [h1, h2]
theorem of_eq {o : Option A} {r : A} (h : o = some r) (hq : Q r) : Gives o Q := ⟨r, h, hq⟩
theorem ite {c : Prop} [Decidable c] {a b : Option A} (ha : c → Gives a Q) (hb : ¬ c → Gives b Q) : Gives (if c then a else b) Q := by
  by_cases h : c
  · rw [if_pos h]; exact ha h
  · rw [if_neg h]; exact hb h
theorem pos {c : Prop} [Decidable c] {a b : Option A} (h : c) (ha : Gives a Q) : Gives (if c then a else b) Q := by rw [if_pos h]; exact ha
theorem neg {c : Prop} [Decidable c] {a b : Option A} (h : ¬ c) (hb : Gives b Q) : Gives (if c then a else b) Q := by rw [if_neg h]; exact hb
/-! the same, of what a decision says. -/
theorem dite {c : Prop} [Decidable c] {a b : Option A} (ha : c → Gives a Q) (hb : ¬ c → Gives b Q) : Gives (if decide c = true then a else b) Q := by
  by_cases h : c
  · rw [if_pos (decide_eq_true h)]; exact ha h
  · rw [if_neg (by simpa using h)]; exact hb h
theorem dpos {c : Prop} [Decidable c] {a b : Option A} (h : c) (ha : Gives a Q) : Gives (if decide c = true then a else b) Q := by rw [if_pos (decide_eq_true h)]; exact ha
theorem dneg {c : Prop} [Decidable c] {a b : Option A} (h : ¬ c) (hb : Gives b Q) : Gives (if decide c = true then a else b) Q := by rw [if_neg (by simpa using h)]; exact hb
theorem eite {x y : Int} {a b : Option A} (ha : x = y → Gives a Q) (hb : x ≠ y → Gives b Q) : Gives (if (x == y) = true then a else b) Q := by
  by_cases h : x = y
  · rw [if_pos (by simpa using h)]; exact ha h
  · rw [if_neg (by simpa using h)]; exact hb h
theorem epos {x y : Int} {a b : Option A} (h : x = y) (ha : Gives a Q) : Gives (if (x == y) = true then a else b) Q := by rw [if_pos (by simpa using h)]; exact ha
theorem eneg {x y : Int} {a b : Option A} (h : x ≠ y) (ha : Gives b Q) : Gives (if (x == y) = true then a else b) Q := by rw [if_neg (by simpa using h)]; exact ha
theorem nite {x y : Int} {a b : Option A} (ha : x ≠ y → Gives a Q) (hb : x = y → Gives b Q) : Gives (if (x != y) = true then a else b) Q := by
  by_cases h : x = y
  · rw [if_neg (by simpa using h)]; exact hb h
  · rw [if_pos (by simpa using h)]; exact ha h
theorem npos {x y : Int} {a b : Option A} (h : x ≠ y) (ha : Gives a Q) : Gives (if (x != y) = true then a else b) Q := by rw [if_pos (by simpa using h)]; exact ha
theorem nneg {x y : Int} {a b : Option A} (h : x = y) (ha : Gives b Q) : Gives (if (x != y) = true then a else b) Q := by rw [if_neg (by simpa using h)]; exact ha
theorem mneg {x y : Int} {a b : Option A} (h : x = y) (ha : Gives b Q) : Gives (if (!(x == y)) = true then a else b) Q := by rw [if_neg (by simpa using h)]; exact ha
theorem mpos {x y : Int} {a b : Option A} (h : x ≠ y) (ha : Gives a Q) : Gives (if (!(x == y)) = true then a else b) Q := by rw [if_pos (by simpa using h)]; exact ha
theorem mite {x y : Int} {a b : Option A} (ha : x ≠ y → Gives a Q) (hb : x = y → Gives b Q) : Gives (if (!(x == y)) = true then a else b) Q := by
  by_cases h : x = y
  · rw [if_neg (by simpa using h)]; exact hb h
  · rw [if_pos (by simpa using h)]; exact ha h
theorem bind {o : Option B} {f : B → Option A} {P : B → Prop} (h : Gives o P) (hf : ∀ r, P r → Gives (f r) Q) : Gives (o.bind f) Q := by
  obtain ⟨r, rfl, hp⟩ := h
  exact hf r hp
theorem bind_eq {o : Option B} {f : B → Option A} {r : B} (h : o = some r) (hf : Gives (f r) Q) : Gives (o.bind f) Q := by rw [h]; exact hf
/-- a loop: what holds each time, and what gets less. -/
theorem loop {body : (X → Option A) → X → Option A} (I : X → Prop) (μ : X → Nat)
    (h : ∀ (rec : X → Option A) (x : X), I x → (∀ x', I x' → μ x' < μ x → Gives (rec x') Q) → Gives (body rec x) Q) : ∀ (n : Nat) (x : X), I x → μ x < n → Gives (loopF body n x) Q
  | 0, _, _, hlt => absurd hlt (Nat.not_lt_zero _)
  | n + 1, x, hI, hlt => h (loopF body n) x hI (fun x' hI' hlt' => loop I μ h n x' hI' (by omega))
end Gives
theorem idx_eq {α : Type} {xs : List α} {i : Int} (d : α) (h0 : 0 ≤ i) (h1 : i < (xs.length : Int)) : idx xs i = some (xs.getD i.toNat d) := by
  unfold idx
  rw [if_pos h0]
  have : i.toNat < xs.length := by omega
  simp [this]
theorem Gives.idx {α A : Type} {Q : A → Prop} {xs : List α} {i : Int} {f : α → Option A} (d : α) (h0 : 0 ≤ i) (h1 : i < (xs.length : Int)) (h : Gives (f (xs.getD i.toNat d)) Q) : Gives (Option.bind (Sx.idx xs i) f) Q :=
  Gives.bind_eq (idx_eq d h0 h1) h
theorem wrap64 {n : Int} (h1 : -9223372036854775808 ≤ n) (h2 : n ≤ 9223372036854775807) : IntKind.wrap .i64 n = n := wrap_i64_in (by rw [k_min_eq]; exact h1) (by rw [k_max_eq]; exact h2)

theorem wrap_u64 (n : Int) : IntKind.wrap .u64 n = n % 18446744073709551616 := by simp [IntKind.wrap, IntKind.bits, IntKind.signed]
theorem mul_between {a b X Y : Int} (h1 : 0 ≤ a) (h2 : a ≤ X) (h3 : 0 ≤ b) (h4 : b ≤ Y) : 0 ≤ a * b ∧ a * b ≤ X * Y :=
  ⟨Int.mul_nonneg h1 h3, Int.mul_le_mul h2 h4 h3 (by omega)⟩
theorem getD_set (xs : List Int) (i j : Nat) (v : Int) : (xs.set i v).getD j 0 = if i = j ∧ i < xs.length then v else xs.getD j 0 := by
  simp only [List.getD_eq_getElem?_getD, List.getElem?_set]
  by_cases h : i = j
  · subst h
    by_cases h2 : i < xs.length
    · simp [h2]
    · simp [h2]
  · simp [h]
theorem getD_ge (xs : List Int) (j : Nat) (h : xs.length ≤ j) : xs.getD j 0 = 0 := by
  simp [List.getD_eq_getElem?_getD, List.getElem?_eq_none h]
theorem getD_app (w l : List Int) (j : Nat) : (w ++ l).getD j 0 = if j < w.length then w.getD j 0 else l.getD (j - w.length) 0 := by
  simp only [List.getD_eq_getElem?_getD, List.getElem?_append]
  split <;> rfl
theorem ext_getD {a b : List Int} (hl : a.length = b.length) (h : ∀ j, j < a.length → a.getD j 0 = b.getD j 0) : a = b := by
  apply List.ext_getElem hl
  intro i h1 h2
  have := h i h1
  simpa [List.getD_eq_getElem?_getD, h1, h2] using this
/-- a number taken modulo a small one. -/
theorem unit_ok (v : Int) (k : Int) (hk : 0 < k) (hk2 : k < 1000000000) : 0 ≤ IntKind.wrap .i64 (Int.tmod (IntKind.wrap .u64 v) k) ∧ IntKind.wrap .i64 (Int.tmod (IntKind.wrap .u64 v) k) < k := by
  rw [wrap_u64, Int.tmod_eq_emod_of_nonneg (by omega)]
  have h1 := Int.emod_nonneg (v % 18446744073709551616) (show k ≠ 0 by omega)
  have h2 := Int.emod_lt_of_pos (v % 18446744073709551616) hk
  rw [wrap64 (by omega) (by omega)]
  omega
/-! the bytes that a law's arguments take. -/
theorem SzK_list {P : Program} {d : Nat} {t e : TypeId} {a : K} {xs : List a.T} (hu : P.underlying t = some (.slice e)) (h : SzK P (d + 1) t (.list a) xs) : xs.length * P.bytesOf e ≤ reachBytes ∧ ∀ x ∈ xs, SzK P d e a x := by
  simp only [SzK, hu] at h
  exact h
theorem bytes_le {P : Program} {e : TypeId} {n k : Nat} (h : n * P.bytesOf e ≤ reachBytes) (hb : P.bytesOf e = k) : n * k ≤ 140737488351232 := by rw [hb] at h; exact h
theorem bytes_le' {P : Program} {e : TypeId} {n k : Nat} (h : n * P.bytesOf e ≤ reachBytes) (hb : P.bytesOf e = k) : n * k ≤ 140737488355328 := Nat.le_trans (bytes_le h hb) (by decide)
end Go.Sx
