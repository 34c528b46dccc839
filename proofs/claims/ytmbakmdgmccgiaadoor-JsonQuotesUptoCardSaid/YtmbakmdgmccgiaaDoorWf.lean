/- Part of a proof by a small interpreter on plain values; no condition. -/
import Derived.Test.YtmbakmdgmccgiaaDoorWe
/-! W06I: the same value; how deep; the law JsonReads. -/
namespace Go.Sx.YtmbakmdgmccgiaaDoor
open Go Go.Sx Go.Sx.Js
set_option autoImplicit false
set_option linter.unusedVariables false
set_option linter.unusedSimpArgs false
abbrev D14 := Int × Bool × (List Int) × Int × Bool × (List JV) × (List (List Int)) × Int × Bool × (List Int) × Int × Bool × (List JV) × List (List Int)
def two (a b : JV) : D14 := (a.kind, a.b, a.text, a.n, a.whole, a.list, a.names, b.kind, b.b, b.text, b.n, b.whole, b.list, b.names)
theorem idx_get {α : Type} {a : List α} {k : Nat} (h : k < a.length) : idx a (k : Int) = some a[k] := by
  unfold idx
  rw [if_pos (by omega)]
  simp [h]
section
variable {n : Nat}
end
/-! what is read is small. -/
theorem num_v {n : Nat} (e : Int) : turnstilelaw06Num n e = some e := by
  unfold turnstilelaw06Num
  by_cases h : e = 0
  · subst h; rfl
  · rw [if_neg (by simpa using h), if_neg (by simpa using h)]
theorem works_true : works 9223372036854776000 () = some true := by kernel_rfl
end Go.Sx.YtmbakmdgmccgiaaDoor
