/- Part of a proof by a small interpreter on plain values; no condition. -/
import Derived.Test.YtmbakmdgmccgiaaDoorWd
/-! W06Z: the document's reader: escapes. -/
namespace Go.Sx.YtmbakmdgmccgiaaDoor
open Go Go.Sx Go.Sx.Js
set_option autoImplicit false
set_option linter.unusedVariables false
set_option linter.unusedSimpArgs false
section
variable {n : Nat} {s : List Int}
end
end Go.Sx.YtmbakmdgmccgiaaDoor
/-! W06E: the document's reader: texts, members. -/
namespace Go.Sx.YtmbakmdgmccgiaaDoor
open Go Go.Sx Go.Sx.Js
set_option autoImplicit false
set_option linter.unusedVariables false
set_option linter.unusedSimpArgs false
section
variable {n : Nat} {s : List Int}
theorem blanks_cons (c : Int) (r : List Int) : blanks (c :: r) = if isBlank c = true then blanks r else c :: r := rfl
theorem blanks_idem : ∀ l, blanks (blanks l) = blanks l
  | [] => rfl
  | c :: r => by
    by_cases h : isBlank c = true
    · have e : blanks (c :: r) = blanks r := by rw [blanks_cons, if_pos h]
      rw [e]
      exact blanks_idem r
    · have e : blanks (c :: r) = c :: r := by rw [blanks_cons, if_neg h]
      rw [e, e]
end
end Go.Sx.YtmbakmdgmccgiaaDoor
/-! W06G: the document's reader: lists, objects, values. -/
namespace Go.Sx.YtmbakmdgmccgiaaDoor
open Go Go.Sx Go.Sx.Js
set_option autoImplicit false
set_option linter.unusedVariables false
set_option linter.unusedSimpArgs false
section
variable {n : Nat} {s : List Int}
end
end Go.Sx.YtmbakmdgmccgiaaDoor
/-! W06H: the document's reader: values, texts. -/
namespace Go.Sx.YtmbakmdgmccgiaaDoor
open Go Go.Sx Go.Sx.Js
set_option autoImplicit false
set_option linter.unusedVariables false
set_option linter.unusedSimpArgs false
section
variable {n : Nat} {s : List Int}
theorem value_blanks (k d : Nat) (l : List Int) : Js.value k d (blanks l) = Js.value k d l := by
  cases d with
  | zero => rw [value_0, value_0, blanks_idem]
  | succ d => rw [value_s, value_s, blanks_idem]
end
end Go.Sx.YtmbakmdgmccgiaaDoor
