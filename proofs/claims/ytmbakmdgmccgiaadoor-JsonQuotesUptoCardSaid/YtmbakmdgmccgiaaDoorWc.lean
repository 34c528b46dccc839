/- Part of a proof by a small interpreter on plain values; no condition. -/
import Derived.Test.YtmbakmdgmccgiaaDoorWb
/-! W06Q: the program's reader: numbers. -/
namespace Go.Sx.YtmbakmdgmccgiaaDoor
open Go Go.Sx Go.Sx.Js
set_option autoImplicit false
set_option linter.unusedVariables false
set_option linter.unusedSimpArgs false
section
variable {n : Nat}
end
end Go.Sx.YtmbakmdgmccgiaaDoor
/-! W06R: the program's reader: numbers, put together. -/
namespace Go.Sx.YtmbakmdgmccgiaaDoor
open Go Go.Sx Go.Sx.Js
set_option autoImplicit false
set_option linter.unusedVariables false
set_option linter.unusedSimpArgs false
section
variable {n : Nat} {s : List Int}
end
end Go.Sx.YtmbakmdgmccgiaaDoor
/-! W06S: the program's reader: lists, objects, values. -/
namespace Go.Sx.YtmbakmdgmccgiaaDoor
open Go Go.Sx Go.Sx.Js
set_option autoImplicit false
set_option linter.unusedVariables false
set_option linter.unusedSimpArgs false
section
variable {n : Nat} {s : List Int}
end
end Go.Sx.YtmbakmdgmccgiaaDoor
/-! W06T: what a reading leaves is no longer. -/
namespace Go.Sx.YtmbakmdgmccgiaaDoor
open Go Go.Sx Go.Sx.Js
set_option autoImplicit false
set_option linter.unusedVariables false
set_option linter.unusedSimpArgs false
section
variable {pv : List Int → PR JV} (hp : ∀ l v r, pv l = .ok v r → r.length ≤ l.length)
include hp
end
end Go.Sx.YtmbakmdgmccgiaaDoor
/-! W06U: the program's reader: lists. -/
namespace Go.Sx.YtmbakmdgmccgiaaDoor
open Go Go.Sx Go.Sx.Js
set_option autoImplicit false
set_option linter.unusedVariables false
set_option linter.unusedSimpArgs false
section
variable {n : Nat} {s : List Int}
end
end Go.Sx.YtmbakmdgmccgiaaDoor
/-! W06V: the program's reader: objects; a reader that has stopped. -/
namespace Go.Sx.YtmbakmdgmccgiaaDoor
open Go Go.Sx Go.Sx.Js
set_option autoImplicit false
set_option linter.unusedVariables false
set_option linter.unusedSimpArgs false
section
variable {n : Nat} {s : List Int}
end
end Go.Sx.YtmbakmdgmccgiaaDoor
/-! W06W: the program's reader: values, texts. -/
namespace Go.Sx.YtmbakmdgmccgiaaDoor
open Go Go.Sx Go.Sx.Js
set_option autoImplicit false
set_option linter.unusedVariables false
set_option linter.unusedSimpArgs false
section
variable {n : Nat} {s : List Int}
/-! an error is one. -/
def Nz {α : Type} : PR α → Prop
  | .ok _ _ => True
  | .bad e _ => e ≠ 0
theorem Nz.bind {α β : Type} {r : PR α} {f : α → List Int → PR β} (h : Nz r) (hf : ∀ x l, Nz (f x l)) : Nz (r.bind f) := by
  cases r with
  | ok x l => exact hf x l
  | bad e l => exact h
theorem Nz.map {α β : Type} {r : PR α} {f : α → β} (h : Nz r) : Nz (r.map f) := by
  cases r with
  | ok x l => trivial
  | bad e l => exact h
end
end Go.Sx.YtmbakmdgmccgiaaDoor
