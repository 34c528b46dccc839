/- Part of a proof by a small interpreter on plain values; no condition. -/
import Derived.Test.YtmbakmdgmccgiaaDoorWc
/-! W06A: the document's reader: bytes, words, blanks, digits. -/
namespace Go.Sx.YtmbakmdgmccgiaaDoor
open Go Go.Sx Go.Sx.Js
set_option autoImplicit false
set_option linter.unusedVariables false
set_option linter.unusedSimpArgs false
/-- the next byte; 0: there is none. -/
def nx : List Int → Int
  | [] => 0
  | c :: _ => c
section
variable {n : Nat} {s : List Int}
end
end Go.Sx.YtmbakmdgmccgiaaDoor
/-! W06B: the document's reader: numbers. -/
namespace Go.Sx.YtmbakmdgmccgiaaDoor
open Go Go.Sx Go.Sx.Js
set_option autoImplicit false
set_option linter.unusedVariables false
set_option linter.unusedSimpArgs false
/-- where a byte leads: its class as truths. -/
def toB (st : Nat) (b45 b48 bD b46 b101 b69 b43 : Bool) : Int :=
  match st with
  | 0 => if b45 then 1 else if b48 then 2 else if bD then 3 else -1
  | 1 => if b48 then 2 else if bD then 3 else -1
  | 2 => if b46 then 4 else if b101 || b69 then 6 else -1
  | 3 => if bD then 3 else if b46 then 4 else if b101 || b69 then 6 else -1
  | 4 => if bD then 5 else -1
  | 5 => if bD then 5 else if b101 || b69 then 6 else -1
  | 6 => if b43 || b45 then 7 else if bD then 8 else -1
  | _ => if bD then 8 else -1
def trans (st : Nat) (c : Int) : Int := toB st (c == 45) (c == 48) (isDigit c) (c == 46) (c == 101) (c == 69) (c == 43)
end Go.Sx.YtmbakmdgmccgiaaDoor
/-! W06C: the document's reader: numbers, the walk. -/
namespace Go.Sx.YtmbakmdgmccgiaaDoor
open Go Go.Sx Go.Sx.Js
set_option autoImplicit false
set_option linter.unusedVariables false
set_option linter.unusedSimpArgs false
abbrev DV := Int × Bool × (List Int) × Int × Bool × (List JV) × List (List Int)
section
variable {n : Nat}
end
end Go.Sx.YtmbakmdgmccgiaaDoor
/-! W06X: the document's reader: numbers, put together. -/
namespace Go.Sx.YtmbakmdgmccgiaaDoor
open Go Go.Sx Go.Sx.Js
set_option autoImplicit false
set_option linter.unusedVariables false
set_option linter.unusedSimpArgs false
section
variable {n : Nat} {s : List Int}
end
end Go.Sx.YtmbakmdgmccgiaaDoor
/-! W06Y: the document's reader: runes, codes, escapes. -/
namespace Go.Sx.YtmbakmdgmccgiaaDoor
open Go Go.Sx Go.Sx.Js
set_option autoImplicit false
set_option linter.unusedVariables false
set_option linter.unusedSimpArgs false
section
variable {n : Nat} {s : List Int}
end
end Go.Sx.YtmbakmdgmccgiaaDoor
