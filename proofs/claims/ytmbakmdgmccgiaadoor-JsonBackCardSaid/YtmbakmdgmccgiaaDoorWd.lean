/- Part of a proof by a small interpreter on plain values; no condition. -/
import Derived.Test.YtmbakmdgmccgiaaDoorWc
/-! W06A: the document's reader: bytes, words, blanks, digits. -/
namespace Go.Sx.YtmbakmdgmccgiaaDoor
open Go Go.Sx Go.Sx.Js
set_option autoImplicit false
set_option linter.unusedVariables false
set_option linter.unusedSimpArgs false
/-- the next byte; 0: there is none. -/
def nx : List Int → Int
  | [] => 0
  | c :: _ => c
section
variable {n : Nat} {s : List Int}
/-- four digits, each as asked. -/
def fourR (ok : Nat → Int → Bool) (l : List Int) : Nat → PR Int
  | 0 => .ok 0 l
  | k + 1 => (fourR ok l k).bind fun a r => (pairHex (ok k) r).map fun d => a * 16 + d
end
end Go.Sx.YtmbakmdgmccgiaaDoor
/-! W06B: the document's reader: numbers. -/
namespace Go.Sx.YtmbakmdgmccgiaaDoor
open Go Go.Sx Go.Sx.Js
set_option autoImplicit false
set_option linter.unusedVariables false
set_option linter.unusedSimpArgs false
/-- where a byte leads: its class as truths. -/
def toB (st : Nat) (b45 b48 bD b46 b101 b69 b43 : Bool) : Int :=
  match st with
  | 0 => if b45 then 1 else if b48 then 2 else if bD then 3 else -1
  | 1 => if b48 then 2 else if bD then 3 else -1
  | 2 => if b46 then 4 else if b101 || b69 then 6 else -1
  | 3 => if bD then 3 else if b46 then 4 else if b101 || b69 then 6 else -1
  | 4 => if bD then 5 else -1
  | 5 => if bD then 5 else if b101 || b69 then 6 else -1
  | 6 => if b43 || b45 then 7 else if bD then 8 else -1
  | _ => if bD then 8 else -1
def trans (st : Nat) (c : Int) : Int := toB st (c == 45) (c == 48) (isDigit c) (c == 46) (c == 101) (c == 69) (c == 43)
def nFrac (k : Nat) (l : List Int) : PR (Nat × Bool) := (numFrac k l).bind fun p l => numExp p.1 p.2 l
/-- what is to come in a state. -/
def nRest (st k : Nat) (l : List Int) : PR (Nat × Bool) :=
  match st with
  | 0 => (if hd l = 45 then Js.step k l else .ok k l).bind fun k l => (numInt k l).bind nFrac
  | 1 => (numInt k l).bind nFrac
  | 2 => nFrac k l
  | 3 => (digits1 k true l).bind nFrac
  | 4 => ((digits1 k false l).map fun k => (k, false)).bind fun p l => numExp p.1 p.2 l
  | 5 => ((digits1 k true l).map fun k => (k, false)).bind fun p l => numExp p.1 p.2 l
  | 6 => (numExpSign k l).bind fun k l => (digits k l).map fun k => (k, false)
  | 7 => (digits1 k false l).map fun k => (k, false)
  | _ => (digits1 k true l).map fun k => (k, false)
theorem nRest_0 (l : List Int) : nRest 0 0 l = numText l := by
  unfold numText
  show (numSign l).bind _ = (numSign l).bind _
  rfl
def nStop (st k : Nat) (l : List Int) : PR (Nat × Bool) := if st < 2 ∨ st = 4 ∨ st = 6 ∨ st = 7 then .bad 3 l else .ok (k, decide (st < 5)) l
theorem nRest_nil {st k : Nat} (h : st ≤ 8) : nRest st k [] = nStop st k [] := by
  have : st = 0 ∨ st = 1 ∨ st = 2 ∨ st = 3 ∨ st = 4 ∨ st = 5 ∨ st = 6 ∨ st = 7 ∨ st = 8 := by omega
  rcases this with rfl | rfl | rfl | rfl | rfl | rfl | rfl | rfl | rfl <;> rfl
theorem nRest_cons {st k : Nat} {c : Int} {r : List Int} (h : st ≤ 8) : (trans st c < 0 ∧ nRest st k (c :: r) = nStop st k (c :: r)) ∨ (0 ≤ trans st c ∧ trans st c ≤ 8 ∧ nRest st k (c :: r) = if 64 ≤ k then .bad 3 (c :: r) else nRest (trans st c).toNat (k + 1) r) := by
  have hs : Js.step k (c :: r) = if 64 ≤ k then .bad 3 (c :: r) else .ok (k + 1) r := rfl
  have hdg : ∀ any, digits1 k any (c :: r) = if isDigit c = true then (if 64 ≤ k then .bad 3 (c :: r) else digits1 (k + 1) true r) else if any = true then .ok k (c :: r) else .bad 3 (c :: r) := fun _ => rfl
  have hc : hd (c :: r) = c := rfl
  have cls : c = 45 ∨ c = 48 ∨ c = 46 ∨ c = 101 ∨ c = 69 ∨ c = 43 ∨ (c ≠ 45 ∧ c ≠ 48 ∧ c ≠ 46 ∧ c ≠ 101 ∧ c ≠ 69 ∧ c ≠ 43 ∧ isDigit c = true) ∨ (c ≠ 45 ∧ c ≠ 48 ∧ c ≠ 46 ∧ c ≠ 101 ∧ c ≠ 69 ∧ c ≠ 43 ∧ isDigit c = false) := by
    cases isDigit c <;> simp <;> omega
  have d1 : isDigit 45 = false := rfl
  have d2 : isDigit 48 = true := rfl
  have d3 : isDigit 46 = false := rfl
  have d4 : isDigit 101 = false := rfl
  have d5 : isDigit 69 = false := rfl
  have d6 : isDigit 43 = false := rfl
  have this : st = 0 ∨ st = 1 ∨ st = 2 ∨ st = 3 ∨ st = 4 ∨ st = 5 ∨ st = 6 ∨ st = 7 ∨ st = 8 := by omega
  by_cases hk : 64 ≤ k
  · simp only [if_pos hk] at hs hdg ⊢
    rcases cls with rfl | rfl | rfl | rfl | rfl | rfl | ⟨e1, e2, e3, e4, e5, e6, e7⟩ | ⟨e1, e2, e3, e4, e5, e6, e7⟩
    all_goals rcases this with rfl | rfl | rfl | rfl | rfl | rfl | rfl | rfl | rfl <;> simp [nRest, trans, toB, nStop, numInt, digits, nFrac, numFrac, numExp, numExpSign, PR.bind, PR.map, *]
  · simp only [if_neg hk] at hs hdg ⊢
    rcases cls with rfl | rfl | rfl | rfl | rfl | rfl | ⟨e1, e2, e3, e4, e5, e6, e7⟩ | ⟨e1, e2, e3, e4, e5, e6, e7⟩
    all_goals rcases this with rfl | rfl | rfl | rfl | rfl | rfl | rfl | rfl | rfl <;> simp [nRest, trans, toB, nStop, numInt, digits, nFrac, numFrac, numExp, numExpSign, PR.bind, PR.map, *]
theorem nRest_at {st k : Nat} {l : List Int} (h : st ≤ 8) : (trans st (nx l) < 0 ∧ nRest st k l = nStop st k l) ∨ ∃ (t : Nat) (c : Int) (r : List Int), trans st (nx l) = (t : Int) ∧ t ≤ 8 ∧ l = c :: r ∧ nRest st k l = if 64 ≤ k then .bad 3 l else nRest t (k + 1) r := by
  cases l with
  | nil =>
    refine .inl ⟨?_, nRest_nil h⟩
    have : st = 0 ∨ st = 1 ∨ st = 2 ∨ st = 3 ∨ st = 4 ∨ st = 5 ∨ st = 6 ∨ st = 7 ∨ st = 8 := by omega
    rcases this with rfl | rfl | rfl | rfl | rfl | rfl | rfl | rfl | rfl <;> decide
  | cons c r =>
    rcases nRest_cons (k := k) (c := c) (r := r) h with h | ⟨h1, h2, h3⟩
    · exact .inl h
    · exact .inr ⟨(trans st c).toNat, c, r, by show trans st c = _; omega, by omega, rfl, h3⟩
end Go.Sx.YtmbakmdgmccgiaaDoor
/-! W06C: the document's reader: numbers, the walk. -/
namespace Go.Sx.YtmbakmdgmccgiaaDoor
open Go Go.Sx Go.Sx.Js
set_option autoImplicit false
set_option linter.unusedVariables false
set_option linter.unusedSimpArgs false
abbrev DV := Int × Bool × (List Int) × Int × Bool × (List JV) × List (List Int)
def DV.val (r : DV) : JV := JV.mk r.1 r.2.1 r.2.2.1 r.2.2.2.1 r.2.2.2.2.1 r.2.2.2.2.2.1 r.2.2.2.2.2.2
section
variable {n : Nat}
end
end Go.Sx.YtmbakmdgmccgiaaDoor
/-! W06X: the document's reader: numbers, put together. -/
namespace Go.Sx.YtmbakmdgmccgiaaDoor
open Go Go.Sx Go.Sx.Js
set_option autoImplicit false
set_option linter.unusedVariables false
set_option linter.unusedSimpArgs false
section
variable {n : Nat} {s : List Int}
end
end Go.Sx.YtmbakmdgmccgiaaDoor
/-! W06Y: the document's reader: runes, codes, escapes. -/
namespace Go.Sx.YtmbakmdgmccgiaaDoor
open Go Go.Sx Go.Sx.Js
set_option autoImplicit false
set_option linter.unusedVariables false
set_option linter.unusedSimpArgs false
section
variable {n : Nat} {s : List Int}
end
end Go.Sx.YtmbakmdgmccgiaaDoor
