/- Part of a proof by a small interpreter on plain values; no condition. -/
import Derived.Test.YtmbakmdgmccgiaaDoorWd
/-! W06Z: the document's reader: escapes. -/
namespace Go.Sx.YtmbakmdgmccgiaaDoor
open Go Go.Sx Go.Sx.Js
set_option autoImplicit false
set_option linter.unusedVariables false
set_option linter.unusedSimpArgs false
def okT : Nat → Int → Bool := fun _ _ => true
theorem hex_tail {l r : List Int} {d : Int} (h : Js.hex l = .ok d r) : r = l.tail ∧ r.length + 1 = l.length := by
  have := hex_len h
  cases l with
  | nil => cases h
  | cons c l =>
    rw [hex_cons] at h
    split at h
    · cases h
    · injection h with _ h
      exact ⟨h.symm, this⟩
theorem fourT_s (l : List Int) (k : Nat) : fourR okT l (k + 1) = (fourR okT l k).bind fun a r => (Js.hex r).map fun d => a * 16 + d := by
  show (fourR okT l k).bind (fun a r => (pairHex (fun _ => true) r).map fun d => a * 16 + d) = _
  simp only [pairHex_true]
theorem fourT_ok {l : List Int} : ∀ {k : Nat} {a : Int} {r : List Int}, k ≤ 4 → fourR okT l k = .ok a r → r = l.drop k ∧ k ≤ l.length ∧ 0 ≤ a ∧ (k = 0 → a = 0) ∧ (k = 1 → a ≤ 15) ∧ (k = 2 → a ≤ 255) ∧ (k = 3 → a ≤ 4095) ∧ (k = 4 → a ≤ 65535)
  | 0, a, r, _, h => by
    injection h with h1 h2
    subst h1 h2
    simp
  | k + 1, a, r, hk, h => by
    rw [fourT_s] at h
    obtain ⟨a', r', h1, h2⟩ := bind_ok h
    obtain ⟨d, h3, rfl⟩ := map_ok h2
    obtain ⟨e1, e2, e3, e4⟩ := fourT_ok (by omega) h1
    obtain ⟨f1, f2⟩ := hex_tail h3
    have hd := hex_range h3
    rw [e1] at f1 f2
    rw [List.length_drop] at f2
    refine ⟨by rw [f1, List.tail_drop], by omega, by omega, ?_⟩
    omega
theorem unicode_four (l : List Int) : Js.unicode l = match fourR okT l 4 with
    | .bad e r => .bad e r
    | .ok x r => if 56320 ≤ x ∧ x ≤ 57343 then .bad 3 (l.drop 3) else if 55296 ≤ x ∧ x ≤ 56319 then Js.pair x r else .ok (enc x) r := by
  simp only [fourT_s]
  unfold Js.unicode
  rw [show fourR okT l 0 = .ok 0 l from rfl]
  cases h1 : Js.hex l with
  | bad e l' => simp [PR.bind, PR.map, h1]
  | ok a l1 =>
    simp only [PR.bind, PR.map, h1]
    cases h2 : Js.hex l1 with
    | bad e l' => simp [PR.bind, PR.map]
    | ok b l2 =>
      simp only [PR.bind, PR.map]
      cases h3 : Js.hex l2 with
      | bad e l' => simp [PR.bind, PR.map]
      | ok c l3 =>
        simp only [PR.bind, PR.map]
        cases h4 : Js.hex l3 with
        | bad e l' => simp [PR.bind, PR.map]
        | ok d l4 =>
          simp only [PR.bind, PR.map]
          have e1 := (hex_tail h1).1
          have e2 := (hex_tail h2).1
          have e3 := (hex_tail h3).1
          have : l.drop 3 = l3 := by
            rw [e3, e2, e1]; simp only [← List.drop_one, List.drop_drop]
          rw [this, show (((0 * 16 + a) * 16 + b) * 16 + c) * 16 + d = ((a * 16 + b) * 16 + c) * 16 + d by omega]
theorem pairR_four (l : List Int) : ∀ k, pairR l k = (word [92, 117] l).bind fun _ r => fourR pairOk r k
  | 0 => by
    show (word [92, 117] l).map (fun _ => 0) = _
    cases word [92, 117] l <;> rfl
  | k + 1 => by
    show (pairR l k).bind _ = _
    rw [pairR_four l k]
    cases word [92, 117] l <;> rfl
section
variable {n : Nat} {s : List Int}
end
end Go.Sx.YtmbakmdgmccgiaaDoor
/-! W06E: the document's reader: texts, members. -/
namespace Go.Sx.YtmbakmdgmccgiaaDoor
open Go Go.Sx Go.Sx.Js
set_option autoImplicit false
set_option linter.unusedVariables false
set_option linter.unusedSimpArgs false
section
variable {n : Nat} {s : List Int}
theorem blanks_cons (c : Int) (r : List Int) : blanks (c :: r) = if isBlank c = true then blanks r else c :: r := rfl
theorem blanks_idem : ∀ l, blanks (blanks l) = blanks l
  | [] => rfl
  | c :: r => by
    by_cases h : isBlank c = true
    · have e : blanks (c :: r) = blanks r := by rw [blanks_cons, if_pos h]
      rw [e]
      exact blanks_idem r
    · have e : blanks (c :: r) = c :: r := by rw [blanks_cons, if_neg h]
      rw [e, e]
end
end Go.Sx.YtmbakmdgmccgiaaDoor
/-! W06G: the document's reader: lists, objects, values. -/
namespace Go.Sx.YtmbakmdgmccgiaaDoor
open Go Go.Sx Go.Sx.Js
set_option autoImplicit false
set_option linter.unusedVariables false
set_option linter.unusedSimpArgs false
section
variable {n : Nat} {s : List Int}
end
end Go.Sx.YtmbakmdgmccgiaaDoor
/-! W06H: the document's reader: values, texts. -/
namespace Go.Sx.YtmbakmdgmccgiaaDoor
open Go Go.Sx Go.Sx.Js
set_option autoImplicit false
set_option linter.unusedVariables false
set_option linter.unusedSimpArgs false
section
variable {n : Nat} {s : List Int}
theorem value_blanks (k d : Nat) (l : List Int) : Js.value k d (blanks l) = Js.value k d l := by
  cases d with
  | zero => rw [value_0, value_0, blanks_idem]
  | succ d => rw [value_s, value_s, blanks_idem]
end
end Go.Sx.YtmbakmdgmccgiaaDoor
