/- Part of a proof by a small interpreter on plain values; no condition. -/
import Derived.Test.YtmbakmdgmccgiaaDoorWd
/-! W06Z: the document's reader: escapes. -/
namespace Go.Sx.YtmbakmdgmccgiaaDoor
open Go Go.Sx Go.Sx.Js
set_option autoImplicit false
set_option linter.unusedVariables false
set_option linter.unusedSimpArgs false
theorem da3 {s l a : List Int} {e b c : Int} (h : Da s e l (a, b, c)) : ∃ j : Nat, s = a ∧ (j : Int) = b ∧ e = c ∧ At s j l := by
  obtain ⟨j, h1, h2⟩ := h
  cases h1
  exact ⟨j, rfl, rfl, rfl, h2⟩
section
variable {n : Nat} {s : List Int}
end
end Go.Sx.YtmbakmdgmccgiaaDoor
/-! W06E: the document's reader: texts, members. -/
namespace Go.Sx.YtmbakmdgmccgiaaDoor
open Go Go.Sx Go.Sx.Js
set_option autoImplicit false
set_option linter.unusedVariables false
set_option linter.unusedSimpArgs false
section
variable {n : Nat} {s : List Int}
theorem rHas_go {ns : List (List Int)} {x : List Int} (hl : ns.length ≤ 4611686018427387904) (hn : ns.length < n) : Gives (rHas n (ns, x)) (fun b => b = ns.any (· == x)) := by
  unfold rHas
  simp only
  refine Gives.loop (fun z => ∃ k : Nat, z = (ns, x, (k : Int)) ∧ k ≤ ns.length ∧ (ns.drop k).any (· == x) = ns.any (· == x)) (fun z => ns.length - z.2.2.toNat) (fun rec z hz hrec => ?_) n _ ⟨0, rfl, by omega, rfl⟩ (by dsimp only; omega)
  obtain ⟨k, rfl, hk, hb⟩ := hz
  dsimp only at hrec ⊢
  refine Gives.dite (fun hlt => ?_) fun hge => ?_
  · have hkl : k < ns.length := by omega
    have hdr : ns.drop k = ns[k] :: ns.drop (k + 1) := List.drop_eq_getElem_cons hkl
    refine Gives.bind_eq (r := ns[k]) (by unfold idx; rw [if_pos (by omega)]; simp [hkl]) ?_
    rw [hdr, List.any_cons] at hb
    refine Gives.ite (fun he => Gives.of_some ?_) fun he => ?_
    · rw [← hb, he]; rfl
    · rw [wrap64 (by omega) (by omega)]
      refine hrec _ ⟨k + 1, rfl, by omega, ?_⟩ (by dsimp only; omega)
      rw [← hb]
      have : (ns[k] == x) = false := by simpa using he
      rw [this]; rfl
  · obtain rfl : k = ns.length := by omega
    rw [List.drop_length] at hb
    exact Gives.of_some hb
end
end Go.Sx.YtmbakmdgmccgiaaDoor
/-! W06G: the document's reader: lists, objects, values. -/
namespace Go.Sx.YtmbakmdgmccgiaaDoor
open Go Go.Sx Go.Sx.Js
set_option autoImplicit false
set_option linter.unusedVariables false
set_option linter.unusedSimpArgs false
section
variable {n : Nat} {s : List Int}
end
end Go.Sx.YtmbakmdgmccgiaaDoor
/-! W06H: the document's reader: values, texts. -/
namespace Go.Sx.YtmbakmdgmccgiaaDoor
open Go Go.Sx Go.Sx.Js
set_option autoImplicit false
set_option linter.unusedVariables false
set_option linter.unusedSimpArgs false
section
variable {n : Nat} {s : List Int}
end
end Go.Sx.YtmbakmdgmccgiaaDoor
