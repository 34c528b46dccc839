/- Part of a proof by a small interpreter on plain values; no condition. -/
import Derived.Test.YtbiipgbejlfkbaaGreatDoorWf
import Derived.Test.YtbiipgbejlfkbaaGreatDoorSx33
namespace Go.Sx.YtbiipgbejlfkbaaGreatDoor
open Go Go.Sx Go.Proofs
set_option autoImplicit false
set_option linter.unusedVariables false
set_option linter.unusedSimpArgs false
/-! the parts of a target. -/
abbrev Tg := Int × List Int × List Int × List Int × Bool × Int
def errT (e : Int) : Tg := (0, [], [], [], false, e)
def cutV (x : List Int) (k : Int) : List Int × List Int × Bool := if ixb x k = -1 then (x, ([], false)) else (x.take (ixb x k).toNat, (x.drop ((ixb x k).toNat + 1), true))
def behP (form : Int) (host rest : List Int) : Tg :=
  if pathP (if (cutV rest 63).1 = [] ∧ form = 2 then [47] else (cutV rest 63).1) = true ∧ queryP (cutV rest 63).2.1 = true then
    (form, host, (if (cutV rest 63).1 = [] ∧ form = 2 then [47] else (cutV rest 63).1), (cutV rest 63).2.1, (cutV rest 63).2.2, 0)
  else errT 23
def hostc (c : Int) : Bool := lett c || isd c || [45, 46, 95, 58].contains c
def hp : List Int → Nat
  | [] => 0
  | c :: r => if hostc c = true then hp r + 1 else 0
def HT : List Int := [104, 116, 116, 112, 58, 47, 47]
def absP (r : List Int) : Tg := if 1 ≤ hp r ∧ hp r ≤ 255 then behP 2 ((r.take (hp r)).map lwA) (r.drop (hp r)) else errT 23
def parP (s : List Int) : Tg :=
  if s.length > 65536 then errT 2
  else if s = [42] then (3, [], [], [], false, 0)
  else if s.take 1 = [47] then behP 1 [] s
  else if s.length ≥ 7 ∧ (s.take 7).map lwA = HT then absP (s.drop 7)
  else errT 23
theorem hp_le : ∀ s : List Int, hp s ≤ s.length
  | [] => by simp [hp]
  | c :: r => by
    rw [hp]
    have := hp_le r
    split <;> simp <;> omega
theorem hp_at : ∀ (s : List Int) (i : Nat), i < hp s → hostc (s.getD i 0) = true
  | [], i, h => by simp [hp] at h
  | c :: r, i, h => by
    rw [hp] at h
    split at h
    · rename_i hc
      cases i with
      | zero => exact hc
      | succ i => exact hp_at r i (by omega)
    · omega
theorem hp_end : ∀ (s : List Int), hp s < s.length → hostc (s.getD (hp s) 0) = false
  | [], h => by simp at h
  | c :: r, h => by
    rw [hp] at h ⊢
    split
    · rename_i hc
      rw [if_pos hc] at h
      exact hp_end r (by simp at h; omega)
    · rename_i hc
      simpa using hc
theorem hostc_low {c : Int} (h : hostc c = true) : 0 ≤ c ∧ c < 128 ∧ c ≠ 47 ∧ c ≠ 63 := by
  unfold hostc lett isd at h
  simp only [Bool.or_eq_true, decide_eq_true_eq, List.contains_iff_mem, List.mem_cons, List.not_mem_nil, or_false] at h
  omega
theorem cut_v (n : Nat) {x : List Int} (k : Int) (h : TX x) : cut n (x, [k]) = some (cutV x k) := cut_f n x k (by have := h.2; omega)
theorem cutV_TX {x : List Int} (k : Int) (h : TX x) : TX (cutV x k).1 ∧ TX (cutV x k).2.1 := by
  unfold cutV
  split
  · exact ⟨h, by simp [TX, BL]⟩
  · exact ⟨h.take _, h.drop _⟩

end Go.Sx.YtbiipgbejlfkbaaGreatDoor
