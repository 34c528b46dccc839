/- Part of a proof by a small interpreter on plain values; no condition. -/
import Derived.Test.YtobhaaegjffaaaaDoorWM
namespace Go.Sx.YtobhaaegjffaaaaDoor
open Go Go.Sx
set_option autoImplicit false
set_option linter.unusedVariables false
set_option linter.unusedSimpArgs false
theorem sure_gen (k : Nat) : sure (k + 100) () = some true := by kernel_rfl
theorem pkR_ok (w now : List Int) (may : List Bool) (h : may.length = w.length) (hn : now.length = w.length) : ((pkR w now may).2.1 = 0 ∧ 0 ≤ (pkR w now may).1 ∧ (pkR w now may).1 < (may.length : Int) ∧ may.getD (pkR w now may).1.toNat false = true) ∨ ((pkR w now may).2.1 = 8 ∧ ∀ j, j < may.length → may.getD j false = false) := by
  have inv := rn_inv w may now w.length
  unfold pkR
  rw [if_pos h]
  by_cases c : (rn w may now w.length).1 < 0
  · right
    rw [if_pos c, h]
    exact ⟨rfl, (inv.no c).2⟩
  · left
    rw [if_neg c]
    have := inv.hi
    exact ⟨rfl, by dsimp only; omega, by dsimp only; omega, inv.yes (by omega)⟩
theorem pkR_bad (w now : List Int) (may : List Bool) (h : may.length ≠ w.length) : (pkR w now may).2.1 = 1 := by
  unfold pkR
  rw [if_neg h]
theorem pick_big (n : Nat) (w now : List Int) (may : List Bool) (h : may.length ≠ w.length) : pick n (may, w, now) = some ((pkR w now may).1, (pkR w now may).2.1, w, (pkR w now may).2.2) := by
  unfold pick pkR
  dsimp only
  rw [if_neg h, if_pos (by simp; omega)]
/-- has one come? -/
def anyTo (l : List Bool) : Nat → Bool
  | 0 => false
  | k + 1 => anyTo l k || l.getD k false
theorem anyTo_true (l : List Bool) : ∀ k, anyTo l k = true ↔ ∃ j, j < k ∧ l.getD j false = true
  | 0 => by simp [anyTo]
  | k + 1 => by
    simp only [anyTo, Bool.or_eq_true, anyTo_true l k]
    constructor
    · rintro (⟨j, h1, h2⟩ | h)
      · exact ⟨j, by omega, h2⟩
      · exact ⟨k, by omega, h⟩
    · rintro ⟨j, h1, h2⟩
      by_cases e : j = k
      · subst e; exact .inr h2
      · exact .inl ⟨j, by omega, h2⟩
theorem wrrLawful_n (n : Nat) (hs : sure n () = some true) (hn : 200 < n) (weights : List Int) (may : List (List Bool)) (hw : weights.length * 8 ≤ 140737488355328) (hm : ∀ x ∈ may, x.length * 1 ≤ 140737488355328) (hl : ∀ x ∈ may, x.length < n) : wrrLawful n (weights, may) = some true := by
  apply Gives.eq
  unfold wrrLawful
  dsimp only
  refine Gives.pos hw ?_
  rcases wnew_v n (by omega) weights with ⟨hok, h1, h2⟩ | ⟨h1, h2⟩
  rotate_left
  · rw [h1]
    simp only [Option.bind_some]
    exact Gives.bind_eq hs (Gives.of_some rfl)
  rw [h1]
  simp only [Option.bind_some]
  obtain ⟨⟨hl1, hl2⟩, _⟩ := hok
  refine Gives.bind_eq (clone_v n weights _ (by omega) (by simp; omega)) ?_
  dsimp only
  refine Gives.loop (X := List Int × List (List Bool) × Int × List Int × List Int × List Int × List Int)
    (fun y => ∃ (k : Nat) (now : List Int), k ≤ 100 ∧ now.length = weights.length ∧ y = (weights, may, (k : Int), weights, now, weights, now)) (fun y => (100 - y.2.2.1).toNat) ?_ n _ ⟨0, _, by omega, by simp, rfl⟩ (by dsimp only; omega)
  rintro rec y ⟨k, now, hk, hnl, rfl⟩ hr
  dsimp only
  have fin : Gives ((state n (weights, now)).bind fun r46 => (state n (weights, now)).bind fun r47 => (numbers n (r46.2.2, r47.2.2)).bind fun r48 => if r48 = true then (sure n ()).bind fun r49 => some r49 else some false) (fun x => x = true) := by
    have e1 := state_v n weights now (by omega)
    exact Gives.bind_eq e1 (Gives.bind_eq e1 (Gives.bind_eq (numbers_same n now (by omega) (by omega)) (Gives.pos rfl (Gives.bind_eq hs (Gives.of_some rfl)))))
  refine Gives.dite (fun c1 => ?_) (fun _ => fin)
  refine Gives.dite (fun c2 => ?_) (fun _ => fin)
  clear fin
  have hx := getDb may [] k (by omega)
  have hin : may.getD k [] ∈ may := by
    have hlt : k < may.length := by omega
    simp [List.getD_eq_getElem?_getD, hlt]
  refine Gives.bind_eq hx (Gives.pos (hm _ hin) (Gives.bind_eq hx (Gives.pos (hm _ hin) ?_)))
  have hmx := hm _ hin
  have hlx := hl _ hin
  generalize hv : may.getD k [] = v at *
  refine Gives.loop (X := List Int × List (List Bool) × Int × Bool × Int × List Int × List Int × List Int × List Int × List Bool × List Bool)
    (fun y => ∃ j : Nat, j ≤ v.length ∧ y = (weights, may, (k : Int), anyTo v j, (j : Int), weights, now, weights, now, v, v)) (fun y => ((v.length : Int) - y.2.2.2.2.1).toNat) ?_ n _ ⟨0, by omega, rfl⟩ (by dsimp only; omega)
  rintro rec2 y ⟨j, hj, rfl⟩ hr2
  dsimp only
  refine Gives.dite (fun c => ?_) (fun c => ?_)
  · have e : IntKind.wrap .i64 ((j : Int) + 1) = ((j + 1 : Nat) : Int) := wrap64 (by omega) (by omega)
    rw [e, Int.toNat_natCast]
    have next : ∀ b, anyTo v (j + 1) = b → Gives (rec2 (weights, may, (k : Int), b, ((j + 1 : Nat) : Int), weights, now, weights, now, v, v)) (fun x => x = true) := by
      rintro b rfl
      exact hr2 _ ⟨j + 1, by omega, rfl⟩ (by dsimp only; omega)
    refine Gives.ite (fun ha => next true (by simp [anyTo, ha])) (fun ha => Gives.pos (by omega) (next _ ?_))
    rw [Bool.not_eq_true] at ha
    simp only [anyTo, ha, Bool.false_or]
  have hjl : j = v.length := by omega
  subst hjl
  have hp : pick n (v, weights, now) = some ((pkR weights now v).1, (pkR weights now v).2.1, weights, (pkR weights now v).2.2) := by
    by_cases e : v.length = weights.length
    · exact pick_v n weights now v hnl (by omega) (by omega)
    · exact pick_big n weights now v e
  have hpl := pkR_len weights now v
  refine Gives.bind_eq hp (Gives.bind_eq hp ?_)
  dsimp only
  refine Gives.nneg rfl (Gives.bind_eq (num_v _ _) (Gives.bind_eq (num_v _ _) (Gives.nneg rfl (Gives.bind_eq hx ?_))))
  have e : IntKind.wrap .i64 ((k : Int) + 1) = ((k + 1 : Nat) : Int) := wrap64 (by omega) (by omega)
  rw [e]
  have next : Gives (rec (weights, may, ((k + 1 : Nat) : Int), weights, (pkR weights now v).2.2, weights, (pkR weights now v).2.2)) (fun x => x = true) := hr _ ⟨k + 1, _, by omega, by omega, rfl⟩ (by dsimp only; omega)
  refine Gives.nite (fun d => ?_) (fun d => ?_)
  · rw [pkR_bad weights now v (by omega)]
    exact Gives.bind_eq (num_v _ _) (Gives.nneg rfl next)
  · have d' : v.length = weights.length := by omega
    rcases pkR_ok weights now v d' hnl with ⟨p1, p2, p3, p4⟩ | ⟨p1, p2⟩
    · have ha : anyTo v v.length = true := (anyTo_true _ _).2 ⟨_, by omega, p4⟩
      rw [p1, ha]
      refine Gives.neg (by decide) (Gives.pos rfl (Gives.dneg (by omega) (Gives.bind_eq hx (Gives.dneg (by omega) (Gives.bind_eq hx ?_)))))
      refine Gives.bind_eq (idx_eq false p2 p3) ?_
      rw [p4]
      exact Gives.neg (by decide) next
    · have ha : anyTo v v.length = false := by
        rw [← Bool.not_eq_true, anyTo_true]
        rintro ⟨j, h1, h2⟩
        rw [p2 j h1] at h2
        cases h2
      rw [p1, ha]
      exact Gives.neg (by decide) (Gives.neg (by decide) next)
theorem le_sum (f : List Bool → Nat) : ∀ (l : List (List Bool)) x, x ∈ l → f x ≤ (l.map f).sum
  | [], x, h => by cases h
  | a :: l, x, h => by
    simp only [List.map_cons, List.sum_cons]
    rcases List.mem_cons.1 h with rfl | h
    · omega
    · have := le_sum f l x h; omega
theorem wrrLawful_true (weights : List Int) (may : List (List Bool)) (hw : weights.length * 8 ≤ 140737488355328) (hm : ∀ x ∈ may, x.length * 1 ≤ 140737488355328) : ∃ n, wrrLawful n (weights, may) = some true :=
  ⟨((may.map List.length).sum + 200) + 100, wrrLawful_n _ (sure_gen _) (by omega) weights may hw hm (fun x hx => by have := le_sum List.length may x hx; omega)⟩
end Go.Sx.YtobhaaegjffaaaaDoor
