/- Part of a proof by a small interpreter on plain values; no condition. -/
import Derived.Test.YtbiipgbejlfkbaaGreatDoorWj
namespace Go.Sx.YtbiipgbejlfkbaaGreatDoor
open Go Go.Sx Go.Proofs
set_option autoImplicit false
set_option linter.unusedVariables false
set_option linter.unusedSimpArgs false

theorem works_v : works FU () = some true := by kernel_rfl
theorem num_v (n : Nat) (x : Int) : turnstilelaw24Num n x = some x := by
  unfold turnstilelaw24Num
  by_cases h : x = 0
  · rw [if_pos (by simpa using h), h]
  · rw [if_neg (by simpa using h), if_neg (by simpa using h)]
theorem in_v (n : Nat) (a b c : Int) : healthIn n (a, (b, c)) = some (decide (b ≤ a ∧ a ≤ c)) := by
  unfold healthIn
  dsimp only
  by_cases h : b ≤ a
  · rw [if_pos (by simpa using h)]; simp [h]
  · rw [if_neg (by simpa using h)]; simp [h]
/-! a path has no question mark. -/
theorem made_no63 (b : Bool) (s : List Int) (h : madeP [47] b s = true) : 63 ∉ s := by
  match s, h with
  | [], _ => simp
  | c :: r, h =>
    by_cases hc : c = 37
    · subst hc
      rw [madeP, if_pos rfl] at h
      simp only [Bool.and_eq_true] at h
      obtain ⟨hok, _, hr⟩ := h
      have ih := made_no63 b (r.drop 2) hr
      obtain ⟨x, y, q, e, hx, hy⟩ := cd_inv hok
      injection e with _ e
      subst e
      have ih : 63 ∉ q := ih
      have h63 : (hexV 63).2 = false := by decide
      intro hm
      simp only [List.mem_cons] at hm
      rcases hm with g | g | g | g
      · cases g
      · rw [← g, h63] at hx; cases hx
      · rw [← g, h63] at hy; cases hy
      · exact ih g
    · rw [madeP, if_neg hc] at h
      simp only [Bool.and_eq_true, Bool.or_eq_true, List.contains_iff_mem, List.mem_singleton] at h
      have ih := made_no63 b r h.2
      intro hm
      rcases List.mem_cons.1 hm with g | g
      · rcases h.1 with e | e
        · rw [← g] at e; revert e; decide
        · omega
      · exact ih g
termination_by s.length
decreasing_by all_goals simp <;> omega
theorem path_par {s : List Int} (hl : s.length ≤ 1024) : ((parP s).2.2.2.2.2 = 0 ∧ (parP s).1 = 1 ∧ (parP s).2.2.2.2.1 = false) ↔ pathP s = true := by
  have hform : ∀ h r, (behP 2 h r).1 ≠ 1 := fun h r e => by
    unfold behP at e
    by_cases hc : pathP (if (cutV r 63).1 = [] ∧ (2 : Int) = 2 then [47] else (cutV r 63).1) = true ∧ queryP (cutV r 63).2.1 = true
    · rw [if_pos hc] at e; exact absurd (show (2 : Int) = 1 from e) (by decide)
    · rw [if_neg hc] at e; exact absurd e (by decide)
  constructor
  · rintro ⟨h0, h1, h2⟩
    by_cases h42 : s = [42]
    · subst h42; exact absurd h1 (by decide)
    by_cases h47 : s.take 1 = [47]
    · have e : parP s = behP 1 [] s := by unfold parP; rw [if_neg (c := s.length > 65536) (by omega), if_neg h42, if_pos h47]
      rw [e] at h0 h2
      unfold behP at h0 h2
      by_cases hc : pathP (if (cutV s 63).1 = [] ∧ (1 : Int) = 2 then [47] else (cutV s 63).1) = true ∧ queryP (cutV s 63).2.1 = true
      · rw [if_pos hc] at h2
        have h3 := hc.1
        rw [if_neg (fun e => by cases e.2)] at h3
        have h2' : (cutV s 63).2.2 = false := h2
        unfold cutV at h3 h2'
        split at h2'
        · rename_i g; rw [if_pos g] at h3; exact h3
        · cases h2'
      · rw [if_neg hc] at h0; exact absurd h0 (by decide)
    · exfalso
      unfold parP at h0 h1
      rw [if_neg (c := s.length > 65536) (by omega), if_neg h42, if_neg h47] at h0 h1
      split at h0
      · rename_i g
        rw [if_pos g] at h1
        unfold absP at h1
        split at h1
        · exact hform _ _ h1
        · exact absurd h1 (by decide)
      · exact absurd h0 (by decide)
  · intro hp
    have hm : madeP [47] true s = true := by unfold pathP at hp; simp only [Bool.and_eq_true] at hp; exact hp.2
    have h63 := made_no63 true s hm
    obtain ⟨r, hr⟩ := path_ne hp
    have hc : cutV s 63 = (s, ([], false)) := by
      unfold cutV
      rcases ixb_case s 63 with ⟨e, _⟩ | ⟨i, _, _, _, e⟩
      · rw [if_pos e]
      · exact absurd (by rw [e]; simp) h63
    have e : parP s = (1, [], s, [], false, 0) := by
      unfold parP
      rw [if_neg (c := s.length > 65536) (by omega), if_neg (c := s = [42]) (fun e => by rw [hr] at e; cases e), if_pos (c := s.take 1 = [47]) (by rw [hr]; rfl)]
      unfold behP
      rw [hc]
      dsimp only
      rw [if_neg (c := s = [] ∧ (1 : Int) = 2) (fun e => by cases e.2), if_pos ⟨hp, by simp [queryP, madeP]⟩]
    rw [e]; exact ⟨rfl, rfl, rfl⟩
theorem isPathH_v (n : Nat) {s : List Int} (h : TX s) (hl : s.length ≤ 1024) (hn : 300000000 < n) : isPath n (s, (normP s).2) = some (pathP s) := by
  unfold isPath
  dsimp only
  by_cases h0 : (normP s).2 = 0
  · rw [if_pos (by simpa using h0)]
    obtain ⟨_, _, _, hp⟩ := norm_zero h0
    rw [hp]
  · rw [if_neg (by simpa using h0), parse_v n h hn, Option.bind_some]
    have := path_par hl
    by_cases e0 : (parP s).2.2.2.2.2 = 0
    · rw [if_pos (by simpa using e0)]
      by_cases e1 : (parP s).1 = 1
      · rw [if_pos (by simpa using e1)]
        congr 1
        rw [Bool.eq_iff_iff, ← this]; simp [e0, e1]
      · rw [if_neg (by simpa using e1)]
        congr 1; symm
        rw [Bool.eq_false_iff]; exact fun e => e1 (this.2 e).2.1
    · rw [if_neg (by simpa using e0)]
      congr 1; symm
      rw [Bool.eq_false_iff]; exact fun e => e0 (this.2 e).1
/-! rules and states. -/
def ruleP (x1 : List Int) (x2 x3 x4 x5 : Int) : Prop := (1 ≤ x2 ∧ x2 ≤ 1099511627776) ∧ (1 ≤ x3 ∧ x3 ≤ x2) ∧ (1 ≤ x4 ∧ x4 ≤ 1024) ∧ (1 ≤ x5 ∧ x5 ≤ 1024) ∧ x1.length ≤ 1024 ∧ pathP x1 = true
instance (x1 : List Int) (x2 x3 x4 x5 : Int) : Decidable (ruleP x1 x2 x3 x4 x5) := by unfold ruleP; infer_instance
def vP (x1 : List Int) (x2 x3 x4 x5 : Int) : Int := if x2 = 0 then 0 else if ruleP x1 x2 x3 x4 x5 then 0 else 4
theorem rValid_v (n : Nat) {x1 : List Int} {x2 x3 x4 x5 : Int} (h : TX x1) (hn : 300000000 < n) : rValid n (x1, (x2, (x3, (x4, x5)))) = some (vP x1 x2 x3 x4 x5) := by
  refine Gives.eq ?_
  unfold rValid vP
  dsimp only
  refine Gives.eite (fun h0 => Gives.of_some (by rw [if_pos h0])) (fun h0 => ?_)
  rw [if_neg h0]
  have bad : ¬ ruleP x1 x2 x3 x4 x5 → Gives (some (4 : Int)) (· = if ruleP x1 x2 x3 x4 x5 then 0 else 4) := fun hb => Gives.of_some (by rw [if_neg hb])
  refine Gives.dite (fun g => bad (fun e => by unfold ruleP at e; omega)) (fun g1 => ?_)
  refine Gives.dite (fun g => bad (fun e => by unfold ruleP at e; omega)) (fun g2 => ?_)
  refine Gives.dite (fun g => bad (fun e => by unfold ruleP at e; omega)) (fun g3 => ?_)
  refine Gives.dite (fun g => bad (fun e => by unfold ruleP at e; omega)) (fun g4 => ?_)
  refine Gives.dite (fun g => bad (fun e => by unfold ruleP at e; omega)) (fun g5 => ?_)
  refine Gives.dite (fun g => bad (fun e => by unfold ruleP at e; omega)) (fun g6 => ?_)
  refine Gives.dite (fun g => bad (fun e => by unfold ruleP at e; omega)) (fun g7 => ?_)
  refine Gives.dite (fun g => bad (fun e => by unfold ruleP at e; omega)) (fun g8 => ?_)
  refine Gives.dite (fun g => bad (fun e => by unfold ruleP at e; omega)) (fun g9 => ?_)
  refine Gives.bind_eq (rPath_v n h (by omega)) ?_
  refine Gives.ite (fun g => bad (fun e => by unfold ruleP at e; rw [e.2.2.2.2.2] at g; cases g)) (fun g => Gives.of_some ?_)
  rw [if_pos (c := ruleP x1 x2 x3 x4 x5) (by unfold ruleP; exact ⟨by omega, by omega, by omega, by omega, by omega, by simpa using g⟩)]
theorem valid_v (n : Nat) {x1 : List Int} {x2 x3 x4 x5 : Int} (h : TX x1) (hn : 300000000 < n) : valid n (x1, (x2, (x3, (x4, x5)))) = some (vP x1 x2 x3 x4 x5) := by
  refine Gives.eq ?_
  unfold valid vP
  dsimp only
  refine Gives.eite (fun h0 => Gives.of_some (by rw [if_pos h0])) (fun h0 => ?_)
  rw [if_neg h0]
  have bad : ¬ ruleP x1 x2 x3 x4 x5 → Gives (Option.bind (normal n x1) fun _ => some (4 : Int)) (· = if ruleP x1 x2 x3 x4 x5 then 0 else 4) := fun hb => Gives.bind_eq (normal_v n h hn) (Gives.of_some (by rw [if_neg hb]))
  have bad2 : ¬ ruleP x1 x2 x3 x4 x5 → Gives (some (4 : Int)) (· = if ruleP x1 x2 x3 x4 x5 then 0 else 4) := fun hb => Gives.of_some (by rw [if_neg hb])
  rw [in_v, in_v, in_v, in_v]
  refine Gives.dite (fun g1 => ?_) (fun g => bad (fun e => by unfold ruleP at e; omega))
  refine Gives.dite (fun g2 => ?_) (fun g => bad (fun e => by unfold ruleP at e; omega))
  refine Gives.dite (fun g3 => ?_) (fun g => bad (fun e => by unfold ruleP at e; omega))
  refine Gives.dite (fun g4 => ?_) (fun g => bad (fun e => by unfold ruleP at e; omega))
  refine Gives.bind_eq (normal_v n h hn) ?_
  refine Gives.ite (fun g => bad2 (fun e => by unfold ruleP at e; simp at g; omega)) (fun g => ?_)
  have g5 : x1.length ≤ 1024 := by simp at g; omega
  refine Gives.bind_eq (isPathH_v n h g5 hn) ?_
  refine Gives.ite (fun g => bad2 (fun e => by unfold ruleP at e; rw [e.2.2.2.2.2] at g; cases g)) (fun g => Gives.of_some ?_)
  rw [if_pos (c := ruleP x1 x2 x3 x4 x5) (by unfold ruleP; exact ⟨by omega, by omega, by omega, by omega, by omega, by simpa using g⟩)]
def mP (x1 : Bool) (x2 x3 x4 x6 x8 x9 : Int) : Bool := if x6 = 0 then ((x1 == true) && ((x2 == (0 : Int)) && ((x3 == (0 : Int)) && ((x4 == (-1 : Int)) && true)))) else decide (0 ≤ x2 ∧ x2 < (if x1 = true then x9 else x8) ∧ 0 ≤ x3 ∧ x3 ≤ 2199023255552 ∧ -1 ≤ x4 ∧ x4 ≤ 1099511627776)
theorem rMay_v (n : Nat) (x1 : Bool) (x2 x3 x4 : Int) (x5 : List Int) (x6 x7 x8 x9 : Int) : rMay n (x1, (x2, (x3, (x4, (x5, (x6, (x7, (x8, x9)))))))) = some (mP x1 x2 x3 x4 x6 x8 x9) := by
  refine Gives.eq ?_
  unfold rMay mP
  dsimp only
  refine Gives.eite (fun h0 => Gives.of_some (by rw [if_pos h0])) (fun h0 => ?_)
  rw [if_neg h0]
  cases x1 with
  | true =>
    rw [if_pos (rfl : true = true), if_pos (rfl : true = true)]
    refine Gives.dite (fun g1 => ?_) (fun g => Gives.of_some (by rw [decide_eq_false (by omega)]))
    refine Gives.dite (fun g2 => ?_) (fun g => Gives.of_some (by rw [decide_eq_false (by omega)]))
    refine Gives.dite (fun g3 => ?_) (fun g => Gives.of_some (by rw [decide_eq_false (by omega)]))
    refine Gives.dite (fun g4 => ?_) (fun g => Gives.of_some (by rw [decide_eq_false (by omega)]))
    refine Gives.dite (fun g5 => ?_) (fun g => Gives.of_some (by rw [decide_eq_false (by omega)]))
    exact Gives.of_some (by rw [decide_eq_decide]; omega)
  | false =>
    rw [if_neg Bool.false_ne_true, if_neg Bool.false_ne_true]
    refine Gives.dite (fun g1 => ?_) (fun g => Gives.of_some (by rw [decide_eq_false (by omega)]))
    refine Gives.dite (fun g2 => ?_) (fun g => Gives.of_some (by rw [decide_eq_false (by omega)]))
    refine Gives.dite (fun g3 => ?_) (fun g => Gives.of_some (by rw [decide_eq_false (by omega)]))
    refine Gives.dite (fun g4 => ?_) (fun g => Gives.of_some (by rw [decide_eq_false (by omega)]))
    refine Gives.dite (fun g5 => ?_) (fun g => Gives.of_some (by rw [decide_eq_false (by omega)]))
    exact Gives.of_some (by rw [decide_eq_decide]; omega)
theorem can_v (n : Nat) (x1 : Bool) (x2 x3 x4 : Int) (x5 : List Int) (x6 x7 x8 x9 : Int) (hr : x6 = 0 ∨ ((1 ≤ x8 ∧ x8 ≤ 1024) ∧ (1 ≤ x9 ∧ x9 ≤ 1024))) : statecan n (x1, (x2, (x3, (x4, (x5, (x6, (x7, (x8, x9)))))))) = some (mP x1 x2 x3 x4 x6 x8 x9) := by
  refine Gives.eq ?_
  unfold statecan mP
  dsimp only
  refine Gives.eite (fun h0 => Gives.of_some (by rw [if_pos h0])) (fun h0 => ?_)
  rw [if_neg h0]
  rw [in_v, in_v, in_v, in_v, wrap64 (by omega) (by omega), wrap64 (by omega) (by omega)]
  cases x1 with
  | true =>
    rw [if_pos (rfl : true = true), if_pos (rfl : true = true)]
    refine Gives.dite (fun g1 => ?_) (fun g => Gives.of_some (by rw [decide_eq_false (by omega)]))
    refine Gives.dite (fun g2 => ?_) (fun g => Gives.of_some (by rw [decide_eq_false (by omega)]))
    exact Gives.of_some (by rw [decide_eq_decide]; omega)
  | false =>
    rw [if_neg Bool.false_ne_true, if_neg Bool.false_ne_true]
    refine Gives.dite (fun g1 => ?_) (fun g => Gives.of_some (by rw [decide_eq_false (by omega)]))
    refine Gives.dite (fun g2 => ?_) (fun g => Gives.of_some (by rw [decide_eq_false (by omega)]))
    exact Gives.of_some (by rw [decide_eq_decide]; omega)
def aP (x1 : Bool) (x2 x3 x4 : Int) (x5 : List Int) (x6 x7 x8 x9 x10 : Int) : Int := if vP x5 x6 x7 x8 x9 ≠ 0 then 4 else if (0 ≤ x10 ∧ x10 ≤ 1099511627776) ∧ mP x1 x2 x3 x4 x6 x8 x9 = true then 0 else 1
section
variable (x1 : Bool) (x2 x3 x4 : Int) (x5 : List Int) (x6 x7 x8 x9 x10 : Int)
theorem vP_or : vP x5 x6 x7 x8 x9 = 0 ∨ vP x5 x6 x7 x8 x9 = 4 := by
  unfold vP
  by_cases h : x6 = 0
  · rw [if_pos h]; exact .inl rfl
  · rw [if_neg h]
    by_cases g : ruleP x5 x6 x7 x8 x9
    · rw [if_pos g]; exact .inl rfl
    · rw [if_neg g]; exact .inr rfl
theorem vP_rule (h : vP x5 x6 x7 x8 x9 = 0) : x6 = 0 ∨ ((1 ≤ x8 ∧ x8 ≤ 1024) ∧ (1 ≤ x9 ∧ x9 ≤ 1024)) := by
  unfold vP at h
  split at h
  · left; assumption
  · split at h
    · rename_i g; unfold ruleP at g; exact .inr ⟨g.2.2.1, g.2.2.2.1⟩
    · cases h
theorem rAsked_v (n : Nat) (h : TX x5) (hn : 300000000 < n) : rAsked n (x1, (x2, (x3, (x4, (x5, (x6, (x7, (x8, (x9, x10))))))))) = some (aP x1 x2 x3 x4 x5 x6 x7 x8 x9 x10) := by
  refine Gives.eq ?_
  unfold rAsked aP
  dsimp only
  refine Gives.bind_eq (rValid_v n h hn) ?_
  refine Gives.nite (fun g => Gives.of_some (by rw [if_pos g])) (fun g => ?_)
  rw [if_neg (c := vP x5 x6 x7 x8 x9 ≠ 0) (fun e => e g)]
  refine Gives.dite (fun g1 => Gives.of_some (by rw [if_neg (by omega)])) (fun g1 => ?_)
  refine Gives.dite (fun g2 => Gives.of_some (by rw [if_neg (by omega)])) (fun g2 => ?_)
  refine Gives.bind_eq (rMay_v n x1 x2 x3 x4 x5 x6 x7 x8 x9) ?_
  refine Gives.ite (fun g3 => Gives.of_some ?_) (fun g3 => Gives.of_some ?_)
  · rw [if_neg (fun e => by rw [e.2] at g3; cases g3)]
  · rw [if_pos ⟨by omega, by simpa using g3⟩]
theorem check_v (n : Nat) (h : TX x5) (hn : 300000000 < n) : check n (x1, (x2, (x3, (x4, (x5, (x6, (x7, (x8, (x9, x10))))))))) = some (aP x1 x2 x3 x4 x5 x6 x7 x8 x9 x10) := by
  refine Gives.eq ?_
  unfold check aP
  dsimp only
  refine Gives.bind_eq (valid_v n h hn) ?_
  refine Gives.mite (fun g => Gives.of_some (by rw [if_pos g]; exact (vP_or x5 x6 x7 x8 x9).resolve_left g)) (fun g => ?_)
  rw [if_neg (c := vP x5 x6 x7 x8 x9 ≠ 0) (fun e => e g)]
  refine Gives.bind_eq (in_v n _ _ _) ?_
  refine Gives.ite (fun g1 => Gives.of_some ?_) (fun g1 => ?_)
  · rw [if_neg (fun e => by rw [decide_eq_true e.1] at g1; cases g1)]
  · have g1' : 0 ≤ x10 ∧ x10 ≤ 1099511627776 := by
      refine Classical.byContradiction fun e => g1 ?_
      rw [decide_eq_false e]; rfl
    refine Gives.bind_eq (can_v n x1 x2 x3 x4 x5 x6 x7 x8 x9 (vP_rule x5 x6 x7 x8 x9 g)) ?_
    refine Gives.ite (fun g3 => Gives.of_some ?_) (fun g3 => Gives.of_some ?_)
    · rw [if_neg (fun e => by rw [e.2] at g3; cases g3)]
    · rw [if_pos ⟨g1', by simpa using g3⟩]
def dueP : Bool × Int := if aP x1 x2 x3 x4 x5 x6 x7 x8 x9 x10 = 0 then (decide (x6 > 0 ∧ x4 < 0 ∧ x10 ≥ x3), 0) else (false, aP x1 x2 x3 x4 x5 x6 x7 x8 x9 x10)
theorem due_v (n : Nat) (h : TX x5) (hn : 300000000 < n) : due n (x1, (x2, (x3, (x4, (x5, (x6, (x7, (x8, (x9, x10))))))))) = some (dueP x1 x2 x3 x4 x5 x6 x7 x8 x9 x10) := by
  refine Gives.eq ?_
  unfold due dueP
  dsimp only
  refine Gives.bind_eq (check_v x1 x2 x3 x4 x5 x6 x7 x8 x9 x10 n h hn) ?_
  refine Gives.eite (fun g => ?_) (fun g => Gives.of_some (by rw [if_neg g]))
  rw [g, if_pos rfl]
  refine Gives.dite (fun g1 => ?_) (fun g1 => Gives.of_some (by rw [decide_eq_false (fun e => g1 e.1)]))
  refine Gives.dite (fun g2 => Gives.of_some ?_) (fun g2 => Gives.of_some (by rw [decide_eq_false (fun e => g2 e.2.1)]))
  simp [g1, g2]
theorem rDue_v (n : Nat) (h : TX x5) (hn : 300000000 < n) : rDue n (x1, (x2, (x3, (x4, (x5, (x6, (x7, (x8, (x9, x10))))))))) = some (dueP x1 x2 x3 x4 x5 x6 x7 x8 x9 x10) := by
  refine Gives.eq ?_
  unfold rDue dueP
  dsimp only
  refine Gives.bind_eq (rAsked_v x1 x2 x3 x4 x5 x6 x7 x8 x9 x10 n h hn) ?_
  refine Gives.nite (fun g => Gives.of_some (by rw [if_neg g])) (fun g => ?_)
  rw [if_pos g]
  refine Gives.dite (fun g1 => ?_) (fun g1 => Gives.of_some (by rw [decide_eq_false (fun e => g1 e.1)]))
  refine Gives.dite (fun g2 => Gives.of_some ?_) (fun g2 => Gives.of_some (by rw [decide_eq_false (fun e => g2 e.2.1)]))
  simp [g1, g2]
theorem send_r (n : Nat) (h : TX x5) (hn : 300000000 < n) : ∃ r, send n (x1, (x2, (x3, (x4, (x5, (x6, (x7, (x8, (x9, x10))))))))) = some r ∧ rSend n (x1, (x2, (x3, (x4, (x5, (x6, (x7, (x8, (x9, x10))))))))) = some r := by
  unfold send rSend
  dsimp only
  rw [due_v x1 x2 x3 x4 x5 x6 x7 x8 x9 x10 n h hn, rDue_v x1 x2 x3 x4 x5 x6 x7 x8 x9 x10 n h hn, Option.bind_some, Option.bind_some]
  generalize dueP x1 x2 x3 x4 x5 x6 x7 x8 x9 x10 = p
  obtain ⟨b, e⟩ := p
  dsimp only
  by_cases g : e = 0
  · subst g; cases b <;> exact ⟨_, rfl, rfl⟩
  · exact ⟨_, if_pos (by simpa using g), if_pos (by simpa using g)⟩
theorem late_r (n : Nat) (h : TX x5) (hn : 300000000 < n) : ∃ r, late n (x1, (x2, (x3, (x4, (x5, (x6, (x7, (x8, (x9, x10))))))))) = some r ∧ rLate n (x1, (x2, (x3, (x4, (x5, (x6, (x7, (x8, (x9, x10))))))))) = some r := by
  unfold late rLate
  dsimp only
  rw [check_v x1 x2 x3 x4 x5 x6 x7 x8 x9 x10 n h hn, rAsked_v x1 x2 x3 x4 x5 x6 x7 x8 x9 x10 n h hn, Option.bind_some, Option.bind_some]
  generalize aP x1 x2 x3 x4 x5 x6 x7 x8 x9 x10 = e
  by_cases g : e = 0
  · subst g
    by_cases g4 : x4 ≥ 0
    · have i1 : decide (x4 ≥ 0) = true := decide_eq_true g4
      exact ⟨_, if_pos i1, if_pos i1⟩
    · have i1 : ¬ decide (x4 ≥ 0) = true := by simpa using g4
      exact ⟨_, if_neg i1, if_neg i1⟩
  · have i1 : ¬ (e == 0) = true := by simpa using g
    have i2 : (e != 0) = true := by simpa using g
    exact ⟨_, if_neg i1, if_pos i2⟩
theorem said_r (n : Nat) (gd : Bool) (h : TX x5) (hn : 300000000 < n) : ∃ r, said n (x1, (x2, (x3, (x4, (x5, (x6, (x7, (x8, (x9, (gd, x10)))))))))) = some r ∧ rSaid n (x1, (x2, (x3, (x4, (x5, (x6, (x7, (x8, (x9, (gd, x10)))))))))) = some r := by
  unfold said rSaid
  dsimp only
  rw [check_v x1 x2 x3 x4 x5 x6 x7 x8 x9 x10 n h hn, rAsked_v x1 x2 x3 x4 x5 x6 x7 x8 x9 x10 n h hn, Option.bind_some, Option.bind_some]
  generalize aP x1 x2 x3 x4 x5 x6 x7 x8 x9 x10 = e
  by_cases g : e = 0
  · subst g
    by_cases g4 : x4 < 0
    · have i1 : decide (x4 < 0) = true := decide_eq_true g4
      exact ⟨_, if_pos i1, if_pos i1⟩
    · have i1 : ¬ (decide (x4 < 0) = true) := by simpa using g4
      cases gd <;> cases x1
      · exact ⟨_, if_neg i1, if_neg i1⟩
      · by_cases k : (IntKind.wrap .i64 (x2 + 1) == x9) = true
        · exact ⟨_, (if_neg i1).trans (if_pos k), (if_neg i1).trans (if_pos k)⟩
        · exact ⟨_, (if_neg i1).trans (if_neg k), (if_neg i1).trans (if_neg k)⟩
      · by_cases k : (IntKind.wrap .i64 (x2 + 1) == x8) = true
        · exact ⟨_, (if_neg i1).trans (if_pos k), (if_neg i1).trans (if_pos k)⟩
        · exact ⟨_, (if_neg i1).trans (if_neg k), (if_neg i1).trans (if_neg k)⟩
      · exact ⟨_, if_neg i1, if_neg i1⟩
  · exact ⟨_, if_pos (by simpa using g), if_pos (by simpa using g)⟩
end
theorem new_r (n : Nat) (x1 : List Int) (x2 x3 x4 x5 x6 : Int) (h : TX x1) (hn : 300000000 < n) : ∃ r, new n (x1, (x2, (x3, (x4, (x5, x6))))) = some r ∧ rNew n (x1, (x2, (x3, (x4, (x5, x6))))) = some r := by
  unfold new rNew
  dsimp only
  rw [check_v _ _ _ _ _ _ _ _ _ _ n h hn, rValid_v n h hn, Option.bind_some, Option.bind_some]
  by_cases g : vP x1 x2 x3 x4 x5 = 0
  · have hm : mP true 0 0 (-1) x2 x4 x5 = true := by
      unfold mP
      by_cases h0 : x2 = 0
      · rw [if_pos h0]; rfl
      · rw [if_neg h0, if_pos rfl]
        have := (vP_rule x1 x2 x3 x4 x5 g).resolve_left h0
        exact decide_eq_true (by omega)
    have hA : aP true 0 0 (-1) x1 x2 x3 x4 x5 x6 = if (0 ≤ x6 ∧ x6 ≤ 1099511627776) ∧ mP true 0 0 (-1) x2 x4 x5 = true then 0 else 1 := by
      unfold aP; rw [if_neg (c := vP x1 x2 x3 x4 x5 ≠ 0) (fun e => e g)]
    rw [hA, g]
    have j0 : ¬ ((0 : Int) != 0) = true := by decide
    have k1 : (!((1 : Int) == 0)) = true := by decide
    have k0 : ¬ (!((0 : Int) == 0)) = true := by decide
    by_cases g1 : x6 < 0
    · have i1 : decide (x6 < 0) = true := decide_eq_true g1
      rw [if_neg (c := (0 ≤ x6 ∧ x6 ≤ 1099511627776) ∧ mP true 0 0 (-1) x2 x4 x5 = true) (by omega)]
      exact ⟨_, if_pos k1, (if_neg j0).trans (if_pos i1)⟩
    · have i1 : ¬ decide (x6 < 0) = true := by simpa using g1
      by_cases g2 : x6 > 1099511627776
      · have i2 : decide (x6 > 1099511627776) = true := decide_eq_true g2
        rw [if_neg (c := (0 ≤ x6 ∧ x6 ≤ 1099511627776) ∧ mP true 0 0 (-1) x2 x4 x5 = true) (by omega)]
        exact ⟨_, if_pos k1, (if_neg j0).trans ((if_neg i1).trans (if_pos i2))⟩
      · have i2 : ¬ decide (x6 > 1099511627776) = true := by simpa using g2
        rw [if_pos (c := (0 ≤ x6 ∧ x6 ≤ 1099511627776) ∧ mP true 0 0 (-1) x2 x4 x5 = true) ⟨by omega, hm⟩]
        by_cases g3 : x2 > 0
        · have i3 : decide (x2 > 0) = true := decide_eq_true g3
          exact ⟨_, (if_neg k0).trans (if_pos i3), (if_neg j0).trans (((if_neg i1).trans (if_neg i2)).trans (if_pos i3))⟩
        · have i3 : ¬ decide (x2 > 0) = true := by simpa using g3
          exact ⟨_, (if_neg k0).trans (if_neg i3), (if_neg j0).trans (((if_neg i1).trans (if_neg i2)).trans (if_neg i3))⟩
  · have hA : aP true 0 0 (-1) x1 x2 x3 x4 x5 x6 = 4 := by unfold aP; rw [if_pos g]
    rw [hA]
    have i1 : (vP x1 x2 x3 x4 x5 != 0) = true := by simpa using g
    exact ⟨_, if_pos (show (!((4 : Int) == 0)) = true by decide), if_pos i1⟩
def I64 (x : Int) : Prop := -9223372036854775808 ≤ x ∧ x ≤ 9223372036854775807
theorem text_r (n : Nat) (hn : 30 < n) (x1 : Bool) (x2 x3 x4 : Int) (h2 : I64 x2) (h3 : I64 x3) (h4 : I64 x4) : ∃ r, text n (x1, (x2, (x3, x4))) = some r ∧ rText n (x1, (x2, (x3, x4))) = some r := by
  have l2 := itoa_len x2 h2.1 h2.2
  have l3 := itoa_len x3 h3.1 h3.2
  have l4 := itoa_len x4 h4.1 h4.2
  unfold text rText
  dsimp only
  cases x1 with
  | true =>
    refine ⟨[117, 112, 32] ++ itoaL x2 ++ [32] ++ itoaL x3 ++ [32] ++ itoaL x4, ?_, ?_⟩
    · refine Gives.eq (Gives.bind_eq (r := Out.go ([117, 112], (true, (x2, (x3, x4))))) rfl ?_)
      dsimp only
      refine Gives.pos (by decide) ?_
      refine Gives.bind_eq (strItoa_v n x2 h2.1 h2.2) ?_
      refine Gives.pos (by simp; omega) ?_
      refine Gives.pos (by simp; omega) ?_
      refine Gives.bind_eq (strItoa_v n x3 h3.1 h3.2) ?_
      refine Gives.pos (by simp; omega) ?_
      refine Gives.pos (by simp; omega) ?_
      refine Gives.bind_eq (strItoa_v n x4 h4.1 h4.2) ?_
      refine Gives.pos (by simp; omega) ?_
      exact Gives.of_some (by simp)
    · refine Gives.eq (Gives.bind_eq (r := Out.go ([117, 112, 32], (true, (x2, (x3, x4))))) rfl ?_)
      dsimp only
      refine Gives.bind_eq (rTxt_v n hn x2 h2.1 h2.2) ?_
      refine Gives.pos (by simp; omega) ?_
      refine Gives.pos (by simp; omega) ?_
      refine Gives.bind_eq (rTxt_v n hn x3 h3.1 h3.2) ?_
      refine Gives.pos (by simp; omega) ?_
      refine Gives.pos (by simp; omega) ?_
      refine Gives.bind_eq (rTxt_v n hn x4 h4.1 h4.2) ?_
      refine Gives.pos (by simp; omega) ?_
      exact Gives.of_some (by simp)
  | false =>
    refine ⟨[100, 111, 119, 110, 32] ++ itoaL x2 ++ [32] ++ itoaL x3 ++ [32] ++ itoaL x4, ?_, ?_⟩
    · refine Gives.eq (Gives.bind_eq (r := Out.go ([100, 111, 119, 110], (false, (x2, (x3, x4))))) rfl ?_)
      dsimp only
      refine Gives.pos (by decide) ?_
      refine Gives.bind_eq (strItoa_v n x2 h2.1 h2.2) ?_
      refine Gives.pos (by simp; omega) ?_
      refine Gives.pos (by simp; omega) ?_
      refine Gives.bind_eq (strItoa_v n x3 h3.1 h3.2) ?_
      refine Gives.pos (by simp; omega) ?_
      refine Gives.pos (by simp; omega) ?_
      refine Gives.bind_eq (strItoa_v n x4 h4.1 h4.2) ?_
      refine Gives.pos (by simp; omega) ?_
      exact Gives.of_some (by simp)
    · refine Gives.eq (Gives.bind_eq (r := Out.go ([100, 111, 119, 110, 32], (false, (x2, (x3, x4))))) rfl ?_)
      dsimp only
      refine Gives.bind_eq (rTxt_v n hn x2 h2.1 h2.2) ?_
      refine Gives.pos (by simp; omega) ?_
      refine Gives.pos (by simp; omega) ?_
      refine Gives.bind_eq (rTxt_v n hn x3 h3.1 h3.2) ?_
      refine Gives.pos (by simp; omega) ?_
      refine Gives.pos (by simp; omega) ?_
      refine Gives.bind_eq (rTxt_v n hn x4 h4.1 h4.2) ?_
      refine Gives.pos (by simp; omega) ?_
      exact Gives.of_some (by simp)
theorem good_r (n : Nat) (x : Int) : ∃ r, good n x = some r ∧ rGood n x = some r := by
  refine ⟨decide (200 ≤ x ∧ x ≤ 299), ?_, ?_⟩
  · unfold good; rw [in_v]; rfl
  · unfold rGood
    by_cases h : 200 ≤ x
    · rw [if_pos (by simpa using h)]; simp [h]
    · rw [if_neg (by simpa using h)]; simp [h]
theorem healthAnswers_f {x1 : Bool} {x2 x3 x4 : Int} {x5 : List Int} {x6 x7 x8 x9 x10 : Int} (h : TX x5) (h2 : I64 x2) (h3 : I64 x3) (h4 : I64 x4) : healthAnswers FU (x1, (x2, (x3, (x4, (x5, (x6, (x7, (x8, (x9, x10))))))))) = some true := by
  have hn : (300000000 : Nat) < FU := by decide
  refine Gives.eq ?_
  unfold healthAnswers
  dsimp only
  obtain ⟨r1, a1, b1⟩ := new_r FU x5 x6 x7 x8 x9 x10 h hn
  obtain ⟨r3, a3, b3⟩ := send_r x1 x2 x3 x4 x5 x6 x7 x8 x9 x10 FU h hn
  obtain ⟨r4, a4, b4⟩ := late_r x1 x2 x3 x4 x5 x6 x7 x8 x9 x10 FU h hn
  refine Gives.bind_eq a1 (Gives.bind_eq b1 (Gives.bind_eq (due_v x1 x2 x3 x4 x5 x6 x7 x8 x9 x10 FU h hn) (Gives.bind_eq (rDue_v x1 x2 x3 x4 x5 x6 x7 x8 x9 x10 FU h hn) (Gives.bind_eq a3 (Gives.bind_eq b3 (Gives.bind_eq a4 (Gives.bind_eq b4 ?_)))))))
  refine Gives.neg (by simp) (Gives.bind_eq (num_v _ _) (Gives.nneg rfl (Gives.neg (by simp) (Gives.bind_eq (num_v _ _) (Gives.nneg rfl (Gives.neg (by simp) (Gives.bind_eq (num_v _ _) (Gives.nneg rfl (Gives.neg (by simp) (Gives.bind_eq (num_v _ _) (Gives.nneg rfl ?_)))))))))))
  refine Gives.loop (I := fun z => ∃ i : Nat, z = (x10, ((i : Int), (x1, (x2, (x3, (x4, (x5, (x6, (x7, (x8, (x9, (x1, (x2, (x3, x4)))))))))))))) ∧ i ≤ 2) (μ := fun z => 2 - z.2.1.toNat) ?_ FU _ ⟨0, rfl, by omega⟩ (by simp [FU])
  rintro rec _ ⟨i, rfl, hi⟩ hrec
  dsimp only at hrec ⊢
  refine Gives.dite (fun hlt => ?_) (fun hge => ?_)
  · obtain ⟨r5, a5, b5⟩ := said_r x1 x2 x3 x4 x5 x6 x7 x8 x9 x10 FU ((i : Int) == 1) h hn
    refine Gives.bind_eq a5 (Gives.bind_eq b5 (Gives.neg (by simp) (Gives.bind_eq (num_v _ _) (Gives.nneg rfl ?_))))
    rw [show IntKind.wrap .i64 ((i : Int) + 1) = ((i + 1 : Nat) : Int) by rw [wrap64 (by omega) (by omega)]; omega]
    exact hrec _ ⟨i + 1, rfl, by omega⟩ (by dsimp only; omega)
  · obtain ⟨r6, a6, b6⟩ := good_r FU x10
    obtain ⟨r7, a7, b7⟩ := text_r FU (by decide) x1 x2 x3 x4 h2 h3 h4
    refine Gives.bind_eq (valid_v FU h hn) (Gives.bind_eq (num_v _ _) (Gives.bind_eq (rValid_v FU h hn) (Gives.epos rfl (Gives.bind_eq a6 (Gives.bind_eq b6 (Gives.pos (by simp) (Gives.bind_eq a7 (Gives.bind_eq b7 (Gives.pos (by simp) (Gives.bind_eq works_v (Gives.of_some rfl)))))))))))

end Go.Sx.YtbiipgbejlfkbaaGreatDoor
