/- Part of a proof by a small interpreter on plain values; no condition. -/
import Derived.Test.YtbiipgbejlfkbaaDoorWe
namespace Go.Sx.YtbiipgbejlfkbaaDoor
open Go Go.Sx Go.Proofs
set_option autoImplicit false
set_option linter.unusedVariables false
set_option linter.unusedSimpArgs false
theorem works_v : works FU () = some true := by kernel_rfl
theorem num_v (n : Nat) (x : Int) : turnstilelaw24Num n x = some x := by
  unfold turnstilelaw24Num
  by_cases h : x = 0
  · rw [if_pos (by simpa using h), h]
  · rw [if_neg (by simpa using h), if_neg (by simpa using h)]
theorem in_v (n : Nat) (a b c : Int) : healthIn n (a, (b, c)) = some (decide (b ≤ a ∧ a ≤ c)) := by
  unfold healthIn
  dsimp only
  by_cases h : b ≤ a
  · rw [if_pos (by simpa using h)]; simp [h]
  · rw [if_neg (by simpa using h)]; simp [h]
theorem valid_t {x1 : List Int} {x2 x3 x4 x5 : Int} (h : TX x1) : Gives (valid FU (x1, (x2, (x3, (x4, x5))))) (fun r => (x2 = 0 → r = 0) ∧ (r = 0 → x2 ≠ 0 → (1 ≤ x2 ∧ x2 ≤ 1099511627776) ∧ (1 ≤ x3 ∧ x3 ≤ x2) ∧ (1 ≤ x4 ∧ x4 ≤ 1024) ∧ (1 ≤ x5 ∧ x5 ≤ 1024))) := by
  have hF : 300000000 < FU := by decide
  unfold valid
  dsimp only
  refine Gives.eite (fun h0 => Gives.of_some ⟨fun _ => rfl, fun _ h1 => absurd h0 h1⟩) (fun h0 => ?_)
  have bad : Gives (Option.bind (normal FU x1) fun r15 => some (4 : Int)) (fun r => (x2 = 0 → r = 0) ∧ (r = 0 → x2 ≠ 0 → (1 ≤ x2 ∧ x2 ≤ 1099511627776) ∧ (1 ≤ x3 ∧ x3 ≤ x2) ∧ (1 ≤ x4 ∧ x4 ≤ 1024) ∧ (1 ≤ x5 ∧ x5 ≤ 1024))) :=
    Gives.bind (normal_t FU h hF) (fun r _ => Gives.of_some ⟨fun e => absurd e h0, fun e => by cases e⟩)
  rw [in_v, Option.bind_some]
  refine Gives.dite (fun g1 => ?_) (fun _ => bad)
  rw [in_v, Option.bind_some]
  refine Gives.dite (fun g2 => ?_) (fun _ => bad)
  rw [in_v, Option.bind_some]
  refine Gives.dite (fun g3 => ?_) (fun _ => bad)
  rw [in_v, Option.bind_some]
  refine Gives.dite (fun g4 => ?_) (fun _ => bad)
  refine Gives.bind (normal_t FU h hF) (fun r _ => ?_)
  refine Gives.ite (fun _ => Gives.of_some ⟨fun e => absurd e h0, fun e => by cases e⟩) (fun _ => ?_)
  refine Gives.bind (isPathH_t FU h r.2 hF) (fun q _ => ?_)
  exact Gives.ite (fun _ => Gives.of_some ⟨fun e => absurd e h0, fun e => by cases e⟩) (fun _ => Gives.of_some ⟨fun e => absurd e h0, fun _ _ => ⟨g1, g2, g3, g4⟩⟩)
/-- a rule that can be. -/
structure Rule (x1 : List Int) (x2 x3 x4 x5 : Int) : Prop where
  v : valid FU (x1, (x2, (x3, (x4, x5)))) = some 0
  e : 1 ≤ x2 ∧ x2 ≤ 1099511627776
  t : 1 ≤ x3 ∧ x3 ≤ x2
  r : 1 ≤ x4 ∧ x4 ≤ 1024
  f : 1 ≤ x5 ∧ x5 ≤ 1024
def canP (up : Bool) (run next sent x4 x5 now : Int) : Prop := (0 ≤ now ∧ now ≤ 1099511627776) ∧ (0 ≤ run ∧ run ≤ (if up = true then x5 else x4) - 1) ∧ (0 ≤ next ∧ next ≤ 2199023255552) ∧ (-1 ≤ sent ∧ sent ≤ 1099511627776)
instance (up : Bool) (run next sent x4 x5 now : Int) : Decidable (canP up run next sent x4 x5 now) := by unfold canP; infer_instance
theorem can_v {x1 : List Int} {x2 x3 x4 x5 : Int} (hr : Rule x1 x2 x3 x4 x5) (up : Bool) (run next sent : Int) :
    statecan FU (up, (run, (next, (sent, (x1, (x2, (x3, (x4, x5)))))))) = some (decide ((0 ≤ run ∧ run ≤ (if up = true then x5 else x4) - 1) ∧ (0 ≤ next ∧ next ≤ 2199023255552) ∧ (-1 ≤ sent ∧ sent ≤ 1099511627776))) := by
  have e := hr.e; have r := hr.r; have f := hr.f
  unfold statecan
  dsimp only
  rw [if_neg (by simp; omega), wrap64 (n := x5 - 1) (by omega) (by omega), wrap64 (n := x4 - 1) (by omega) (by omega)]
  have key : ∀ m : Int, (Option.bind (healthIn FU (run, ((0 : Int), m))) fun r10 =>
      (if r10 = true then
      (Option.bind (healthIn FU (next, ((0 : Int), (2199023255552 : Int)))) fun r11 =>
      (if r11 = true then
      (Option.bind (healthIn FU (sent, ((-1 : Int), (1099511627776 : Int)))) fun r12 =>
      some r12)
      else
      some false))
      else
      some false)) = some (decide ((0 ≤ run ∧ run ≤ m) ∧ (0 ≤ next ∧ next ≤ 2199023255552) ∧ (-1 ≤ sent ∧ sent ≤ 1099511627776))) := fun m => by
    rw [in_v, in_v, in_v]
    simp only [Option.bind_some]
    by_cases h1 : 0 ≤ run ∧ run ≤ m
    · rw [if_pos (by simpa using h1)]
      by_cases h2 : 0 ≤ next ∧ next ≤ 2199023255552
      · rw [if_pos (by simpa using h2)]; congr 1; simp only [h1, h2, true_and, and_self]
      · rw [if_neg (by simpa using h2)]; congr 1; symm; rw [decide_eq_false_iff_not]; exact fun h => h2 h.2.1
    · rw [if_neg (by simpa using h1)]; congr 1; symm; rw [decide_eq_false_iff_not]; exact fun h => h1 h.1
  cases up with
  | true => rw [if_pos rfl]; exact key _
  | false => rw [if_neg (by decide)]; exact key _
theorem check_v {x1 : List Int} {x2 x3 x4 x5 : Int} (hr : Rule x1 x2 x3 x4 x5) (up : Bool) (run next sent now : Int) :
    check FU (up, (run, (next, (sent, (x1, (x2, (x3, (x4, (x5, now))))))))) = some (if canP up run next sent x4 x5 now then 0 else 1) := by
  unfold check
  dsimp only
  rw [hr.v, Option.bind_some, if_neg (by decide), in_v, Option.bind_some]
  by_cases h1 : 0 ≤ now ∧ now ≤ 1099511627776
  · rw [if_neg (by simpa using h1), can_v hr, Option.bind_some]
    by_cases h2 : (0 ≤ run ∧ run ≤ (if up = true then x5 else x4) - 1) ∧ (0 ≤ next ∧ next ≤ 2199023255552) ∧ (-1 ≤ sent ∧ sent ≤ 1099511627776)
    · rw [decide_eq_true h2, if_neg (by decide), if_pos (show canP up run next sent x4 x5 now from ⟨h1, h2⟩)]
    · rw [decide_eq_false h2, if_pos (by decide), if_neg (show ¬ canP up run next sent x4 x5 now from fun h => h2 h.2)]
  · rw [decide_eq_false h1, if_pos (by decide), if_neg (show ¬ canP up run next sent x4 x5 now from fun h => h1 h.1)]
section
variable {x1 : List Int} {x2 x3 x4 x5 : Int} (hr : Rule x1 x2 x3 x4 x5) {up : Bool} {run next sent now : Int} (hc : canP up run next sent x4 x5 now)
include hr hc
theorem due_v : due FU (up, (run, (next, (sent, (x1, (x2, (x3, (x4, (x5, now))))))))) = some (decide (sent < 0 ∧ now ≥ next), 0) := by
  have e := hr.e
  unfold due
  dsimp only
  rw [check_v hr, if_pos hc, Option.bind_some, if_pos (by decide), if_pos (by simp; omega)]
  by_cases h : sent < 0
  · rw [if_pos (by simpa using h)]; simp [h]
  · rw [if_neg (by simpa using h)]; simp [h]
theorem send_v (h : sent < 0 ∧ now ≥ next) : send FU (up, (run, (next, (sent, (x1, (x2, (x3, (x4, (x5, now))))))))) = some (up, (run, (now + x2, (now, 0)))) := by
  have e := hr.e; have c := hc.1
  unfold send
  dsimp only
  rw [due_v hr hc, Option.bind_some, decide_eq_true h, if_neg (by decide), if_neg (by decide), wrap64 (by omega) (by omega)]
theorem send_no (h : ¬ (sent < 0 ∧ now ≥ next)) : send FU (up, (run, (next, (sent, (x1, (x2, (x3, (x4, (x5, now))))))))) = some (false, (0, (0, (0, 1)))) := by
  unfold send
  dsimp only
  rw [due_v hr hc, Option.bind_some, decide_eq_false h, if_neg (by decide), if_pos (by decide)]
theorem late_v : late FU (up, (run, (next, (sent, (x1, (x2, (x3, (x4, (x5, now))))))))) = some (decide (0 ≤ sent ∧ now ≥ sent + x3), 0) := by
  have e := hr.e; have t := hr.t; have c := hc.2.2.2
  unfold late
  dsimp only
  rw [check_v hr, if_pos hc, Option.bind_some, if_pos (by decide), wrap64 (by omega) (by omega)]
  by_cases h : 0 ≤ sent
  · rw [if_pos (by simpa using h)]; simp [h]
  · rw [if_neg (by simpa using h)]; simp [h]
theorem said_v (h : 0 ≤ sent) (good : Bool) : said FU (up, (run, (next, (sent, (x1, (x2, (x3, (x4, (x5, (good, now)))))))))) =
    some (if good = up then (up, (0, (next, (-1, 0)))) else if run + 1 = (if up = true then x5 else x4) then (!up, (0, (next, (-1, 0)))) else (up, (run + 1, (next, (-1, 0))))) := by
  have r := hr.r; have f := hr.f; have c := hc.2.1
  have hrun : run ≤ 1024 := by
    have := c.2
    split at this <;> omega
  unfold said
  dsimp only
  rw [check_v hr, if_pos hc, Option.bind_some, if_neg (by decide), if_neg (by simp; omega), wrap64 (by omega) (by omega)]
  by_cases hg : good = up
  · rw [if_pos (by simpa using hg), if_pos hg]
  · rw [if_neg (by simpa using hg), if_neg hg]
    cases up with
    | true =>
      rw [if_pos rfl]
      by_cases hm : run + 1 = x5
      · rw [if_pos (by simpa using hm), if_pos (by simpa using hm)]
      · rw [if_neg (by simpa using hm), if_neg (by simpa using hm)]
    | false =>
      rw [if_neg (by decide)]
      by_cases hm : run + 1 = x4
      · rw [if_pos (by simpa using hm), if_pos (by simpa using hm)]
      · rw [if_neg (by simpa using hm), if_neg (by simpa using hm)]
end
theorem new_v {x1 : List Int} {x2 x3 x4 x5 now : Int} (hr : Rule x1 x2 x3 x4 x5) : new FU (x1, (x2, (x3, (x4, (x5, now))))) = some (if 0 ≤ now ∧ now ≤ 1099511627776 then (true, (0, (now, (-1, 0)))) else (false, (0, (0, (0, 1))))) := by
  have e := hr.e; have f := hr.f
  unfold new
  dsimp only
  rw [check_v hr, Option.bind_some]
  by_cases h : 0 ≤ now ∧ now ≤ 1099511627776
  · rw [if_pos (show canP true 0 0 (-1) x4 x5 now from ⟨h, ⟨by omega, by simp; omega⟩, by omega, by omega⟩), if_neg (by decide), if_pos (by simp; omega), if_pos h]
  · rw [if_neg (show ¬ canP true 0 0 (-1) x4 x5 now from fun c => h c.1), if_pos (by decide), if_neg h]
theorem new_bad {x1 : List Int} {x2 x3 x4 x5 now v : Int} (hv : valid FU (x1, (x2, (x3, (x4, x5)))) = some v) (h0 : v ≠ 0) : new FU (x1, (x2, (x3, (x4, (x5, now))))) = some (false, (0, (0, (0, v)))) := by
  unfold new check
  dsimp only
  rw [hv, Option.bind_some, if_pos (by simpa using h0), Option.bind_some, if_pos (by simpa using h0)]
theorem new_idle {x1 : List Int} {x3 x4 x5 now : Int} : Gives (new FU (x1, ((0 : Int), (x3, (x4, (x5, now)))))) (fun r => r.2.2.2.2 ≠ 0 → r = (false, (0, (0, (0, r.2.2.2.2))))) := by
  have hv : valid FU (x1, ((0 : Int), (x3, (x4, x5)))) = some 0 := by unfold valid; dsimp only; rw [if_pos (by decide)]
  unfold new check
  dsimp only
  rw [hv, Option.bind_some, if_neg (by decide), in_v, Option.bind_some]
  have hs : statecan FU (true, ((0 : Int), ((0 : Int), ((-1 : Int), (x1, ((0 : Int), (x3, (x4, x5)))))))) = some true := by unfold statecan; dsimp only; rw [if_pos (by decide)]; rfl
  by_cases h : 0 ≤ now ∧ now ≤ 1099511627776
  · rw [decide_eq_true h, if_neg (by decide), hs, Option.bind_some, if_neg (by decide), Option.bind_some, if_neg (by decide), if_neg (by decide)]
    exact Gives.of_some (fun h => absurd rfl h)
  · rw [decide_eq_false h, if_pos (by decide), Option.bind_some, if_pos (by decide)]
    exact Gives.of_some (fun _ => rfl)
theorem ticks_v (x : Int) (k : Int) (hk : 0 < k) (hk2 : k < 1000000) : 0 ≤ Int.tmod (IntKind.wrap .i64 (Int.tmod x k + k)) k ∧ Int.tmod (IntKind.wrap .i64 (Int.tmod x k + k)) k < k := by
  have h1 := Int.tmod_lt_of_pos x hk
  have h2 := Int.lt_tmod_of_pos x hk
  rw [wrap64 (by omega) (by omega), Int.tmod_eq_emod_of_nonneg (by omega)]
  exact ⟨Int.emod_nonneg _ (by omega), Int.emod_lt_of_pos _ hk⟩
theorem healthLate_f {x1 : List Int} {x2 x3 x4 x5 x6 x7 : Int} (h : TX x1) : healthLate FU (x1, (x2, (x3, (x4, (x5, (x6, x7)))))) = some true := by
  refine Gives.eq ?_
  have fin : Gives (Option.bind (works FU ()) fun r9 => some r9) (· = true) := Gives.bind_eq works_v (Gives.of_some rfl)
  obtain ⟨v, hv, h0, hR⟩ := valid_t (x2 := x2) (x3 := x3) (x4 := x4) (x5 := x5) h
  unfold healthLate
  dsimp only
  by_cases h2 : x2 = 0
  · subst h2
    obtain ⟨r, hr, _⟩ := new_idle (x1 := x1) (x3 := x3) (x4 := x4) (x5 := x5) (now := x6)
    refine Gives.bind_eq hr ?_
    refine Gives.ite (fun _ => fin) (fun _ => ?_)
    exact Gives.epos rfl fin
  by_cases hv0 : v = 0
  · subst hv0
    obtain ⟨r1, r2, r3, r4⟩ := hR rfl h2
    have hr : Rule x1 x2 x3 x4 x5 := ⟨hv, r1, r2, r3, r4⟩
    refine Gives.bind_eq (new_v hr) ?_
    by_cases hn : 0 ≤ x6 ∧ x6 ≤ 1099511627776
    · rw [if_pos hn]
      refine Gives.mneg rfl ?_
      refine Gives.eneg h2 ?_
      refine Gives.dite (fun _ => fin) (fun h39 => ?_)
      refine Gives.dite (fun _ => fin) (fun h30 => ?_)
      have ht := ticks_v x7 100 (by decide) (by decide)
      dsimp only
      generalize Int.tmod (IntKind.wrap .i64 (Int.tmod x7 100 + 100)) 100 = k at ht
      have c1 : canP true 0 x6 (-1) x4 x5 x6 := ⟨hn, ⟨by omega, by simp; omega⟩, by omega, by omega⟩
      rw [late_v hr c1, Option.bind_some, send_v hr c1 ⟨by omega, by omega⟩, Option.bind_some, wrap64 (n := x6 + k) (by omega) (by omega)]
      have c2 : canP true 0 (x6 + x2) x6 x4 x5 (x6 + k) := ⟨by omega, ⟨by omega, by simp; omega⟩, by omega, by omega⟩
      dsimp only
      rw [late_v hr c2, Option.bind_some]
      refine Gives.pos (by simp) ?_
      refine Gives.epos rfl ?_
      refine Gives.epos rfl ?_
      refine Gives.epos rfl ?_
      refine Gives.pos ?_ fin
      rw [beq_iff_eq, decide_eq_decide]; omega
    · rw [if_neg hn]
      exact Gives.mpos (by decide) fin
  · refine Gives.bind_eq (new_bad hv hv0) ?_
    exact Gives.mpos hv0 fin
end Go.Sx.YtbiipgbejlfkbaaDoor
