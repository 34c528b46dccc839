/- Part of a proof by a small interpreter on plain values; no condition. -/
import Derived.Test.YtbiipgbejlfkbaaGreatDoorWh
namespace Go.Sx.YtbiipgbejlfkbaaGreatDoor
open Go Go.Sx Go.Proofs
set_option autoImplicit false
set_option linter.unusedVariables false
set_option linter.unusedSimpArgs false
theorem parse_v (n : Nat) {s : List Int} (h : TX s) (hn : 300000000 < n) : parse n s = some (parP s) := by
  have hl := h.2
  refine Gives.eq ?_
  unfold parse
  refine Gives.dite (fun g => Gives.of_some (by unfold parP; rw [if_pos (c := s.length > 65536) (by omega)]; rfl)) (fun g => ?_)
  refine Gives.bind (P := fun o => match o with | .go z => ∃ rest form host, z = (rest, ((0 : Int), ([], ([], ([], (false, (form, (host, ([], ([], false)))))))))) ∧ TX rest ∧ behP form host rest = parP s | .ret r => r = parP s) ?_ ?_
  · refine Gives.ite (fun g2 => Gives.of_some ?_) (fun g2 => ?_)
    · have g2' : s = [42] := by simpa using g2
      subst g2'; rfl
    have g2' : s ≠ [42] := by simpa using g2
    refine Gives.bind (P := fun o => match o with | .go z => z = (s, (s, (decide (s.length ≥ 7 ∧ (s.take 7).map lwA = HT), ((0 : Int), ([], ([], ([], (false, ((1 : Int), ([], ([], ([], false)))))))))))) | .ret r => False) ?_ ?_
    · refine Gives.dite (fun h7 => ?_) (fun h7 => Gives.of_some ?_)
      · refine Gives.pos (by omega) ?_
        have ht : (s.drop 0).take (7 - 0) = s.take 7 := by simp
        rw [ht, strToLower_v n (by simp; omega), Option.bind_some]
        refine Gives.of_some ?_
        have : (toLowerL (s.take 7) == [104, 116, 116, 112, 58, 47, 47]) = decide (s.length ≥ 7 ∧ (s.take 7).map lwA = HT) := by
          rw [Bool.eq_iff_iff, beq_iff_eq, decide_eq_true_eq]
          have := head_low (h.1.take 7)
          exact ⟨fun e => ⟨by omega, this.1 e⟩, fun e => this.2 e.2⟩
        rw [this]
      · rw [decide_eq_false (fun e => by omega)]
    · rintro o ho
      match o, ho with
      | .go z, hz =>
        have hz' : z = _ := hz
        subst hz'
        dsimp only
        refine Gives.dite (fun hh => ?_) (fun hh => Gives.of_some ⟨s, 1, [], rfl, h, ?_⟩)
        · have hpa : parP s = absP (s.drop 7) := by
            unfold parP
            rw [if_neg (c := s.length > 65536) (by omega), if_neg g2', if_neg (c := s.take 1 = [47]) (fun e => ?_), if_pos hh]
            have h1 : (s.take 7).take 1 = [47] := by rw [List.take_take]; exact e
            have h2 : ((s.take 7).map lwA).take 1 = [lwA 47] := by rw [← List.map_take, h1]; rfl
            rw [hh.2] at h2
            exact absurd h2 (by decide)
          refine Gives.pos (by omega) ?_
          have ht : (s.drop 7).take (((s.length : Int)).toNat - 7) = s.drop 7 := List.take_of_length_le (by simp)
          rw [ht, hpa]
          have t7 := h.drop 7
          revert t7
          generalize s.drop 7 = y
          intro t7
          have hy := t7.2
          have hpl := hp_le y
          refine Gives.bind (indexAny_h n t7 (by omega)) (fun r hr => ?_)
          obtain ⟨hr1, hr2, hr3⟩ := hr
          refine Gives.bind_eq (r := Out.go (y, (((if r < 0 then y.length else r.toNat : Nat) : Int), ((0 : Int), ([], ([], ([], (false, ((2 : Int), ([], ([], ([], false)))))))))))) ?_ ?_
          · by_cases hr0 : r < 0
            · rw [if_pos (by simpa using hr0), if_pos hr0]
            · rw [if_neg (by simpa using hr0), if_neg hr0, Int.toNat_of_nonneg (by omega)]
          have hm : (if r < 0 then y.length else r.toNat) ≤ y.length := by split <;> omega
          revert hr3 hm
          generalize (if r < 0 then y.length else r.toNat) = m
          intro hr3 hm
          dsimp only
          refine Gives.pos (by omega) ?_
          refine Gives.pos (by omega) ?_
          have e1 : (y.drop 0).take ((m : Int).toNat - 0) = y.take m := rfl
          have e2 : (y.drop (m : Int).toNat).take ((y.length : Int).toNat - (m : Int).toNat) = y.drop m := List.take_of_length_le (by simp)
          rw [e1, e2]
          have lm : (y.take m).length = m := by simp; omega
          refine Gives.bind_eq (isHost_v n (t7.take m) (by omega)) ?_
          rw [hp_take, lm]
          by_cases hok : min m (hp y) = m ∧ 1 ≤ m ∧ m ≤ 255
          · have hmh : m = hp y := by
              rcases hr3 with e | e
              · exact e
              · omega
            rw [decide_eq_true hok]
            refine Gives.neg (by simp) ?_
            rw [strToLower_v n (t7.take m).2, Option.bind_some]
            refine Gives.of_some ⟨y.drop m, 2, (y.take m).map lwA, ?_, t7.drop m, ?_⟩
            · rw [low_ascii (s := y.take m) fun c hc => ?_]
              obtain ⟨j, hj, hjc⟩ := List.mem_iff_getElem.1 hc
              have hj' : j < m := by omega
              have := hostc_low (hp_at y j (by omega))
              have hcy : c = y.getD j 0 := by
                rw [← hjc, List.getD_eq_getElem?_getD, List.getElem?_eq_getElem (by omega)]
                simp
              rw [hcy]; omega
            · unfold absP
              rw [← hmh, if_pos (by omega)]
          · rw [decide_eq_false hok]
            refine Gives.pos (by simp) ?_
            refine Gives.of_some ?_
            show errT 23 = absP y
            unfold absP
            by_cases hb : 1 ≤ hp y ∧ hp y ≤ 255
            · rcases hr3 with e | ⟨e1, e2, e3, e4⟩
              · omega
              · rw [if_pos hb, drop_cons y (hp y) 0 e2, beh_two e3 e4]
            · rw [if_neg hb]
        · unfold parP
          rw [if_neg (c := s.length > 65536) (by omega), if_neg g2', if_neg hh]
          by_cases h47 : s.take 1 = [47]
          · rw [if_pos h47]
          · rw [if_neg h47, beh_one h47]
  · rintro o ho
    match o, ho with
    | .ret r, hr => exact Gives.of_some hr
    | .go z, ⟨rest, form, host, hz, t38, hbeh⟩ =>
      subst hz
      rw [← hbeh]
      unfold behP
      dsimp only
      refine Gives.bind_eq (cut_v n 63 t38) ?_
      obtain ⟨t1, t2⟩ := cutV_TX 63 t38
      generalize cutV rest 63 = c at t1 t2
      obtain ⟨p, q, has⟩ := c
      dsimp only at t1 t2 ⊢
      refine Gives.bind_eq (r := Out.go ((0 : Int), ([], ([], ([], (false, (form, (host, ((if p = [] ∧ form = 2 then [47] else p), (q, has)))))))))) ?_ ?_
      · by_cases hp : p = []
        · rw [if_pos (by simpa using hp)]
          by_cases hf : form = 2
          · rw [if_pos (by simpa using hf), if_pos ⟨hp, hf⟩]
          · rw [if_neg (by simpa using hf), if_neg (fun e => hf e.2)]
        · rw [if_neg (by simpa using hp), if_neg (fun e => hp e.1)]
      · dsimp only
        have t3 : TX (if p = [] ∧ form = 2 then [47] else p) := by
          split
          · exact ⟨fun c hc => by rw [List.mem_singleton.1 hc]; omega, by simp⟩
          · exact t1
        revert t3
        generalize (if p = [] ∧ form = 2 then [47] else p) = p'
        intro t3
        refine Gives.bind_eq (isPath_v n t3 (by omega)) ?_
        refine Gives.ite (fun g => Gives.of_some (by rw [if_neg (fun e => by rw [e.1] at g; cases g)]; rfl)) (fun g => ?_)
        have g' : pathP p' = true := by simpa using g
        refine Gives.bind_eq (isQuery_v n t2 (by omega)) ?_
        refine Gives.ite (fun g2 => Gives.of_some (by rw [if_neg (fun e => by rw [e.2] at g2; cases g2)]; rfl)) (fun g2 => Gives.of_some ?_)
        rw [if_pos ⟨g', by simpa using g2⟩]

end Go.Sx.YtbiipgbejlfkbaaGreatDoor
