/- Part of a proof by a small interpreter on plain values; no condition. -/
import Derived.Test.YtndkpphniekmlaaDoorWk
namespace Go.Sx.YtndkpphniekmlaaDoor
open Go Go.Sx Go.Proofs
set_option autoImplicit false
set_option linter.unusedVariables false
set_option linter.unusedSimpArgs false
theorem parse_v (n : Nat) {s : List Int} (h : TX s) (hn : 300000000 < n) : parse n s = some (parP s) := by
  have hl := h.2
  refine Gives.eq ?_
  unfold parse
  refine Gives.dite (fun g => Gives.of_some (by unfold parP; rw [if_pos (c := s.length > 65536) (by omega)]; rfl)) (fun g => ?_)
  refine Gives.bind (P := fun o => match o with | .go z => ∃ rest form host, z = (rest, ((0 : Int), ([], ([], ([], (false, (form, (host, ([], ([], false)))))))))) ∧ TX rest ∧ behP form host rest = parP s | .ret r => r = parP s) ?_ ?_
  · refine Gives.ite (fun g2 => Gives.of_some ?_) (fun g2 => ?_)
    · have g2' : s = [42] := by simpa using g2
      subst g2'; rfl
    have g2' : s ≠ [42] := by simpa using g2
    refine Gives.bind (P := fun o => match o with | .go z => z = (s, (s, (decide (s.length ≥ 7 ∧ (s.take 7).map lwA = HT), ((0 : Int), ([], ([], ([], (false, ((1 : Int), ([], ([], ([], false)))))))))))) | .ret r => False) ?_ ?_
    · refine Gives.dite (fun h7 => ?_) (fun h7 => Gives.of_some ?_)
      · refine Gives.pos (by omega) ?_
        have ht : (s.drop 0).take (7 - 0) = s.take 7 := by simp
        rw [ht, strToLower_v n (by simp; omega), Option.bind_some]
        refine Gives.of_some ?_
        have : (toLowerL (s.take 7) == [104, 116, 116, 112, 58, 47, 47]) = decide (s.length ≥ 7 ∧ (s.take 7).map lwA = HT) := by
          rw [Bool.eq_iff_iff, beq_iff_eq, decide_eq_true_eq]
          have := head_low (h.1.take 7)
          exact ⟨fun e => ⟨by omega, this.1 e⟩, fun e => this.2 e.2⟩
        rw [this]
      · rw [decide_eq_false (fun e => by omega)]
    · rintro o ho
      match o, ho with
      | .go z, hz =>
        have hz' : z = _ := hz
        subst hz'
        dsimp only
        refine Gives.dite (fun hh => ?_) (fun hh => Gives.of_some ⟨s, 1, [], rfl, h, ?_⟩)
        · have hpa : parP s = absP (s.drop 7) := by
            unfold parP
            rw [if_neg (c := s.length > 65536) (by omega), if_neg g2', if_neg (c := s.take 1 = [47]) (fun e => ?_), if_pos hh]
            have h1 : (s.take 7).take 1 = [47] := by rw [List.take_take]; exact e
            have h2 : ((s.take 7).map lwA).take 1 = [lwA 47] := by rw [← List.map_take, h1]; rfl
            rw [hh.2] at h2
            exact absurd h2 (by decide)
          refine Gives.pos (by omega) ?_
          have ht : (s.drop 7).take (((s.length : Int)).toNat - 7) = s.drop 7 := List.take_of_length_le (by simp)
          rw [ht, hpa]
          have t7 := h.drop 7
          revert t7
          generalize s.drop 7 = y
          intro t7
          have hy := t7.2
          have hpl := hp_le y
          refine Gives.bind (indexAny_h n t7 (by omega)) (fun r hr => ?_)
          obtain ⟨hr1, hr2, hr3⟩ := hr
          refine Gives.bind_eq (r := Out.go (y, (((if r < 0 then y.length else r.toNat : Nat) : Int), ((0 : Int), ([], ([], ([], (false, ((2 : Int), ([], ([], ([], false)))))))))))) ?_ ?_
          · by_cases hr0 : r < 0
            · rw [if_pos (by simpa using hr0), if_pos hr0]
            · rw [if_neg (by simpa using hr0), if_neg hr0, Int.toNat_of_nonneg (by omega)]
          have hm : (if r < 0 then y.length else r.toNat) ≤ y.length := by split <;> omega
          revert hr3 hm
          generalize (if r < 0 then y.length else r.toNat) = m
          intro hr3 hm
          dsimp only
          refine Gives.pos (by omega) ?_
          refine Gives.pos (by omega) ?_
          have e1 : (y.drop 0).take ((m : Int).toNat - 0) = y.take m := rfl
          have e2 : (y.drop (m : Int).toNat).take ((y.length : Int).toNat - (m : Int).toNat) = y.drop m := List.take_of_length_le (by simp)
          rw [e1, e2]
          have lm : (y.take m).length = m := by simp; omega
          refine Gives.bind_eq (isHost_v n (t7.take m) (by omega)) ?_
          rw [hp_take, lm]
          by_cases hok : min m (hp y) = m ∧ 1 ≤ m ∧ m ≤ 255
          · have hmh : m = hp y := by
              rcases hr3 with e | e
              · exact e
              · omega
            rw [decide_eq_true hok]
            refine Gives.neg (by simp) ?_
            rw [strToLower_v n (t7.take m).2, Option.bind_some]
            refine Gives.of_some ⟨y.drop m, 2, (y.take m).map lwA, ?_, t7.drop m, ?_⟩
            · rw [low_ascii (s := y.take m) fun c hc => ?_]
              obtain ⟨j, hj, hjc⟩ := List.mem_iff_getElem.1 hc
              have hj' : j < m := by omega
              have := hostc_low (hp_at y j (by omega))
              have hcy : c = y.getD j 0 := by
                rw [← hjc, List.getD_eq_getElem?_getD, List.getElem?_eq_getElem (by omega)]
                simp
              rw [hcy]; omega
            · unfold absP
              rw [← hmh, if_pos (by omega)]
          · rw [decide_eq_false hok]
            refine Gives.pos (by simp) ?_
            refine Gives.of_some ?_
            show errT 23 = absP y
            unfold absP
            by_cases hb : 1 ≤ hp y ∧ hp y ≤ 255
            · rcases hr3 with e | ⟨e1, e2, e3, e4⟩
              · omega
              · rw [if_pos hb, drop_cons y (hp y) 0 e2, beh_two e3 e4]
            · rw [if_neg hb]
        · unfold parP
          rw [if_neg (c := s.length > 65536) (by omega), if_neg g2', if_neg hh]
          by_cases h47 : s.take 1 = [47]
          · rw [if_pos h47]
          · rw [if_neg h47, beh_one h47]
  · rintro o ho
    match o, ho with
    | .ret r, hr => exact Gives.of_some hr
    | .go z, ⟨rest, form, host, hz, t38, hbeh⟩ =>
      subst hz
      rw [← hbeh]
      unfold behP
      dsimp only
      refine Gives.bind_eq (cut_v n 63 t38) ?_
      obtain ⟨t1, t2⟩ := cutV_TX 63 t38
      generalize cutV rest 63 = c at t1 t2
      obtain ⟨p, q, has⟩ := c
      dsimp only at t1 t2 ⊢
      refine Gives.bind_eq (r := Out.go ((0 : Int), ([], ([], ([], (false, (form, (host, ((if p = [] ∧ form = 2 then [47] else p), (q, has)))))))))) ?_ ?_
      · by_cases hp : p = []
        · rw [if_pos (by simpa using hp)]
          by_cases hf : form = 2
          · rw [if_pos (by simpa using hf), if_pos ⟨hp, hf⟩]
          · rw [if_neg (by simpa using hf), if_neg (fun e => hf e.2)]
        · rw [if_neg (by simpa using hp), if_neg (fun e => hp e.1)]
      · dsimp only
        have t3 : TX (if p = [] ∧ form = 2 then [47] else p) := by
          split
          · exact ⟨fun c hc => by rw [List.mem_singleton.1 hc]; omega, by simp⟩
          · exact t1
        revert t3
        generalize (if p = [] ∧ form = 2 then [47] else p) = p'
        intro t3
        refine Gives.bind_eq (isPath_v n t3 (by omega)) ?_
        refine Gives.ite (fun g => Gives.of_some (by rw [if_neg (fun e => by rw [e.1] at g; cases g)]; rfl)) (fun g => ?_)
        have g' : pathP p' = true := by simpa using g
        refine Gives.bind_eq (isQuery_v n t2 (by omega)) ?_
        refine Gives.ite (fun g2 => Gives.of_some (by rw [if_neg (fun e => by rw [e.2] at g2; cases g2)]; rfl)) (fun g2 => Gives.of_some ?_)
        rw [if_pos ⟨g', by simpa using g2⟩]
theorem targetReads_f {s : List Int} (h : TX s) : targetReads FU s = some true := by
  unfold targetReads
  rw [parse_v FU h (by decide), Option.bind_some, rParse_v FU h (by decide), Option.bind_some, if_pos (by simp), num_v, Option.bind_some, if_pos (by simp), works_v]
  rfl
/-! told again. -/
/-- the text that a target's parts stand in. -/
def txV (f : Int) (host path query : List Int) (has : Bool) : List Int :=
  (if f = 3 then [42] else if f = 2 then HT ++ host ++ (if path = [47] then [] else path) else path) ++ (if has = true then 63 :: query else [])
def txP (f : Int) (host path query : List Int) (has : Bool) : List Int × Int :=
  if parP (txV f host path query has) = (f, host, path, query, has, 0) then (txV f host path query has, 0) else ([], 23)
theorem tg_eq (r : Tg) (f : Int) (host path query : List Int) (has : Bool) : (r.2.2.2.2.2 = 0 ∧ ((r.1 == f) && ((r.2.1 == host) && ((r.2.2.1 == path) && ((r.2.2.2.1 == query) && ((r.2.2.2.2.1 == has) && true))))) = true) ↔ r = (f, host, path, query, has, 0) := by
  obtain ⟨a, b, c, d, e, g⟩ := r
  simp only [Bool.and_eq_true, beq_iff_eq, Prod.mk.injEq]
  constructor
  · rintro ⟨h1, h2, h3, h4, h5, h6, _⟩; exact ⟨h2, h3, h4, h5, h6, h1⟩
  · rintro ⟨h2, h3, h4, h5, h6, h1⟩; exact ⟨h1, h2, h3, h4, h5, h6, trivial⟩
theorem par_form (s : List Int) : (parP s).2.2.2.2.2 = 0 → (parP s).1 = 1 ∨ (parP s).1 = 2 ∨ (parP s).1 = 3 := by
  have hb : ∀ f h r, (behP f h r).2.2.2.2.2 = 0 → (behP f h r).1 = f := fun f h r => by
    intro e
    unfold behP at e ⊢
    by_cases hc : pathP (if (cutV r 63).1 = [] ∧ f = 2 then [47] else (cutV r 63).1) = true ∧ queryP (cutV r 63).2.1 = true
    · rw [if_pos hc]
    · rw [if_neg hc] at e; exact absurd e (by decide)
  unfold parP absP
  repeat' split
  all_goals first | (intro e; exact absurd e (by decide)) | (intro _; exact .inr (.inr rfl)) | (intro e; exact .inl (hb _ _ _ e)) | (intro e; exact .inr (.inl (hb _ _ _ e)))
theorem last_part (n : Nat) {s : List Int} (x : Option Tg) (f : Int) (host path query : List Int) (has : Bool) (hx : x = some (parP s)) :
    (Option.bind x fun r23 =>
      (if (!(r23.2.2.2.2.2 == (0 : Int))) = true then
      some (([] : List Int), (23 : Int))
      else
      (if (!((r23.1 == f) && ((r23.2.1 == host) && ((r23.2.2.1 == path) && ((r23.2.2.2.1 == query) && ((r23.2.2.2.2.1 == has) && true)))))) = true then
      some (([] : List Int), (23 : Int))
      else
      some (s, (0 : Int))))) = some (if parP s = (f, host, path, query, has, 0) then (s, 0) else ([], 23)) := by
  rw [hx, Option.bind_some]
  have := tg_eq (parP s) f host path query has
  by_cases h0 : (parP s).2.2.2.2.2 = 0
  · rw [if_neg (by simpa using h0)]
    by_cases h1 : (((parP s).1 == f) && (((parP s).2.1 == host) && (((parP s).2.2.1 == path) && (((parP s).2.2.2.1 == query) && (((parP s).2.2.2.2.1 == has) && true))))) = true
    · rw [if_neg (by rw [h1]; decide), if_pos (this.1 ⟨h0, h1⟩)]
    · rw [if_pos (by rw [Bool.eq_false_iff.2 h1]; rfl), if_neg (fun e => h1 (this.2 e).2)]
  · rw [if_pos (by simpa using h0), if_neg (fun e => h0 (this.2 e).1)]
def TY (s : List Int) : Prop := BL s ∧ s.length ≤ 2000000
theorem txV_TX {f : Int} {host path query : List Int} {has : Bool} (h1 : TY host) (h2 : TY path) (h3 : TY query) : TX (txV f host path query has) := by
  have l1 := h1.2; have l2 := h2.2; have l3 := h3.2
  have hHT : HT.length = 7 := rfl
  unfold txV
  refine ⟨BL.app ?_ ?_, ?_⟩
  · split
    · intro c hc; rw [List.mem_singleton.1 hc]; omega
    · split
      · refine (BL.app (BL.app (by intro c hc; simp [HT] at hc; omega) h1.1) ?_)
        split
        · exact fun c hc => nomatch hc
        · exact h2.1
      · exact h2.1
  · split
    · exact fun c hc => (List.mem_cons.1 hc).elim (fun e => by omega) (h3.1 c)
    · exact fun c hc => nomatch hc
  · rw [List.length_append]
    have a1 : (if f = 3 then [42] else if f = 2 then HT ++ host ++ (if path = [47] then [] else path) else path : List Int).length ≤ 4000010 := by
      split
      · simp
      · split
        · split <;> simp <;> omega
        · omega
    have a2 : (if has = true then 63 :: query else [] : List Int).length ≤ 2000001 := by split <;> simp <;> omega
    omega
theorem text_v (n : Nat) {f : Int} {host path query : List Int} {has : Bool} (h1 : TY host) (h2 : TY path) (h3 : TY query) (hn : 300000000 < n) :
    text n (f, (host, (path, (query, has)))) = some (txP f host path query has) := by
  have hT := txV_TX (f := f) (has := has) h1 h2 h3
  have l1 := h1.2; have l2 := h2.2; have l3 := h3.2
  have hHT : HT.length = 7 := rfl
  refine Gives.eq ?_
  unfold text txP
  dsimp only
  refine Gives.bind_eq (r := Out.go ((if f = 3 then [42] else if f = 2 then HT ++ host ++ (if path = [47] then [] else path) else path), (f, (host, (path, (query, has)))))) ?_ ?_
  · by_cases e3 : f = 3
    · rw [if_pos (by simpa using e3), if_pos e3]
    · rw [if_neg (by simpa using e3), if_neg e3]
      by_cases e2 : f = 2
      · rw [if_pos (by simpa using e2), if_pos e2]
        by_cases ep : path = [47]
        · rw [if_pos (by simpa using ep), if_pos ep]
          dsimp only [Option.bind]
          rw [if_pos (by omega), if_pos (by simp; omega)]; rfl
        · rw [if_neg (by simpa using ep), if_neg ep]
          dsimp only [Option.bind]
          rw [if_pos (by omega), if_pos (by simp; omega)]; rfl
      · rw [if_neg (by simpa using e2), if_neg e2]
  · dsimp only
    unfold txV at hT ⊢
    generalize (if f = 3 then [42] else if f = 2 then HT ++ host ++ (if path = [47] then [] else path) else path : List Int) = b at hT ⊢
    have lb := hT.2
    rw [List.length_append] at lb
    cases has with
    | true =>
      rw [if_pos rfl] at hT lb ⊢
      rw [if_pos rfl]
      refine Gives.pos (by omega) ?_
      refine Gives.pos (by simp; omega) ?_
      refine Gives.of_eq (last_part n (s := b ++ 63 :: query) _ f host path query true (parse_v n hT hn)) rfl
    | false =>
      simp only [Bool.false_eq_true, if_false, List.append_nil] at hT ⊢
      exact Gives.of_eq (last_part n (s := b) _ f host path query false (parse_v n hT hn)) rfl
theorem last_part2 (n : Nat) {s : List Int} (x : Option Tg) (f : Int) (host path query : List Int) (has : Bool) (hx : x = some (parP s)) :
    (Option.bind x fun r23 =>
      (if (r23.2.2.2.2.2 != (0 : Int)) = true then
      some (([] : List Int), (23 : Int))
      else
      (if (!((r23.1 == f) && ((r23.2.1 == host) && ((r23.2.2.1 == path) && ((r23.2.2.2.1 == query) && ((r23.2.2.2.2.1 == has) && true)))))) = true then
      some (([] : List Int), (23 : Int))
      else
      some (s, (0 : Int))))) = some (if parP s = (f, host, path, query, has, 0) then (s, 0) else ([], 23)) := last_part n x f host path query has hx
theorem rText_v (n : Nat) {f : Int} {host path query : List Int} {has : Bool} (h1 : TY host) (h2 : TY path) (h3 : TY query) (hn : 300000000 < n) :
    rText n (f, (host, (path, (query, has)))) = some (txP f host path query has) := by
  have hT := txV_TX (f := f) (has := has) h1 h2 h3
  have l1 := h1.2; have l2 := h2.2; have l3 := h3.2
  have hHT : HT.length = 7 := rfl
  refine Gives.eq ?_
  unfold rText txP
  dsimp only
  by_cases hf : f = 1 ∨ f = 2 ∨ f = 3
  · refine Gives.bind_eq (r := Out.go ((if f = 3 then [42] else if f = 2 then HT ++ host ++ (if path = [47] then [] else path) else path), (f, (host, (path, (query, has)))))) ?_ ?_
    · by_cases e3 : f = 3
      · rw [if_pos (by simpa using e3), if_pos e3]
      · rw [if_neg (by simpa using e3), if_neg e3]
        by_cases e2 : f = 2
        · rw [if_neg (by simp; omega), if_pos (by simpa using e2), if_pos e2, if_pos (by omega)]
          by_cases ep : path = [47]
          · rw [if_neg (by simpa using ep), if_pos ep]
            simp [HT]
          · rw [if_pos (by simpa using ep), if_neg ep, if_pos (by simp; omega)]; rfl
        · rw [if_pos (by simp; omega), if_neg e2]
    · dsimp only
      unfold txV at hT ⊢
      generalize (if f = 3 then [42] else if f = 2 then HT ++ host ++ (if path = [47] then [] else path) else path : List Int) = b at hT ⊢
      have lb := hT.2
      rw [List.length_append] at lb
      cases has with
      | true =>
        rw [if_pos rfl] at hT lb ⊢
        rw [if_pos rfl]
        refine Gives.pos (by simp at lb; omega) ?_
        refine Gives.pos (by simp at lb ⊢; omega) ?_
        have e : b ++ [63] ++ query = b ++ 63 :: query := by simp
        rw [e]
        exact Gives.of_eq (last_part2 n (s := b ++ 63 :: query) _ f host path query true (rParse_v n hT hn)) rfl
      | false =>
        simp only [Bool.false_eq_true, if_false, List.append_nil] at hT ⊢
        exact Gives.of_eq (last_part2 n (s := b) _ f host path query false (rParse_v n hT hn)) rfl
  · have no : ∀ s, parP s ≠ (f, host, path, query, has, 0) := fun s e => by
      have := par_form s
      rw [e] at this
      exact hf (this rfl)
    rw [if_neg (no _)]
    refine Gives.bind_eq (r := Out.go ([], (f, (host, (path, (query, has)))))) ?_ ?_
    · rw [if_neg (by simp; omega), if_neg (by simp; omega), if_neg (by simp; omega)]
    · dsimp only
      have hE : TX ([] : List Int) := ⟨(fun c hc => nomatch hc), by simp⟩
      have hQ : TX (63 :: query) := ⟨fun c hc => (List.mem_cons.1 hc).elim (fun e => by omega) (h3.1 c), by simp; omega⟩
      cases has with
      | true =>
        rw [if_pos rfl]
        refine Gives.pos (by simp) ?_
        refine Gives.pos (by simp; omega) ?_
        refine Gives.of_eq (last_part2 n (s := 63 :: query) _ f host path query true (rParse_v n hQ hn)) (by rw [if_neg (no _)])
      | false =>
        rw [if_neg Bool.false_ne_true]
        refine Gives.of_eq (last_part2 n (s := []) _ f host path query false (rParse_v n hE hn)) (by rw [if_neg (no _)])
theorem targetTells_f {x1 : Int} {x2 x3 x4 : List Int} {x5 : Bool} (h2 : TY x2) (h3 : TY x3) (h4 : TY x4) : targetTells FU (x1, (x2, (x3, (x4, x5)))) = some true := by
  unfold targetTells
  dsimp only
  rw [text_v FU h2 h3 h4 (by decide), Option.bind_some, rText_v FU h2 h3 h4 (by decide), Option.bind_some, if_pos (by simp), num_v, Option.bind_some, if_pos (by simp), works_v]
  rfl
end Go.Sx.YtndkpphniekmlaaDoor
