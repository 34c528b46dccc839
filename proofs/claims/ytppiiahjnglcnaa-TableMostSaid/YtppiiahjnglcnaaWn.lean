/- Part of a proof by a small interpreter on plain values; no condition. -/
import Derived.Test.YtppiiahjnglcnaaWm
/-! W22N: TableRuns, TableOf. -/
namespace Go.Sx.Ytppiiahjnglcnaa
open Go Go.Sx
set_option autoImplicit false
set_option maxRecDepth 100000
set_option linter.unusedVariables false
set_option linter.unusedSimpArgs false
theorem num_v (e : Int) : turnstilelaw22Num 5000 e = some e := by
  unfold turnstilelaw22Num
  by_cases h : e = 0
  · subst h; rfl
  · rw [if_neg (by simpa using h), if_neg (by simpa using h)]
theorem tLen_v (r f l : Int) (m : List (Wh × Int)) (xs : List Ent) (hm : m.length ≤ 1024) : tLen 5000 (r, f, l, m, xs) = some ((m.length : Int), r, f, l, m, xs) := by
  unfold tLen
  dsimp only
  have : lim = 9223372036854775807 := rfl
  rw [if_pos (by omega)]
section
variable (r : Int) {f l : Int} {m : List (Wh × Int)} {xs : List Ent} {o : List Nat}
theorem tLeft_v (h : Ok f l m xs o) (hr : 1 ≤ r ∧ r ≤ 1024) (ho : (o.length : Int) ≤ r) (w1 w2 : Int) (w3 : List Int) (b R P B t : Int) :
    ∃ z, tLeft 5000 (w1, w2, w3, b, R, P, B, t, r, f, l, m, xs) = some (z.1, z.2, r, f, l, m, xs) ∧ rLeft 5000 (r, ents xs o, w1, w2, w3, b, R, P, B, t) = some z := by
  unfold tLeft rLeft
  dsimp only
  rw [tBucket_v r h, rBucket_v r (ents xs o) w1 w2 w3 b R P B t hr.1 (h.len1024 hr.2 ho)]
  simp only [Option.bind_some]
  generalize bvL (ents xs o) (w1, w2, w3, ()) R P B t = q
  by_cases hq : q.2.2 = 0
  · rw [if_neg (show ¬ (!(q.2.2 == (0 : Int))) = true by simpa using hq), if_neg (show ¬ (q.2.2 != (0 : Int)) = true by simpa using hq)]
    obtain ⟨e1, z, e2⟩ := left_v q.1 q.2.1 b R P B t
    rw [e1, e2]
    exact ⟨z, rfl, rfl⟩
  · rw [if_pos (show (!(q.2.2 == (0 : Int))) = true by simpa using hq), if_pos (show (q.2.2 != (0 : Int)) = true by simpa using hq)]
    exact ⟨(0, q.2.2), rfl, rfl⟩
theorem tWait_v (h : Ok f l m xs o) (hr : 1 ≤ r ∧ r ≤ 1024) (ho : (o.length : Int) ≤ r) (w1 w2 : Int) (w3 : List Int) (b R P B t : Int) :
    ∃ z, tWait 5000 (w1, w2, w3, b, R, P, B, t, r, f, l, m, xs) = some (z.1, z.2, r, f, l, m, xs) ∧ rWait 5000 (r, ents xs o, w1, w2, w3, b, R, P, B, t) = some z := by
  unfold tWait rWait
  dsimp only
  rw [tBucket_v r h, rBucket_v r (ents xs o) w1 w2 w3 b R P B t hr.1 (h.len1024 hr.2 ho)]
  simp only [Option.bind_some]
  generalize bvL (ents xs o) (w1, w2, w3, ()) R P B t = q
  by_cases hq : q.2.2 = 0
  · rw [if_neg (show ¬ (!(q.2.2 == (0 : Int))) = true by simpa using hq), if_neg (show ¬ (q.2.2 != (0 : Int)) = true by simpa using hq)]
    obtain ⟨e1, z, e2⟩ := wait_v q.1 q.2.1 b R P B t
    rw [e1, e2]
    exact ⟨z, rfl, rfl⟩
  · rw [if_pos (show (!(q.2.2 == (0 : Int))) = true by simpa using hq), if_pos (show (q.2.2 != (0 : Int)) = true by simpa using hq)]
    exact ⟨(0, q.2.2), rfl, rfl⟩
theorem tWho_v (h : Ok f l m xs o) (ho : o.length ≤ 1024) : tWho 5000 (r, f, l, m, xs) = some (o.map (who xs), r, f, l, m, xs) := by
  apply Gives.eq
  unfold tWho
  dsimp only
  refine Gives.loop (X := Int × Int × Int × Int × (List (Wh × Int)) × (List Ent) × List Wh)
    (fun y => ∃ a b, o = a ++ b ∧ y = (hd b (-1), r, f, l, m, xs, a.map (who xs))) (fun y => 2000 - y.2.2.2.2.2.2.length) ?_ 5000 _ ⟨[], o, rfl, by rw [h.hf]; rfl⟩ (by simp)
  rintro rec y ⟨a, b, hab, rfl⟩ hr
  dsimp only
  have hlen : o.length = a.length + b.length := by rw [hab]; simp
  cases b with
  | nil =>
    rw [List.append_nil] at hab
    subst hab
    exact Gives.neg (by simp [hd]) (Gives.of_some rfl)
  | cons i b =>
    simp at hlen
    have hseg := h.seg
    rw [hab, seg_app] at hseg
    obtain ⟨_, ⟨e, he, _, hn⟩, _⟩ := hseg
    have hw := (who_of he).1
    simp only [hd]
    refine Gives.pos (show (!(decide ((i : Int) < 0))) = true by rw [decide_eq_false (by omega)]; rfl) (Gives.neg (by omega) ?_)
    rw [Int.toNat_natCast, he]
    refine Gives.pos (by rw [List.length_map]; omega) (Gives.neg (by omega) ?_)
    refine hr _ ⟨a ++ [i], b, by rw [hab]; simp, ?_⟩ (by dsimp only; simp; omega)
    rw [List.map_append, hn]
    simp only [List.map_cons, List.map_nil, hw]
theorem tDrop_v (h : Ok f l m xs o) (ho : o.length ≤ 1024) (route : Int) :
    ∃ f' l' m' xs' o', tDrop 5000 (route, r, f, l, m, xs) = some ((o.length : Int) - (o'.length : Int), r, f', l', m', xs') ∧ Ok f' l' m' xs' o' ∧ ents xs' o' = (ents xs o).filter (fun e => e.1.1 != route) ∧ o'.length ≤ o.length ∧ Same xs xs' := by
  let keep : Nat → Bool := fun i => (who xs i).1 != route
  suffices hs : Gives (tDrop 5000 (route, r, f, l, m, xs)) (fun z => ∃ f' l' m' xs', z = ((o.length : Int) - ((o.filter keep).length : Int), r, f', l', m', xs') ∧ Ok f' l' m' xs' (o.filter keep) ∧ Same xs xs') by
    obtain ⟨z, h1, f', l', m', xs', rfl, h2, h3⟩ := hs
    refine ⟨f', l', m', xs', o.filter keep, h1, h2, ?_, List.length_filter_le _ _, h3⟩
    rw [ents_map h3]
    unfold ents
    rw [List.filter_map]
    rfl
  unfold tDrop
  dsimp only
  rw [tWho_v r h ho]
  rw [Option.bind_some]
  refine Gives.loop (X := Int × Int × (List Wh) × Int × Int × Int × Int × Int × (List (Wh × Int)) × List Ent)
    (fun y => ∃ a b f l m xs', o = a ++ b ∧ y = (route, (a.length : Int) - ((a.filter keep).length : Int), o.map (who xs), (o.length : Int), (a.length : Int), r, f, l, m, xs') ∧ Ok f l m xs' (a.filter keep ++ b) ∧ Same xs xs') (fun y => (2000 - y.2.2.2.2.1).toNat) ?_ 5000 _
    ⟨[], o, f, l, m, xs, rfl, by simp, h, Same.refl xs⟩ (by simp)
  rintro rec y ⟨a, b, f, l, m, ys, hab, rfl, hO, hS⟩ hr
  dsimp only
  have hlen : o.length = a.length + b.length := by rw [hab]; simp
  have hfl := List.length_filter_le keep a
  refine Gives.dite (fun hlt => ?_) (fun hlt => ?_)
  · cases b with
    | nil => simp at hlen; omega
    | cons i b =>
      simp at hlen
      have hg : (o.map (who xs)).getD ((a.length : Nat) : Int).toNat (0, 0, [], ()) = who xs i := by
        rw [hab, Int.toNat_natCast, List.getD_eq_getElem?_getD, List.getElem?_map, List.getElem?_append_right (Nat.le_refl _)]
        simp
      refine Gives.idx (0, 0, [], ()) (by omega) (by rw [List.length_map]; exact hlt) ?_
      rw [hg]
      refine Gives.ite (fun hc => ?_) (fun hc => ?_)
      · have hget := hO.get (i := i) (by simp)
        rw [(hS.2 i).1] at hget
        obtain ⟨f', l', m', ys', q1, q2, q3⟩ := remove_ok r hO
        rw [show mget (K.eqb (.pair (.int .i64) (.pair (.int .i64) (.pair .str .unit)))) ((who xs i).1, ((who xs i).2.1, ((who xs i).2.2.1, ()))) m = some (i : Int) from hget]
        simp only [Option.getD_some]
        refine Gives.bind_eq q1 ?_
        rw [wrap64 (by omega) (by omega), wrap64 (by omega) (by omega)]
        have hk : keep i = false := by simpa [keep] using hc
        have hf2 : (a ++ [i]).filter keep = a.filter keep := by simp [List.filter_append, hk]
        refine hr _ ⟨a ++ [i], b, f', l', m', ys', by rw [hab]; simp, ?_, by rw [hf2]; exact q2, hS.trans q3⟩ (by dsimp only; omega)
        have e1 : ((a ++ [i]).length : Int) = (a.length : Int) + 1 := by simp
        rw [hf2, e1, show (a.length : Int) + 1 - ((a.filter keep).length : Int) = (a.length : Int) - ((a.filter keep).length : Int) + 1 from by omega]
      · rw [wrap64 (by omega) (by omega)]
        have hk : keep i = true := by simpa [keep] using hc
        have hf2 : (a ++ [i]).filter keep = a.filter keep ++ [i] := by simp [List.filter_append, hk]
        refine hr _ ⟨a ++ [i], b, f, l, m, ys, by rw [hab]; simp, ?_, by rw [hf2, List.append_assoc]; exact hO, hS⟩ (by dsimp only; omega)
        have e1 : ((a ++ [i]).length : Int) = (a.length : Int) + 1 := by simp
        have e2 : ((a.filter keep ++ [i]).length : Int) = ((a.filter keep).length : Int) + 1 := by simp
        rw [hf2, e1, e2, show (a.length : Int) + 1 - (((a.filter keep).length : Int) + 1) = (a.length : Int) - ((a.filter keep).length : Int) from by omega]
  · have : b = [] := List.eq_nil_of_length_eq_zero (by omega)
    subst this
    rw [List.append_nil] at hab hO
    subst hab
    exact Gives.of_some ⟨f, l, m, ys, rfl, hO, hS⟩
theorem same_v (h : Ok f l m xs o) (ho : o.length ≤ 1024) (q : Int) : same 5000 (q, ents xs o, r, f, l, m, xs) = some (true, r, f, l, m, xs) := by
  apply Gives.eq
  unfold same
  dsimp only
  rw [tWho_v r h ho]
  simp only [Option.bind_some]
  rw [tLen_v r f l m xs (by rw [h.len]; exact ho)]
  simp only [Option.bind_some]
  refine Gives.nneg (by rw [ents_len, h.len]) (Gives.nneg (by rw [ents_len, List.length_map]) ?_)
  refine Gives.loop (X := (List Wh) × Int × Int × (List REnt) × Int × Int × Int × (List (Wh × Int)) × List Ent)
    (fun y => ∃ i : Nat, i ≤ o.length ∧ y = (o.map (who xs), (i : Int), q, ents xs o, r, f, l, m, xs)) (fun y => (2000 - y.2.1).toNat) ?_ 5000 _ ⟨0, by omega, rfl⟩ (by simp)
  rintro rec y ⟨i, hi, rfl⟩ hr
  dsimp only
  refine Gives.dite (fun hlt => ?_) (fun hlt => Gives.of_some rfl)
  rw [List.length_map] at hlt
  have hlt' : i < o.length := by omega
  refine Gives.idx (0, 0, [], ()) (by omega) (by rw [List.length_map]; exact hlt) ?_
  refine Gives.idx dR (by omega) (by rw [ents_len]; exact hlt) ?_
  rw [Int.toNat_natCast]
  have e1 : (o.map (who xs)).getD i (0, 0, [], ()) = who xs o[i] := by
    rw [List.getD_eq_getElem?_getD, List.getElem?_map, List.getElem?_eq_getElem hlt']; rfl
  have e2 : (ents xs o).getD i dR = (who xs o[i], (bk xs o[i], ())) := by
    unfold ents
    rw [List.getD_eq_getElem?_getD, List.getElem?_map, List.getElem?_eq_getElem hlt']; rfl
  rw [e1, e2]
  refine Gives.neg (by simp) ?_
  rw [wrap64 (by omega) (by omega)]
  exact hr _ ⟨i + 1, by omega, by simp⟩ (by dsimp only; omega)
theorem doAct_v (h : Ok f l m xs o) (hr : 1 ≤ r ∧ r ≤ 1024) (ho : (o.length : Int) ≤ r) (k w1 w2 : Int) (w3 : List Int) (b R P B t : Int) :
    Gives (doAct 5000 (r, ents xs o, k, w1, w2, w3, b, R, P, B, t, r, f, l, m, xs)) (fun z => ∃ f' l' m' xs' o', z = (r, ents xs' o', true, r, f', l', m', xs') ∧ Ok f' l' m' xs' o' ∧ (o'.length : Int) ≤ r) := by
  unfold doAct
  dsimp only
  refine Gives.eite (fun _ => ?_) (fun _ => Gives.eite (fun _ => ?_) (fun _ => Gives.eite (fun _ => ?_) (fun _ => ?_)))
  · obtain ⟨z, h1, h2⟩ := tLeft_v r h hr ho w1 w2 w3 b R P B t
    rw [h1, h2]
    simp only [Option.bind_some, num_v]
    exact Gives.epos rfl (Gives.of_some ⟨f, l, m, xs, o, by simp, h, ho⟩)
  · obtain ⟨z, h1, h2⟩ := tWait_v r h hr ho w1 w2 w3 b R P B t
    rw [h1, h2]
    simp only [Option.bind_some, num_v]
    exact Gives.epos rfl (Gives.of_some ⟨f, l, m, xs, o, by simp, h, ho⟩)
  · obtain ⟨f', l', m', xs', o', h1, h2, h3, h4, _⟩ := tDrop_v r h (by omega) w1
    rw [h1, rDrop_v r (ents xs o) w1 (h.len1024 hr.2 ho), ← h3]
    simp only [Option.bind_some, ents_len]
    exact Gives.of_some ⟨f', l', m', xs', o', by simp, h2, by omega⟩
  · obtain ⟨f', l', m', xs', o', h1, h2, h3, h4⟩ := tTake_v r h hr ho w1 w2 w3 b R P B t
    rw [h1, rTake22_v r (ents xs o) w1 w2 w3 b R P B t hr.1 (h.len1024 hr.2 ho)]
    simp only [Option.bind_some, num_v]
    refine Gives.pos (by simp) (Gives.of_some ⟨f', l', m', xs', o', ?_, h2, h4⟩)
    rw [h3]
    simp
end
theorem new_v (r : Int) (xs : List Ent) : tNew 5000 (r, xs) = some (if 1 ≤ r ∧ r ≤ 1024 then .inr (r, -1, -1, [], xs) else .inl xs) := by
  unfold tNew
  dsimp only
  by_cases h1 : r < 1
  · rw [if_pos (by simpa using h1), if_neg (by omega)]
  · by_cases h2 : r > 1024
    · rw [if_neg (by simpa using h1), if_pos (by simpa using h2), if_neg (by omega)]
    · rw [if_neg (by simpa using h1), if_neg (by simpa using h2), if_pos (by omega)]
theorem rNew_v (r : Int) : rNew 5000 r = some (if 1 ≤ r ∧ r ≤ 1024 then (r, [], 0) else (0, [], 1)) := by
  unfold rNew
  by_cases h1 : r < 1
  · rw [if_pos (by simpa using h1), if_neg (by omega)]
  · by_cases h2 : r > 1024
    · rw [if_neg (by simpa using h1), if_pos (by simpa using h2), if_neg (by omega)]
    · rw [if_neg (by simpa using h1), if_neg (by simpa using h2), if_pos (by omega)]
theorem tableRuns_true (room : Int) (acts : List (Int × (Wh × ((Int × (Int × (Int × (Int × Unit)))) × (Int × Unit))))) : tableRuns 5000 (room, acts, []) = some true := by
  apply Gives.eq
  unfold tableRuns
  dsimp only
  rw [new_v, rNew_v]
  simp only [Option.bind_some]
  by_cases hr : 1 ≤ room ∧ room ≤ 1024
  · simp only [if_pos hr]
    refine Gives.nneg rfl ?_
    refine Gives.loop (X := Int × (List (Int × (Wh × ((Int × (Int × (Int × (Int × Unit)))) × (Int × Unit))))) × Int × Int × Int × Int × (List (Wh × Int)) × Int × (List REnt) × List Ent)
      (fun y => ∃ (i : Nat) (f l : Int) (m : List (Wh × Int)) (xs : List Ent) (o : List Nat), i ≤ 300 ∧ y = (room, acts, (i : Int), room, f, l, m, room, ents xs o, xs) ∧ Ok f l m xs o ∧ (o.length : Int) ≤ room) (fun y => (400 - y.2.2.1).toNat) ?_ 5000 _
      ⟨0, -1, -1, [], [], [], by omega, rfl, Ok.empty, by simp; omega⟩ (by simp)
    rintro rec y ⟨i, f, l, m, xs, o, hi, rfl, hO, ho⟩ hrec
    dsimp only
    refine Gives.dite (fun h1 => ?_) (fun h1 => by rw [works_true]; exact Gives.of_some rfl)
    refine Gives.dite (fun h2 => ?_) (fun h2 => by rw [works_true]; exact Gives.of_some rfl)
    refine Gives.idx (0, (0, 0, [], ()), (0, 0, 0, 0, ()), 0, ()) (by omega) h1 ?_
    refine Gives.bind (doAct_v room hO hr ho _ _ _ _ _ _ _ _ _) ?_
    rintro _ ⟨f', l', m', xs', o', rfl, hO', ho'⟩
    dsimp only
    refine Gives.neg (by simp) ?_
    rw [same_v room hO' (by omega)]
    simp only [Option.bind_some]
    refine Gives.neg (by simp) ?_
    rw [tLen_v _ _ _ _ _ (by rw [hO'.len]; omega)]
    simp only [Option.bind_some]
    refine Gives.dneg (by rw [hO'.len]; omega) ?_
    rw [wrap64 (by omega) (by omega)]
    exact hrec _ ⟨i + 1, f', l', m', xs', o', by omega, by simp, hO', ho'⟩ (by dsimp only; omega)
  · simp only [if_neg hr, num_v, Option.bind_some, works_true]
    exact Gives.npos (by decide) (Gives.epos rfl (Gives.npos (by decide) (Gives.of_some rfl)))
theorem takeN_v (w1 w2 : Int) (w3 : List Int) (b R P B t : Int) : tTakeN 5000 (w1, w2, w3, b, R, P, B, t) = some (false, if Lim R P B then 1 else 4) ∧ (∃ x, tLeftN 5000 (w1, w2, w3, b, R, P, B, t) = some (x, if Lim R P B then 1 else 4)) ∧ ∃ x, tWaitN 5000 (w1, w2, w3, b, R, P, B, t) = some (x, if Lim R P B then 1 else 4) := by
  have hb : tBucketN 5000 (w1, w2, w3, b, R, P, B, t) = some (0, 0, if Lim R P B then 1 else 4) := by
    unfold tBucketN
    dsimp only
    rw [full_v]
    simp only [Option.bind_some]
    by_cases hl : Lim R P B
    · simp only [if_pos hl]
      by_cases ht : 0 ≤ t ∧ t ≤ 1099511627776
      · simp only [if_pos ht]; rfl
      · simp only [if_neg ht]; rfl
    · simp only [if_neg hl]; rfl
  have hn : ¬ (if Lim R P B then (1 : Int) else 4) = 0 := by split <;> decide
  unfold tTakeN tLeftN tWaitN
  dsimp only
  rw [hb]
  simp only [Option.bind_some]
  generalize (if Lim R P B then (1 : Int) else 4) = e at hn ⊢
  rw [if_pos (show (!(e == (0 : Int))) = true by simpa using hn), if_pos (show (!(e == (0 : Int))) = true by simpa using hn), if_pos (show (!(e == (0 : Int))) = true by simpa using hn)]
  exact ⟨rfl, ⟨0, rfl⟩, ⟨0, rfl⟩⟩
theorem of_v (route b R P B : Int) (c s : List Int) : ∃ z, of 5000 (route, b, R, P, B, c, s) = some z ∧ rOf 5000 (route, b, R, P, B, c, s) = some z := by
  unfold of rOf
  dsimp only
  by_cases h1 : b = 1
  · subst h1; exact ⟨_, rfl, rfl⟩
  · by_cases h2 : b = 2
    · subst h2; exact ⟨_, rfl, rfl⟩
    · simp only [beq_iff_eq, if_neg h1, if_neg h2]
      exact ⟨_, rfl, rfl⟩
theorem tableOf_true (k w1 w2 : Int) (w3 : List Int) (b R P B t : Int) (c s : List Int) : tableOf 5000 (k, w1, w2, w3, b, R, P, B, t, c, s) = some true := by
  apply Gives.eq
  unfold tableOf
  dsimp only
  obtain ⟨z, h1, h2⟩ := of_v w1 b R P B c s
  obtain ⟨h3, ⟨x1, h4⟩, ⟨x2, h5⟩⟩ := takeN_v w1 w2 w3 b R P B t
  have h6 : tLenN 5000 () = some 0 := rfl
  have h7 : tDropN 5000 0 = some 0 := rfl
  have h8 : tWhoN 5000 () = some [] := rfl
  have h9 : tCloneN 5000 () = some () := rfl
  rw [h1, h2, h3, h4, h5]
  simp only [Option.bind_some, rValid_v, vV, num_v, h6, h7, h8, h9, works_true]
  by_cases hl : Lim R P B
  · simp [hl, Gives]
  · simp [hl, Gives]
end Go.Sx.Ytppiiahjnglcnaa
