/- Part of a proof by a small interpreter on plain values; no condition. -/
import Derived.Test.YtppiiahjnglcnaaWl
/-! W22M: the program's table: entries in a row, a map. -/
namespace Go.Sx.Ytppiiahjnglcnaa
open Go Go.Sx
set_option autoImplicit false
set_option linter.unusedVariables false
set_option linter.unusedSimpArgs false
structure Ok (f l : Int) (m : List (Wh × Int)) (xs : List Ent) (o : List Nat) : Prop where
  seg : Seg xs (-1) o (-1)
  hf : f = hd o (-1)
  hl : l = lst (-1) o
  nd : o.Nodup
  wn : (o.map (who xs)).Nodup
  mp : m.Perm (o.map fun i => (who xs i, (i : Int)))
def ents (xs : List Ent) (o : List Nat) : List REnt := o.map fun i => (who xs i, (bk xs i, ()))
theorem ents_len (xs : List Ent) (o : List Nat) : (ents xs o).length = o.length := by simp [ents]
theorem Ok.keys {f l : Int} {m : List (Wh × Int)} {xs : List Ent} {o : List Nat} (h : Ok f l m xs o) : (m.map (·.1)).Nodup := by
  have := (h.mp.map (·.1)).nodup_iff.2 (by rw [List.map_map]; exact h.wn)
  exact this
theorem Ok.len {f l : Int} {m : List (Wh × Int)} {xs : List Ent} {o : List Nat} (h : Ok f l m xs o) : m.length = o.length := by rw [h.mp.length_eq, List.length_map]
theorem Ok.empty : Ok (-1) (-1) [] [] [] := ⟨trivial, rfl, rfl, .nil, .nil, .nil⟩
theorem Ok.get {f l : Int} {m : List (Wh × Int)} {xs : List Ent} {o : List Nat} (h : Ok f l m xs o) {i : Nat} (hi : i ∈ o) : mget eqW (who xs i) m = some (i : Int) :=
  (mget_some_iff eqW_iff h.keys).2 (h.mp.mem_iff.2 (List.mem_map.2 ⟨i, hi, rfl⟩))
theorem Ok.none {f l : Int} {m : List (Wh × Int)} {xs : List Ent} {o : List Nat} (h : Ok f l m xs o) {w : Wh} (hw : pos w (ents xs o) = none) : mget eqW w m = none := by
  rw [mget_none_iff eqW_iff]
  intro p hp
  obtain ⟨i, hi, rfl⟩ := List.mem_map.1 (h.mp.mem_iff.1 hp)
  exact pos_none hw _ (List.mem_map.2 ⟨i, hi, rfl⟩)
theorem Ok.at {f l : Int} {m : List (Wh × Int)} {xs : List Ent} {o : List Nat} (h : Ok f l m xs o) {w : Wh} {j : Nat} (hw : pos w (ents xs o) = some j) : ∃ a i b, o = a ++ i :: b ∧ a.length = j ∧ who xs i = w ∧ mget eqW w m = some (i : Int) ∧ ∃ e, xs[i]? = some e := by
  obtain ⟨e, h1, h2⟩ := pos_some hw
  have hj : j < o.length := by have := pos_lt hw; rwa [ents_len] at this
  unfold ents at h1
  rw [List.getElem?_map, List.getElem?_eq_getElem hj] at h1
  simp only [Option.map_some, Option.some.injEq] at h1
  subst h1
  have hm : o[j] ∈ o := List.getElem_mem hj
  refine ⟨o.take j, o[j], o.drop (j + 1), ?_, by rw [List.length_take]; omega, h2, by rw [← h2]; exact h.get hm, ?_⟩
  · rw [← List.drop_eq_getElem_cons hj, List.take_append_drop]
  · have := seg_lt h.seg _ hm
    exact ⟨_, List.getElem?_eq_getElem this⟩
theorem ents_get {xs : List Ent} {a b : List Nat} {i : Nat} : (ents xs (a ++ i :: b)).getD a.length dR = (who xs i, (bk xs i, ())) := by
  unfold ents
  rw [List.getD_eq_getElem?_getD, List.getElem?_map, List.getElem?_append_right (Nat.le_refl _)]
  simp
theorem Ok.len1024 {f l : Int} {m : List (Wh × Int)} {xs : List Ent} {o : List Nat} (h : Ok f l m xs o) {r : Int} (hr : r ≤ 1024) (ho : (o.length : Int) ≤ r) : (ents xs o).length ≤ 1024 := by rw [ents_len]; omega
theorem tBucket_v (r : Int) {f l : Int} {m : List (Wh × Int)} {xs : List Ent} {o : List Nat} (h : Ok f l m xs o) (w1 w2 : Int) (w3 : List Int) (b R P B t : Int) :
    tBucket 5000 (w1, w2, w3, b, R, P, B, t, r, f, l, m, xs) = some ((bvL (ents xs o) (w1, w2, w3, ()) R P B t).1, (bvL (ents xs o) (w1, w2, w3, ()) R P B t).2.1, (bvL (ents xs o) (w1, w2, w3, ()) R P B t).2.2, r, f, l, m, xs) := by
  unfold tBucket bvL
  dsimp only
  rw [full_v]
  simp only [Option.bind_some]
  by_cases hl : Lim R P B
  · simp only [if_pos hl]
    by_cases ht : 0 ≤ t ∧ t ≤ 1099511627776
    · simp only [if_pos ht]
      rw [if_neg (by simp)]
      cases hp : pos (w1, w2, w3, ()) (ents xs o) with
      | none =>
        have := h.none hp
        simp only
        rw [show mget (K.eqb (.pair (.int .i64) (.pair (.int .i64) (.pair .str .unit)))) (w1, w2, w3, ()) m = none from this]
        rfl
      | some j =>
        obtain ⟨a, i, b', rfl, rfl, hw, hg, e, he⟩ := h.at hp
        simp only
        rw [show mget (K.eqb (.pair (.int .i64) (.pair (.int .i64) (.pair .str .unit)))) (w1, w2, w3, ()) m = some (i : Int) from hg]
        simp only [Option.getD_some, Int.toNat_natCast, he, Option.bind_some]
        rw [if_pos (by simp), if_neg (by omega), ents_get]
        have := (who_of he).2
        simp only [this]
    · simp only [if_neg ht]
      rfl
  · simp only [if_neg hl]
    rfl
theorem who_map {xs ys : List Ent} (h : Same xs ys) (o : List Nat) : o.map (who ys) = o.map (who xs) := List.map_congr_left fun i _ => (h.2 i).1
theorem ents_map {xs ys : List Ent} (h : Same xs ys) (o : List Nat) : ents ys o = ents xs o := List.map_congr_left fun i _ => by rw [(h.2 i).1, (h.2 i).2]
theorem pair_map {xs ys : List Ent} (h : Same xs ys) (o : List Nat) : (o.map fun i => (who ys i, (i : Int))) = o.map fun i => (who xs i, (i : Int)) := List.map_congr_left fun i _ => by rw [(h.2 i).1]
theorem nodup_mid {α : Type} {a b : List α} {x : α} (h : (a ++ x :: b).Nodup) : (a ++ b).Nodup ∧ x ∉ a ++ b := by
  have hp : (a ++ x :: b).Perm (x :: (a ++ b)) := List.perm_middle
  have := hp.nodup_iff.1 h
  rw [List.nodup_cons] at this
  exact ⟨this.2, this.1⟩
theorem remove_ok (r : Int) {f l : Int} {m : List (Wh × Int)} {xs : List Ent} {a b : List Nat} {x : Nat} (h : Ok f l m xs (a ++ x :: b)) :
    ∃ f' l' m' xs', tRemove 5000 ((x : Int), r, f, l, m, xs) = some (r, f', l', m', xs') ∧ Ok f' l' m' xs' (a ++ b) ∧ Same xs xs' := by
  obtain ⟨xs', h1, h2, h3, e, he, _⟩ := unlink_ok 5000 r f l m h.seg h.nd h.hf h.hl
  have hget := h.get (i := x) (by simp)
  refine ⟨hd (a ++ b) (-1), lst (-1) (a ++ b), mdel eqW (who xs x) m, xs', ?_, ⟨h2, rfl, rfl, (nodup_mid h.nd).1, ?_, ?_⟩, h3⟩
  · unfold tRemove
    dsimp only
    rw [h1]
    simp only [Option.bind_some, Int.toNat_natCast, he]
    rw [if_neg (by omega)]
    have : who xs x = e.1 := by rw [← (h3.2 x).1]; exact (who_of he).1
    rw [this]
  · rw [who_map h3]
    have := h.wn
    rw [List.map_append, List.map_cons] at this
    rw [List.map_append]
    exact (nodup_mid this).1
  · rw [pair_map h3]
    have p1 := mdel_perm eqW_iff hget
    have p2 := h.mp
    rw [List.map_append, List.map_cons] at p2
    have p3 : (List.map (fun i => (who xs i, (i : Int))) a ++ (who xs x, (x : Int)) :: List.map (fun i => (who xs i, (i : Int))) b).Perm ((who xs x, (x : Int)) :: (List.map (fun i => (who xs i, (i : Int))) a ++ List.map (fun i => (who xs i, (i : Int))) b)) := List.perm_middle
    have p4 := (p1.symm.trans (p2.trans p3))
    rw [List.map_append]
    exact p4.cons_inv
/-- a new entry, at the end. -/
theorem new_ok (r : Int) {f l : Int} {m : List (Wh × Int)} {xs : List Ent} {o : List Nat} (h : Ok f l m xs o) (e : Ent) (hn : e.2.2.2.1 = -1) (hw : mget eqW e.1 m = none) :
    ∃ f' l' xs', tBehind 5000 ((xs.length : Int), r, f, l, mput eqW e.1 (xs.length : Int) m, xs ++ [e]) = some (r, f', l', mput eqW e.1 (xs.length : Int) m, xs') ∧ Ok f' l' (mput eqW e.1 (xs.length : Int) m) xs' (o ++ [xs.length]) ∧
      (∀ i, i < xs.length → who xs' i = who xs i ∧ bk xs' i = bk xs i) ∧ who xs' xs.length = e.1 ∧ bk xs' xs.length = e.2.1 ∧ xs'.length = xs.length + 1 ∧ ∀ i, i < xs.length → i ∉ o → xs'[i]? = xs[i]? := by
  have hlt := seg_lt h.seg
  have hx : xs.length ∉ o := fun q => by have := hlt _ q; omega
  have he : (xs ++ [e])[xs.length]? = some e := by rw [List.getElem?_append_right (Nat.le_refl _)]; simp
  have hold : ∀ i, i < xs.length → who (xs ++ [e]) i = who xs i ∧ bk (xs ++ [e]) i = bk xs i := fun i hi => by
    unfold who bk
    rw [List.getD_eq_getElem?_getD, List.getD_eq_getElem?_getD, List.getElem?_append_left hi]
    exact ⟨rfl, rfl⟩
  have hseg : Seg (xs ++ [e]) (-1) o (-1) := seg_imp (fun i hi e' he' => ⟨e', by rw [List.getElem?_append_left (hlt i hi)]; exact he', rfl⟩) h.seg
  obtain ⟨xs', h1, h2, h3, h4⟩ := behind_ok 5000 r f l (mput eqW e.1 (xs.length : Int) m) hseg hx h.nd he hn h.hf h.hl
  have hw' : who xs' xs.length = e.1 := by rw [(h3.2 _).1, (who_of he).1]
  have hold' : ∀ i, i < xs.length → who xs' i = who xs i ∧ bk xs' i = bk xs i := fun i hi => ⟨(h3.2 i).1.trans (hold i hi).1, (h3.2 i).2.trans (hold i hi).2⟩
  have hmapw : o.map (who xs') = o.map (who xs) := List.map_congr_left fun i hi => (hold' i (hlt i hi)).1
  have hmapp : (o.map fun i => (who xs' i, (i : Int))) = o.map fun i => (who xs i, (i : Int)) := List.map_congr_left fun i hi => by rw [(hold' i (hlt i hi)).1]
  have hnone := (mget_none_iff eqW_iff).1 hw
  refine ⟨_, _, xs', h1, ⟨h2, rfl, rfl, ?_, ?_, ?_⟩, hold', hw', by rw [(h3.2 _).2, (who_of he).2], by rw [h3.1]; simp, fun i hi hio => by rw [h4 i hio (by omega), List.getElem?_append_left hi]⟩
  · rw [List.nodup_append]
    exact ⟨h.nd, by simp, fun a ha b hb => by simp at hb; rw [hb]; exact fun q => hx (q ▸ ha)⟩
  · rw [List.map_append, hmapw, List.nodup_append]
    refine ⟨h.wn, by simp, fun a ha b hb => ?_⟩
    simp at hb
    rw [hb, hw']
    intro q
    obtain ⟨i, hi, rfl⟩ := List.mem_map.1 ha
    exact hnone (who xs i, (i : Int)) (h.mp.mem_iff.2 (List.mem_map.2 ⟨i, hi, rfl⟩)) q
  · rw [mput_new hw, List.map_append, hmapp]
    simp only [List.map_cons, List.map_nil, hw']
    exact h.mp.append (List.Perm.refl _)
theorem tTake_v (r : Int) {f l : Int} {m : List (Wh × Int)} {xs : List Ent} {o : List Nat} (h : Ok f l m xs o) (hr : 1 ≤ r ∧ r ≤ 1024) (ho : (o.length : Int) ≤ r) (w1 w2 : Int) (w3 : List Int) (b R P B t : Int) :
    ∃ f' l' m' xs' o', tTake 5000 (w1, w2, w3, b, R, P, B, t, r, f, l, m, xs) = some ((takeL r (ents xs o) (w1, w2, w3, ()) b R P B t).2.1, (takeL r (ents xs o) (w1, w2, w3, ()) b R P B t).2.2, r, f', l', m', xs') ∧
      Ok f' l' m' xs' o' ∧ ents xs' o' = (takeL r (ents xs o) (w1, w2, w3, ()) b R P B t).1 ∧ (o'.length : Int) ≤ r := by
  unfold tTake takeL
  dsimp only
  rw [tBucket_v r h]
  simp only [Option.bind_some]
  generalize hq0 : bvL (ents xs o) (w1, w2, w3, ()) R P B t = q
  by_cases hq : q.2.2 = 0
  · rw [if_neg (show ¬ (!(q.2.2 == (0 : Int))) = true by simpa using hq), if_neg (show ¬ q.2.2 ≠ 0 by simpa using hq), (take_v q.1 q.2.1 b R P B t).1, rTake_v q.1 q.2.1 b R P B t q.2.2]
    simp only [Option.bind_some]
    generalize tkV q b R P B t = k
    by_cases hk : k.2.2.2 = 0
    · rw [if_neg (show ¬ (!(k.2.2.2 == (0 : Int))) = true by simpa using hk), if_neg (show ¬ k.2.2.2 ≠ 0 by simpa using hk)]
      unfold putL
      cases hp : pos (w1, w2, w3, ()) (ents xs o) with
      | none =>
        have hg := h.none hp
        simp only
        rw [show mget (K.eqb (.pair (.int .i64) (.pair (.int .i64) (.pair .str .unit)))) (w1, w2, w3, ()) m = none from hg]
        simp only [Option.getD_none]
        rw [if_pos (show decide ((-1 : Int) < 0) = true by decide)]
        -- room is made
        have room : ∃ f1 l1 m1 xs1 o1, (Ok f1 l1 m1 xs1 o1 ∧ mget eqW (w1, w2, w3, ()) m1 = none ∧ ents xs1 o1 = (if ((ents xs o).length : Int) < r then ents xs o else (ents xs o).drop 1) ∧ (o1.length : Int) + 1 ≤ r) ∧
            ∀ (A : Type) (K : Int × Int × Int × (List (Wh × Int)) × List Ent → Option A), (if List.length m ≤ lim then (if ((List.length m : Int) == r) = true then Option.bind (tRemove 5000 (f, r, f, l, m, xs)) K else K (r, f, l, m, xs)) else none) = K (r, f1, l1, m1, xs1) := by
          have hml := h.len
          have hlim : List.length m ≤ lim := by have : lim = 9223372036854775807 := rfl; omega
          by_cases hlr : (o.length : Int) < r
          · refine ⟨f, l, m, xs, o, ⟨h, hg, by rw [ents_len, if_pos hlr], by omega⟩, fun A K => ?_⟩
            rw [if_pos hlim, if_neg (by simp; omega)]
          · cases o with
            | nil => simp at hlr; omega
            | cons x o =>
              obtain ⟨f1, l1, m1, xs1, h1, h2, h3⟩ := remove_ok r (a := []) h
              have hfx : f = (x : Int) := h.hf
              refine ⟨f1, l1, m1, xs1, o, ⟨h2, ?_, ?_, by simp at ho; omega⟩, fun A K => ?_⟩
              · apply h2.none
                rw [List.nil_append, ents_map h3]
                have hno := pos_none hp
                cases hc : pos (w1, w2, w3, ()) (ents xs o) with
                | none => rfl
                | some j =>
                  obtain ⟨e, q1, q2⟩ := pos_some hc
                  exact absurd q2 (hno e (by unfold ents; rw [List.map_cons]; exact List.mem_cons_of_mem _ (List.mem_of_getElem? q1)))
              · rw [ents_len, if_neg hlr, ents_map h3]
                rfl
              · rw [if_pos hlim, if_pos (by simp; simp at hlr ho hml; omega), hfx]
                rw [hfx] at h1
                rw [h1]
                rfl
        obtain ⟨f1, l1, m1, xs1, o1, ⟨hO, hG, hE, hL⟩, hK⟩ := room
        have tr := hK (Out (Bool × Int × Int × Int × (List (Wh × Int)) × Int × Int × (List Int) × Int × Int × List Ent) (Bool × Int × Int × Int × Int × (List (Wh × Int)) × List Ent)) (fun z => some (Out.go (k.2.2.1, (z.1, (z.2.1, (z.2.2.1, (z.2.2.2.1, (w1, (w2, (w3, (k.1, (k.2.1, z.2.2.2.2))))))))))))
        obtain ⟨f2, l2, xs2, n1, n2, n3, n4, n5, n6, _⟩ := new_ok r hO ((w1, w2, w3, ()), (k.1, k.2.1, ()), -1, -1, ()) rfl hG
        refine ⟨f2, l2, _, xs2, o1 ++ [xs1.length], ?_, n2, ?_, by simp; omega⟩
        · refine (congrArg (fun o => Option.bind o _) tr).trans ?_
          simp only [Option.bind_some, Int.toNat_natCast]
          rw [if_neg (by omega)]
          have e0 : (xs1 ++ [(((w1, (w2, (w3, ()))), (((0 : Int), ((0 : Int), ())), ((-1 : Int), ((-1 : Int), ())))) : Ent)])[xs1.length]? = some ((w1, w2, w3, ()), ((0, 0, ()), -1, -1, ())) := by rw [List.getElem?_append_right (Nat.le_refl _)]; simp
          rw [e0]
          simp only [Option.bind_some]
          have e1 : ∀ (u v : Ent), (xs1 ++ [u]).set xs1.length v = xs1 ++ [v] := fun u v => by
            rw [List.set_append_right _ _ (Nat.le_refl _), Nat.sub_self]
            rfl
          rw [e1]
          refine (congrArg (fun o => Option.bind o _) n1).trans ?_
          rfl
        · rw [← hE]
          unfold ents
          rw [List.map_append]
          congr 1
          · exact List.map_congr_left fun i hi => by rw [(n3 i (seg_lt hO.seg i hi)).1, (n3 i (seg_lt hO.seg i hi)).2]
          · simp only [List.map_cons, List.map_nil, n4, n5]
      | some j =>
        obtain ⟨a, x, b', rfl, rfl, hw, hg, e0, he0⟩ := h.at hp
        simp only
        rw [show mget (K.eqb (.pair (.int .i64) (.pair (.int .i64) (.pair .str .unit)))) (w1, w2, w3, ()) m = some (x : Int) from hg]
        simp only [Option.getD_some]
        rw [if_neg (show ¬ decide (((x : Nat) : Int) < 0) = true by simp)]
        obtain ⟨xs1, u1, u2, u3, e, he, hen⟩ := unlink_ok 5000 r f l m h.seg h.nd h.hf h.hl
        obtain ⟨nd1, nx⟩ := nodup_mid h.nd
        -- the bucket is laid in
        let xs2 := xs1.set x (e.1, ((k.1, (k.2.1, ())), (e.2.2.1, (e.2.2.2.1, ()))))
        have he2 : xs2[x]? = some (e.1, ((k.1, (k.2.1, ())), (e.2.2.1, (e.2.2.2.1, ())))) := set_get he
        have hseg2 : Seg xs2 (-1) (a ++ b') (-1) := seg_out _ nx u2
        obtain ⟨xs3, v1, v2, v3, _⟩ := behind_ok 5000 r (hd (a ++ b') (-1)) (lst (-1) (a ++ b')) m hseg2 nx nd1 he2 hen rfl rfl
        have hw2 : ∀ i, who xs2 i = who xs i := fun i => by
          by_cases hi : x = i
          · subst hi
            rw [(who_of he2).1, ← (u3.2 x).1, (who_of he).1]
          · rw [← (u3.2 i).1]
            unfold who
            rw [List.getD_eq_getElem?_getD, List.getD_eq_getElem?_getD]
            show ((xs1.set x _)[i]?.getD dE).1 = _
            rw [List.getElem?_set_ne hi]
        have hb2 : ∀ i, x ≠ i → bk xs2 i = bk xs i := fun i hi => by
          rw [← (u3.2 i).2]
          unfold bk
          rw [List.getD_eq_getElem?_getD, List.getD_eq_getElem?_getD]
          show ((xs1.set x _)[i]?.getD dE).2.1 = _
          rw [List.getElem?_set_ne hi]
        have hw3 : ∀ i, who xs3 i = who xs i := fun i => (v3.2 i).1.trans (hw2 i)
        have hperm : (a ++ x :: b').Perm (a ++ b' ++ [x]) := List.perm_middle.trans (List.perm_append_comm (l₁ := [x]) (l₂ := a ++ b'))
        refine ⟨_, _, m, xs3, a ++ b' ++ [x], ?_, ⟨v2, rfl, rfl, hperm.nodup_iff.1 h.nd, ?_, ?_⟩, ?_, ?_⟩
        · rw [u1]
          simp only [Option.bind_some, Int.toNat_natCast, he]
          rw [if_neg (by omega)]
          refine (congrArg (fun o => Option.bind o _) v1).trans ?_
          rfl
        · have : (a ++ b' ++ [x]).map (who xs3) = (a ++ b' ++ [x]).map (who xs) := List.map_congr_left fun i _ => hw3 i
          rw [this]
          exact (hperm.map (who xs)).nodup_iff.1 h.wn
        · have : ((a ++ b' ++ [x]).map fun i => (who xs3 i, (i : Int))) = (a ++ b' ++ [x]).map fun i => (who xs i, (i : Int)) := List.map_congr_left fun i _ => by rw [hw3 i]
          rw [this]
          exact h.mp.trans (hperm.map _)
        · unfold ents
          rw [List.map_append]
          have e1 : (a ++ x :: b').map (fun i => ((who xs i, (bk xs i, ())) : REnt)) = a.map (fun i => (who xs i, (bk xs i, ()))) ++ (who xs x, (bk xs x, ())) :: b'.map (fun i => (who xs i, (bk xs i, ()))) := by simp
          rw [e1, List.eraseIdx_append_of_length_le (by simp), List.length_map, Nat.sub_self, List.eraseIdx_zero, List.tail_cons]
          congr 1
          · rw [← List.map_append]
            refine List.map_congr_left fun i hi => ?_
            rw [hw3 i, (v3.2 i).2, hb2 i (fun q => nx (q ▸ hi))]
          · simp only [List.map_cons, List.map_nil]
            rw [hw3 x, hw, (v3.2 x).2, (who_of he2).2]
        · simp at ho ⊢; omega
    · rw [if_pos (show (!(k.2.2.2 == (0 : Int))) = true by simpa using hk), if_pos (show k.2.2.2 ≠ 0 from hk)]
      exact ⟨f, l, m, xs, o, rfl, h, rfl, ho⟩
  · rw [if_pos (show (!(q.2.2 == (0 : Int))) = true by simpa using hq), if_pos (show q.2.2 ≠ 0 from hq)]
    exact ⟨f, l, m, xs, o, rfl, h, rfl, ho⟩
end Go.Sx.Ytppiiahjnglcnaa
