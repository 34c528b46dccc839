/- Part of a proof by a small interpreter on plain values; no condition. -/
import Derived.Test.YtdcogkfjnlpidaaDoorWk
/-! W07L: a path's steps; what is at a path. -/
namespace Go.Sx.YtdcogkfjnlpidaaDoor
open Go Go.Sx
set_option autoImplicit false
set_option linter.unusedVariables false
set_option linter.unusedSimpArgs false
/-! ### parts between dots -/
def spl : List Int → List (List Int)
  | [] => [[]]
  | c :: r => if c = 46 then [] :: spl r else match spl r with
    | [] => [[c]]
    | h :: t => (c :: h) :: t
theorem spl_ne : ∀ x, spl x ≠ []
  | [] => by simp [spl]
  | c :: r => by
    unfold spl
    split
    · simp
    · split <;> simp
theorem spl_no : ∀ {u : List Int}, (46 : Int) ∉ u → spl u = [u]
  | [], _ => rfl
  | c :: r, h => by
    simp only [List.mem_cons, not_or] at h
    unfold spl
    rw [if_neg (fun e => h.1 e.symm), spl_no h.2]
theorem spl_app : ∀ {u : List Int} (r : List Int), (46 : Int) ∉ u → spl (u ++ 46 :: r) = u :: spl r
  | [], r, _ => by simp [spl]
  | c :: u, r, h => by
    simp only [List.mem_cons, not_or] at h
    rw [List.cons_append]
    show (if c = 46 then _ else _) = _
    rw [if_neg (fun e => h.1 e.symm), spl_app r h.2]
theorem spl_two : ∀ (a b : List Int), spl (a ++ 46 :: b) = spl a ++ spl b
  | [], b => by simp [spl]
  | c :: a, b => by
    rw [List.cons_append]
    show (if c = 46 then [] :: spl (a ++ 46 :: b) else match spl (a ++ 46 :: b) with | [] => [[c]] | h :: t => (c :: h) :: t) = (if c = 46 then [] :: spl a else match spl a with | [] => [[c]] | h :: t => (c :: h) :: t) ++ spl b
    rw [spl_two a b]
    by_cases h : c = 46
    · rw [if_pos h, if_pos h]; rfl
    · rw [if_neg h, if_neg h]
      have := spl_ne a
      cases hs : spl a with
      | nil => exact absurd hs this
      | cons q t => rfl
theorem ixb_none : ∀ {x : List Int} {c : Int}, ixb x c = -1 → c ∉ x
  | [], _, _ => by simp
  | b :: l, c, h => by
    have hr := ixb_range l c
    unfold ixb at h
    split at h
    · omega
    · rename_i hb
      split at h
      · rename_i h2
        simp only [List.mem_cons, not_or]
        exact ⟨fun e => hb e.symm, ixb_none h2⟩
      · omega
theorem ixb_some : ∀ {x : List Int} {c : Int} {i : Nat}, ixb x c = (i : Int) → x = x.take i ++ c :: x.drop (i + 1) ∧ c ∉ x.take i ∧ i < x.length
  | [], c, i, h => by unfold ixb at h; omega
  | b :: l, c, i, h => by
    have hr := ixb_range l c
    unfold ixb at h
    split at h
    · rename_i hb
      have : i = 0 := by omega
      subst this
      subst hb
      simp
    · rename_i hb
      split at h
      · omega
      · cases i with
        | zero => omega
        | succ i =>
          obtain ⟨h1, h2, h3⟩ := ixb_some (x := l) (c := c) (i := i) (by omega)
          refine ⟨?_, ?_, by simp; omega⟩
          · rw [List.take_succ_cons, List.drop_succ_cons, List.cons_append, ← h1]
          · rw [List.take_succ_cons]
            simp only [List.mem_cons, not_or]
            exact ⟨fun e => hb e.symm, h2⟩
/-- the steps of a path. -/
def segs (x : List Int) : List (List Int) := if x = [] then [] else spl x
theorem rSteps_v (n : Nat) (x : List Int) (hl : x.length ≤ 1048576) (hn : 1100000 < n) : rSteps n x = some (segs x) := by
  apply Gives.eq
  unfold rSteps segs
  by_cases h0 : x = []
  · rw [if_pos h0, h0]
    exact Gives.pos (by simp) (Gives.of_some rfl)
  rw [if_neg h0]
  refine Gives.neg (by simpa using h0) ?_
  refine Gives.loop (X := (List Int) × Int × Int × List (List Int))
    (fun y => (∃ (f i : Nat) (acc : List (List Int)), f ≤ i ∧ i ≤ x.length ∧ acc.length ≤ f ∧ spl x = acc ++ spl (x.drop f) ∧ (46 : Int) ∉ (x.drop f).take (i - f) ∧ y = (x, (f : Int), (i : Int), acc)) ∨ y = (x, (x.length : Int) + 1, (x.length : Int) + 1, spl x)) (fun y => (1100000 - y.2.2.1).toNat) ?_ n _ (.inl ⟨0, 0, [], by omega, by omega, by simp, by simp, by simp, rfl⟩) (by dsimp only; omega)
  rintro rec y hy hr
  rcases hy with ⟨f, i, acc, hfi, hi, hacc, hspl, hno, rfl⟩ | rfl
  · dsimp only
    refine Gives.dpos (by omega) ?_
    refine Gives.eite (fun he => ?_) (fun he => ?_)
    · have hil : i = x.length := by omega
      subst hil
      refine Gives.pos (by omega) (Gives.pos (by omega) ?_)
      rw [wrap64 (by omega) (by omega)]
      refine hr _ (.inr ?_) (by dsimp only; omega)
      simp only [Int.toNat_natCast]
      have e1 : (x.drop f).take (x.length - f) = x.drop f := List.take_of_length_le (by rw [List.length_drop]; omega)
      rw [e1] at hno ⊢
      rw [hspl, spl_no hno]
    · have hil : i < x.length := by omega
      refine Gives.idx 0 (by omega) (by omega) ?_
      rw [Int.toNat_natCast]
      have hlen : ((x.drop f).take (i - f)).length = i - f := by rw [List.length_take, List.length_drop]; omega
      have hcut : x.drop f = (x.drop f).take (i - f) ++ x.getD i 0 :: x.drop (i + 1) := by
        have e1 := (List.take_append_drop (i - f) (x.drop f)).symm
        rw [List.drop_drop, show f + (i - f) = i from by omega, drop_cons x i 0 hil] at e1
        exact e1
      refine Gives.eite (fun h46 => ?_) (fun h46 => ?_)
      · refine Gives.pos (by omega) (Gives.pos (by omega) ?_)
        rw [wrap64 (by omega) (by omega)]
        simp only [Int.toNat_natCast]
        refine hr _ (.inl ⟨i + 1, i + 1, acc ++ [(x.drop f).take (i - f)], by omega, by omega, by simp; omega, ?_, by simp, by simp⟩) (by dsimp only; omega)
        rw [h46] at hcut
        rw [hspl, hcut, spl_app _ hno, ← hcut]
        simp
      · rw [wrap64 (by omega) (by omega)]
        refine hr _ (.inl ⟨f, i + 1, acc, by omega, by omega, hacc, hspl, ?_, by simp⟩) (by dsimp only; omega)
        have e1 : (x.drop f).take (i + 1 - f) = (x.drop f).take (i - f) ++ [x.getD i 0] := by
          rw [show i + 1 - f = (i - f) + 1 from by omega, take_succ (x.drop f) (i - f) 0 (by rw [List.length_drop]; omega)]
          congr 2
          rw [List.getD_eq_getElem?_getD, List.getD_eq_getElem?_getD, List.getElem?_drop, show f + (i - f) = i from by omega]
        rw [e1]
        simp only [List.mem_append, List.mem_singleton, not_or]
        exact ⟨hno, fun e => h46 e.symm⟩
  · dsimp only
    exact Gives.dneg (by omega) (Gives.of_some rfl)
/-- a cut at the first dot. -/
theorem cut_v (n : Nat) (x : List Int) (hl : x.length ≤ 1048576) : cut n (x, [46]) = some (match ixb x 46 with
    | .ofNat i => (x.take i, x.drop (i + 1), true)
    | .negSucc _ => (x, [], false)) := by
  have hix : index n (x, [46]) = some (ixb x 46) := by
    unfold index
    dsimp only
    rw [if_neg (by simp)]
    by_cases hx : ([46] : List Int) = x
    · rw [if_pos (by simpa using hx), ← hx]
      rfl
    · rw [if_neg (by simpa using hx), if_pos (by simp)]
      rfl
  have hr := ixb_range x 46
  unfold cut stringsliteCut
  dsimp only
  rw [hix]
  simp only [Option.bind_some]
  cases he : ixb x 46 with
  | ofNat i =>
    rw [he] at hr
    have hil : i < x.length := by have := hr.2; simp at this; omega
    rw [if_pos (by simp), if_pos (by simp; omega)]
    simp only [List.length_cons, List.length_nil]
    rw [wrap64 (by simp; omega) (by simp; omega)]
    rw [if_pos (by simp; omega)]
    simp only [Option.bind_some]
    congr 3
    simp
    exact List.take_of_length_le (by rw [List.length_drop]; omega)
  | negSucc k =>
    rw [he] at hr
    rw [if_neg (by simp)]
    rfl
/-! ### one step -/
def pos (s : List Int) : List (List Int) → Option Nat
  | [] => none
  | a :: r => if s = a then some 0 else (pos s r).map (· + 1)
theorem pos_app {s : List Int} {b : List (List Int)} : ∀ {a : List (List Int)}, (∀ e ∈ a, s ≠ e) → pos s (a ++ b) = (pos s b).map (a.length + ·)
  | [], _ => by simp
  | d :: a, h => by
    have e1 : pos s (d :: (a ++ b)) = (pos s (a ++ b)).map (· + 1) := by simp only [pos, if_neg (h d (by simp))]
    rw [List.cons_append, e1, pos_app fun e he => h e (by simp [he])]
    cases pos s b with
    | none => rfl
    | some k => simp only [Option.map_some, List.length_cons]; congr 1; omega
def posI (s : List Int) (l : List (List Int)) : Int := match pos s l with
  | some i => (i : Int)
  | none => -1
theorem index_v (n : Nat) (l : List (List Int)) (s : List Int) (hl : l.length ≤ 1048576) (hn : 1100000 < n) : indexstringstring n (l, s) = some (posI s l) := by
  apply Gives.eq
  unfold indexstringstring
  dsimp only
  refine Gives.loop (X := (List (List Int)) × (List Int) × Int × Int) (fun y => ∃ a b, l = a ++ b ∧ y = (l, s, (l.length : Int), (a.length : Int)) ∧ ∀ e ∈ a, s ≠ e) (fun y => (1100000 - y.2.2.2).toNat) ?_ n _ ⟨[], l, rfl, rfl, by simp⟩ (by dsimp only; omega)
  rintro rec y ⟨a, b, hab, rfl, hno⟩ hr
  dsimp only
  have hlen : l.length = a.length + b.length := by rw [hab]; simp
  refine Gives.dite (fun h => ?_) (fun h => ?_)
  · cases b with
    | nil => simp at hlen; omega
    | cons e b =>
      refine Gives.idx [] (by omega) h ?_
      have hg : l.getD ((a.length : Nat) : Int).toNat [] = e := by
        rw [hab, Int.toNat_natCast, List.getD_eq_getElem?_getD, List.getElem?_append_right (Nat.le_refl _)]
        simp
      rw [hg]
      simp at hlen
      refine Gives.ite (fun hc => Gives.of_some ?_) (fun hc => ?_)
      · have hc' : s = e := by simpa using hc
        unfold posI
        rw [hab, pos_app hno]
        unfold pos
        rw [if_pos hc']
        simp
      · rw [wrap64 (by omega) (by omega)]
        refine hr _ ⟨a ++ [e], b, by rw [hab]; simp, by simp, fun d hd => ?_⟩ (by dsimp only; omega)
        rcases List.mem_append.1 hd with hd | hd
        · exact hno d hd
        · simp at hd; rw [hd]; simpa using hc
  · have : b = [] := List.eq_nil_of_length_eq_zero (by omega)
    subst this
    refine Gives.of_some ?_
    unfold posI
    rw [hab, pos_app hno]
    rfl
/-- a part's place. -/
def place (kind : Int) (list : List JV) (names : List (List Int)) (s : List Int) : Option JV :=
  if s = [] then none
  else if kind = 6 then (pos s names).bind fun i => list[i]?
  else if kind = 5 then (if (s.all isd = true ∧ dnum s < (list.length : Int)) ∧ ds (dnum s).toNat = s then list[(dnum s).toNat]? else none)
  else none
abbrev Parts := Int × Bool × (List Int) × Int × Bool × (List JV) × List (List Int)
def parts (x : JV) : Parts := (x.kind, x.b, x.text, x.n, x.whole, x.list, x.names)
def stepOut : Option JV → Int × Bool × (List Int) × Int × Bool × (List JV) × (List (List Int)) × Bool
  | some x => (x.kind, x.b, x.text, x.n, x.whole, x.list, x.names, true)
  | none => (0, false, [], 0, false, [], [], false)
theorem ds_text (n : Nat) (hn : 1100000 < n) (m : Int) (h0 : 0 ≤ m) (h1 : m ≤ 2199023255552) : charsText n m = some (ds m.toNat) ∧ rText n m = some (ds m.toNat) := by
  unfold charsText rText
  have hw : IntKind.wrap .u64 m = ((m.toNat : Nat) : Int) := by rw [wrap_u (by omega) (by omega)]; omega
  rw [if_neg (show ¬ decide (m < 0) = true by simpa using h0), if_neg (show ¬ decide (m < 0) = true by simpa using h0), hw, digits_v n (by omega) _ (by omega), rTold_v n (by omega) _ (by omega)]
  exact ⟨rfl, rfl⟩
theorem dnum0 {x : List Int} (h : x.all isd = true) : 0 ≤ dnum x := by
  have := dnum_nonneg x x.length (fun c hc => List.all_eq_true.1 h c (List.mem_of_mem_take hc))
  rwa [List.take_length] at this
theorem step_v (n : Nat) (k : Int) (b : Bool) (t : List Int) (m : Int) (w : Bool) (l : List JV) (ns : List (List Int)) (s : List Int) (hs : BL s) (hsl : s.length ≤ 1048576) (hl : l.length ≤ 1048576) (hns : ns.length ≤ 1048576) (hn : 1100000 < n) :
    step n (k, b, t, m, w, l, ns, s) = some (stepOut (place k l ns s)) := by
  apply Gives.eq
  unfold step
  dsimp only
  have tail : ∀ i : Int, (place k l ns s = if s = [] then none else if i < 0 then none else l[i.toNat]?) →
      Gives (if (s == ([] : List Int)) = true then some ((0 : Int), (false, (([] : List Int), ((0 : Int), (false, (([] : List JV), (([] : List (List Int)), false)))))))
        else if (decide (i < (0 : Int))) = true then some ((0 : Int), (false, (([] : List Int), ((0 : Int), (false, (([] : List JV), (([] : List (List Int)), false)))))))
        else if (decide (i ≥ (l.length : Int))) = true then some ((0 : Int), (false, (([] : List Int), ((0 : Int), (false, (([] : List JV), (([] : List (List Int)), false)))))))
        else Option.bind (idx l i) fun v => some (v.kind, (v.b, (v.text, (v.n, (v.whole, (v.list, (v.names, true)))))))) (· = stepOut (place k l ns s)) := by
    intro i hp
    rw [hp]
    by_cases h0 : s = []
    · exact Gives.pos (by simpa using h0) (Gives.of_some (by rw [if_pos h0]; rfl))
    rw [if_neg h0]
    refine Gives.neg (by simpa using h0) (Gives.dite (fun h1 => Gives.of_some (by rw [if_pos h1]; rfl)) (fun h1 => Gives.dite (fun h2 => Gives.of_some ?_) (fun h2 => ?_)))
    · rw [if_neg h1, List.getElem?_eq_none (by omega)]; rfl
    · rw [if_neg h1]
      refine Gives.idx JV.zero (by omega) (by omega) (Gives.of_some ?_)
      rw [List.getD_eq_getElem?_getD, List.getElem?_eq_getElem (by omega)]
      rfl
  have fin : ∀ i : Int, (place k l ns s = if s = [] then none else if i < 0 then none else l[i.toNat]?) → ∀ (o : Option (Out ((List Int) × Int × Int × Bool × (List Int) × Int × Bool × (List JV) × (List (List Int)) × Int × Bool × (List Int) × Int × Bool × (List JV) × List (List Int)) (Int × Bool × (List Int) × Int × Bool × (List JV) × (List (List Int)) × Bool))),
      o = some (Out.go (s, (i, (k, (b, (t, (m, (w, (l, (ns, ((0 : Int), (false, (([] : List Int), ((0 : Int), (false, (([] : List JV), ([] : List (List Int)))))))))))))))))) → Gives (Option.bind o fun o => match o with
        | .go (z13, (z14, (z15, (z16, (z17, (z18, (z19, (z20, (z21, (z22, (z23, (z24, (z25, (z26, (z27, z28))))))))))))))) =>
          (if (z13 == ([] : List Int)) = true then some ((0 : Int), (false, (([] : List Int), ((0 : Int), (false, (([] : List JV), (([] : List (List Int)), false)))))))
          else if (decide (z14 < (0 : Int))) = true then some ((0 : Int), (false, (([] : List Int), ((0 : Int), (false, (([] : List JV), (([] : List (List Int)), false)))))))
          else if (decide (z14 ≥ (z20.length : Int))) = true then some ((0 : Int), (false, (([] : List Int), ((0 : Int), (false, (([] : List JV), (([] : List (List Int)), false)))))))
          else Option.bind (idx z20 z14) fun v => some (v.kind, (v.b, (v.text, (v.n, (v.whole, (v.list, (v.names, true))))))))
        | .ret r30 => some r30) (· = stepOut (place k l ns s)) := by
    intro i hp o ho
    subst ho
    exact tail i hp
  by_cases hk6 : k = 6
  · refine fin (posI s ns) ?_ _ ?_
    · unfold place posI
      rw [if_pos hk6]
      cases pos s ns with
      | none => simp
      | some i =>
        simp only [Option.bind_some]
        rw [if_neg (show ¬ ((i : Nat) : Int) < 0 by omega), Int.toNat_natCast]
    · rw [if_pos (by simpa using hk6), index_v n ns s hns hn]
      rfl
  · rw [if_neg (show ¬ (k == (6 : Int)) = true by simpa using hk6)]
    by_cases hk5 : k = 5
    · rw [if_pos (show (k == (5 : Int)) = true by simpa using hk5)]
      have hd : decimal n (s, (l.length : Int)) = some (dv s (l.length : Int)) := by
        unfold decimal
        dsimp only
        rw [number_v n s _ hs (by omega) (by omega) (by omega) (by omega)]
        rfl
      rw [hd]
      simp only [Option.bind_some]
      by_cases h1 : s.all isd = true ∧ s ≠ []
      · have hdn := dnum0 h1.1
        by_cases h2 : (l.length : Int) < dnum s
        · refine fin (-1) ?_ _ ?_
          · unfold place
            rw [if_neg hk6, if_pos hk5, if_neg (show ¬ ((s.all isd = true ∧ dnum s < (l.length : Int)) ∧ ds (dnum s).toNat = s) from fun q => by have := q.1.2; omega)]
            simp
          · have : dv s (l.length : Int) = (0, 4) := by unfold dv; rw [if_pos h1, if_pos h2]
            rw [this]
            rfl
        · have hdv : dv s (l.length : Int) = (dnum s, 0) := by unfold dv; rw [if_pos h1, if_neg h2]
          rw [hdv]
          simp only
          rw [if_pos (show ((0 : Int) == 0) = true by rfl), (ds_text n hn (dnum s) hdn (by omega)).1]
          simp only [Option.bind_some]
          by_cases h3 : ds (dnum s).toNat = s
          · rw [if_pos (by simpa using h3)]
            refine fin (dnum s) ?_ _ rfl
            unfold place
            rw [if_neg hk6, if_pos hk5, if_neg h1.2, if_neg h1.2, if_neg (show ¬ dnum s < 0 by omega)]
            by_cases h4 : dnum s < (l.length : Int)
            · rw [if_pos (show ((s.all isd = true ∧ dnum s < (l.length : Int)) ∧ ds (dnum s).toNat = s) from ⟨⟨h1.1, h4⟩, h3⟩)]
            · rw [if_neg (show ¬ ((s.all isd = true ∧ dnum s < (l.length : Int)) ∧ ds (dnum s).toNat = s) from fun q => h4 q.1.2), List.getElem?_eq_none (by omega)]
          · rw [if_neg (by simpa using h3)]
            refine fin (-1) ?_ _ rfl
            unfold place
            rw [if_neg hk6, if_pos hk5, if_neg (show ¬ ((s.all isd = true ∧ dnum s < (l.length : Int)) ∧ ds (dnum s).toNat = s) from fun q => h3 q.2)]
            simp
      · have hdv : dv s (l.length : Int) = (0, 3) := by unfold dv; rw [if_neg h1]
        rw [hdv]
        refine fin (-1) ?_ _ rfl
        unfold place
        rw [if_neg hk6, if_pos hk5]
        by_cases h0 : s = []
        · simp [h0]
        · rw [if_neg h0, if_neg h0, if_neg (show ¬ ((s.all isd = true ∧ dnum s < (l.length : Int)) ∧ ds (dnum s).toNat = s) from fun q => h1 ⟨q.1.1, h0⟩)]
          simp
    · rw [if_neg (show ¬ (k == (5 : Int)) = true by simpa using hk5)]
      refine fin (-1) ?_ _ rfl
      unfold place
      rw [if_neg hk6, if_neg hk5]
      simp
end Go.Sx.YtdcogkfjnlpidaaDoor
