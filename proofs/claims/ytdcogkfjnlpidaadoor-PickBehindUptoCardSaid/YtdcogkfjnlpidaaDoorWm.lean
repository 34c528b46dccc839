/- Part of a proof by a small interpreter on plain values; no condition. -/
import Derived.Test.YtdcogkfjnlpidaaDoorWl
/-! W07M: at a path; the laws. -/
namespace Go.Sx.YtdcogkfjnlpidaaDoor
open Go Go.Sx
set_option autoImplicit false
set_option maxRecDepth 100000
set_option linter.unusedVariables false
set_option linter.unusedSimpArgs false
theorem bulkL_mem : ∀ {l : List JV} {x : JV}, x ∈ l → JV.bulk x ≤ JV.bulkL l
  | y :: r, x, h => by
    rw [JV.bulkL]
    rcases List.mem_cons.1 h with rfl | h
    · omega
    · have := bulkL_mem h; omega
theorem bulk_pos (x : JV) : 1 ≤ JV.bulk x := by cases x; rw [JV.bulk]; omega
theorem bulkL_len : ∀ (l : List JV), l.length ≤ JV.bulkL l
  | [] => by simp
  | x :: r => by
    rw [JV.bulkL, List.length_cons]
    have := bulkL_len r
    have := bulk_pos x
    omega
theorem sum_len : ∀ (l : List (List Int)), l.length ≤ (l.map fun s => s.length + 1).sum
  | [] => by simp
  | s :: r => by
    have := sum_len r
    simp only [List.map_cons, List.sum_cons, List.length_cons]
    omega
theorem bulk_parts (x : JV) : x.list.length ≤ JV.bulk x ∧ x.names.length ≤ JV.bulk x ∧ ∀ y ∈ x.list, JV.bulk y ≤ JV.bulk x := by
  obtain ⟨k, b, t, n, w, l, ns⟩ := x
  show l.length ≤ _ ∧ ns.length ≤ _ ∧ ∀ y ∈ l, _
  rw [JV.bulk]
  have h1 := bulkL_len l
  have h2 := sum_len ns
  refine ⟨by omega, by omega, fun y hy => ?_⟩
  have := bulkL_mem hy
  omega
theorem place_mem {k : Int} {l : List JV} {ns : List (List Int)} {s : List Int} {y : JV} (h : place k l ns s = some y) : y ∈ l := by
  unfold place at h
  split at h
  · cases h
  · split at h
    · rw [Option.bind_eq_some_iff] at h
      obtain ⟨i, _, h⟩ := h
      exact List.mem_of_getElem? h
    · split at h
      · split at h
        · exact List.mem_of_getElem? h
        · cases h
      · cases h
def atV : JV → List (List Int) → Option JV
  | x, [] => some x
  | x, s :: r => (place x.kind x.list x.names s).bind fun y => atV y r
theorem atV_app : ∀ (a b : List (List Int)) (x : JV), atV x (a ++ b) = (atV x a).bind fun y => atV y b
  | [], b, x => rfl
  | s :: a, b, x => by
    show (place x.kind x.list x.names s).bind (fun y => atV y (a ++ b)) = ((place x.kind x.list x.names s).bind fun y => atV y a).bind fun y => atV y b
    cases place x.kind x.list x.names s with
    | none => rfl
    | some y => exact atV_app a b y
theorem atV_bulk : ∀ {a : List (List Int)} {x y : JV}, atV x a = some y → JV.bulk y ≤ JV.bulk x
  | [], x, y, h => by injection h with h; subst h; exact Nat.le_refl _
  | s :: a, x, y, h => by
    unfold atV at h
    rw [Option.bind_eq_some_iff] at h
    obtain ⟨z, hz, h⟩ := h
    exact Nat.le_trans (atV_bulk h) ((bulk_parts x).2.2 z (place_mem hz))
def atOut : Option JV → Int × Bool × (List Int) × Int × Bool × (List JV) × (List (List Int)) × Int
  | some x => (x.kind, x.b, x.text, x.n, x.whole, x.list, x.names, 0)
  | none => (0, false, [], 0, false, [], [], 8)
theorem pickAt_v (n : Nat) (x : JV) (p : List Int) (hx : JV.bulk x ≤ 1048576) (hp : BL p) (hpl : p.length ≤ 1048576) (hn : 1100000 < n) :
    pickAt n (x.kind, x.b, x.text, x.n, x.whole, x.list, x.names, p) = some (atOut (atV x (segs p))) := by
  apply Gives.eq
  unfold pickAt
  dsimp only
  refine Gives.loop (X := (List Int) × Bool × Int × Bool × (List Int) × Int × Bool × (List JV) × (List (List Int)) × Int × Bool × (List Int) × Int × Bool × (List JV) × List (List Int))
    (fun y => ∃ (z : JV) (q : List Int) (m : Bool), y = (q, m, z.kind, z.b, z.text, z.n, z.whole, z.list, z.names, 0, false, [], 0, false, [], []) ∧ JV.bulk z ≤ 1048576 ∧ BL q ∧ q.length ≤ 1048576 ∧ ((m = true ∧ atV x (segs p) = atV z (spl q)) ∨ (m = false ∧ atV x (segs p) = some z)))
    (fun y => if y.2.1 = true then y.1.length + 1 else 0) ?_ n _ ⟨x, p, !(p == []), rfl, hx, hp, hpl, ?_⟩ ?_
  · rintro rec y ⟨z, q, m, rfl, hz, hq, hql, hm⟩ hr
    dsimp only
    refine Gives.ite (fun h => ?_) (fun h => ?_)
    · replace hm : atV x (segs p) = atV z (spl q) := by
        rcases hm with ⟨_, hm⟩ | ⟨h2, _⟩
        · exact hm
        · rw [h2] at h; cases h
      have hzp := bulk_parts z
      rw [cut_v n q hql]
      simp only [Option.bind_some]
      have hrg := ixb_range q 46
      cases he : ixb q 46 with
      | ofNat i =>
        obtain ⟨h1, h2, h3⟩ := ixb_some (i := i) he
        dsimp only
        rw [step_v n _ _ _ _ _ _ _ (q.take i) (hq.take i) (by rw [List.length_take]; omega) (by omega) (by omega) hn]
        simp only [Option.bind_some]
        have hs : spl q = q.take i :: spl (q.drop (i + 1)) := by
          conv => lhs; rw [h1]
          exact spl_app _ h2
        rw [hs] at hm
        have hm' : atV x (segs p) = (place z.kind z.list z.names (q.take i)).bind fun y => atV y (spl (q.drop (i + 1))) := hm
        cases hpl2 : place z.kind z.list z.names (q.take i) with
        | none =>
          rw [hpl2] at hm'
          refine Gives.pos rfl (Gives.of_some ?_)
          rw [hm']
          rfl
        | some y =>
          rw [hpl2] at hm'
          refine Gives.neg (by simp [stepOut]) ?_
          refine hr _ ⟨y, q.drop (i + 1), true, rfl, Nat.le_trans (hzp.2.2 y (place_mem hpl2)) hz, hq.drop _, by rw [List.length_drop]; omega, .inl ⟨rfl, hm'⟩⟩ ?_
          dsimp only
          rw [if_pos rfl, if_pos h, List.length_drop]
          omega
      | negSucc k =>
        rw [he] at hrg
        have h1 : ixb q 46 = -1 := by rw [he]; omega
        dsimp only
        rw [step_v n _ _ _ _ _ _ _ q hq hql (by omega) (by omega) hn]
        simp only [Option.bind_some]
        rw [spl_no (ixb_none h1)] at hm
        have hm' : atV x (segs p) = (place z.kind z.list z.names q).bind fun y => some y := hm
        cases hpl2 : place z.kind z.list z.names q with
        | none =>
          rw [hpl2] at hm'
          refine Gives.pos rfl (Gives.of_some ?_)
          rw [hm']
          rfl
        | some y =>
          rw [hpl2] at hm'
          refine Gives.neg (by simp [stepOut]) ?_
          refine hr _ ⟨y, [], false, rfl, Nat.le_trans (hzp.2.2 y (place_mem hpl2)) hz, (fun c hc => by cases hc), by simp, .inr ⟨rfl, hm'⟩⟩ ?_
          dsimp only
          rw [if_neg (by simp), if_pos h]
          omega
    · rcases hm with ⟨h2, _⟩ | ⟨_, hm⟩
      · exact absurd h2 h
      · refine Gives.of_some ?_
        rw [hm]
        rfl
  · unfold segs
    by_cases h0 : p = []
    · exact .inr ⟨by simp [h0], by rw [if_pos h0]; rfl⟩
    · exact .inl ⟨by simp [h0], by rw [if_neg h0]⟩
  · dsimp only
    split <;> omega
theorem rDecimal_v (n : Nat) (s : List Int) (hs : BL s) (hl : s.length ≤ 1048576) (hn : 1100000 < n) : rDecimal n (s, 1099511627776) = some (dv s 1099511627776) := by
  unfold rDecimal
  dsimp only
  rw [rNumber_v n s _ hs (by omega) (by omega) (by omega) (by omega)]
  rfl
theorem rStep_v (n : Nat) (k : Int) (b : Bool) (t : List Int) (m : Int) (w : Bool) (l : List JV) (ns : List (List Int)) (s : List Int) (hs : BL s) (hsl : s.length ≤ 1048576) (hl : l.length ≤ 1048576) (hns : ns.length ≤ 1048576) (hn : 1100000 < n) :
    Gives (rStep n (k, b, t, m, w, l, ns, s)) (fun r => (r = -1 ∧ place k l ns s = none) ∨ ∃ i : Nat, r = (i : Int) ∧ i < l.length ∧ place k l ns s = l[i]?) := by
  unfold rStep
  dsimp only
  refine Gives.eite (fun hk6 => ?_) (fun hk6 => Gives.eite (fun hk5 => ?_) (fun hk5 => Gives.of_some (.inl ⟨rfl, ?_⟩)))
  · subst hk6
    refine Gives.loop (X := (List Int) × Int × Int × Bool × (List Int) × Int × Bool × (List JV) × List (List Int)) (fun y => ∃ a c, ns = a ++ c ∧ y = (s, (a.length : Int), 6, b, t, m, w, l, ns) ∧ (s = [] ∨ ∀ e ∈ a, s ≠ e)) (fun y => (1100000 - y.2.1).toNat) ?_ n _ ⟨[], ns, rfl, rfl, .inr (by simp)⟩ (by dsimp only; omega)
    rintro rec y ⟨a, c, hac, rfl, hno⟩ hr
    dsimp only
    have hlen : ns.length = a.length + c.length := by rw [hac]; simp
    have hpl : s ≠ [] → place 6 l ns s = ((pos s c).map (a.length + ·)).bind fun i => l[i]? := fun h0 => by
      unfold place
      rw [if_neg h0, if_pos rfl, hac]
      rcases hno with h | h
      · exact absurd h h0
      · rw [pos_app h]
    refine Gives.dite (fun h => ?_) (fun h => ?_)
    · refine Gives.dite (fun h2 => ?_) (fun h2 => ?_)
      · cases c with
        | nil => simp at hlen; omega
        | cons e c =>
          refine Gives.idx [] (by omega) h ?_
          have hg : ns.getD ((a.length : Nat) : Int).toNat [] = e := by
            rw [hac, Int.toNat_natCast, List.getD_eq_getElem?_getD, List.getElem?_append_right (Nat.le_refl _)]
            simp
          rw [hg]
          simp at hlen
          have next : (s = [] ∨ s ≠ e) → Gives (rec (s, IntKind.wrap .i64 ((a.length : Int) + 1), 6, b, t, m, w, l, ns)) (fun r => (r = -1 ∧ place 6 l ns s = none) ∨ ∃ i : Nat, r = (i : Int) ∧ i < l.length ∧ place 6 l ns s = l[i]?) := fun hse => by
            rw [wrap64 (by omega) (by omega)]
            refine hr _ ⟨a ++ [e], c, by rw [hac]; simp, by simp, ?_⟩ (by dsimp only; omega)
            rcases hno with h | h
            · exact .inl h
            · rcases hse with h' | h'
              · exact .inl h'
              · refine .inr fun d hd => ?_
                rcases List.mem_append.1 hd with hd | hd
                · exact h d hd
                · simp at hd; rw [hd]; exact h'
          refine Gives.ite (fun hc => ?_) (fun hc => next (.inr (by intro q; exact hc (by simp [q]))))
          have hc' : e = s := by simpa using hc
          refine Gives.ite (fun h3 => Gives.of_some (.inr ⟨a.length, rfl, by omega, ?_⟩)) (fun h3 => next (.inl (by simpa using h3)))
          rw [hpl (by simpa using h3)]
          unfold pos
          rw [if_pos hc'.symm]
          simp
      · refine Gives.of_some (.inl ⟨rfl, ?_⟩)
        by_cases h0 : s = []
        · unfold place; rw [if_pos h0]
        · rw [hpl h0]
          cases pos s c with
          | none => rfl
          | some i => simp only [Option.map_some, Option.bind_some]; rw [List.getElem?_eq_none (by omega)]
    · have : c = [] := List.eq_nil_of_length_eq_zero (by omega)
      subst this
      refine Gives.of_some (.inl ⟨rfl, ?_⟩)
      by_cases h0 : s = []
      · unfold place; rw [if_pos h0]
      · rw [hpl h0]; rfl
  · subst hk5
    rw [rDecimal_v n s hs hsl hn]
    simp only [Option.bind_some]
    by_cases h1 : s.all isd = true ∧ s ≠ []
    · have hdn := dnum0 h1.1
      have hp : place 5 l ns s = if (s.all isd = true ∧ dnum s < (l.length : Int)) ∧ ds (dnum s).toNat = s then l[(dnum s).toNat]? else none := by
        unfold place
        rw [if_neg h1.2, if_neg (by decide), if_pos rfl]
      by_cases h2 : 1099511627776 < dnum s
      · have hdv : dv s 1099511627776 = (0, 4) := by unfold dv; rw [if_pos h1, if_pos h2]
        rw [hdv]
        refine Gives.eneg (by decide) (Gives.of_some (.inl ⟨rfl, ?_⟩))
        rw [hp, if_neg (show ¬ ((s.all isd = true ∧ dnum s < (l.length : Int)) ∧ ds (dnum s).toNat = s) from fun q => by have := q.1.2; omega)]
      · have hdv : dv s 1099511627776 = (dnum s, 0) := by unfold dv; rw [if_pos h1, if_neg h2]
        rw [hdv]
        refine Gives.epos rfl ?_
        dsimp only
        rw [(ds_text n hn (dnum s) hdn (by omega)).2]
        simp only [Option.bind_some]
        refine Gives.ite (fun h3 => ?_) (fun h3 => Gives.of_some (.inl ⟨rfl, ?_⟩))
        · have h3' : ds (dnum s).toNat = s := by simpa using h3
          refine Gives.dite (fun h4 => Gives.of_some (.inr ⟨(dnum s).toNat, by omega, by omega, ?_⟩)) (fun h4 => Gives.of_some (.inl ⟨rfl, ?_⟩))
          · rw [hp, if_pos (show ((s.all isd = true ∧ dnum s < (l.length : Int)) ∧ ds (dnum s).toNat = s) from ⟨⟨h1.1, h4⟩, h3'⟩)]
          · rw [hp, if_neg (show ¬ ((s.all isd = true ∧ dnum s < (l.length : Int)) ∧ ds (dnum s).toNat = s) from fun q => h4 q.1.2)]
        · have h3' : ¬ ds (dnum s).toNat = s := by simpa using h3
          rw [hp, if_neg (show ¬ ((s.all isd = true ∧ dnum s < (l.length : Int)) ∧ ds (dnum s).toNat = s) from fun q => h3' q.2)]
    · have hdv : dv s 1099511627776 = (0, 3) := by unfold dv; rw [if_neg h1]
      rw [hdv]
      refine Gives.eneg (by decide) (Gives.of_some (.inl ⟨rfl, ?_⟩))
      unfold place
      by_cases h0 : s = []
      · rw [if_pos h0]
      · rw [if_neg h0, if_neg (by decide), if_pos rfl, if_neg (show ¬ ((s.all isd = true ∧ dnum s < (l.length : Int)) ∧ ds (dnum s).toNat = s) from fun q => h1 ⟨q.1.1, h0⟩)]
  · unfold place
    rw [if_neg hk6, if_neg hk5]
    split <;> rfl
theorem segs_BL {p : List Int} (hp : BL p) (hl : p.length ≤ 1048576) : (segs p).length ≤ 1048577 ∧ ∀ s ∈ segs p, BL s ∧ s.length ≤ 1048576 := by
  have key : ∀ (m : Nat) (q : List Int), q.length ≤ m → BL q → (spl q).length ≤ q.length + 1 ∧ ∀ s ∈ spl q, BL s ∧ s.length ≤ q.length := by
    intro m
    induction m with
    | zero =>
      intro q hq hb
      have : q = [] := List.eq_nil_of_length_eq_zero (by omega)
      subst this
      exact ⟨by simp [spl], fun s hs => by simp [spl] at hs; subst hs; exact ⟨hb, by simp⟩⟩
    | succ m ih =>
      intro q hq hb
      have hr := ixb_range q 46
      cases he : ixb q 46 with
      | ofNat i =>
        obtain ⟨h1, h2, h3⟩ := ixb_some (i := i) he
        have hs : spl q = q.take i :: spl (q.drop (i + 1)) := by
          conv => lhs; rw [h1]
          exact spl_app _ h2
        obtain ⟨i1, i2⟩ := ih (q.drop (i + 1)) (by rw [List.length_drop]; omega) (hb.drop _)
        rw [List.length_drop] at i1 i2
        rw [hs]
        refine ⟨by rw [List.length_cons]; omega, fun s hs => ?_⟩
        rcases List.mem_cons.1 hs with rfl | hs
        · exact ⟨hb.take i, by rw [List.length_take]; omega⟩
        · have := i2 s hs
          exact ⟨this.1, by omega⟩
      | negSucc k =>
        rw [he] at hr
        have h1 : ixb q 46 = -1 := by rw [he]; omega
        rw [spl_no (ixb_none h1)]
        exact ⟨by simp, fun s hs => by simp at hs; subst hs; exact ⟨hb, Nat.le_refl _⟩⟩
  unfold segs
  split
  · exact ⟨by simp, fun s hs => by cases hs⟩
  · obtain ⟨h1, h2⟩ := key p.length p (Nat.le_refl _) hp
    exact ⟨by omega, fun s hs => ⟨(h2 s hs).1, by have := (h2 s hs).2; omega⟩⟩
theorem rAt_v (n : Nat) (x : JV) (p : List Int) (hx : JV.bulk x ≤ 1048576) (hp : BL p) (hpl : p.length ≤ 1048576) (hn : 1100000 < n) :
    rAt n (x.kind, x.b, x.text, x.n, x.whole, x.list, x.names, p) = some (atOut (atV x (segs p))) := by
  apply Gives.eq
  unfold rAt
  dsimp only
  rw [rSteps_v n p hpl hn]
  simp only [Option.bind_some]
  obtain ⟨hsl, hsb⟩ := segs_BL hp hpl
  generalize segs p = l at hsl hsb ⊢
  refine Gives.loop (X := (List (List Int)) × Int × Int × Bool × (List Int) × Int × Bool × (List JV) × (List (List Int)) × Int × Bool × (List Int) × Int × Bool × (List JV) × List (List Int))
    (fun y => ∃ (a b : List (List Int)) (z : JV), l = a ++ b ∧ y = (l, (a.length : Int), z.kind, z.b, z.text, z.n, z.whole, z.list, z.names, 0, false, [], 0, false, [], []) ∧ JV.bulk z ≤ 1048576 ∧ atV x l = atV z b) (fun y => l.length - y.2.1.toNat) ?_ n _ ⟨[], l, x, rfl, rfl, hx, rfl⟩ (by dsimp only; omega)
  rintro rec y ⟨a, b, z, hab, rfl, hz, hat⟩ hr
  dsimp only
  have hlen : l.length = a.length + b.length := by rw [hab]; simp
  refine Gives.dite (fun h => ?_) (fun h => ?_)
  · cases b with
    | nil => simp at hlen; omega
    | cons s b =>
      refine Gives.idx [] (by omega) h ?_
      have hg : l.getD ((a.length : Nat) : Int).toNat [] = s := by
        rw [hab, Int.toNat_natCast, List.getD_eq_getElem?_getD, List.getElem?_append_right (Nat.le_refl _)]
        simp
      rw [hg]
      have hsb' := hsb s (by rw [hab]; simp)
      have hzp := bulk_parts z
      have hat' : atV x l = (place z.kind z.list z.names s).bind fun y => atV y b := hat
      refine Gives.bind (rStep_v n _ _ _ _ _ _ _ s hsb'.1 hsb'.2 (by omega) (by omega) hn) ?_
      rintro r (⟨rfl, hpn⟩ | ⟨i, rfl, hi, hps⟩)
      · refine Gives.dpos (by omega) (Gives.of_some ?_)
        rw [hat', hpn]
        rfl
      · refine Gives.dneg (by omega) (Gives.idx JV.zero (by omega) (by omega) ?_)
        have hgi : z.list.getD ((i : Nat) : Int).toNat JV.zero = z.list[i] := by rw [Int.toNat_natCast, List.getD_eq_getElem?_getD, List.getElem?_eq_getElem hi]; rfl
        rw [hgi, wrap64 (by omega) (by omega)]
        rw [List.getElem?_eq_getElem hi] at hps
        refine hr _ ⟨a ++ [s], b, z.list[i], by rw [hab]; simp, by simp, Nat.le_trans (hzp.2.2 _ (List.getElem_mem hi)) hz, ?_⟩ (by dsimp only; simp at hlen; omega)
        rw [hat', hps]
        rfl
  · have : b = [] := List.eq_nil_of_length_eq_zero (by omega)
    subst this
    refine Gives.of_some ?_
    rw [hat]
    rfl
theorem contains1 (n : Nat) (hn : 2 < n) (c k : Int) : containsintint n ([c], k) = some (decide (k = c)) := by
  obtain ⟨m, rfl⟩ : ∃ m, n = m + 2 := ⟨n - 2, by omega⟩
  have w1 : IntKind.wrap .i64 (0 + 1) = 1 := by decide
  have e : indexintint (m + 2) ([c], k) = some (if k = c then 0 else -1) := by
    by_cases h : k = c
    · subst h; simp [indexintint, loopF, idx]
    · unfold indexintint
      dsimp only
      simp only [loopF]
      rw [if_pos (by simp)]
      rw [show idx [c] 0 = some c from rfl, Option.bind_some, if_neg (by simpa using h), w1, if_neg (by simp), if_neg h]
  unfold containsintint
  dsimp only
  rw [e]
  by_cases h : k = c
  · simp [h]
  · simp [h]
def kindV (c : Int) : Option JV → Option JV × Int
  | none => (none, 8)
  | some y => if y.kind = c then (some y, 0) else (none, 7)
def kOut : Option JV × Int → Int × Bool × (List Int) × Int × Bool × (List JV) × (List (List Int)) × Int
  | (some x, e) => (x.kind, x.b, x.text, x.n, x.whole, x.list, x.names, e)
  | (none, e) => (0, false, [], 0, false, [], [], e)
theorem kind_v (n : Nat) (x : JV) (p : List Int) (c : Int) (hx : JV.bulk x ≤ 1048576) (hp : BL p) (hpl : p.length ≤ 1048576) (hn : 1100000 < n) :
    kind n (x.kind, x.b, x.text, x.n, x.whole, x.list, x.names, p, [c]) = some (kOut (kindV c (atV x (segs p)))) := by
  unfold kind
  dsimp only
  rw [pickAt_v n x p hx hp hpl hn]
  simp only [Option.bind_some]
  cases atV x (segs p) with
  | none => rfl
  | some y =>
    apply Gives.eq
    refine Gives.epos rfl (Gives.bind_eq (contains1 n (by omega) c y.kind) ?_)
    unfold kindV
    by_cases h : y.kind = c
    · refine Gives.neg (by simp [h]) (Gives.neg (by simp [atOut]) (Gives.of_some ?_))
      simp only [if_pos h]
      rfl
    · refine Gives.pos (by simp [h]) (Gives.of_some ?_)
      simp only [if_neg h]
      rfl
theorem contains_v (n : Nat) (l : List (List Int)) (s : List Int) (hl : l.length ≤ 1048576) (hn : 1100000 < n) : containsstringstring n (l, s) = some (decide (s ∈ l)) := by
  unfold containsstringstring
  dsimp only
  rw [index_v n l s hl hn]
  simp only [Option.bind_some]
  have key : ∀ l : List (List Int), (pos s l).isSome = decide (s ∈ l) := by
    intro l
    induction l with
    | nil => rfl
    | cons a r ih =>
      unfold pos
      by_cases h : s = a
      · simp [h]
      · rw [if_neg h, Option.isSome_map, ih]; simp [h]
  rw [← key l]
  unfold posI
  cases pos s l with
  | none => rfl
  | some i => simp
def onlyV (names : List (List Int)) : Option JV × Int → Int
  | (some y, _) => if ∀ a ∈ y.names, a ∈ names then 0 else 10
  | (none, e) => e
theorem only_v (n : Nat) (x : JV) (p : List Int) (names : List (List Int)) (hx : JV.bulk x ≤ 1048576) (hp : BL p) (hpl : p.length ≤ 1048576) (hnm : names.length ≤ 1048576) (hn : 1100000 < n) :
    only n (x.kind, x.b, x.text, x.n, x.whole, x.list, x.names, p, names) = some (onlyV names (kindV 6 (atV x (segs p)))) := by
  unfold only
  dsimp only
  rw [kind_v n x p 6 hx hp hpl hn]
  simp only [Option.bind_some]
  cases hat : atV x (segs p) with
  | none => rfl
  | some y =>
    have hy := Nat.le_trans (atV_bulk hat) hx
    have hyp := bulk_parts y
    unfold kindV
    by_cases h : y.kind = 6
    · simp only [if_pos h]
      show (if (!((0 : Int) == 0)) = true then _ else _) = _
      rw [if_neg (by simp)]
      apply Gives.eq
      refine Gives.loop (X := (List (List Int)) × (List (List Int)) × Int × Int) (fun z => ∃ a b, y.names = a ++ b ∧ z = (names, y.names, (y.names.length : Int), (a.length : Int)) ∧ ∀ e ∈ a, e ∈ names) (fun z => y.names.length - z.2.2.2.toNat) ?_ n _ ⟨[], y.names, rfl, rfl, by simp⟩ (by dsimp only; omega)
      rintro rec z ⟨a, b, hab, rfl, hin⟩ hr
      dsimp only
      have hlen : y.names.length = a.length + b.length := by rw [hab]; simp
      refine Gives.dite (fun h => ?_) (fun h => ?_)
      · cases b with
        | nil => simp at hlen; omega
        | cons e b =>
          refine Gives.idx [] (by omega) h ?_
          have hg : y.names.getD ((a.length : Nat) : Int).toNat [] = e := by
            rw [hab, Int.toNat_natCast, List.getD_eq_getElem?_getD, List.getElem?_append_right (Nat.le_refl _)]
            simp
          rw [hg, contains_v n names e hnm hn]
          simp only [Option.bind_some]
          refine Gives.ite (fun hc => Gives.of_some ?_) (fun hc => ?_)
          · have hc' : e ∉ names := by simpa using hc
            show _ = if ∀ a ∈ y.names, a ∈ names then (0 : Int) else 10
            rw [if_neg (fun q => hc' (q e (by rw [hab]; simp)))]
          · have hc' : e ∈ names := by simpa using hc
            rw [wrap64 (by omega) (by omega)]
            refine hr _ ⟨a ++ [e], b, by rw [hab]; simp, by simp, fun d hd => ?_⟩ (by dsimp only; simp at hlen; omega)
            rcases List.mem_append.1 hd with hd | hd
            · exact hin d hd
            · simp at hd; rw [hd]; exact hc'
      · have : b = [] := List.eq_nil_of_length_eq_zero (by omega)
        subst this
        rw [List.append_nil] at hab
        refine Gives.of_some ?_
        show _ = if ∀ a ∈ y.names, a ∈ names then (0 : Int) else 10
        rw [if_pos (fun e he => hin e (by rw [← hab]; exact he))]
    · simp only [if_neg h]
      rfl
theorem rOnly_v (n : Nat) (x : JV) (p : List Int) (names : List (List Int)) (hx : JV.bulk x ≤ 1048576) (hp : BL p) (hpl : p.length ≤ 1048576) (hnm : names.length ≤ 1048576) (hn : 1100000 < n) :
    rOnly n (x.kind, x.b, x.text, x.n, x.whole, x.list, x.names, p, names) = some (onlyV names (kindV 6 (atV x (segs p)))) := by
  have hof : rOf n (x.kind, x.b, x.text, x.n, x.whole, x.list, x.names, p, 6) = some (kOut (kindV 6 (atV x (segs p)))) := by
    unfold rOf
    dsimp only
    rw [rAt_v n x p hx hp hpl hn]
    simp only [Option.bind_some]
    cases atV x (segs p) with
    | none => rfl
    | some y =>
      apply Gives.eq
      refine Gives.nneg rfl ?_
      unfold kindV
      by_cases h : y.kind = 6
      · refine Gives.nneg h (Gives.of_some ?_)
        simp only [if_pos h]
        rfl
      · refine Gives.npos h (Gives.of_some ?_)
        simp only [if_neg h]
        rfl
  unfold rOnly
  dsimp only
  rw [hof]
  simp only [Option.bind_some]
  cases hat : atV x (segs p) with
  | none => rfl
  | some y =>
    have hy := Nat.le_trans (atV_bulk hat) hx
    have hyp := bulk_parts y
    unfold kindV
    by_cases h : y.kind = 6
    · simp only [if_pos h]
      show (if ((0 : Int) != 0) = true then _ else _) = _
      rw [if_neg (by simp)]
      apply Gives.eq
      refine Gives.loop (X := (List (List Int)) × Int × Int × Bool × (List Int) × Int × Bool × (List JV) × List (List Int)) (fun z => ∃ a b, y.names = a ++ b ∧ z = (names, (a.length : Int), y.kind, y.b, y.text, y.n, y.whole, y.list, y.names) ∧ ∀ e ∈ a, e ∈ names) (fun z => y.names.length - z.2.1.toNat) ?_ n _ ⟨[], y.names, rfl, rfl, by simp⟩ (by dsimp only; omega)
      rintro rec z ⟨a, b, hab, rfl, hin⟩ hr
      dsimp only
      have hlen : y.names.length = a.length + b.length := by rw [hab]; simp
      refine Gives.dite (fun h => ?_) (fun h => ?_)
      · cases b with
        | nil => simp at hlen; omega
        | cons e b =>
          have hg : y.names.getD ((a.length : Nat) : Int).toNat [] = e := by
            rw [hab, Int.toNat_natCast, List.getD_eq_getElem?_getD, List.getElem?_append_right (Nat.le_refl _)]
            simp
          refine Gives.loop (X := (List (List Int)) × Int × Bool × Int × Int × Bool × (List Int) × Int × Bool × (List JV) × List (List Int)) (fun z => ∃ (f : Bool) (c d : List (List Int)), names = c ++ d ∧ z = (names, (a.length : Int), f, (c.length : Int), y.kind, y.b, y.text, y.n, y.whole, y.list, y.names) ∧ f = decide (e ∈ c)) (fun z => names.length - z.2.2.2.1.toNat) ?_ n _ ⟨false, [], names, rfl, rfl, by simp⟩ (by dsimp only; omega)
          rintro rec2 z ⟨f, c, d, hcd, rfl, hf⟩ hr2
          dsimp only
          have hlen2 : names.length = c.length + d.length := by rw [hcd]; simp
          refine Gives.dite (fun h2 => ?_) (fun h2 => ?_)
          · cases d with
            | nil => simp at hlen2; omega
            | cons u d =>
              have hg2 : names.getD ((c.length : Nat) : Int).toNat [] = u := by
                rw [hcd, Int.toNat_natCast, List.getD_eq_getElem?_getD, List.getElem?_append_right (Nat.le_refl _)]
                simp
              simp at hlen2
              refine Gives.ite (fun hft => ?_) (fun hft => ?_)
              · rw [wrap64 (by omega) (by omega)]
                refine hr2 _ ⟨true, c ++ [u], d, by rw [hcd]; simp, by simp, ?_⟩ (by dsimp only; omega)
                rw [hft] at hf
                have : e ∈ c := by simpa using hf.symm
                simp [this]
              · refine Gives.idx [] (by omega) h2 (Gives.idx [] (by omega) h ?_)
                rw [hg, hg2, wrap64 (by omega) (by omega)]
                refine hr2 _ ⟨(u == e), c ++ [u], d, by rw [hcd]; simp, by simp, ?_⟩ (by dsimp only; omega)
                have hfe : e ∉ c := by
                  intro q
                  apply hft
                  rw [hf]
                  simpa using q
                by_cases hue : u = e
                · simp [hue]
                · have : ¬ e = u := fun q => hue q.symm
                  simp [hue, hfe, this]
          · have : d = [] := List.eq_nil_of_length_eq_zero (by omega)
            subst this
            rw [List.append_nil] at hcd
            subst hcd
            refine Gives.ite (fun hc => Gives.of_some ?_) (fun hc => ?_)
            · have hc' : e ∉ names := by rw [hf] at hc; simpa using hc
              show _ = if ∀ a ∈ y.names, a ∈ names then (0 : Int) else 10
              rw [if_neg (fun q => hc' (q e (by rw [hab]; simp)))]
            · have hc' : e ∈ names := by rw [hf] at hc; simpa using hc
              rw [wrap64 (by omega) (by omega)]
              refine hr _ ⟨a ++ [e], b, by rw [hab]; simp, by simp, fun d hd => ?_⟩ (by dsimp only; simp at hlen; omega)
              rcases List.mem_append.1 hd with hd | hd
              · exact hin d hd
              · simp at hd; rw [hd]; exact hc'
      · have : b = [] := List.eq_nil_of_length_eq_zero (by omega)
        subst this
        rw [List.append_nil] at hab
        refine Gives.of_some ?_
        show _ = if ∀ a ∈ y.names, a ∈ names then (0 : Int) else 10
        rw [if_pos (fun e he => hin e (by rw [← hab]; exact he))]
    · simp only [if_neg h]
      rfl
theorem texts_refl (n : Nat) (l : List (List Int)) (hl : l.length ≤ 1048576) (hn : 1100000 < n) : texts n (l, l) = some true := by
  apply Gives.eq
  unfold texts
  dsimp only
  refine Gives.nneg rfl ?_
  refine Gives.loop (X := (List (List Int)) × (List (List Int)) × Int) (fun y => ∃ i : Nat, i ≤ l.length ∧ y = (l, l, (i : Int))) (fun y => (1100000 - y.2.2).toNat) ?_ n _ ⟨0, by omega, rfl⟩ (by dsimp only; omega)
  rintro rec y ⟨i, hi, rfl⟩ hr
  dsimp only
  refine Gives.dite (fun h => ?_) (fun h => Gives.of_some rfl)
  refine Gives.idx [] (by omega) h (Gives.idx [] (by omega) h (Gives.neg (by simp) ?_))
  rw [wrap64 (by omega) (by omega)]
  exact hr _ ⟨i + 1, by omega, by simp⟩ (by dsimp only; omega)
theorem sure_gen (k : Nat) : sure (k + 400) () = some true := by kernel_rfl
theorem pickOnly_true (x : JV) (p : List Int) (names : List (List Int)) (hx : JV.bulk x ≤ 1048576) (hp : BL p) (hpl : p.length ≤ 1048576) (hnm : names.length ≤ 1048576) :
    pickOnly (1100000 + 400) (x.kind, x.b, x.text, x.n, x.whole, x.list, x.names, p, names) = some true := by
  apply Gives.eq
  unfold pickOnly
  dsimp only
  refine Gives.pos (by omega) ?_
  rw [only_v _ x p names hx hp hpl hnm (by omega), rOnly_v _ x p names hx hp hpl hnm (by omega), texts_refl _ names hnm (by omega), sure_gen]
  rw [Option.bind_some, num_eq, Option.bind_some, Option.bind_some]
  exact Gives.epos rfl (by rw [Option.bind_some]; exact Gives.pos rfl (by rw [Option.bind_some]; exact Gives.of_some rfl))
/-! ### few, same -/
theorem few_v (n : Nat) (hn : 1100000 < n) : ∀ (d : Nat) (x : JV) (deep most : Int), 0 ≤ deep → deep ≤ 201 → 1 ≤ most → most ≤ 3000 → 202 - deep ≤ (d : Int) →
    Gives (loopF (X := Int × Bool × (List Int) × Int × Bool × (List JV) × (List (List Int)) × Int × Int) (A := Int) (fewStep n) d (x.kind, x.b, x.text, x.n, x.whole, x.list, x.names, deep, most)) (fun r => 1 ≤ r ∧ r ≤ most)
  | 0, x, deep, most, h1, h2, h3, h4, h5 => by omega
  | d + 1, x, deep, most, h1, h2, h3, h4, h5 => by
    show Gives (fewStep n (loopF (fewStep n) d) _) _
    unfold fewStep
    dsimp only
    refine Gives.dite (fun h => Gives.of_some ⟨h3, Int.le_refl _⟩) (fun h => ?_)
    refine Gives.loop (X := Int × Int × Int × Int × Int × Bool × (List Int) × Int × Bool × (List JV) × List (List Int)) (fun y => ∃ (i : Nat) (m : Int), (i : Int) + 1 ≤ m ∧ m ≤ most ∧ y = (deep, most, m, (i : Int), x.kind, x.b, x.text, x.n, x.whole, x.list, x.names)) (fun y => (4000 - y.2.2.2.1).toNat) ?_ n _ ⟨0, 1, by omega, by omega, rfl⟩ (by dsimp only; omega)
    rintro rec y ⟨i, m, hi, hm, rfl⟩ hr
    dsimp only
    refine Gives.dite (fun hl => ?_) (fun hl => Gives.of_some ⟨by omega, hm⟩)
    refine Gives.dite (fun hlt => ?_) (fun hlt => Gives.of_some ⟨by omega, hm⟩)
    refine Gives.idx JV.zero (by omega) hl ?_
    rw [wrap64 (n := deep + 1) (by omega) (by omega), wrap64 (n := most - m) (by omega) (by omega)]
    refine Gives.bind (few_v n hn d _ (deep + 1) (most - m) (by omega) (by omega) (by omega) (by omega) (by omega)) ?_
    rintro r ⟨hr1, hr2⟩
    rw [wrap64 (n := (i : Int) + 1) (by omega) (by omega), wrap64 (n := m + r) (by omega) (by omega)]
    exact hr _ ⟨i + 1, m + r, by omega, by omega, by simp⟩ (by dsimp only; omega)
theorem same_refl (n : Nat) (hn : 1100000 < n) : ∀ (d : Nat) (x : JV) (deep : Int), JV.bulk x ≤ 1048576 → deep < (d : Int) → 0 ≤ deep → deep ≤ 300 →
    loopF (X := Int × Bool × (List Int) × Int × Bool × (List JV) × (List (List Int)) × Int × Bool × (List Int) × Int × Bool × (List JV) × (List (List Int)) × Int) (A := Bool) (sameStep n) d (x.kind, x.b, x.text, x.n, x.whole, x.list, x.names, x.kind, x.b, x.text, x.n, x.whole, x.list, x.names, deep) = some true
  | 0, x, deep, hx, hd, h0, h300 => by omega
  | d + 1, x, deep, hx, hd, h0, h300 => by
    show sameStep n (loopF (sameStep n) d) _ = _
    apply Gives.eq
    unfold sameStep
    dsimp only
    have hxp := bulk_parts x
    refine Gives.nneg rfl (Gives.neg (by simp) (Gives.neg (by simp) (Gives.nneg rfl (Gives.neg (by simp) ?_))))
    rw [texts_refl n x.names (by omega) hn, Option.bind_some]
    refine Gives.neg (by simp) (Gives.nneg rfl ?_)
    refine Gives.loop (X := Int × Int × Int × Bool × (List Int) × Int × Bool × (List JV) × (List (List Int)) × Int × Bool × (List Int) × Int × Bool × (List JV) × List (List Int)) (fun y => ∃ i : Nat, i ≤ x.list.length ∧ y = (deep, (i : Int), x.kind, x.b, x.text, x.n, x.whole, x.list, x.names, x.kind, x.b, x.text, x.n, x.whole, x.list, x.names)) (fun y => (1100000 - y.2.1).toNat) ?_ n _ ⟨0, by omega, rfl⟩ (by dsimp only; omega)
    rintro rec y ⟨i, hi, rfl⟩ hr
    dsimp only
    refine Gives.dite (fun hl => ?_) (fun hl => Gives.of_some rfl)
    refine Gives.dite (fun hlt => ?_) (fun hlt => Gives.of_some rfl)
    have hil : i < x.list.length := by omega
    refine Gives.idx JV.zero (by omega) hl (Gives.idx JV.zero (by omega) hl ?_)
    have hgi : x.list.getD ((i : Nat) : Int).toNat JV.zero = x.list[i] := by rw [Int.toNat_natCast, List.getD_eq_getElem?_getD, List.getElem?_eq_getElem hil]; rfl
    rw [hgi, wrap64 (n := deep - 1) (by omega) (by omega)]
    refine Gives.bind_eq (same_refl n hn d x.list[i] (deep - 1) (Nat.le_trans (hxp.2.2 _ (List.getElem_mem hil)) hx) (by omega) (by omega) (by omega)) ?_
    refine Gives.neg (by simp) ?_
    rw [wrap64 (by omega) (by omega)]
    exact hr _ ⟨i + 1, by omega, by simp⟩ (by dsimp only; omega)
theorem pickBehind_true (x : JV) (a b : List Int) (hx : JV.bulk x ≤ 1048576) (ha : BL a) (hb : BL b) (hl : a.length + b.length < 1048576) :
    pickBehind (1100000 + 400) (x.kind, x.b, x.text, x.n, x.whole, x.list, x.names, a, b) = some true := by
  apply Gives.eq
  unfold pickBehind
  dsimp only
  have hnil : BL [] := fun c hc => by cases hc
  have sameV : ∀ y : JV, JV.bulk y ≤ 1048576 → same (1100000 + 400) (y.kind, y.b, y.text, y.n, y.whole, y.list, y.names, y.kind, y.b, y.text, y.n, y.whole, y.list, y.names, 300) = some true := fun y hy => same_refl _ (by omega) _ y 300 hy (by omega) (by omega) (by omega)
  refine Gives.bind (few_v (1100000 + 400) (by omega) (1100000 + 400) x 0 3000 (by omega) (by omega) (by omega) (by omega) (by omega)) ?_
  rintro r _
  refine Gives.dite (fun _ => by rw [sure_gen]; exact Gives.of_some rfl) (fun _ => ?_)
  have empty : ∀ K : Int × Bool × (List Int) × Int × Bool × (List JV) × (List (List Int)) × Int → Option Bool, Gives (K (atOut (some x))) (· = true) → Gives (Option.bind (pickAt (1100000 + 400) (x.kind, x.b, x.text, x.n, x.whole, x.list, x.names, [])) K) (· = true) := fun K hK => by
    rw [pickAt_v _ x [] hx hnil (by simp) (by omega)]
    exact hK
  refine Gives.ite (fun h => ?_) (fun h => ?_)
  · refine empty _ (Gives.epos rfl ?_)
    refine Gives.bind_eq (sameV x hx) (Gives.pos rfl ?_)
    rw [sure_gen]
    exact Gives.of_some rfl
  refine Gives.ite (fun h2 => ?_) (fun h2 => ?_)
  · refine empty _ (Gives.epos rfl ?_)
    refine Gives.bind_eq (sameV x hx) (Gives.pos rfl ?_)
    rw [sure_gen]
    exact Gives.of_some rfl
  have ha0 : a ≠ [] := by simpa using h
  have hb0 : b ≠ [] := by simpa using h2
  have hab : BL ((a ++ [46]) ++ b) := fun c hc => by
    simp only [List.mem_append, List.mem_singleton] at hc
    rcases hc with (hc | hc) | hc
    · exact ha c hc
    · omega
    · exact hb c hc
  have hsg : segs ((a ++ [46]) ++ b) = segs a ++ segs b := by
    unfold segs
    rw [if_neg (by simp), if_neg ha0, if_neg hb0, List.append_assoc]
    exact spl_two a b
  rw [pickAt_v _ x a hx ha (by omega) (by omega)]
  rw [Option.bind_some]
  refine Gives.pos (by omega) (Gives.pos (by simp; omega) ?_)
  rw [pickAt_v _ x _ hx hab (by simp; omega) (by omega), Option.bind_some, hsg, atV_app]
  cases hat : atV x (segs a) with
  | none =>
    refine Gives.pos rfl (Gives.pos rfl ?_)
    rw [num_eq, Option.bind_some, num_eq, Option.bind_some]
    refine Gives.epos rfl ?_
    rw [sure_gen]
    exact Gives.of_some rfl
  | some y =>
    have hy := Nat.le_trans (atV_bulk hat) hx
    refine Gives.neg (by simp [atOut]) ?_
    rw [Option.bind_some]
    show Gives (Option.bind (pickAt (1100000 + 400) (y.kind, y.b, y.text, y.n, y.whole, y.list, y.names, b)) _) _
    rw [pickAt_v _ y b hy hb (by omega) (by omega), Option.bind_some]
    cases hat2 : atV y (segs b) with
    | none =>
      refine Gives.bind_eq (sameV JV.zero (by decide)) (Gives.pos rfl ?_)
      rw [num_eq, Option.bind_some, Option.bind_some]
      refine Gives.epos rfl ?_
      rw [sure_gen]
      exact Gives.of_some rfl
    | some z =>
      refine Gives.bind_eq (sameV z (Nat.le_trans (atV_bulk hat2) hy)) (Gives.pos rfl ?_)
      rw [num_eq, Option.bind_some, Option.bind_some]
      refine Gives.epos rfl ?_
      rw [sure_gen]
      exact Gives.of_some rfl
end Go.Sx.YtdcogkfjnlpidaaDoor
