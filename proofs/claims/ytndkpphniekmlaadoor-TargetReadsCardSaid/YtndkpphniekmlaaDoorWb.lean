/- Part of a proof by a small interpreter on plain values; no condition. -/
import Derived.Test.YtndkpphniekmlaaDoorSx20
import Derived.Test.YtndkpphniekmlaaDoorSx24
import Derived.Test.YtndkpphniekmlaaDoorWa
namespace Go.Sx.YtndkpphniekmlaaDoor
open Go Go.Sx Go.Proofs
set_option autoImplicit false
set_option linter.unusedVariables false
set_option linter.unusedSimpArgs false
/-! texts: small letters, cuts at one byte, joins. -/
def BL (s : List Int) : Prop := ∀ c ∈ s, 0 ≤ c ∧ c ≤ 255
theorem BL.take {s : List Int} (h : BL s) (n : Nat) : BL (s.take n) := fun c hc => h c (List.mem_of_mem_take hc)
theorem BL.drop {s : List Int} (h : BL s) (n : Nat) : BL (s.drop n) := fun c hc => h c (List.mem_of_mem_drop hc)
theorem getD_mem {α : Type} {s : List α} {i : Nat} {d : α} (h : i < s.length) : s.getD i d ∈ s := by
  rw [List.getD_eq_getElem?_getD, List.getElem?_eq_getElem h]; exact List.getElem_mem h
theorem BL.at {s : List Int} (h : BL s) {i : Nat} (hi : i < s.length) : 0 ≤ s.getD i 0 ∧ s.getD i 0 ≤ 255 := h _ (getD_mem hi)
theorem wrap_u8 (n : Int) : IntKind.wrap .u8 n = n % 256 := by simp [IntKind.wrap, IntKind.bits, IntKind.signed]
theorem take_succ {α : Type} (s : List α) (i : Nat) (d : α) (h : i < s.length) : s.take (i + 1) = s.take i ++ [s.getD i d] := by
  rw [List.take_add_one, List.getD_eq_getElem?_getD, List.getElem?_eq_getElem h]; rfl
theorem drop_cons {α : Type} (s : List α) (i : Nat) (d : α) (h : i < s.length) : s.drop i = s.getD i d :: s.drop (i + 1) := by
  rw [List.drop_eq_getElem_cons h, List.getD_eq_getElem?_getD, List.getElem?_eq_getElem h]; rfl
/-! cuts. -/
def spl (k : Int) : List Int → List (List Int)
  | [] => [[]]
  | c :: r => if c = k then [] :: spl k r else match spl k r with
    | h :: t => (c :: h) :: t
    | [] => [[c]]
theorem spl_ne (k : Int) : ∀ s, spl k s ≠ []
  | [] => by simp [spl]
  | c :: r => by
    unfold spl
    split
    · simp
    · split <;> simp
theorem spl_no {k : Int} : ∀ {s : List Int}, k ∉ s → spl k s = [s]
  | [], _ => rfl
  | c :: r, h => by
    have h1 : ¬ c = k := fun e => h (by simp [e])
    have h2 : k ∉ r := fun e => h (by simp [e])
    rw [spl, if_neg h1, spl_no h2]
theorem spl_app {k : Int} : ∀ (a b : List Int), k ∉ a → spl k (a ++ k :: b) = a :: spl k b
  | [], b, _ => by simp [spl]
  | c :: r, b, h => by
    have h1 : ¬ c = k := fun e => h (by simp [e])
    have h2 : k ∉ r := fun e => h (by simp [e])
    rw [List.cons_append, spl, if_neg h1, spl_app r b h2]
theorem spl_piece {k : Int} : ∀ (s : List Int), ∀ x ∈ spl k s, k ∉ x ∧ x.length ≤ s.length ∧ ∀ c ∈ x, c ∈ s
  | [], x, hx => by simp [spl] at hx; subst hx; simp
  | c :: r, x, hx => by
    unfold spl at hx
    split at hx
    · rcases List.mem_cons.1 hx with rfl | hx
      · simp
      · obtain ⟨h1, h2, h3⟩ := spl_piece r x hx
        exact ⟨h1, by simp; omega, fun d hd => by simp [h3 d hd]⟩
    · rename_i hc
      split at hx
      · rename_i h t e
        rcases List.mem_cons.1 hx with rfl | hx
        · obtain ⟨h1, h2, h3⟩ := spl_piece r h (by rw [e]; simp)
          refine ⟨by simp [h1]; exact fun e => hc e.symm, by simp; omega, fun d hd => ?_⟩
          rcases List.mem_cons.1 hd with rfl | hd
          · simp
          · simp [h3 d hd]
        · obtain ⟨h1, h2, h3⟩ := spl_piece r x (by rw [e]; simp [hx])
          exact ⟨h1, by simp; omega, fun d hd => by simp [h3 d hd]⟩
      · rename_i e
        exact absurd e (spl_ne k r)
theorem spl_count (k : Int) : ∀ s : List Int, (spl k s).length = s.count k + 1
  | [] => rfl
  | c :: r => by
    have ih := spl_count k r
    unfold spl
    by_cases hc : c = k
    · rw [if_pos hc]; simp [ih, hc]
    · rw [if_neg hc]
      split
      · rename_i h t e; rw [e] at ih; simp at ih; simp [List.count_cons, hc, ih]
      · rename_i e; exact absurd e (spl_ne k r)
/-- where the byte first stands. -/
theorem ixb_case (s : List Int) (k : Int) : (ixb s k = -1 ∧ k ∉ s) ∨ ∃ i : Nat, ixb s k = (i : Int) ∧ i < s.length ∧ k ∉ s.take i ∧ s = s.take i ++ k :: s.drop (i + 1) := by
  induction s with
  | nil => exact .inl ⟨rfl, by simp⟩
  | cons b l ih =>
    by_cases hb : b = k
    · refine .inr ⟨0, by simp [ixb, hb], by simp, by simp, by simp [hb]⟩
    · rcases ih with ⟨e, hm⟩ | ⟨i, e, h1, h2, h3⟩
      · exact .inl ⟨by simp [ixb, hb, e], by simp [hm]; exact fun e => hb e.symm⟩
      · refine .inr ⟨i + 1, ?_, by simp; omega, ?_, ?_⟩
        · simp only [ixb, if_neg hb, e]; rw [if_neg (by omega)]; omega
        · simp [h2]; exact fun e => hb e.symm
        · simpa using h3
theorem index_v (n : Nat) (s : List Int) (k : Int) : index n (s, [k]) = some (ixb s k) := by
  unfold index
  dsimp only
  rw [if_neg (by simp)]
  by_cases h : ([k] : List Int) = s
  · subst h
    rw [if_pos (by simp)]; simp [ixb]
  · rw [if_neg (by simpa using h), if_pos (by simp)]
    rfl
theorem stringsIndex_v (n : Nat) (s : List Int) (k : Int) : stringsIndex n (s, [k]) = some (ixb s k) := by
  unfold stringsIndex; dsimp only; rw [index_v]; rfl
theorem genSplit_v (n : Nat) (x : List Int) (k : Int) (hl : x.length ≤ 8796093022206) (hn : x.length + 1 < n) : genSplit n (x, ([k], ((0 : Int), (-1 : Int)))) = some (spl k x) := by
  refine Gives.eq ?_
  unfold genSplit
  dsimp only
  have hc := List.count_le_length (a := k) (l := x)
  refine Gives.eneg (by decide) ?_
  refine Gives.neg (by simp) ?_
  refine Gives.bind_eq (r := Out.go (x, ([k], ((0 : Int), ((x.count k + 1 : Nat) : Int))))) ?_ ?_
  · rw [if_pos (by decide)]
    show Option.bind (some (cnb x k)) _ = _
    simp only [Option.bind_some, cnb]
    rw [wrap64 (by omega) (by omega)]; rfl
  dsimp only
  have hu : IntKind.wrap .i64 ((x.length : Int) + 1) = ((x.length + 1 : Nat) : Int) := by rw [wrap64 (by omega) (by omega)]; omega
  rw [hu]
  have hmin : (if ((x.length + 1 : Nat) : Int) < ((x.count k + 1 : Nat) : Int) then ((x.length + 1 : Nat) : Int) else ((x.count k + 1 : Nat) : Int)) = ((x.count k + 1 : Nat) : Int) := by rw [if_neg (by omega)]
  simp only [hmin]
  refine Gives.pos (by omega) ?_
  have hw : IntKind.wrap .i64 (((x.count k + 1 : Nat) : Int) - 1) = ((x.count k : Nat) : Int) := by rw [wrap64 (by omega) (by omega)]; omega
  rw [hw, Int.toNat_natCast]
  refine Gives.loop (I := fun z => z.2.1 = [k] ∧ z.2.2.1 = 0 ∧ z.2.2.2.1 = ((x.count k : Nat) : Int) ∧ ∃ i : Nat, z.2.2.2.2.1 = (i : Int) ∧ z.2.2.2.2.2.length = x.count k + 1 ∧ i + z.1.count k = x.count k ∧ spl k x = z.2.2.2.2.2.take i ++ spl k z.1 ∧ z.1.length ≤ x.length) (μ := fun z => z.1.length) ?_ n _ ⟨rfl, rfl, rfl, 0, rfl, by simp, by simp, by simp, Nat.le_refl _⟩ (by simp; omega)
  rintro rec ⟨s, a17, a18, a19, a20, arr⟩ ⟨h1, h2, h3, i, h4, h5, h6, h7, h8⟩ hrec
  dsimp only at h1 h2 h3 h4 h5 h6 h7 h8 hrec ⊢
  subst h1 h2 h3 h4
  have fin : s.count k = 0 → Gives (if 0 ≤ (i : Int) ∧ (i : Int) < (arr.length : Int) then
      (let u29 : Int := (IntKind.wrap .i64 ((i : Int) + (1 : Int)))
      (if 0 ≤ (0 : Int) ∧ (0 : Int) ≤ u29 ∧ u29 ≤ ((arr.set (i : Int).toNat s).length : Int) then
      (let u30 : List (List Int) := ((arr.set (i : Int).toNat s).take u29.toNat)
      some u30)
      else none))
      else none) (· = spl k x) := fun h0 => by
    have hi : i < arr.length := by omega
    refine Gives.pos (by omega) ?_
    have hwi : IntKind.wrap .i64 ((i : Int) + 1) = ((i + 1 : Nat) : Int) := by rw [wrap64 (by omega) (by omega)]; omega
    dsimp only
    rw [hwi, Int.toNat_natCast, Int.toNat_natCast]
    refine Gives.pos (by simp; omega) (Gives.of_some ?_)
    rw [h7, spl_no (List.count_eq_zero.1 h0), take_succ _ i [] (by simpa using hi)]
    congr 1
    · rw [List.take_set_of_le (Nat.le_refl i)]
    · simp [List.getD_eq_getElem?_getD, hi]
  refine Gives.dite (fun hlt => ?_) (fun hge => ?_)
  · rw [stringsIndex_v]
    refine Gives.bind_eq rfl ?_
    rcases ixb_case s k with ⟨e, hm⟩ | ⟨j, e, hj1, hj2, hj3⟩
    · have := List.count_eq_zero.2 hm
      omega
    · rw [e]
      have hi : i < arr.length := by omega
      have hwi : IntKind.wrap .i64 ((i : Int) + 1) = ((i + 1 : Nat) : Int) := by rw [wrap64 (by omega) (by omega)]; omega
      have hwj : IntKind.wrap .i64 ((j : Int) + 0) = (j : Int) := by rw [wrap64 (by omega) (by omega)]; omega
      have hwk : IntKind.wrap .i64 ((j : Int) + (([k] : List Int).length : Int)) = ((j + 1 : Nat) : Int) := by
        rw [show (([k] : List Int).length : Int) = 1 from rfl, wrap64 (by omega) (by omega)]; omega
      refine Gives.dneg (by omega) ?_
      rw [hwj, hwi, hwk]
      refine Gives.pos (by omega) ?_
      refine Gives.pos (by omega) ?_
      refine Gives.pos (by omega) ?_
      simp only [Int.toNat_natCast, List.drop_zero, Nat.sub_zero]
      have htk : (s.drop (j + 1)).take (s.length - (j + 1)) = s.drop (j + 1) := List.take_of_length_le (by simp)
      rw [htk]
      have hcnt : s.count k = 1 + (s.drop (j + 1)).count k := by
        conv => lhs; rw [hj3]
        rw [List.count_append, List.count_eq_zero.2 hj2, List.count_cons]; simp; omega
      refine hrec _ ⟨rfl, rfl, rfl, i + 1, rfl, by simpa using h5, ?_, ?_, by simp; omega⟩ ?_
      · show i + 1 + (s.drop (j + 1)).count k = _
        omega
      · show _ = (arr.set i (s.take j)).take (i + 1) ++ spl k (s.drop (j + 1))
        rw [h7]
        conv => lhs; rw [hj3, spl_app _ _ hj2]
        rw [take_succ _ i [] (by simpa using hi), List.take_set_of_le (Nat.le_refl i)]
        simp [List.getD_eq_getElem?_getD, hi]
      · simp; omega
  · exact fin (by omega)
theorem split_v (n : Nat) (x : List Int) (k : Int) (hl : x.length ≤ 8796093022206) (hn : x.length + 1 < n) : split n (x, [k]) = some (spl k x) := by
  unfold split
  dsimp only
  rw [genSplit_v n x k hl hn]; rfl
/-! joins. -/
def jn (k : Int) : List (List Int) → List Int
  | [] => []
  | a :: r => a ++ r.flatMap (fun b => k :: b)
theorem jn_spl (k : Int) : ∀ s : List Int, jn k (spl k s) = s
  | [] => rfl
  | c :: r => by
    have ih := jn_spl k r
    unfold spl
    split
    · rename_i hc
      cases e : spl k r with
      | nil => exact absurd e (spl_ne k r)
      | cons h t => rw [e] at ih; simp [jn] at ih; simp [jn, hc, ih]
    · split
      · rename_i h t e; rw [e] at ih; simp [jn] at ih; simp [jn, ih]
      · rename_i e; exact absurd e (spl_ne k r)
theorem spl_jn {k : Int} : ∀ (l : List (List Int)), l ≠ [] → (∀ x ∈ l, k ∉ x) → spl k (jn k l) = l
  | [], h, _ => absurd rfl h
  | [a], _, h => by simp only [jn, List.flatMap_nil, List.append_nil]; exact spl_no (h a (by simp))
  | a :: b :: r, _, h => by
    have := spl_jn (b :: r) (by simp) (fun x hx => h x (by simp [List.mem_cons.1 hx]))
    simp only [jn, List.flatMap_cons, List.cons_append] at this ⊢
    rw [spl_app a _ (h a (by simp)), this]
def sumL (l : List (List Int)) : Nat := (l.map List.length).sum
theorem sumL_take (l : List (List Int)) (i : Nat) (h : i < l.length) : sumL (l.take (i + 1)) = sumL (l.take i) + (l.getD i []).length := by
  unfold sumL
  rw [take_succ l i [] h]; simp
theorem sumL_le (l : List (List Int)) (i : Nat) : sumL (l.take i) ≤ sumL l := by
  have : sumL l = sumL (l.take i) + sumL (l.drop i) := by
    unfold sumL
    conv => lhs; rw [← List.take_append_drop i l]
    rw [List.map_append, List.sum_append]
  omega
theorem sumL_cons (a : List Int) (r : List (List Int)) : sumL (a :: r) = a.length + sumL r := by simp [sumL]
theorem fm_len (k : Int) : ∀ (r : List (List Int)), (r.flatMap fun b => k :: b).length = sumL r + r.length
  | [] => rfl
  | a :: r => by
    have ih := fm_len k r
    rw [List.flatMap_cons, List.length_append, ih, sumL_cons]
    simp only [List.length_cons]; omega
theorem jn_len (k : Int) (l : List (List Int)) : (jn k l).length = sumL l + (l.length - 1) := by
  cases l with
  | nil => rfl
  | cons a r =>
    show (a ++ r.flatMap _).length = _
    rw [List.length_append, fm_len, sumL_cons]
    simp only [List.length_cons]; omega
theorem bldStr_v (n : Nat) (s b : List Int) (h : b.length + s.length ≤ 10000000000) : bldStr n (s, b) = some ((s.length : Int), b ++ s) := by
  unfold bldStr
  dsimp only
  rw [show bldCheck n b = some b from rfl, Option.bind_some, if_pos (by omega)]
theorem join_v (n : Nat) (l : List (List Int)) (k : Int) (hl : (jn k l).length ≤ 100000000) (h2 : l.length ≤ 100000000) (hn : 100000001 < n) : join n (l, [k]) = some (jn k l) := by
  refine Gives.eq ?_
  rw [jn_len] at hl
  unfold join
  dsimp only
  refine Gives.eite (fun h0 => ?_) (fun h0 => ?_)
  · have : l = [] := List.length_eq_zero_iff.1 (by omega)
    subst this; exact Gives.of_some rfl
  refine Gives.eite (fun h1 => ?_) (fun h1 => ?_)
  · match l, h1 with
    | [a], _ => exact Gives.of_some (by simp [jn])
  have hw1 : IntKind.wrap .i64 ((l.length : Int) - 1) = ((l.length - 1 : Nat) : Int) := by rw [wrap64 (by omega) (by omega)]; omega
  have hlen1 : (([k] : List Int).length : Int) = 1 := rfl
  refine Gives.bind_eq (r := Out.go (l, ([k], ((l.length - 1 : Nat) : Int)))) ?_ ?_
  · rw [if_pos (by simp), hw1, hlen1]
    rw [if_neg (by omega)]
    have hq : (9223372036854775807 : Int) / ((l.length - 1 : Nat) : Int) ≥ 2 ∧ (9223372036854775807 : Int) / ((l.length - 1 : Nat) : Int) ≤ 9223372036854775807 := by
      constructor
      · exact (Int.le_ediv_iff_mul_le (by omega)).2 (by omega)
      · exact Int.ediv_le_self _ (by omega)
    rw [Int.tdiv_eq_ediv_of_nonneg (by omega), wrap64 (by omega) (by omega), if_neg (by simp; omega)]
    rw [wrap64 (n := 1 * _) (by omega) (by omega), wrap64 (by omega) (by omega)]
    congr 5; omega
  dsimp only
  have hsum : ∀ i, sumL (l.take i) ≤ 100000000 := fun i => Nat.le_trans (sumL_le l i) (by omega)
  refine Gives.loop (I := fun z => z.1 = l ∧ z.2.1 = [k] ∧ z.2.2.2.1 = l ∧ z.2.2.2.2.1 = (l.length : Int) ∧ ∃ i : Nat, z.2.2.2.2.2 = (i : Int) ∧ i ≤ l.length ∧ z.2.2.1 = ((l.length - 1 + sumL (l.take i) : Nat) : Int)) (μ := fun z => l.length - z.2.2.2.2.2.toNat) ?_ n _ ⟨rfl, rfl, rfl, rfl, 0, rfl, by omega, by simp [sumL]⟩ (by simp; omega)
  rintro rec ⟨a14, a15, a16, a17, a18, a19⟩ ⟨e1, e2, e3, e4, i, e5, e6, e7⟩ hrec
  dsimp only at e1 e2 e3 e4 e5 e7 hrec ⊢
  subst e1 e2 e3 e4 e5 e7
  have hs := hsum i
  refine Gives.dite (fun hlt => ?_) (fun hge => ?_)
  · have hi : i < a17.length := by omega
    refine Gives.idx [] (by omega) hlt ?_
    rw [Int.toNat_natCast]
    have hsu := sumL_take a17 i hi
    have hs1 := hsum (i + 1)
    rw [wrap64 (by omega) (by omega)]
    refine Gives.dneg (by omega) ?_
    rw [wrap64 (by omega) (by omega), wrap64 (by omega) (by omega)]
    refine hrec _ ⟨rfl, rfl, rfl, rfl, i + 1, by simp, by omega, ?_⟩ (by dsimp only; omega)
    show ((_ : Nat) : Int) + ((_ : Nat) : Int) = _
    rw [hsu]; omega
  · have hii : i = a17.length := by omega
    subst hii
    rw [List.take_length] at hs
    refine Gives.bind_eq (r := ([] : List Int)) ?_ ?_
    · show growRun _ = _
      unfold growRun
      rw [List.take_length, if_pos (by omega)]
    refine Gives.idx [] (by omega) (by omega) ?_
    obtain ⟨a, r, rfl⟩ : ∃ a r, a17 = a :: r := by
      cases a17 with
      | nil => simp at h0
      | cons a r => exact ⟨a, r, rfl⟩
    have hsa : a.length + sumL r = sumL (a :: r) := by simp [sumL]
    simp only [List.length_cons] at hl h2 hs
    show Gives (Option.bind (bldStr n (a, [])) _) _
    rw [bldStr_v n a [] (by simp; omega)]
    refine Gives.bind_eq rfl ?_
    refine Gives.pos (by simp; omega) ?_
    have htl : (((a :: r).drop 1).take ((((a :: r).length : Int)).toNat - 1)) = r := by simp
    rw [htl]
    dsimp only
    refine Gives.loop (I := fun z => z.1 = [k] ∧ z.2.1 = r ∧ z.2.2.1 = (r.length : Int) ∧ ∃ i : Nat, z.2.2.2.1 = (i : Int) ∧ i ≤ r.length ∧ z.2.2.2.2 = a ++ (r.take i).flatMap (fun b => k :: b)) (μ := fun z => r.length - z.2.2.2.1.toNat) ?_ n _ ⟨rfl, rfl, rfl, 0, rfl, by omega, by simp⟩ (by simp; omega)
    rintro rec2 ⟨b1, b2, b3, b4, b5⟩ ⟨f1, f2, f3, j, f4, f5, f6⟩ hrec2
    dsimp only at f1 f2 f3 f4 f6 hrec2 ⊢
    subst f1 f2 f3 f4 f6
    refine Gives.dite (fun hlt => ?_) (fun hge => ?_)
    · have hj : j < b2.length := by omega
      refine Gives.idx [] (by omega) hlt ?_
      rw [Int.toNat_natCast]
      have hfl := fm_len k (b2.take j)
      have hfs := sumL_le b2 j
      have hfs1 := sumL_le b2 (j + 1)
      have hft := sumL_take b2 j hj
      have htj : (b2.take j).length = j := by simp; omega
      rw [bldStr_v n [k] _ (by simp only [List.length_append, hfl, htj]; simp; omega)]
      refine Gives.bind_eq rfl ?_
      dsimp only
      rw [bldStr_v n _ _ (by simp only [List.length_append, hfl, htj]; simp only [List.length_cons, List.length_nil]; omega)]
      refine Gives.bind_eq rfl ?_
      dsimp only
      rw [wrap64 (by omega) (by omega)]
      refine hrec2 _ ⟨rfl, rfl, rfl, j + 1, by simp, by omega, ?_⟩ (by dsimp only; omega)
      dsimp only
      rw [take_succ b2 j [] hj]; simp
    · have hjj : j = b2.length := by omega
      subst hjj
      refine Gives.of_some ?_
      rw [List.take_length]; rfl
theorem cut_f (n : Nat) (x : List Int) (k : Int) (hl : x.length ≤ 140737488355328) : cut n (x, [k]) = some (if ixb x k = -1 then (x, ([], false)) else (x.take (ixb x k).toNat, (x.drop ((ixb x k).toNat + 1), true))) := by
  unfold cut stringsliteCut
  dsimp only
  rw [index_v, Option.bind_some]
  rcases ixb_case x k with ⟨e, _⟩ | ⟨i, e, h1, _⟩
  · rw [if_neg (by simp [e]), if_pos e]; rfl
  · have hne : ¬ ixb x k = -1 := by omega
    rw [e, if_pos (by simp), if_pos (by omega)]
    have hw : IntKind.wrap .i64 ((i : Int) + (([k] : List Int).length : Int)) = ((i + 1 : Nat) : Int) := by
      rw [show (([k] : List Int).length : Int) = 1 from rfl, wrap64 (by omega) (by omega)]; omega
    rw [hw, if_pos (by omega), if_neg (show ¬ ((i : Int) = -1) by omega)]
    simp only [Int.toNat_natCast, List.drop_zero, Nat.sub_zero, Option.bind_some]
    rw [List.take_of_length_le (show (x.drop (i + 1)).length ≤ x.length - (i + 1) by simp)]
end Go.Sx.YtndkpphniekmlaaDoor
