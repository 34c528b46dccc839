/- Part of a proof by a small interpreter on plain values; no condition. -/
import Derived.Test.YtmhimaefondndaaDoorSx20
import Derived.Test.YtmhimaefondndaaDoorSx24
import Derived.Test.YtmhimaefondndaaDoorWa
namespace Go.Sx.YtmhimaefondndaaDoor
open Go Go.Sx Go.Proofs
set_option autoImplicit false
set_option linter.unusedVariables false
set_option linter.unusedSimpArgs false
/-! texts: small letters, cuts at one byte, joins. -/
def BL (s : List Int) : Prop := ∀ c ∈ s, 0 ≤ c ∧ c ≤ 255
theorem BL.take {s : List Int} (h : BL s) (n : Nat) : BL (s.take n) := fun c hc => h c (List.mem_of_mem_take hc)
theorem BL.drop {s : List Int} (h : BL s) (n : Nat) : BL (s.drop n) := fun c hc => h c (List.mem_of_mem_drop hc)
theorem getD_mem {α : Type} {s : List α} {i : Nat} {d : α} (h : i < s.length) : s.getD i d ∈ s := by
  rw [List.getD_eq_getElem?_getD, List.getElem?_eq_getElem h]; exact List.getElem_mem h
theorem BL.at {s : List Int} (h : BL s) {i : Nat} (hi : i < s.length) : 0 ≤ s.getD i 0 ∧ s.getD i 0 ≤ 255 := h _ (getD_mem hi)
def lw (c : Int) : Int := if 65 ≤ c ∧ c ≤ 90 then c + 32 else c
def LW (s : List Int) : List Int := s.map lw
theorem wrap_u8 (n : Int) : IntKind.wrap .u8 n = n % 256 := by simp [IntKind.wrap, IntKind.bits, IntKind.signed]
theorem take_succ {α : Type} (s : List α) (i : Nat) (d : α) (h : i < s.length) : s.take (i + 1) = s.take i ++ [s.getD i d] := by
  rw [List.take_add_one, List.getD_eq_getElem?_getD, List.getElem?_eq_getElem h]; rfl
theorem drop_cons {α : Type} (s : List α) (i : Nat) (d : α) (h : i < s.length) : s.drop i = s.getD i d :: s.drop (i + 1) := by
  rw [List.drop_eq_getElem_cons h, List.getD_eq_getElem?_getD, List.getElem?_eq_getElem h]; rfl
theorem rLower_v (n : Nat) (x : List Int) (hx : BL x) (hl : x.length ≤ 281474976710656 / 2 - 1) (hn : x.length < n) : rLower n x = some (LW x) := by
  refine Gives.eq ?_
  unfold rLower
  refine Gives.loop (I := fun z => z.1 = x ∧ ∃ i : Nat, z.2.1 = (i : Int) ∧ i ≤ x.length ∧ z.2.2 = (x.take i).map lw) (μ := fun z => (x.length - z.2.1.toNat)) ?_ n _ ⟨rfl, 0, rfl, Nat.zero_le _, rfl⟩ (by simpa using hn)
  rintro rec ⟨a4, a5, a6⟩ ⟨h1, i, h2, h3, h4⟩ hrec
  dsimp only at h1 h2 h4 hrec ⊢
  subst h1 h2 h4
  refine Gives.dite (fun hlt => ?_) (fun hge => ?_)
  · have hi : i < a4.length := by omega
    refine Gives.idx 0 (by omega) hlt ?_
    rw [Int.toNat_natCast]
    have hb := hx.at hi
    have hw : IntKind.wrap .i64 ((i : Int) + 1) = ((i + 1 : Nat) : Int) := by rw [wrap64 (by omega) (by omega)]; omega
    have hlen : ((a4.take i).map lw).length = i := by simp; omega
    have nx : ∀ v, v = lw (a4.getD i 0) → Gives (rec (a4, ((IntKind.wrap .i64 ((i : Int) + 1)), ((a4.take i).map lw ++ ([v] : List Int))))) (· = LW a4) := fun v hv => by
      refine hrec _ ⟨rfl, i + 1, hw, by omega, ?_⟩ ?_
      · rw [take_succ a4 i 0 hi, List.map_append, hv]; rfl
      · simp only [hw, Int.toNat_natCast]; omega
    refine Gives.dite (fun h65 => ?_) (fun h65 => ?_)
    · refine Gives.dite (fun h90 => ?_) (fun h90 => ?_)
      · refine Gives.pos (by rw [hlen]; omega) (nx _ ?_)
        rw [wrap_u8, wrap_u8]; unfold lw; rw [if_pos (by omega)]; omega
      · refine Gives.pos (by rw [hlen]; omega) (nx _ ?_)
        unfold lw; rw [if_neg (by omega)]
    · refine Gives.pos (by rw [hlen]; omega) (nx _ ?_)
      unfold lw; rw [if_neg (by omega)]
  · refine Gives.of_some ?_
    rw [List.take_of_length_le (by omega)]; rfl
theorem or32 : ∀ c : Fin 256, bits .or .u8 (c.val : Int) 32 = if 65 ≤ c.val ∧ c.val ≤ 90 then (c.val : Int) + 32 else bits .or .u8 (c.val : Int) 32 := by decide +kernel
theorem or32_up {c : Int} (h1 : 65 ≤ c) (h2 : c ≤ 90) : bits .or .u8 c 32 = c + 32 := by
  have := or32 ⟨c.toNat, by omega⟩
  rw [show (((⟨c.toNat, by omega⟩ : Fin 256).val : Nat) : Int) = c by simp; omega] at this
  rw [this, if_pos (by constructor <;> simp <;> omega)]
theorem lower_v (n : Nat) (x : List Int) (hx : BL x) (hl : x.length ≤ 281474976710656 / 2 - 1) (hn : x.length < n) : lower n x = some (LW x) := by
  refine Gives.eq ?_
  unfold lower
  refine Gives.loop (I := fun z => z.1 = (x.length : Int) ∧ ∃ i : Nat, z.2.1 = (i : Int) ∧ i ≤ x.length ∧ z.2.2 = (x.take i).map lw ++ x.drop i) (μ := fun z => (x.length - z.2.1.toNat)) ?_ n _ ⟨rfl, 0, rfl, Nat.zero_le _, rfl⟩ (by simpa using hn)
  rintro rec ⟨a4, a5, a6⟩ ⟨h1, i, h2, h3, h4⟩ hrec
  dsimp only at h1 h2 h4 hrec ⊢
  subst h1 h2
  refine Gives.dite (fun hlt => ?_) (fun hge => ?_)
  · have hi : i < x.length := by omega
    have hb := hx.at hi
    have hw : IntKind.wrap .i64 ((i : Int) + 1) = ((i + 1 : Nat) : Int) := by rw [wrap64 (by omega) (by omega)]; omega
    have hlen : a6.length = x.length := by rw [h4]; simp; omega
    have hat : a6.getD i 0 = x.getD i 0 := by
      rw [h4, getD_app, if_neg (by simp; omega), drop_cons x i 0 hi]
      simp [show min i x.length = i by omega]
    have hset : ∀ v, v = lw (x.getD i 0) → a6.set i v = (x.take (i + 1)).map lw ++ x.drop (i + 1) := fun v hv => by
      rw [h4, List.set_append, if_neg (by simp; omega), drop_cons x i 0 hi, take_succ x i 0 hi]
      simp [show min i x.length = i by omega, hv]
    have nx : ∀ v, v = (x.take (i + 1)).map lw ++ x.drop (i + 1) → Gives (rec ((x.length : Int), ((IntKind.wrap .i64 ((i : Int) + 1)), v))) (· = LW x) := fun v hv => by
      refine hrec _ ⟨rfl, i + 1, hw, by omega, hv⟩ ?_
      simp only [hw, Int.toNat_natCast]; omega
    have same : ¬ (65 ≤ x.getD i 0 ∧ x.getD i 0 ≤ 90) → a6 = (x.take (i + 1)).map lw ++ x.drop (i + 1) := fun hn => by
      rw [← hset (x.getD i 0) (by unfold lw; rw [if_neg hn]), ← hat, h4]
      have h5 : i < ((x.take i).map lw ++ x.drop i).length := by rw [← h4, hlen]; exact hi
      rw [List.getD_eq_getElem?_getD, List.getElem?_eq_getElem h5]
      simp only [Option.getD_some, List.set_getElem_self]
    refine Gives.pos (by omega) ?_
    rw [Int.toNat_natCast, hat]
    refine Gives.dite (fun h65 => ?_) (fun h65 => ?_)
    · refine Gives.dite (fun h90 => ?_) (fun h90 => ?_)
      · refine Gives.pos (by omega) (nx _ (hset _ ?_))
        rw [or32_up h65 h90]; unfold lw; rw [if_pos ⟨h65, h90⟩]
      · exact nx _ (same (by omega))
    · exact nx _ (same (by omega))
  · refine Gives.of_some ?_
    rw [h4, List.take_of_length_le (by omega), List.drop_eq_nil_of_le (by omega), List.append_nil]; rfl
/-! cuts. -/
def spl (k : Int) : List Int → List (List Int)
  | [] => [[]]
  | c :: r => if c = k then [] :: spl k r else match spl k r with
    | h :: t => (c :: h) :: t
    | [] => [[c]]
theorem spl_ne (k : Int) : ∀ s, spl k s ≠ []
  | [] => by simp [spl]
  | c :: r => by
    unfold spl
    split
    · simp
    · split <;> simp
theorem spl_no {k : Int} : ∀ {s : List Int}, k ∉ s → spl k s = [s]
  | [], _ => rfl
  | c :: r, h => by
    have h1 : ¬ c = k := fun e => h (by simp [e])
    have h2 : k ∉ r := fun e => h (by simp [e])
    rw [spl, if_neg h1, spl_no h2]
theorem spl_app {k : Int} : ∀ (a b : List Int), k ∉ a → spl k (a ++ k :: b) = a :: spl k b
  | [], b, _ => by simp [spl]
  | c :: r, b, h => by
    have h1 : ¬ c = k := fun e => h (by simp [e])
    have h2 : k ∉ r := fun e => h (by simp [e])
    rw [List.cons_append, spl, if_neg h1, spl_app r b h2]
theorem spl_piece {k : Int} : ∀ (s : List Int), ∀ x ∈ spl k s, k ∉ x ∧ x.length ≤ s.length ∧ ∀ c ∈ x, c ∈ s
  | [], x, hx => by simp [spl] at hx; subst hx; simp
  | c :: r, x, hx => by
    unfold spl at hx
    split at hx
    · rcases List.mem_cons.1 hx with rfl | hx
      · simp
      · obtain ⟨h1, h2, h3⟩ := spl_piece r x hx
        exact ⟨h1, by simp; omega, fun d hd => by simp [h3 d hd]⟩
    · rename_i hc
      split at hx
      · rename_i h t e
        rcases List.mem_cons.1 hx with rfl | hx
        · obtain ⟨h1, h2, h3⟩ := spl_piece r h (by rw [e]; simp)
          refine ⟨by simp [h1]; exact fun e => hc e.symm, by simp; omega, fun d hd => ?_⟩
          rcases List.mem_cons.1 hd with rfl | hd
          · simp
          · simp [h3 d hd]
        · obtain ⟨h1, h2, h3⟩ := spl_piece r x (by rw [e]; simp [hx])
          exact ⟨h1, by simp; omega, fun d hd => by simp [h3 d hd]⟩
      · rename_i e
        exact absurd e (spl_ne k r)
theorem spl_count (k : Int) : ∀ s : List Int, (spl k s).length = s.count k + 1
  | [] => rfl
  | c :: r => by
    have ih := spl_count k r
    unfold spl
    by_cases hc : c = k
    · rw [if_pos hc]; simp [ih, hc]
    · rw [if_neg hc]
      split
      · rename_i h t e; rw [e] at ih; simp at ih; simp [List.count_cons, hc, ih]
      · rename_i e; exact absurd e (spl_ne k r)
/-- where the byte first stands. -/
theorem ixb_case (s : List Int) (k : Int) : (ixb s k = -1 ∧ k ∉ s) ∨ ∃ i : Nat, ixb s k = (i : Int) ∧ i < s.length ∧ k ∉ s.take i ∧ s = s.take i ++ k :: s.drop (i + 1) := by
  induction s with
  | nil => exact .inl ⟨rfl, by simp⟩
  | cons b l ih =>
    by_cases hb : b = k
    · refine .inr ⟨0, by simp [ixb, hb], by simp, by simp, by simp [hb]⟩
    · rcases ih with ⟨e, hm⟩ | ⟨i, e, h1, h2, h3⟩
      · exact .inl ⟨by simp [ixb, hb, e], by simp [hm]; exact fun e => hb e.symm⟩
      · refine .inr ⟨i + 1, ?_, by simp; omega, ?_, ?_⟩
        · simp only [ixb, if_neg hb, e]; rw [if_neg (by omega)]; omega
        · simp [h2]; exact fun e => hb e.symm
        · simpa using h3
theorem index_v (n : Nat) (s : List Int) (k : Int) : index n (s, [k]) = some (ixb s k) := by
  unfold index
  dsimp only
  rw [if_neg (by simp)]
  by_cases h : ([k] : List Int) = s
  · subst h
    rw [if_pos (by simp)]; simp [ixb]
  · rw [if_neg (by simpa using h), if_pos (by simp)]
    rfl
theorem stringsIndex_v (n : Nat) (s : List Int) (k : Int) : stringsIndex n (s, [k]) = some (ixb s k) := by
  unfold stringsIndex; dsimp only; rw [index_v]; rfl
theorem genSplit_v (n : Nat) (x : List Int) (k : Int) (hl : x.length ≤ 8796093022206) (hn : x.length + 1 < n) : genSplit n (x, ([k], ((0 : Int), (-1 : Int)))) = some (spl k x) := by
  refine Gives.eq ?_
  unfold genSplit
  dsimp only
  have hc := List.count_le_length (a := k) (l := x)
  refine Gives.eneg (by decide) ?_
  refine Gives.neg (by simp) ?_
  refine Gives.bind_eq (r := Out.go (x, ([k], ((0 : Int), ((x.count k + 1 : Nat) : Int))))) ?_ ?_
  · rw [if_pos (by decide)]
    show Option.bind (some (cnb x k)) _ = _
    simp only [Option.bind_some, cnb]
    rw [wrap64 (by omega) (by omega)]; rfl
  dsimp only
  have hu : IntKind.wrap .i64 ((x.length : Int) + 1) = ((x.length + 1 : Nat) : Int) := by rw [wrap64 (by omega) (by omega)]; omega
  rw [hu]
  have hmin : (if ((x.length + 1 : Nat) : Int) < ((x.count k + 1 : Nat) : Int) then ((x.length + 1 : Nat) : Int) else ((x.count k + 1 : Nat) : Int)) = ((x.count k + 1 : Nat) : Int) := by rw [if_neg (by omega)]
  simp only [hmin]
  refine Gives.pos (by omega) ?_
  have hw : IntKind.wrap .i64 (((x.count k + 1 : Nat) : Int) - 1) = ((x.count k : Nat) : Int) := by rw [wrap64 (by omega) (by omega)]; omega
  rw [hw, Int.toNat_natCast]
  refine Gives.loop (I := fun z => z.2.1 = [k] ∧ z.2.2.1 = 0 ∧ z.2.2.2.1 = ((x.count k : Nat) : Int) ∧ ∃ i : Nat, z.2.2.2.2.1 = (i : Int) ∧ z.2.2.2.2.2.length = x.count k + 1 ∧ i + z.1.count k = x.count k ∧ spl k x = z.2.2.2.2.2.take i ++ spl k z.1 ∧ z.1.length ≤ x.length) (μ := fun z => z.1.length) ?_ n _ ⟨rfl, rfl, rfl, 0, rfl, by simp, by simp, by simp, Nat.le_refl _⟩ (by simp; omega)
  rintro rec ⟨s, a17, a18, a19, a20, arr⟩ ⟨h1, h2, h3, i, h4, h5, h6, h7, h8⟩ hrec
  dsimp only at h1 h2 h3 h4 h5 h6 h7 h8 hrec ⊢
  subst h1 h2 h3 h4
  have fin : s.count k = 0 → Gives (if 0 ≤ (i : Int) ∧ (i : Int) < (arr.length : Int) then
      (let u29 : Int := (IntKind.wrap .i64 ((i : Int) + (1 : Int)))
      (if 0 ≤ (0 : Int) ∧ (0 : Int) ≤ u29 ∧ u29 ≤ ((arr.set (i : Int).toNat s).length : Int) then
      (let u30 : List (List Int) := ((arr.set (i : Int).toNat s).take u29.toNat)
      some u30)
      else none))
      else none) (· = spl k x) := fun h0 => by
    have hi : i < arr.length := by omega
    refine Gives.pos (by omega) ?_
    have hwi : IntKind.wrap .i64 ((i : Int) + 1) = ((i + 1 : Nat) : Int) := by rw [wrap64 (by omega) (by omega)]; omega
    dsimp only
    rw [hwi, Int.toNat_natCast, Int.toNat_natCast]
    refine Gives.pos (by simp; omega) (Gives.of_some ?_)
    rw [h7, spl_no (List.count_eq_zero.1 h0), take_succ _ i [] (by simpa using hi)]
    congr 1
    · rw [List.take_set_of_le (Nat.le_refl i)]
    · simp [List.getD_eq_getElem?_getD, hi]
  refine Gives.dite (fun hlt => ?_) (fun hge => ?_)
  · rw [stringsIndex_v]
    refine Gives.bind_eq rfl ?_
    rcases ixb_case s k with ⟨e, hm⟩ | ⟨j, e, hj1, hj2, hj3⟩
    · have := List.count_eq_zero.2 hm
      omega
    · rw [e]
      have hi : i < arr.length := by omega
      have hwi : IntKind.wrap .i64 ((i : Int) + 1) = ((i + 1 : Nat) : Int) := by rw [wrap64 (by omega) (by omega)]; omega
      have hwj : IntKind.wrap .i64 ((j : Int) + 0) = (j : Int) := by rw [wrap64 (by omega) (by omega)]; omega
      have hwk : IntKind.wrap .i64 ((j : Int) + (([k] : List Int).length : Int)) = ((j + 1 : Nat) : Int) := by
        rw [show (([k] : List Int).length : Int) = 1 from rfl, wrap64 (by omega) (by omega)]; omega
      refine Gives.dneg (by omega) ?_
      rw [hwj, hwi, hwk]
      refine Gives.pos (by omega) ?_
      refine Gives.pos (by omega) ?_
      refine Gives.pos (by omega) ?_
      simp only [Int.toNat_natCast, List.drop_zero, Nat.sub_zero]
      have htk : (s.drop (j + 1)).take (s.length - (j + 1)) = s.drop (j + 1) := List.take_of_length_le (by simp)
      rw [htk]
      have hcnt : s.count k = 1 + (s.drop (j + 1)).count k := by
        conv => lhs; rw [hj3]
        rw [List.count_append, List.count_eq_zero.2 hj2, List.count_cons]; simp; omega
      refine hrec _ ⟨rfl, rfl, rfl, i + 1, rfl, by simpa using h5, ?_, ?_, by simp; omega⟩ ?_
      · show i + 1 + (s.drop (j + 1)).count k = _
        omega
      · show _ = (arr.set i (s.take j)).take (i + 1) ++ spl k (s.drop (j + 1))
        rw [h7]
        conv => lhs; rw [hj3, spl_app _ _ hj2]
        rw [take_succ _ i [] (by simpa using hi), List.take_set_of_le (Nat.le_refl i)]
        simp [List.getD_eq_getElem?_getD, hi]
      · simp; omega
  · exact fin (by omega)
theorem split_v (n : Nat) (x : List Int) (k : Int) (hl : x.length ≤ 8796093022206) (hn : x.length + 1 < n) : stringsSplit n (x, [k]) = some (spl k x) := by
  unfold stringsSplit
  dsimp only
  rw [genSplit_v n x k hl hn]; rfl
/-! joins. -/
def jn (k : Int) : List (List Int) → List Int
  | [] => []
  | a :: r => a ++ r.flatMap (fun b => k :: b)
theorem jn_spl (k : Int) : ∀ s : List Int, jn k (spl k s) = s
  | [] => rfl
  | c :: r => by
    have ih := jn_spl k r
    unfold spl
    split
    · rename_i hc
      cases e : spl k r with
      | nil => exact absurd e (spl_ne k r)
      | cons h t => rw [e] at ih; simp [jn] at ih; simp [jn, hc, ih]
    · split
      · rename_i h t e; rw [e] at ih; simp [jn] at ih; simp [jn, ih]
      · rename_i e; exact absurd e (spl_ne k r)
theorem spl_jn {k : Int} : ∀ (l : List (List Int)), l ≠ [] → (∀ x ∈ l, k ∉ x) → spl k (jn k l) = l
  | [], h, _ => absurd rfl h
  | [a], _, h => by simp only [jn, List.flatMap_nil, List.append_nil]; exact spl_no (h a (by simp))
  | a :: b :: r, _, h => by
    have := spl_jn (b :: r) (by simp) (fun x hx => h x (by simp [List.mem_cons.1 hx]))
    simp only [jn, List.flatMap_cons, List.cons_append] at this ⊢
    rw [spl_app a _ (h a (by simp)), this]
end Go.Sx.YtmhimaefondndaaDoor
