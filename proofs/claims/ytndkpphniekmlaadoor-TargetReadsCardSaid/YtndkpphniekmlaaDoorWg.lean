/- Part of a proof by a small interpreter on plain values; no condition. -/
import Derived.Test.YtndkpphniekmlaaDoorWf
namespace Go.Sx.YtndkpphniekmlaaDoor
open Go Go.Sx Go.Proofs
set_option autoImplicit false
set_option linter.unusedVariables false
set_option linter.unusedSimpArgs false
/-! the document's segments. -/
def tw (s : List Int) : List Int := match s with
  | [] => []
  | c :: r => if c = 47 then [] else c :: tw r
def sg : List Int → List (List Int)
  | [] => []
  | c :: r => if c = 47 then tw r :: sg r else sg r
theorem spl_sg : ∀ r : List Int, spl 47 r = tw r :: sg r
  | [] => rfl
  | c :: r => by
    rw [spl, tw, sg, spl_sg r]
    split <;> rfl
theorem sg_slash (r : List Int) : sg (47 :: r) = spl 47 r := by rw [sg, if_pos rfl, spl_sg]
theorem rSegs_v (n : Nat) {s : List Int} (hl : s.length ≤ 100000000) (hn : 100000000 < n) : turnstileref08RSegments n s = some (sg s) := by
  refine Gives.eq ?_
  unfold turnstileref08RSegments
  refine Gives.loop (I := fun z => z.1 = s ∧ ∃ i : Nat, z.2.1 = (i : Int) ∧ i ≤ s.length ∧ z.2.2.length ≤ i ∧ z.2.2 ++ sg (s.drop i) = sg s) (μ := fun z => s.length - z.2.1.toNat) ?_ n _ ⟨rfl, 0, rfl, by omega, by simp, rfl⟩ (by simp; omega)
  rintro rec ⟨a4, a5, a6⟩ ⟨e1, i, e2, e3, e4, e5⟩ hrec
  dsimp only at e1 e2 e4 e5 hrec ⊢
  subst e1 e2
  refine Gives.dite (fun hlt => ?_) (fun hge => ?_)
  · have hi : i < a4.length := by omega
    rw [drop_cons a4 i 0 hi, sg] at e5
    refine Gives.idx 0 (by omega) hlt ?_
    rw [Int.toNat_natCast, wr1 hi (by omega)]
    refine Gives.nite (fun h47 => ?_) (fun h47 => ?_)
    · rw [if_neg h47] at e5
      exact hrec _ ⟨rfl, i + 1, rfl, by omega, by dsimp only; omega, e5⟩ (by dsimp only; omega)
    · rw [if_pos h47] at e5
      have nx : ∀ p : List Int, p = tw (a4.drop (i + 1)) → Gives (rec (a4, (((i + 1 : Nat) : Int), a6 ++ [p]))) (· = sg a4) := fun p e =>
        hrec _ ⟨rfl, i + 1, rfl, by omega, by simp; omega, by rw [← e5, e]; simp⟩ (by dsimp only; omega)
      clear hrec
      refine Gives.loop (I := fun z => z.1 = a4 ∧ z.2.1 = (i : Int) ∧ z.2.2.2 = a6 ∧ ∃ k : Nat, z.2.2.1 = (k : Int) ∧ i + 1 ≤ k ∧ k ≤ a4.length ∧ (a4.drop (i + 1)).take (k - (i + 1)) ++ tw (a4.drop k) = tw (a4.drop (i + 1))) (μ := fun z => a4.length - z.2.2.1.toNat) ?_ n _ ⟨rfl, rfl, rfl, i + 1, rfl, by omega, by omega, by simp⟩ (by simp; omega)
      rintro rec2 ⟨b1, b2, b3, b4⟩ ⟨f1, f2, f3, k, f4, f5, f6, f7⟩ hrec2
      dsimp only at f1 f2 f3 f4 hrec2 ⊢
      subst f1 f2 f3 f4
      have fin : tw (b1.drop k) = [] → Gives (let u19 : Int := (IntKind.wrap .i64 ((i : Int) + (1 : Int)))
          (if 0 ≤ u19 ∧ u19 ≤ (k : Int) ∧ (k : Int) ≤ (b1.length : Int) then
          (let u20 : List Int := ((b1.drop u19.toNat).take ((k : Int).toNat - u19.toNat))
          (if (b4.length + 1) * 16 ≤ 140737488355328 then
          (let u21 : Int := (IntKind.wrap .i64 ((i : Int) + (1 : Int)))
          rec (b1, (u21, (b4 ++ ([u20] : List (List Int))))))
          else none))
          else none)) (· = sg b1) := fun hz => by
        dsimp only
        rw [wr1 hi (by omega)]
        refine Gives.pos (by omega) ?_
        refine Gives.pos (by omega) ?_
        rw [Int.toNat_natCast, Int.toNat_natCast]
        exact nx _ (by rw [← f7, hz]; simp)
      refine Gives.dite (fun hlt2 => ?_) (fun hge2 => fin (by rw [show k = b1.length by omega, List.drop_length]; rfl))
      have hk : k < b1.length := by omega
      refine Gives.idx 0 (by omega) hlt2 ?_
      rw [Int.toNat_natCast]
      rw [drop_cons b1 k 0 hk, tw] at f7
      refine Gives.nite (fun g => ?_) (fun g => fin (by rw [drop_cons b1 k 0 hk, tw, if_pos g]))
      rw [if_neg g] at f7
      rw [wr1 hk (by omega)]
      refine hrec2 _ ⟨rfl, rfl, rfl, k + 1, rfl, by omega, by omega, ?_⟩ (by dsimp only; omega)
      rw [← f7, show k + 1 - (i + 1) = (k - (i + 1)) + 1 by omega, take_succ (b1.drop (i + 1)) (k - (i + 1)) 0 (by simp; omega)]
      have : (b1.drop (i + 1)).getD (k - (i + 1)) 0 = b1.getD k 0 := by simp [List.getD_eq_getElem?_getD, List.getElem?_drop, show i + 1 + (k - (i + 1)) = k by omega]
      rw [this]; simp
  · refine Gives.of_some ?_
    rw [← e5, show i = a4.length by omega, List.drop_length]; simp [sg]
theorem stk_ne : ∀ (l out o : List (List Int)), l ≠ [] → stk out l = some o → o ≠ []
  | [], out, o, h, _ => absurd rfl h
  | y :: l, out, o, _, h => by
    rw [stk] at h
    by_cases hl : l = []
    · subst hl
      simp only [if_true, stk] at h
      split at h
      · split at h
        · cases h
        · injection h with h; subst h; simp
      · split at h <;> (injection h with h; subst h; simp)
    · split at h
      · split at h
        · cases h
        · exact stk_ne l _ o hl h
      · split at h <;> exact stk_ne l _ o hl h
theorem jn_flat {k : Int} : ∀ {o : List (List Int)}, o ≠ [] → o.flatMap (fun b => k :: b) = k :: jn k o
  | [], h => absurd rfl h
  | a :: r, _ => by simp [jn]
theorem rNormal_v (n : Nat) {s : List Int} (h : TX s) (hn : 300000000 < n) : rNormal n s = some (normP s) := by
  have hl := h.2
  refine Gives.eq ?_
  unfold rNormal
  refine Gives.bind_eq (rPath_v n h (by omega)) ?_
  unfold normP
  refine Gives.ite (fun hp => Gives.of_some (by rw [if_neg (by simpa using hp)])) (fun hr1 => ?_)
  have hp : pathP s = true := by simpa using hr1
  obtain ⟨r0, hr0⟩ := path_ne hp
  rw [if_pos hp]
  refine Gives.bind_eq (rMeant_v n h (by omega)) ?_
  have hml := meant_len s
  have hmt : meantP s = 47 :: (meantP s).drop 1 := by rw [hr0, meant_slash]; rfl
  refine Gives.bind_eq (rSegs_v n (by omega) (by omega)) ?_
  have hsg : sg (meantP s) = spl 47 ((meantP s).drop 1) := by rw [← sg_slash, ← hmt]
  rw [hsg]
  have hdl : ((meantP s).drop 1).length ≤ 20000000 := by simp; omega
  have hjl := jn_len 47 (spl 47 ((meantP s).drop 1))
  rw [jn_spl] at hjl
  have hcl := spl_count 47 ((meantP s).drop 1)
  have hcc := List.count_le_length (a := (47 : Int)) (l := (meantP s).drop 1)
  have hne := spl_ne 47 ((meantP s).drop 1)
  generalize spl 47 ((meantP s).drop 1) = L at hjl hcl hne
  have hLl : L.length ≤ 20000001 := by omega
  have hsL : sumL L ≤ 20000000 := by omega
  clear hsg hmt
  refine Gives.loop (I := fun z => z.1 = L ∧ ∃ j : Nat, z.2.1 = (j : Int) ∧ j ≤ L.length ∧ z.2.2.length ≤ j ∧ sumL z.2.2 ≤ sumL (L.take j) ∧ stk z.2.2 (L.drop j) = stk [] L) (μ := fun z => L.length - z.2.1.toNat) ?_ n _ ⟨rfl, 0, rfl, by omega, by simp, by simp [sumL], rfl⟩ (by simp; omega)
  rintro rec ⟨b2, b4, out⟩ ⟨f1, j, f4, f5, f6, f7, f8⟩ hrec
  dsimp only at f1 f4 f6 f7 f8 hrec ⊢
  subst f1 f4
  refine Gives.dite (fun hlt => ?_) (fun hge => ?_)
  · have hj : j < b2.length := by omega
    have hst := sumL_take b2 j hj
    have hle := sumL_le b2 (j + 1)
    have hw : IntKind.wrap .i64 ((j : Int) + 1) = ((j + 1 : Nat) : Int) := by rw [wrap64 (by omega) (by omega)]; omega
    have hwl : IntKind.wrap .i64 ((b2.length : Int) - 1) = ((b2.length - 1 : Nat) : Int) := by rw [wrap64 (by omega) (by omega)]; omega
    rw [hwl]
    refine Gives.idx [] (by omega) hlt ?_
    rw [Int.toNat_natCast]
    rw [drop_cons b2 j [] hj, stk] at f8
    have sapp : ∀ (o : List (List Int)) (x : List Int), sumL (o ++ [x]) = sumL o + x.length := fun o x => by simp [sumL]
    have nx : ∀ o : List (List Int), o.length ≤ j + 1 → sumL o ≤ sumL (b2.take (j + 1)) → stk o (b2.drop (j + 1)) = stk [] b2 → Gives (rec (b2, (((j + 1 : Nat) : Int), o))) (· = match stk [] b2 with | none => ([], 23) | some o => (47 :: jn 47 o, 0)) := fun o h1 h2 h3 =>
      hrec _ ⟨rfl, j + 1, rfl, by omega, h1, h2, h3⟩ (by dsimp only; omega)
    have hlast : b2.drop (j + 1) = [] ↔ (j : Int) = ((b2.length - 1 : Nat) : Int) := by rw [List.drop_eq_nil_iff]; omega
    generalize hy : b2.getD j [] = y at *
    have hix : idx b2 (j : Int) = some y := by rw [idx_eq [] (by omega) hlt, Int.toNat_natCast, hy]
    refine Gives.bind_eq (r := Out.go (b2, ((j : Int), (((j : Int) == ((b2.length - 1 : Nat) : Int)), (decide (y = [46] ∨ y = [46, 46]), out))))) ?_ ?_
    · by_cases hd : y = [46]
      · rw [if_pos (by simpa using hd)]; simp [hd]
      · rw [if_neg (by simpa using hd)]
        have : (y == [46, 46]) = decide (y = [46] ∨ y = [46, 46]) := by rw [Bool.eq_iff_iff]; simp [hd]
        rw [this]
    · dsimp only
      refine Gives.dite (fun hdd => ?_) (fun hdd => ?_)
      · refine Gives.bind_eq hix ?_
        refine Gives.ite (fun hx => ?_) (fun hx => ?_)
        · rw [if_pos (by simpa using hx)] at f8
          refine Gives.eite (fun h0 => Gives.of_some ?_) (fun h0 => ?_)
          · rw [if_pos (List.eq_nil_of_length_eq_zero (by omega))] at f8
            rw [← f8]
          have hw2 : IntKind.wrap .i64 ((out.length : Int) - 1) = ((out.length - 1 : Nat) : Int) := by rw [wrap64 (by omega) (by omega)]; omega
          rw [if_neg (fun e => h0 (by rw [e]; rfl)), List.dropLast_eq_take] at f8
          rw [hw2, Int.toNat_natCast, hw]
          have htl := sumL_le out (out.length - 1)
          refine Gives.pos (by omega) ?_
          refine Gives.eite (fun hla => ?_) (fun hla => ?_)
          · rw [if_pos (hlast.2 hla)] at f8
            refine Gives.pos (by simp; omega) ?_
            exact nx _ (by simp; omega) (by rw [sapp]; simp; omega) f8
          · rw [if_neg (fun e => hla (hlast.1 e))] at f8
            exact nx _ (by simp; omega) (by omega) f8
        · have hx' : y ≠ [46, 46] := by simpa using hx
          rw [if_neg hx'] at f8
          rw [if_pos (hdd.resolve_right hx')] at f8
          rw [hw]
          refine Gives.eite (fun hla => ?_) (fun hla => ?_)
          · rw [if_pos (hlast.2 hla)] at f8
            refine Gives.pos (by omega) ?_
            exact nx _ (by simp; omega) (by rw [sapp]; simp; omega) f8
          · rw [if_neg (fun e => hla (hlast.1 e))] at f8
            exact nx _ (by omega) (by omega) f8
      · rw [if_neg (fun e => hdd (.inr e)), if_neg (fun e => hdd (.inl e))] at f8
        refine Gives.bind_eq hix ?_
        rw [hw]
        refine Gives.pos (by omega) ?_
        exact nx _ (by simp; omega) (by rw [sapp]; omega) f8
  · have hle := sumL_le b2 j
    have hso : stk [] b2 = some out := by rw [← f8, show j = b2.length by omega, List.drop_length]; rfl
    have hno := stk_ne _ _ _ hne hso
    rw [hso]
    show Gives _ (· = (47 :: jn 47 out, (0 : Int)))
    rw [← jn_flat hno]
    have hfl := fm_len 47 out
    refine Gives.loop (I := fun z => z.2.1 = out ∧ ∃ k : Nat, z.1 = (k : Int) ∧ k ≤ out.length ∧ z.2.2 = (out.take k).flatMap (fun b => 47 :: b)) (μ := fun z => out.length - z.1.toNat) ?_ n _ ⟨rfl, 0, rfl, by omega, by simp⟩ (by simp; omega)
    rintro rec2 ⟨c1, c2, c3⟩ ⟨g1, k, g2, g3, g4⟩ hrec2
    dsimp only at g1 g2 g4 hrec2 ⊢
    subst g1 g2
    have hfk := fm_len 47 (c2.take k)
    rw [← g4] at hfk
    have hsk := sumL_le c2 k
    refine Gives.dite (fun hlt2 => ?_) (fun hge2 => Gives.of_some (by rw [g4, show k = c2.length by omega, List.take_length]))
    have hk : k < c2.length := by omega
    have hsk2 := sumL_le c2 (k + 1)
    have hstk := sumL_take c2 k hk
    refine Gives.pos (by rw [hfk]; simp; omega) ?_
    refine Gives.pos (by omega) ?_
    rw [Int.toNat_natCast]
    have hlk : (c3 ++ [47]).length = c3.length + 1 := by simp
    refine Gives.pos (by rw [hlk, hfk]; simp only [List.length_take]; omega) ?_
    rw [show IntKind.wrap .i64 ((k : Int) + 1) = ((k + 1 : Nat) : Int) by rw [wrap64 (by omega) (by omega)]; omega]
    refine hrec2 _ ⟨rfl, k + 1, rfl, by omega, ?_⟩ (by dsimp only; omega)
    dsimp only
    rw [g4, take_succ c2 k [] hk]; simp
theorem rSegments_v (n : Nat) {s : List Int} (h : TX s) (hn : 300000000 < n) : rSegments n s = some (segP s) := by
  refine Gives.eq ?_
  unfold rSegments segP
  refine Gives.bind_eq (rNormal_v n h hn) ?_
  refine Gives.nite (fun h0 => Gives.of_some (by rw [if_neg h0])) (fun h0 => ?_)
  rw [if_pos h0]
  obtain ⟨o, _, ho, _⟩ := norm_zero h0
  have hT := norm_TX h
  have hl := hT.2
  have h1 : sg (normP s).1 = spl 47 ((normP s).1.drop 1) := by rw [ho]; exact sg_slash _
  generalize (normP s).1 = p at hl h1 hT
  refine Gives.bind_eq (rSegs_v n (by omega) (by omega)) ?_
  rw [h1]
  have hpc := spl_piece (k := 47) (p.drop 1)
  generalize spl 47 (p.drop 1) = L at hpc
  refine Gives.dite (fun h64 => Gives.of_some (by rw [if_pos (by omega)])) (fun h64 => ?_)
  rw [if_neg (by omega)]
  refine Gives.loop (I := fun z => z.1 = L ∧ ∃ i : Nat, z.2.1 = (i : Int) ∧ i ≤ L.length ∧ z.2.2 = (L.take i).map (fun x => (decV x).1)) (μ := fun z => L.length - z.2.1.toNat) ?_ n _ ⟨rfl, 0, rfl, by omega, by simp⟩ (by simp; omega)
  rintro rec ⟨a7, a8, a9⟩ ⟨e1, i, e2, e3, e4⟩ hrec
  dsimp only at e1 e2 e4 hrec ⊢
  subst e1 e2
  refine Gives.dite (fun hlt => ?_) (fun hge => ?_)
  · have hi : i < a7.length := by omega
    have hlen : a9.length = i := by rw [e4]; simp; omega
    refine Gives.idx [] (by omega) hlt ?_
    rw [Int.toNat_natCast]
    have hm := hpc _ (getD_mem (d := []) hi)
    have hTX : TX (a7.getD i []) := ⟨fun c hc => (hT.1.drop 1) c (hm.2.2 c hc), by have := hm.2.1; simp at this; simp only [List.getD_eq_getElem?_getD]; omega⟩
    refine Gives.bind_eq (rDecode_v n hTX (by omega)) ?_
    refine Gives.pos (by omega) ?_
    rw [wrap64 (by omega) (by omega)]
    refine hrec _ ⟨rfl, i + 1, by simp, by omega, ?_⟩ (by dsimp only; omega)
    dsimp only
    rw [e4, take_succ a7 i [] hi, List.map_append]; rfl
  · refine Gives.of_some ?_
    rw [e4, show i = a7.length by omega]; simp
/-! the law. -/
theorem num_v (n : Nat) (x : Int) : turnstilelaw08Num n x = some x := by
  unfold turnstilelaw08Num
  by_cases h : x = 0
  · rw [if_pos (by simpa using h), h]
  · rw [if_neg (by simpa using h), if_neg (by simpa using h)]
theorem same_v (n : Nat) (l : List (List Int)) (hl : l.length ≤ 100000000) (hn : 100000000 < n) : same n (l, l) = some true := by
  refine Gives.eq ?_
  unfold same
  dsimp only
  rw [if_neg (by simp)]
  refine Gives.loop (I := fun z => z.1 = l ∧ z.2.1 = l ∧ ∃ i : Nat, z.2.2 = (i : Int) ∧ i ≤ l.length) (μ := fun z => l.length - z.2.2.toNat) ?_ n _ ⟨rfl, rfl, 0, rfl, by omega⟩ (by simp; omega)
  rintro rec ⟨a5, a6, a7⟩ ⟨e1, e2, i, e3, e4⟩ hrec
  dsimp only at e1 e2 e3 hrec ⊢
  subst e1 e2 e3
  refine Gives.dite (fun hlt => ?_) (fun hge => Gives.of_some rfl)
  refine Gives.idx [] (by omega) hlt ?_
  refine Gives.idx [] (by omega) hlt ?_
  refine Gives.neg (by simp) ?_
  rw [wrap64 (by omega) (by omega)]
  exact hrec _ ⟨rfl, rfl, i + 1, by simp, by omega⟩ (by dsimp only; omega)
theorem works_v : works FU () = some true := by kernel_rfl
theorem seg_len (s : List Int) (h : TX s) : (segP s).1.length ≤ 100000000 := by
  unfold segP
  split
  · split
    · simp
    · rw [List.length_map]; omega
  · simp
theorem targetPaths_f {s : List Int} (h : TX s) : targetPaths FU s = some true := by
  unfold targetPaths
  rw [normal_v FU h (by decide), Option.bind_some, rNormal_v FU h (by decide), Option.bind_some, segments_v FU h (by decide), Option.bind_some, rSegments_v FU h (by decide), Option.bind_some, if_pos (by simp), num_v, Option.bind_some, if_pos (by simp), same_v FU _ (seg_len s h) (by decide), Option.bind_some, if_pos rfl, num_v, Option.bind_some, if_pos (by simp), works_v]
  rfl
end Go.Sx.YtndkpphniekmlaaDoor
