/- Part of a proof by a small interpreter on plain values; no condition. -/
import Derived.Test.YtndkpphniekmlaaDoorWd
namespace Go.Sx.YtndkpphniekmlaaDoor
open Go Go.Sx Go.Proofs
set_option autoImplicit false
set_option linter.unusedVariables false
set_option linter.unusedSimpArgs false
/-! the segments that are left, one behind the other. -/
def stk : List (List Int) → List (List Int) → Option (List (List Int))
  | out, [] => some out
  | out, x :: l =>
    if x = [46, 46] then (if out = [] then none else stk (if l = [] then out.dropLast ++ [[]] else out.dropLast) l)
    else if x = [46] then stk (if l = [] then out ++ [[]] else out) l
    else stk (out ++ [x]) l
def normP (s : List Int) : List Int × Int := if pathP s = true then (match stk [] (spl 47 ((meantP s).drop 1)) with | none => ([], 23) | some o => (47 :: jn 47 o, 0)) else ([], 23)
theorem enc1_BL {c : Int} (h : 0 ≤ c ∧ c ≤ 255) : BL (enc1 c) := by
  intro x hx
  simp only [enc1, hdg, List.mem_cons, List.not_mem_nil, or_false] at hx
  rcases hx with rfl | rfl | rfl
  · omega
  · split <;> omega
  · split <;> omega
theorem path_ne {s : List Int} (h : pathP s = true) : ∃ r, s = 47 :: r := by
  unfold pathP at h
  simp only [Bool.and_eq_true, decide_eq_true_eq] at h
  cases s with
  | nil => simp at h
  | cons a r => simp at h; exact ⟨r, by rw [h.1]⟩
theorem meant_slash (r : List Int) : meantP (47 :: r) = 47 :: meantP r := by
  rw [meantP]
  have : (cd (47 :: r)).2 ≠ true := fun h => by obtain ⟨a, b, r', e, _⟩ := cd_inv h; cases e
  rw [if_neg this]
theorem normal_v (n : Nat) {s : List Int} (h : TX s) (hn : 300000000 < n) : normal n s = some (normP s) := by
  have hl := h.2
  refine Gives.eq ?_
  unfold normal
  refine Gives.bind_eq (isPath_v n h (by omega)) ?_
  unfold normP
  refine Gives.ite (fun hp => Gives.of_some (by rw [if_neg (by simpa using hp)])) (fun hr1 => ?_)
  have hp : pathP s = true := by simpa using hr1
  obtain ⟨r0, hr0⟩ := path_ne hp
  rw [if_pos hp]
  refine Gives.loop (I := fun z => z.1 = s ∧ ∃ i : Nat, z.2.1 = (i : Int) ∧ i ≤ s.length ∧ z.2.2.length ≤ i ∧ BL z.2.2 ∧ z.2.2 ++ meantP (s.drop i) = meantP s) (μ := fun z => s.length - z.2.1.toNat) ?_ n _ ⟨rfl, 0, rfl, by omega, by simp, fun c hc => (nomatch hc), rfl⟩ (by simp; omega)
  rintro rec ⟨a5, a6, a7⟩ ⟨e1, i, e2, e3, e4, e5, e6⟩ hrec
  dsimp only at e1 e2 e4 e5 e6 hrec ⊢
  subst e1 e2
  refine Gives.dite (fun hlt => ?_) (fun hge => ?_)
  · have hi : i < a5.length := by omega
    have hb := h.1.at hi
    rw [code_v n h.1 (by omega) hi, Option.bind_some]
    rw [drop_cons a5 i 0 hi, meantP, ← drop_cons a5 i 0 hi, ← codeV_cd] at e6
    refine Gives.ite (fun hc => ?_) (fun hc => ?_)
    · rw [if_neg (by simpa using hc)] at e6
      refine Gives.idx 0 (by omega) hlt ?_
      rw [Int.toNat_natCast, bldByte_v n _ _ (by omega), Option.bind_some, wr1 hi (by omega)]
      exact hrec _ ⟨rfl, i + 1, rfl, by omega, by simp; omega, e5.app (fun c hc => by rw [List.mem_singleton.1 hc]; exact hb), by rw [← e6]; simp⟩ (by dsimp only; omega)
    · have hok : (codeV a5 i).2 = true := by simpa using hc
      have hlt2 := codeV_lt hok
      have hr := codeV_range a5 i
      rw [if_pos hok, drop3] at e6
      rw [unreserved_v n hr, Option.bind_some, wr3 hi (by omega)]
      refine Gives.ite (fun hu => ?_) (fun hu => ?_)
      · rw [if_pos hu] at e6
        rw [bldByte_v n _ _ (by omega), Option.bind_some]
        exact hrec _ ⟨rfl, i + 3, rfl, by omega, by simp; omega, e5.app (fun c hc => by rw [List.mem_singleton.1 hc]; exact hr), by rw [← e6]; simp⟩ (by dsimp only; omega)
      · rw [if_neg hu] at e6
        have l3 : (enc1 (codeV a5 i).1).length = 3 := rfl
        refine Gives.bind_eq (coded_v n hr) ?_
        rw [bldStr_v n _ a7 (by omega), Option.bind_some]
        exact hrec _ ⟨rfl, i + 3, rfl, by omega, by simp; omega, e5.app (enc1_BL hr), by rw [← e6]; simp⟩ (by dsimp only; omega)
  · clear hrec
    refine Gives.bind_eq (show bldString n a7 = some a7 from rfl) ?_
    have hi : i = a5.length := by omega
    have e7 : a7 = meantP a5 := by rw [← e6, hi, List.drop_length]; simp [meantP]
    rw [← e7]
    have h7 : 1 ≤ a7.length := by rw [e7, hr0, meant_slash]; simp
    refine Gives.pos (by omega) ?_
    have htk : (a7.drop 1).take (((a7.length : Int)).toNat - 1) = a7.drop 1 := List.take_of_length_le (by simp)
    rw [htk]
    have hd : (a7.drop 1).length ≤ 20000000 := by simp; omega
    refine Gives.bind_eq (split_v n (a7.drop 1) 47 (by omega) (by omega)) ?_
    have hjl := jn_len 47 (spl 47 (a7.drop 1))
    rw [jn_spl] at hjl
    have hcl := spl_count 47 (a7.drop 1)
    have hcc := List.count_le_length (a := (47 : Int)) (l := a7.drop 1)
    generalize spl 47 (a7.drop 1) = L at hjl hcl
    have hLl : L.length ≤ 20000001 := by omega
    have hsL : sumL L ≤ 20000000 := by omega
    refine Gives.loop (I := fun z => z.1 = L ∧ z.2.1 = L ∧ z.2.2.1 = (L.length : Int) ∧ ∃ j : Nat, z.2.2.2.1 = (j : Int) ∧ j ≤ L.length ∧ z.2.2.2.2.length ≤ j ∧ sumL z.2.2.2.2 ≤ sumL (L.take j) ∧ stk z.2.2.2.2 (L.drop j) = stk [] L) (μ := fun z => L.length - z.2.2.2.1.toNat) ?_ n _ ⟨rfl, rfl, rfl, 0, rfl, by omega, by simp, by simp [sumL], rfl⟩ (by simp; omega)
    rintro rec ⟨b1, b2, b3, b4, out⟩ ⟨f1, f2, f3, j, f4, f5, f6, f7, f8⟩ hrec
    dsimp only at f1 f2 f3 f4 f6 f7 f8 hrec ⊢
    subst f1 f2 f3 f4
    refine Gives.dite (fun hlt => ?_) (fun hge => ?_)
    · have hj : j < b2.length := by omega
      have hst := sumL_take b2 j hj
      have hle := sumL_le b2 (j + 1)
      have hw : IntKind.wrap .i64 ((j : Int) + 1) = ((j + 1 : Nat) : Int) := by rw [wrap64 (by omega) (by omega)]; omega
      have hwl : IntKind.wrap .i64 ((b2.length : Int) - 1) = ((b2.length - 1 : Nat) : Int) := by rw [wrap64 (by omega) (by omega)]; omega
      rw [hw]
      refine Gives.idx [] (by omega) hlt ?_
      rw [Int.toNat_natCast]
      rw [drop_cons b2 j [] hj, stk] at f8
      have sapp : ∀ (o : List (List Int)) (x : List Int), sumL (o ++ [x]) = sumL o + x.length := fun o x => by simp [sumL]
      have nx : ∀ o : List (List Int), o.length ≤ j + 1 → sumL o ≤ sumL (b2.take (j + 1)) → stk o (b2.drop (j + 1)) = stk [] b2 → Gives (rec (b2, (b2, ((b2.length : Int), (((j + 1 : Nat) : Int), o))))) (· = match stk [] b2 with | none => ([], 23) | some o => (47 :: jn 47 o, 0)) := fun o h1 h2 h3 =>
        hrec _ ⟨rfl, rfl, rfl, j + 1, rfl, by omega, h1, h2, h3⟩ (by dsimp only; omega)
      have hlast : b2.drop (j + 1) = [] ↔ (j : Int) = IntKind.wrap .i64 ((b2.length : Int) - 1) := by rw [hwl, List.drop_eq_nil_iff]; omega
      refine Gives.ite (fun hx => ?_) (fun hx => ?_)
      · rw [if_pos (by simpa using hx)] at f8
        refine Gives.eite (fun h0 => Gives.of_some ?_) (fun h0 => ?_)
        · rw [if_pos (List.eq_nil_of_length_eq_zero (by omega))] at f8
          rw [← f8]
        have hw2 : IntKind.wrap .i64 ((out.length : Int) - 1) = ((out.length - 1 : Nat) : Int) := by rw [wrap64 (by omega) (by omega)]; omega
        rw [if_neg (fun e => h0 (by rw [e]; rfl)), List.dropLast_eq_take] at f8
        rw [hw2, Int.toNat_natCast]
        have htl := sumL_le out (out.length - 1)
        refine Gives.pos (by omega) ?_
        refine Gives.eite (fun hla => ?_) (fun hla => ?_)
        · rw [if_pos (hlast.2 hla)] at f8
          refine Gives.pos (by simp; omega) ?_
          exact nx _ (by simp; omega) (by rw [sapp]; simp; omega) f8
        · rw [if_neg (fun e => hla (hlast.1 e))] at f8
          exact nx _ (by simp; omega) (by omega) f8
      · rw [if_neg (by simpa using hx)] at f8
        refine Gives.ite (fun hy => ?_) (fun hy => ?_)
        · rw [if_pos (by simpa using hy)] at f8
          refine Gives.eite (fun hla => ?_) (fun hla => ?_)
          · rw [if_pos (hlast.2 hla)] at f8
            refine Gives.pos (by omega) ?_
            exact nx _ (by simp; omega) (by rw [sapp]; simp; omega) f8
          · rw [if_neg (fun e => hla (hlast.1 e))] at f8
            exact nx _ (by omega) (by omega) f8
        · rw [if_neg (by simpa using hy)] at f8
          refine Gives.pos (by omega) ?_
          exact nx _ (by simp; omega) (by rw [sapp]; omega) f8
    · have hle := sumL_le b2 j
      have hjo := jn_len 47 out
      rw [join_v n out 47 (by omega) (by omega) (by omega), Option.bind_some]
      refine Gives.pos (by omega) (Gives.of_some ?_)
      rw [← f8, show j = b2.length by omega, List.drop_length]
      rfl
theorem genSplitO_v (n : Nat) (x) : genSplitO n x = genSplit n x := rfl
theorem splitO_v (n : Nat) (x : List Int) (k : Int) (hl : x.length ≤ 8796093022206) (hn : x.length + 1 < n) : splitO n (x, [k]) = some (spl k x) := split_v n x k hl hn
theorem meant_len (s : List Int) : (meantP s).length ≤ s.length := by
  match s with
  | [] => simp [meantP]
  | c :: r =>
    rw [meantP]
    have := meant_len (r.drop 2)
    have := meant_len r
    split
    · rename_i h
      obtain ⟨a, b, r', e, _⟩ := cd_inv h
      injection e with _ e; subst e
      split <;> simp [enc1] at * <;> omega
    · simp; omega
termination_by s.length
decreasing_by all_goals simp <;> omega
theorem meant_BL {s : List Int} (h : BL s) : BL (meantP s) := by
  match s, h with
  | [], h => simp [meantP]; exact h
  | c :: r, h =>
    have hr : BL r := fun x hx => h x (by simp [hx])
    rw [meantP]
    have := meant_BL (hr.drop 2)
    have := meant_BL hr
    split
    · split
      · exact BL.app (fun x hx => by rw [List.mem_singleton.1 hx]; exact cd_range _) (by assumption)
      · exact BL.app (enc1_BL (cd_range _)) (by assumption)
    · exact fun x hx => (List.mem_cons.1 hx).elim (fun e => by subst e; exact h _ (by simp)) (this x)
termination_by s.length
decreasing_by all_goals simp <;> omega
theorem stk_in : ∀ (l out o : List (List Int)), stk out l = some o → (∀ x ∈ o, x = [] ∨ x ∈ out ∨ x ∈ l) ∧ sumL o + o.length ≤ sumL out + out.length + sumL l + l.length
  | [], out, o, h => by injection h with h; subst h; exact ⟨fun x hx => .inr (.inl hx), by simp [sumL]⟩
  | y :: l, out, o, h => by
    rw [stk] at h
    have hdl : out.dropLast.length ≤ out.length := by simp
    have hsd : sumL out.dropLast ≤ sumL out := by rw [List.dropLast_eq_take]; exact sumL_le _ _
    have sapp : ∀ (o : List (List Int)) (x : List Int), sumL (o ++ [x]) = sumL o + x.length := fun o x => by simp [sumL]
    have sc := sumL_cons y l
    have go : ∀ out', stk out' l = some o → (∀ x ∈ out', x = [] ∨ x ∈ out ∨ x = y) → sumL out' + out'.length ≤ sumL out + out.length + y.length + 1 → (∀ x ∈ o, x = [] ∨ x ∈ out ∨ x ∈ y :: l) ∧ sumL o + o.length ≤ sumL out + out.length + sumL (y :: l) + (y :: l).length := fun out' h1 h2 h3 => by
      obtain ⟨g1, g2⟩ := stk_in l out' o h1
      refine ⟨fun x hx => ?_, by simp; omega⟩
      rcases g1 x hx with e | e | e
      · exact .inl e
      · rcases h2 x e with e | e | e
        · exact .inl e
        · exact .inr (.inl e)
        · exact .inr (.inr (by simp [e]))
      · exact .inr (.inr (by simp [e]))
    split at h
    · split at h
      · cases h
      · rename_i hne
        have : 1 ≤ out.length := by
          cases out with
          | nil => exact absurd rfl hne
          | cons a b => simp
        refine go _ h ?_ ?_
        · intro x hx
          split at hx
          · rcases List.mem_append.1 hx with e | e
            · exact .inr (.inl (List.dropLast_subset _ e))
            · exact .inl (List.mem_singleton.1 e)
          · exact .inr (.inl (List.dropLast_subset _ hx))
        · split
          · rw [sapp]; simp; omega
          · simp; omega
    · split at h
      · refine go _ h ?_ ?_
        · intro x hx
          split at hx
          · rcases List.mem_append.1 hx with e | e
            · exact .inr (.inl e)
            · exact .inl (List.mem_singleton.1 e)
          · exact .inr (.inl hx)
        · split
          · rw [sapp]; simp; omega
          · omega
      · refine go _ h ?_ ?_
        · intro x hx
          rcases List.mem_append.1 hx with e | e
          · exact .inr (.inl e)
          · exact .inr (.inr (List.mem_singleton.1 e))
        · rw [sapp]; simp; omega
theorem jn_BL (k : Int) (hk : 0 ≤ k ∧ k ≤ 255) : ∀ l : List (List Int), (∀ x ∈ l, BL x) → BL (jn k l)
  | [], _ => fun _ h => nomatch h
  | a :: r, h => by
    refine BL.app (h a (by simp)) (fun c hc => ?_)
    obtain ⟨x, hx, hc⟩ := List.mem_flatMap.1 hc
    rcases List.mem_cons.1 hc with e | e
    · rw [e]; exact hk
    · exact h x (by simp [hx]) c e
theorem norm_len {s : List Int} : (normP s).1.length ≤ s.length := by
  unfold normP
  split
  · rename_i hp
    obtain ⟨r, hr⟩ := path_ne hp
    split
    · simp
    · rename_i o ho
      obtain ⟨_, h2⟩ := stk_in _ _ _ ho
      have hm := meant_len s
      have hj := jn_len 47 o
      have hjl := jn_len 47 (spl 47 ((meantP s).drop 1))
      rw [jn_spl, List.length_drop] at hjl
      have := spl_count 47 ((meantP s).drop 1)
      have h1 : 1 ≤ (meantP s).length := by rw [hr, meant_slash]; simp
      have e0 : sumL [] = 0 := rfl
      rw [e0, List.length_nil] at h2
      rw [List.length_cons]
      have hz : o.length = 0 → sumL o = 0 := fun e => by rw [List.eq_nil_of_length_eq_zero e]; rfl
      omega
  · simp
theorem norm_BL {s : List Int} (h : BL s) : BL (normP s).1 := by
  unfold normP
  split
  · split
    · intro c hc; exact nomatch hc
    · rename_i o ho
      obtain ⟨h1, _⟩ := stk_in _ _ _ ho
      have hb : BL (jn 47 o) := jn_BL 47 (by omega) o (fun x hx => by
        rcases h1 x hx with e | e | e
        · rw [e]; exact fun c hc => nomatch hc
        · exact nomatch e
        · exact fun c hc => (meant_BL h).drop 1 c ((spl_piece _ x e).2.2 c hc))
      intro c hc
      rcases List.mem_cons.1 hc with e | e
      · omega
      · exact hb c e
  · intro c hc; exact nomatch hc
theorem norm_TX {s : List Int} (h : TX s) : TX (normP s).1 := ⟨norm_BL h.1, by have := norm_len (s := s); have := h.2; omega⟩
def decV (s : List Int) : List Int × Int := match decP s with | none => ([], 23) | some o => (o, 0)
def segP (s : List Int) : List (List Int) × Int :=
  if (normP s).2 = 0 then (if (spl 47 ((normP s).1.drop 1)).length > 64 then ([], 2) else ((spl 47 ((normP s).1.drop 1)).map (fun x => (decV x).1), 0)) else ([], (normP s).2)
theorem norm_zero {s : List Int} (h : (normP s).2 = 0) : ∃ o, stk [] (spl 47 ((meantP s).drop 1)) = some o ∧ (normP s) = (47 :: jn 47 o, 0) ∧ pathP s = true := by
  unfold normP at h ⊢
  split at h
  · rename_i hp
    rw [if_pos hp]
    split at h
    · cases h
    · rename_i o ho; exact ⟨o, ho, rfl, hp⟩
  · cases h
theorem segments_v (n : Nat) {s : List Int} (h : TX s) (hn : 300000000 < n) : segments n s = some (segP s) := by
  refine Gives.eq ?_
  unfold segments segP
  refine Gives.bind_eq (normal_v n h hn) ?_
  refine Gives.mite (fun h0 => Gives.of_some (by rw [if_neg h0])) (fun h0 => ?_)
  rw [if_pos h0]
  obtain ⟨o, _, ho, _⟩ := norm_zero h0
  have hT := norm_TX h
  have hl := hT.2
  have h1 : 1 ≤ (normP s).1.length := by rw [ho]; simp
  generalize (normP s).1 = p at hl h1 hT
  refine Gives.pos (by omega) ?_
  have htk : (p.drop 1).take (((p.length : Int)).toNat - 1) = p.drop 1 := List.take_of_length_le (by simp)
  rw [htk]
  refine Gives.bind_eq (splitO_v n (p.drop 1) 47 (by simp; omega) (by simp; omega)) ?_
  have hpc := spl_piece (k := 47) (p.drop 1)
  generalize spl 47 (p.drop 1) = L at hpc
  refine Gives.dite (fun h64 => Gives.of_some (by rw [if_pos (by omega)])) (fun h64 => ?_)
  rw [if_neg (by omega)]
  refine Gives.loop (I := fun z => z.1 = (L.length : Int) ∧ ∃ i : Nat, z.2.1 = (i : Int) ∧ i ≤ L.length ∧ z.2.2 = (L.take i).map (fun x => (decV x).1) ++ L.drop i) (μ := fun z => L.length - z.2.1.toNat) ?_ n _ ⟨rfl, 0, rfl, by omega, by simp⟩ (by simp; omega)
  rintro rec ⟨a7, a8, a9⟩ ⟨e1, i, e2, e3, e4⟩ hrec
  dsimp only at e1 e2 e4 hrec ⊢
  subst e1 e2
  refine Gives.dite (fun hlt => ?_) (fun hge => ?_)
  · have hi : i < L.length := by omega
    have hlen : a9.length = L.length := by rw [e4]; simp; omega
    have hg : a9.getD i [] = L.getD i [] := by
      rw [e4, List.getD_eq_getElem?_getD, List.getElem?_append_right (by simp; omega), List.getD_eq_getElem?_getD]
      simp [show min i L.length = i by omega]
    refine Gives.pos (by omega) ?_
    rw [Int.toNat_natCast, hg]
    have hm := hpc _ (getD_mem (d := []) hi)
    have hTX : TX (L.getD i []) := ⟨fun c hc => (hT.1.drop 1) c (hm.2.2 c hc), by have := hm.2.1; simp at this; simp only [List.getD_eq_getElem?_getD]; omega⟩
    refine Gives.bind_eq (decode_v n hTX (by omega)) ?_
    refine Gives.pos (by omega) ?_
    rw [wrap64 (by omega) (by omega)]
    refine hrec _ ⟨rfl, i + 1, by simp, by omega, ?_⟩ (by dsimp only; omega)
    dsimp only
    rw [e4, take_succ L i [] hi, drop_cons L i [] hi, List.map_append, List.set_append_right _ _ (by simp; omega)]
    simp [show min i L.length = i by omega, decV]
    rfl
  · refine Gives.of_some ?_
    rw [e4, show i = L.length by omega]; simp
end Go.Sx.YtndkpphniekmlaaDoor
