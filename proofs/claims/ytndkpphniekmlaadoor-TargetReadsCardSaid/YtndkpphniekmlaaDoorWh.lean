/- Part of a proof by a small interpreter on plain values; no condition. -/
import Derived.Test.YtndkpphniekmlaaDoorWg
namespace Go.Sx.YtndkpphniekmlaaDoor
open Go Go.Sx Go.Proofs
set_option autoImplicit false
set_option linter.unusedVariables false
set_option linter.unusedSimpArgs false
/-! texts as they are meant. -/
theorem hdg_all : ∀ j : Fin 16, hexV (hdg (j.val : Int)) = ((j.val : Int), true) ∧ hdg (j.val : Int) ≠ 47 ∧ hdg (j.val : Int) ≠ 37 ∧ hdg (j.val : Int) < 97 ∧ 0 ≤ hdg (j.val : Int) ∧ unres (hdg (j.val : Int)) = true := by decide +kernel
theorem hdg_v {v : Int} (h : 0 ≤ v ∧ v < 16) : hexV (hdg v) = (v, true) ∧ hdg v ≠ 47 ∧ hdg v ≠ 37 ∧ hdg v < 97 ∧ 0 ≤ hdg v ∧ unres (hdg v) = true := by
  have := hdg_all ⟨v.toNat, by omega⟩
  rw [show (((⟨v.toNat, by omega⟩ : Fin 16).val : Nat) : Int) = v by simp; omega] at this
  exact this
inductive Cl : List Int → Prop
  | nil : Cl []
  | byte {c : Int} {r : List Int} : c = 47 ∨ pByte c = true → Cl r → Cl (c :: r)
  | code {v : Int} {r : List Int} : 0 ≤ v → v ≤ 255 → unres v = false → 32 ≤ v → v ≠ 127 → Cl r → Cl (enc1 v ++ r)
theorem cl37 {c : Int} (h : c = 47 ∨ pByte c = true) : c ≠ 37 := fun e => by
  subst e
  rcases h with h | h
  · cases h
  · rw [unres37] at h; cases h
theorem cd_no {c : Int} (r : List Int) (h : c ≠ 37) : (cd (c :: r)).2 = false := codeV_37 (i := 0) h
theorem cd_enc {v : Int} (h : 0 ≤ v ∧ v ≤ 255) (r : List Int) : cd (enc1 v ++ r) = (v, true) := by
  show cd (37 :: hdg (v / 16) :: hdg (v % 16) :: r) = _
  rw [cd_code, (hdg_v (v := v / 16) (by omega)).1, (hdg_v (v := v % 16) (by omega)).1]
  exact Prod.ext (by dsimp only; omega) rfl
theorem meant_code {v : Int} (h : 0 ≤ v ∧ v ≤ 255) (r : List Int) : meantP (enc1 v ++ r) = (if unres v = true then [v] else enc1 v) ++ meantP r := by
  have e := cd_enc h r
  have : enc1 v ++ r = 37 :: hdg (v / 16) :: hdg (v % 16) :: r := rfl
  rw [this] at e ⊢
  rw [meantP, e, if_pos rfl]; rfl
theorem made_code {v : Int} (h : 0 ≤ v ∧ v ≤ 255) (o : List Int) (b : Bool) (r : List Int) : madeP o b (enc1 v ++ r) = (!(b && (decide (v < 32) || decide (v = 127))) && madeP o b r) := by
  have e := cd_enc h r
  have : enc1 v ++ r = 37 :: hdg (v / 16) :: hdg (v % 16) :: r := rfl
  rw [this] at e ⊢
  rw [madeP, e, if_pos rfl]; rfl
theorem meant_byte {c : Int} (h : c ≠ 37) (r : List Int) : meantP (c :: r) = c :: meantP r := by
  rw [meantP, cd_no r h, if_neg Bool.false_ne_true]
theorem made_byte {c : Int} (h : c ≠ 37) (o : List Int) (b : Bool) (r : List Int) : madeP o b (c :: r) = ((pByte c || o.contains c) && madeP o b r) := by
  rw [madeP, if_neg h]
theorem Cl.meant_app {a : List Int} (h : Cl a) (b : List Int) : meantP (a ++ b) = a ++ meantP b := by
  induction h with
  | nil => rfl
  | byte hc _ ih => rw [List.cons_append, meant_byte (cl37 hc), ih]; rfl
  | code h0 h1 h2 _ _ _ ih => rw [List.append_assoc, meant_code ⟨h0, h1⟩, ih, h2, if_neg Bool.false_ne_true, List.append_assoc]
theorem Cl.made_app {a : List Int} (h : Cl a) (b : List Int) : madeP [47] true (a ++ b) = madeP [47] true b := by
  induction h with
  | nil => rfl
  | @byte c r hc _ ih =>
    rw [List.cons_append, made_byte (cl37 hc), ih]
    rcases hc with e | e
    · rw [e]; simp
    · rw [e]; rfl
  | code h0 h1 h2 h3 h4 _ ih => rw [List.append_assoc, made_code ⟨h0, h1⟩, ih]; simp [h4]; omega
theorem Cl.meant {a : List Int} (h : Cl a) : meantP a = a := by
  have := h.meant_app []
  rw [List.append_nil] at this
  rw [this, show meantP [] = [] by simp [meantP], List.append_nil]
theorem Cl.made {a : List Int} (h : Cl a) : madeP [47] true a = true := by
  have := h.made_app []
  rw [List.append_nil] at this
  rw [this]; simp [madeP]
theorem Cl.app {a b : List Int} (h : Cl a) (hb : Cl b) : Cl (a ++ b) := by
  induction h with
  | nil => exact hb
  | byte hc _ ih => exact .byte hc ih
  | code h0 h1 h2 h3 h4 _ ih => rw [List.append_assoc]; exact .code h0 h1 h2 h3 h4 ih
theorem Cl.tw {a : List Int} (h : Cl a) : Cl (tw a) ∧ ∀ x ∈ sg a, Cl x := by
  induction h with
  | nil => exact ⟨.nil, fun x hx => nomatch hx⟩
  | @byte c r hc _ ih =>
    rw [Sx.YtndkpphniekmlaaDoor.tw, sg]
    by_cases h47 : c = 47
    · rw [if_pos h47, if_pos h47]
      refine ⟨.nil, fun x hx => ?_⟩
      rcases List.mem_cons.1 hx with e | e
      · rw [e]; exact ih.1
      · exact ih.2 x e
    · rw [if_neg h47, if_neg h47]
      exact ⟨.byte hc ih.1, ih.2⟩
  | @code v r h0 h1 h2 h3 h4 _ ih =>
    have g1 := hdg_v (v := v / 16) (by omega)
    have g2 := hdg_v (v := v % 16) (by omega)
    have e1 : Sx.YtndkpphniekmlaaDoor.tw (enc1 v ++ r) = enc1 v ++ Sx.YtndkpphniekmlaaDoor.tw r := by
      show Sx.YtndkpphniekmlaaDoor.tw (37 :: hdg (v / 16) :: hdg (v % 16) :: r) = _
      rw [Sx.YtndkpphniekmlaaDoor.tw, if_neg (by decide), Sx.YtndkpphniekmlaaDoor.tw, if_neg g1.2.1, Sx.YtndkpphniekmlaaDoor.tw, if_neg g2.2.1]; rfl
    have e2 : sg (enc1 v ++ r) = sg r := by
      show sg (37 :: hdg (v / 16) :: hdg (v % 16) :: r) = _
      rw [sg, if_neg (by decide), sg, if_neg g1.2.1, sg, if_neg g2.2.1]
    rw [e1, e2]
    exact ⟨.code h0 h1 h2 h3 h4 ih.1, ih.2⟩
theorem Cl.spl {a : List Int} (h : Cl a) : ∀ x ∈ spl 47 a, Cl x := by
  rw [spl_sg]
  intro x hx
  rcases List.mem_cons.1 hx with e | e
  · rw [e]; exact h.tw.1
  · exact h.tw.2 x e
theorem Cl.at37 {a : List Int} (h : Cl a) : ∀ i : Nat, a.getD i 0 = 37 → ∃ v r, a.drop i = enc1 v ++ r ∧ 0 ≤ v ∧ v ≤ 255 ∧ unres v = false := by
  induction h with
  | nil => intro i e; simp at e
  | byte hc _ ih =>
    intro i e
    cases i with
    | zero => exact absurd e (cl37 hc)
    | succ i => exact ih i e
  | @code v r h0 h1 h2 h3 h4 _ ih =>
    intro i e
    match i, e with
    | 0, _ => exact ⟨v, r, rfl, h0, h1, h2⟩
    | 1, e => exact absurd e (hdg_v (v := v / 16) (by omega)).2.2.1
    | 2, e => exact absurd e (hdg_v (v := v % 16) (by omega)).2.2.1
    | i + 3, e => exact ih i e
theorem unres_pByte {c : Int} (h : unres c = true) : pByte c = true := by unfold pByte; rw [h]; rfl
theorem meant_Cl (s : List Int) (h : madeP [47] true s = true) : Cl (meantP s) := by
  match s, h with
  | [], _ => rw [show meantP [] = [] by simp [meantP]]; exact .nil
  | c :: r, h =>
    by_cases hc : c = 37
    · subst hc
      rw [madeP, if_pos rfl] at h
      simp only [Bool.and_eq_true] at h
      obtain ⟨hok, hsm, hr⟩ := h
      have ih := meant_Cl (r.drop 2) hr
      have hrg := cd_range (37 :: r)
      rw [meantP, if_pos hok]
      by_cases hu : unres (cd (37 :: r)).1 = true
      · rw [if_pos hu]
        exact .byte (.inr (unres_pByte hu)) ih
      · rw [if_neg hu]
        simp only [Bool.true_and, Bool.not_eq_true', Bool.or_eq_false_iff, decide_eq_false_iff_not] at hsm
        exact .code hrg.1 hrg.2 (by simpa using hu) (by omega) hsm.2 ih
    · rw [made_byte hc] at h
      simp only [Bool.and_eq_true, Bool.or_eq_true, List.contains_iff_mem, List.mem_singleton] at h
      have ih := meant_Cl r h.2
      rw [meant_byte hc]
      exact .byte h.1.symm ih
termination_by s.length
decreasing_by all_goals simp <;> omega
/-! segments that are meant. -/
def Nm (o : List (List Int)) : Prop := o ≠ [] ∧ ∀ x ∈ o, Cl x ∧ 47 ∉ x ∧ x ≠ [46] ∧ x ≠ [46, 46]
theorem stk_dots : ∀ (l out o : List (List Int)), (∀ x ∈ out, x ≠ [46] ∧ x ≠ [46, 46]) → stk out l = some o → ∀ x ∈ o, x ≠ [46] ∧ x ≠ [46, 46]
  | [], out, o, h, e => by injection e with e; subst e; exact h
  | y :: l, out, o, h, e => by
    rw [stk] at e
    have hdl : ∀ x ∈ out.dropLast, x ≠ [46] ∧ x ≠ [46, 46] := fun x hx => h x (List.dropLast_subset _ hx)
    have hap : ∀ (q : List (List Int)), (∀ x ∈ q, x ≠ [46] ∧ x ≠ [46, 46]) → ∀ z : List Int, (z ≠ [46] ∧ z ≠ [46, 46]) → ∀ x ∈ q ++ [z], x ≠ [46] ∧ x ≠ [46, 46] := fun q hq z hz x hx => by
      rcases List.mem_append.1 hx with e | e
      · exact hq x e
      · rw [List.mem_singleton.1 e]; exact hz
    split at e
    · split at e
      · cases e
      · refine stk_dots l _ o ?_ e
        split
        · exact hap _ hdl _ ⟨by simp, by simp⟩
        · exact hdl
    · rename_i h2
      split at e
      · refine stk_dots l _ o ?_ e
        split
        · exact hap _ h _ ⟨by simp, by simp⟩
        · exact h
      · rename_i h1
        exact stk_dots l _ o (hap _ h _ ⟨h1, h2⟩) e
theorem stk_app : ∀ (a out l : List (List Int)), (∀ x ∈ a, x ≠ [46] ∧ x ≠ [46, 46]) → stk out (a ++ l) = stk (out ++ a) l
  | [], out, l, _ => by simp
  | y :: a, out, l, h => by
    have hy := h y (by simp)
    rw [List.cons_append, stk, if_neg hy.2, if_neg hy.1, stk_app a _ l (fun x hx => h x (by simp [hx]))]; simp
theorem norm_spec {s : List Int} (h : (normP s).2 = 0) : ∃ o, Nm o ∧ normP s = (47 :: jn 47 o, 0) := by
  obtain ⟨o, ho, hn, hp⟩ := norm_zero h
  refine ⟨o, ⟨stk_ne _ _ _ (spl_ne _ _) ho, fun x hx => ?_⟩, hn⟩
  have hd := stk_dots _ [] _ (fun x hx => nomatch hx) ho x hx
  have hm : madeP [47] true s = true := by unfold pathP at hp; simp only [Bool.and_eq_true] at hp; exact hp.2
  have hc := meant_Cl s hm
  obtain ⟨r, hr⟩ := path_ne hp
  rw [hr, meant_slash] at hc
  rw [hr, meant_slash] at ho
  have hcr : Cl (meantP r) := by
    generalize meantP r = q at hc
    generalize hz : (47 :: q : List Int) = z at hc
    cases hc with
    | nil => cases hz
    | byte _ h => injection hz with _ h2; rw [h2]; exact h
    | code => injection hz with h1 _; cases h1
  rcases (stk_in _ _ _ ho).1 x hx with e | e | e
  · subst e; exact ⟨.nil, by simp, hd⟩
  · exact nomatch e
  · exact ⟨hcr.spl x e, (spl_piece _ x e).1, hd⟩
theorem norm_bad {s : List Int} (h : (normP s).2 ≠ 0) : normP s = ([], 23) := by
  unfold normP at h ⊢
  split at h
  · rename_i hp
    rw [if_pos hp]
    split at h
    · rename_i e; rfl
    · exact absurd rfl h
  · rename_i hp; rw [if_neg hp]
/-- all segments, each behind a slash. -/
def fm (o : List (List Int)) : List Int := o.flatMap fun b => 47 :: b
theorem fm_Cl : ∀ {o : List (List Int)}, (∀ x ∈ o, Cl x) → Cl (fm o)
  | [], _ => .nil
  | a :: r, h => by
    show Cl (47 :: (a ++ fm r))
    exact .byte (.inl rfl) ((h a (by simp)).app (fm_Cl fun x hx => h x (by simp [hx])))
theorem fm_jn {o : List (List Int)} (h : o ≠ []) : fm o = 47 :: jn 47 o := jn_flat h
theorem norm_fm {s : List Int} (o q : List (List Int)) (hp : pathP s = true) (hs : meantP s = fm o) (hne : o ≠ []) (h47 : ∀ x ∈ o, 47 ∉ x) (hq : stk [] o = some q) (hqn : q ≠ []) : normP s = (fm q, 0) := by
  unfold normP
  rw [if_pos hp, hs, fm_jn hne, List.drop_one, List.tail_cons, spl_jn o hne h47, hq, fm_jn hqn]
theorem fm_path {t : List Int} {o : List (List Int)} (hne : o ≠ []) (h : madeP [47] true t = true) (ht : ∃ r, t = 47 :: r) : pathP t = true := by
  obtain ⟨r, rfl⟩ := ht
  unfold pathP; rw [h]; simp
theorem stk_self {o : List (List Int)} (h : ∀ x ∈ o, x ≠ [46] ∧ x ≠ [46, 46]) : stk [] o = some o := by
  have := stk_app o [] [] h
  rw [List.append_nil, List.nil_append] at this
  rw [this]; rfl
theorem norm_again {o : List (List Int)} (h : Nm o) : normP (47 :: jn 47 o) = (47 :: jn 47 o, 0) := by
  have hc : Cl (fm o) := fm_Cl fun x hx => (h.2 x hx).1
  have e := fm_jn h.1
  rw [← e]
  exact norm_fm o o (fm_path h.1 hc.made ⟨_, e⟩) hc.meant h.1 (fun x hx => (h.2 x hx).2.1) (stk_self fun x hx => (h.2 x hx).2.2) h.1
theorem fm_split : ∀ (o : List (List Int)) (i : Nat), (∀ x ∈ o, 47 ∉ x) → (fm o).getD i 0 = 47 → i < (fm o).length → ∃ o1 o2, o = o1 ++ o2 ∧ o2 ≠ [] ∧ (fm o).take i = fm o1 ∧ (fm o).drop i = fm o2
  | [], i, _, _, hi => by simp [fm] at hi
  | a :: r, 0, h, _, _ => ⟨[], a :: r, rfl, by simp, rfl, rfl⟩
  | a :: r, i + 1, h, e, hi => by
    have e' : (a ++ fm r).getD i 0 = 47 := e
    have hi' : i < (a ++ fm r).length := by
      have : (fm (a :: r)).length = (a ++ fm r).length + 1 := rfl
      omega
    by_cases ha : i < a.length
    · rw [getD_app, if_pos ha] at e'
      exact absurd (by rw [← e']; exact getD_mem ha) (h a (by simp))
    · rw [getD_app, if_neg ha] at e'
      rw [List.length_append] at hi'
      obtain ⟨o1, o2, h1, h2, h3, h4⟩ := fm_split r (i - a.length) (fun x hx => h x (by simp [hx])) e' (by omega)
      refine ⟨a :: o1, o2, by rw [h1]; rfl, h2, ?_, ?_⟩
      · show 47 :: (a ++ fm r).take i = 47 :: (a ++ fm o1)
        rw [List.take_append, List.take_of_length_le (by omega), h3]
      · show (a ++ fm r).drop i = fm o2
        rw [List.drop_append, List.drop_of_length_le (by omega), h4]; rfl
theorem fm_app (a b : List (List Int)) : fm (a ++ b) = fm a ++ fm b := by simp [fm]
/-- a dot laid in, or a segment and two dots: nothing changes. -/
theorem norm_dot {o1 o2 : List (List Int)} (h : Nm (o1 ++ o2)) (h2 : o2 ≠ []) (twice : Bool) :
    normP (fm o1 ++ ((if twice = true then [47, 120, 47, 37, 50, 69, 46] else [47, 46]) ++ fm o2)) = (fm (o1 ++ o2), 0) := by
  have c1 : Cl (fm o1) := fm_Cl fun x hx => (h.2 x (by simp [hx])).1
  have c2 : Cl (fm o2) := fm_Cl fun x hx => (h.2 x (by simp [hx])).1
  have d1 : ∀ x ∈ o1, x ≠ [46] ∧ x ≠ [46, 46] := fun x hx => (h.2 x (by simp [hx])).2.2
  have d2 : ∀ x ∈ o2, x ≠ [46] ∧ x ≠ [46, 46] := fun x hx => (h.2 x (by simp [hx])).2.2
  have hst : stk o1 o2 = some (o1 ++ o2) := by
    have := stk_app o2 o1 [] d2
    rw [List.append_nil] at this
    rw [this]; rfl
  have hhead : ∀ (w : List Int), ∃ r, fm o1 ++ (47 :: w) = 47 :: r := fun w => by
    cases o1 with
    | nil => exact ⟨w, rfl⟩
    | cons a r => exact ⟨_, rfl⟩
  cases twice with
  | false =>
    rw [if_neg Bool.false_ne_true]
    have cm : Cl [47, 46] := .byte (.inl rfl) (.byte (.inr (by decide)) .nil)
    refine norm_fm (o1 ++ ([46] :: o2)) (o1 ++ o2) (fm_path (o := o2) h2 ?_ (hhead (46 :: fm o2))) ?_ (by simp) ?_ ?_ h.1
    · rw [c1.made_app, cm.made_app, c2.made]
    · rw [c1.meant_app, cm.meant_app, c2.meant, fm_app]; rfl
    · intro x hx
      rcases List.mem_append.1 hx with e | e
      · exact (h.2 x (by simp [e])).2.1
      · rcases List.mem_cons.1 e with e | e
        · rw [e]; decide
        · exact (h.2 x (by simp [e])).2.1
    · rw [stk_app _ _ _ d1, List.nil_append, stk, if_neg (by decide), if_pos rfl, if_neg h2, hst]
  | true =>
    rw [if_pos rfl]
    have cx : Cl [47, 120, 47] := .byte (.inl rfl) (.byte (.inr (by decide)) (.byte (.inl rfl) .nil))
    have c46 : Cl [46] := .byte (.inr (by decide)) .nil
    have e46 : enc1 46 = [37, 50, 69] := by decide
    have et : ([47, 120, 47, 37, 50, 69, 46] ++ fm o2 : List Int) = [47, 120, 47] ++ (enc1 46 ++ ([46] ++ fm o2)) := by rw [e46]; rfl
    rw [et]
    refine norm_fm (o1 ++ ([120] :: [46, 46] :: o2)) (o1 ++ o2) (fm_path (o := o2) h2 ?_ (hhead (120 :: 47 :: (enc1 46 ++ ([46] ++ fm o2))))) ?_ (by simp) ?_ ?_ h.1
    · rw [c1.made_app, cx.made_app, made_code ⟨by decide, by decide⟩, c46.made_app, c2.made]; rfl
    · rw [c1.meant_app, cx.meant_app, meant_code ⟨by decide, by decide⟩, c46.meant_app, c2.meant, fm_app]; rfl
    · intro x hx
      rcases List.mem_append.1 hx with e | e
      · exact (h.2 x (by simp [e])).2.1
      · rcases List.mem_cons.1 e with e | e
        · rw [e]; decide
        · rcases List.mem_cons.1 e with e | e
          · rw [e]; decide
          · exact (h.2 x (by simp [e])).2.1
    · rw [stk_app _ _ _ d1, List.nil_append, stk, if_neg (by decide), if_neg (by decide), stk, if_pos rfl, if_neg (by simp), if_neg h2, List.dropLast_concat, hst]
/-! codes there and back. -/
theorem dec_byte {c : Int} (h : c ≠ 37) (r : List Int) : decP (c :: r) = (decP r).map (c :: ·) := by rw [decP, if_neg h]
theorem dec_code {v : Int} (h : 0 ≤ v ∧ v ≤ 255) (r : List Int) : decP (enc1 v ++ r) = (decP r).map (v :: ·) := by
  have e := cd_enc h r
  have : enc1 v ++ r = 37 :: hdg (v / 16) :: hdg (v % 16) :: r := rfl
  rw [this] at e ⊢
  rw [decP, e, if_pos rfl, if_pos rfl]; rfl
theorem unr37 {c : Int} (h : unres c = true) : c ≠ 37 := fun e => by subst e; revert h; decide
theorem dec_enc : ∀ s : List Int, BL s → decP (encP s) = some s
  | [], _ => by simp [encP, decP]
  | c :: r, h => by
    have ih := dec_enc r fun x hx => h x (by simp [hx])
    show decP ((if unres c = true then [c] else enc1 c) ++ encP r) = _
    by_cases hu : unres c = true
    · rw [if_pos hu]
      show decP (c :: encP r) = _
      rw [dec_byte (unr37 hu), ih]; rfl
    · rw [if_neg hu, dec_code (h c (by simp)), ih]; rfl
theorem enc_in {s : List Int} (h : BL s) : ∀ x ∈ encP s, x = 37 ∨ unres x = true := fun x hx => by
  obtain ⟨c, hc, hx⟩ := List.mem_flatMap.1 hx
  have hb := h c hc
  split at hx
  · rename_i hu; rw [List.mem_singleton.1 hx]; exact .inr hu
  · simp only [enc1, List.mem_cons, List.not_mem_nil, or_false] at hx
    rcases hx with e | e | e
    · exact .inl e
    · rw [e]; exact .inr (hdg_v (by omega)).2.2.2.2.2
    · rw [e]; exact .inr (hdg_v (by omega)).2.2.2.2.2
theorem enc_len : ∀ s : List Int, (encP s).length ≤ 3 * s.length
  | [] => by simp [encP]
  | c :: r => by
    have ih := enc_len r
    show ((if unres c = true then [c] else enc1 c) ++ encP r).length ≤ _
    rw [List.length_append, List.length_cons]
    split
    · simp; omega
    · simp [enc1]; omega
theorem enc_BL {s : List Int} (h : BL s) : BL (encP s) := fun x hx => by
  obtain ⟨c, hc, hx⟩ := List.mem_flatMap.1 hx
  have hb := h c hc
  split at hx
  · rw [List.mem_singleton.1 hx]; exact hb
  · exact enc1_BL hb x hx
end Go.Sx.YtndkpphniekmlaaDoor
