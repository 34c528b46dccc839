/- Part of a proof by a small interpreter on plain values; no condition. -/
import Derived.Test.YtmbakmdgmccgiaaDoorWj
/-! W06AH: values as texts: both write the same. -/
namespace Go.Sx.YtmbakmdgmccgiaaDoor
open Go Go.Sx Go.Sx.Js
set_option autoImplicit false
set_option linter.unusedVariables false
set_option linter.unusedSimpArgs false
def nullT : List Int := [110, 117, 108, 108]
def trueT : List Int := [116, 114, 117, 101]
def falseT : List Int := [102, 97, 108, 115, 101]
def qv (s : List Int) : List Int := (quoteOr s).1
mutual
/-- a value as a text. -/
def pr : JV → List Int
  | .mk k b t _ _ l ns => if k = 1 then nullT else if k = 2 then (if b = true then trueT else falseT) else if k = 3 then t else if k = 4 then qv t
    else (if k = 6 then 123 else 91) :: (prL (decide (k = 6)) true l ns ++ [if k = 6 then 125 else 93])
def prL (o : Bool) : Bool → List JV → List (List Int) → List Int
  | _, [], _ => []
  | f, x :: r, ns => (if f = true then [] else [44]) ++ ((if o = true then qv (ns.headD []) ++ [58] else []) ++ (pr x ++ prL o false r ns.tail))
end
mutual
/-- the same behind bytes; as long as there are not too many. -/
def put : JV → List Int → List Int
  | .mk k b t _ _ l ns, out => if 1048576 < out.length then out else if k = 1 then out ++ nullT else if k = 2 then (if b = true then out ++ trueT else out ++ falseT) else if k = 3 then out ++ t else if k = 4 then out ++ qv t
    else putL (decide (k = 6)) true l ns (out ++ [if k = 6 then 123 else 91]) ++ [if k = 6 then 125 else 93]
def putL (o : Bool) : Bool → List JV → List (List Int) → List Int → List Int
  | _, [], _, out => out
  | f, x :: r, ns, out => putL o false r ns.tail (put x (out ++ ((if f = true then [] else [44]) ++ (if o = true then qv (ns.headD []) ++ [58] else []))))
end
mutual
theorem put_len : ∀ (v : JV) (out : List Int), (put v out).length ≤ out.length + (pr v).length
  | .mk k b t n w l ns, out => by
    rw [put, pr]
    have := putL_len (decide (k = 6)) l true ns (out ++ [if k = 6 then 123 else 91])
    repeat' split
    all_goals simp_all
    all_goals omega
theorem putL_len (o : Bool) : ∀ (l : List JV) (f : Bool) (ns : List (List Int)) (out : List Int), (putL o f l ns out).length ≤ out.length + (prL o f l ns).length
  | [], f, ns, out => by rw [putL, prL]; simp
  | x :: r, f, ns, out => by
    rw [putL, prL]
    have h1 := putL_len o r false ns.tail (put x (out ++ ((if f = true then [] else [44]) ++ (if o = true then qv (ns.headD []) ++ [58] else []))))
    have h2 := put_len x (out ++ ((if f = true then [] else [44]) ++ (if o = true then qv (ns.headD []) ++ [58] else [])))
    simp only [List.length_append] at h1 h2 ⊢
    omega
end
/-! what is not too long is whole. -/
mutual
theorem put_ge : ∀ (v : JV) (out : List Int), out.length ≤ (put v out).length
  | .mk k b t n w l ns, out => by
    rw [put]
    have := putL_ge (decide (k = 6)) l true ns (out ++ [if k = 6 then 123 else 91])
    repeat' split
    all_goals simp_all
    all_goals omega
theorem putL_ge (o : Bool) : ∀ (l : List JV) (f : Bool) (ns : List (List Int)) (out : List Int), out.length ≤ (putL o f l ns out).length
  | [], f, ns, out => by rw [putL]; exact Nat.le_refl _
  | x :: r, f, ns, out => by
    rw [putL]
    have h1 := putL_ge o r false ns.tail (put x (out ++ ((if f = true then [] else [44]) ++ (if o = true then qv (ns.headD []) ++ [58] else []))))
    have h2 := put_ge x (out ++ ((if f = true then [] else [44]) ++ (if o = true then qv (ns.headD []) ++ [58] else [])))
    simp only [List.length_append] at h1 h2 ⊢
    omega
end
mutual
theorem put_whole : ∀ (v : JV) (out : List Int), (put v out).length ≤ 1048576 → put v out = out ++ pr v
  | .mk k b t n w l ns, out, h => by
    have hge := put_ge (.mk k b t n w l ns) out
    rw [put] at h hge ⊢
    rw [pr]
    by_cases h0 : 1048576 < out.length
    · rw [if_pos h0] at h; omega
    rw [if_neg h0] at h ⊢
    by_cases k1 : k = 1
    · rw [if_pos k1, if_pos k1]
    rw [if_neg k1] at h ⊢
    rw [if_neg k1]
    by_cases k2 : k = 2
    · rw [if_pos k2, if_pos k2]; split <;> rfl
    rw [if_neg k2] at h ⊢
    rw [if_neg k2]
    by_cases k3 : k = 3
    · rw [if_pos k3, if_pos k3]
    rw [if_neg k3] at h ⊢
    rw [if_neg k3]
    by_cases k4 : k = 4
    · rw [if_pos k4, if_pos k4]
    rw [if_neg k4] at h ⊢
    rw [if_neg k4]
    rw [putL_whole (decide (k = 6)) l true ns (out ++ [if k = 6 then 123 else 91]) (by simp at h ⊢; omega)]
    simp
theorem putL_whole (o : Bool) : ∀ (l : List JV) (f : Bool) (ns : List (List Int)) (out : List Int), (putL o f l ns out).length ≤ 1048576 → putL o f l ns out = out ++ prL o f l ns
  | [], f, ns, out, h => by rw [putL, prL]; simp
  | x :: r, f, ns, out, h => by
    rw [putL] at h ⊢
    rw [prL]
    have h1 := putL_ge o r false ns.tail (put x (out ++ ((if f = true then [] else [44]) ++ (if o = true then qv (ns.headD []) ++ [58] else []))))
    rw [putL_whole o r false ns.tail _ h, put_whole x _ (by omega)]
    simp
end
theorem qv_len (s : List Int) : (qv s).length ≤ 6 * s.length + 2 := by
  unfold qv quoteOr
  split
  · have := escs_len s
    simp only [quote, List.length_cons, List.length_append, List.length_nil]
    omega
  · simp
section
variable {n : Nat}
theorem quoteTo_go {s out : List Int} (hs : Byt s) (hl : s.length ≤ 10000000000) (hn : s.length + 5 < n) (ho : out.length ≤ 10000000000000) : Gives (jQuoteTo n (s, out)) (fun r => r = out ++ qv s) := by
  unfold jQuoteTo
  simp only
  refine Gives.bind (jQuote_go hs hl hn) fun r hr => ?_
  subst hr
  have := qv_len s
  exact Gives.bind_eq (str_go (qv s) out (by omega)) (Gives.of_some rfl)
theorem write_go {B : Nat} (hB : B ≤ 10000000000) (hn : B + 100 < n) : ∀ (D : Nat) (v : JV), dep v ≤ D → Bt B v → well v = true → ∀ (m : Nat) (out : List Int), D ≤ m → out.length + (pr v).length ≤ 10000000000000 → Gives (loopF (jWrittenStep n) m (v.kind, v.b, v.text, v.n, v.whole, v.list, v.names, out)) (fun r => r = put v out) := by
  intro D
  induction D with
  | zero =>
    intro v h
    cases v
    rw [dep] at h
    omega
  | succ D ih =>
    intro v hd hb hw m out hm ho
    obtain ⟨m, rfl⟩ : ∃ q, m = q + 1 := ⟨m - 1, by omega⟩
    obtain ⟨k, b, t, i, w, l, ns⟩ := v
    rw [dep] at hd
    rw [Bt] at hb
    obtain ⟨⟨ht1, ht2⟩, hns, ⟨hl1, hl2⟩, hbl⟩ := hb
    rw [well_mk] at hw
    rw [pr] at ho
    rw [put]
    show Gives (jWrittenStep n (loopF (jWrittenStep n) m) (k, b, t, i, w, l, ns, out)) _
    unfold jWrittenStep
    simp only
    refine Gives.bind_eq (r := ((out.length : Int), out)) rfl ?_
    refine Gives.dite (fun h => ?_) fun h => ?_
    · rw [if_pos (by dsimp only at h; omega)]; exact Gives.of_some rfl
    have h : out.length ≤ 1048576 := by dsimp only at h; omega
    rw [if_neg (show ¬ 1048576 < out.length by omega)]
    refine Gives.eite (fun k1 => ?_) fun k1 => ?_
    · rw [if_pos k1]
      exact Gives.bind_eq (str_go nullT out (by simp [nullT]; omega)) (Gives.of_some rfl)
    rw [if_neg k1] at hw ho ⊢
    refine Gives.eite (fun k2 => ?_) fun k2 => ?_
    · rw [if_pos k2]
      refine Gives.ite (fun hb => ?_) fun hb => ?_
      · rw [if_pos hb]
        exact Gives.bind_eq (str_go trueT out (by simp [trueT]; omega)) (Gives.of_some rfl)
      · rw [if_neg hb]
        exact Gives.bind_eq (str_go falseT out (by simp [falseT]; omega)) (Gives.of_some rfl)
    rw [if_neg k2] at hw ho ⊢
    refine Gives.eite (fun k3 => ?_) fun k3 => ?_
    · rw [if_pos k3]
      exact Gives.bind_eq (str_go t out (by omega)) (Gives.of_some rfl)
    rw [if_neg k3] at ho ⊢
    refine Gives.eite (fun k4 => ?_) fun k4 => ?_
    · rw [if_pos k4]
      exact Gives.bind (quoteTo_go (out := out) ht1 (by omega) (by omega) (by omega)) fun r hr => Gives.of_some hr
    rw [if_neg k4] at hw ho ⊢
    rw [if_neg k3] at hw
    have hk : k = 5 ∨ k = 6 := by
      by_cases k6 : k = 6
      · exact .inr k6
      · rw [if_neg k6] at hw
        by_cases k5 : k = 5
        · exact .inl k5
        · rw [if_neg k5] at hw; cases hw
    have hwl : l.all well = true := by
      rcases hk with rfl | rfl
      · rw [if_neg (by omega), if_pos rfl, Bool.and_eq_true] at hw; exact hw.1
      · rw [if_pos rfl] at hw; simp only [Bool.and_eq_true] at hw; exact hw.2.1
    have hnl : k = 6 → ns.length = l.length := by
      rintro rfl
      rw [if_pos rfl] at hw
      simp only [Bool.and_eq_true] at hw
      exact of_decide_eq_true hw.1.1
    refine Gives.bind_eq (r := Out.go ([if k = 6 then 123 else 91, if k = 6 then 125 else 93], out, k, b, t, i, w, l, ns)) ?_ ?_
    · rcases hk with rfl | rfl <;> rfl
    dsimp only
    generalize (if k = 6 then (123 : Int) else 91) = c1 at *
    generalize (if k = 6 then (125 : Int) else 93) = c2 at *
    refine Gives.bind_eq (r := c1) rfl ?_
    simp only [List.length_cons, List.length_append, List.length_nil] at ho
    refine Gives.bind_eq (byte_go c1 out (by omega)) ?_
    refine Gives.loop (fun z => ∃ (q : Nat) (o : List Int), z = ([c1, c2], l, (l.length : Int), (q : Int), o, k, b, t, i, w, l, ns) ∧ q ≤ l.length ∧ o.length + (prL (decide (k = 6)) (decide (q = 0)) (l.drop q) (ns.drop q)).length ≤ 9999999999999 ∧ putL (decide (k = 6)) (decide (q = 0)) (l.drop q) (ns.drop q) o = putL (decide (k = 6)) true l ns (out ++ [c1])) (fun z => l.length - z.2.2.2.1.toNat) (fun rec z hz hrec => ?_) n _ ⟨0, out ++ [c1], rfl, by omega, by simp; omega, by simp⟩ (by dsimp only; omega)
    obtain ⟨q, o, rfl, hq, hol, hP⟩ := hz
    dsimp only at hrec ⊢
    refine Gives.dite (fun hlt => ?_) fun hge => ?_
    · have hql : q < l.length := by omega
      have hdl : l.drop q = l[q] :: l.drop (q + 1) := List.drop_eq_getElem_cons hql
      rw [hdl, putL] at hP
      rw [hdl, prL] at hol
      rw [List.tail_drop] at hP hol
      simp only [List.length_append] at hol
      refine Gives.bind_eq (idx_get hql) ?_
      generalize hcm : (if decide (q = 0) = true then ([] : List Int) else [44]) = cm at *
      have hcml : cm.length ≤ 1 := by rw [← hcm]; split <;> simp
      refine Gives.bind_eq (r := Out.go ([c1, c2], (q : Int), l, (l.length : Int), (q : Int), o ++ cm, k, b, t, i, w, l, ns, l[q].kind, l[q].b, l[q].text, l[q].n, l[q].whole, l[q].list, l[q].names)) ?_ ?_
      · by_cases h0 : q = 0
        · rw [if_neg (by simp; omega)]
          rw [← hcm, if_pos (by simpa using h0), List.append_nil]
        · rw [if_pos (by simp; omega), byte_go 44 o (by omega)]
          rw [← hcm, if_neg (by simpa using h0)]
          rfl
      dsimp only
      have hw64 : IntKind.wrap .i64 ((q : Int) + 1) = ((q + 1 : Nat) : Int) := by rw [wrap64 (by omega) (by omega)]; rfl
      have hx := fun (out' : List Int) (h' : out'.length + (pr l[q]).length ≤ 10000000000000) => ih l[q] (by have := depL_mem (List.getElem_mem hql); omega) (BtL_iff.1 hbl _ (List.getElem_mem hql)) (List.all_eq_true.1 hwl _ (List.getElem_mem hql)) m out' (by omega) h'
      refine Gives.eite (fun k6 => ?_) fun k6 => ?_
      · have hqn : q < ns.length := by have := hnl k6; omega
        have hdn : ns.drop q = ns[q] :: ns.drop (q + 1) := List.drop_eq_getElem_cons hqn
        rw [decide_eq_true k6] at hP hol
        rw [if_pos rfl, hdn, List.headD_cons] at hP hol
        simp only [List.length_append, List.length_cons, List.length_nil] at hol
        refine Gives.bind_eq (idx_get hqn) ?_
        refine Gives.bind (quoteTo_go (out := o ++ cm) (hns _ (List.getElem_mem hqn)).1 (by have := (hns _ (List.getElem_mem hqn)).2; omega) (by have := (hns _ (List.getElem_mem hqn)).2; omega) (by simp; omega)) fun r hr => ?_
        subst hr
        refine Gives.bind_eq (byte_go 58 _ (by simp; omega)) ?_
        refine Gives.bind (hx _ (by simp; omega)) fun r hr => ?_
        subst hr
        rw [hw64]
        have hpl := put_len l[q] (o ++ cm ++ qv ns[q] ++ [58])
        simp only [List.length_append, List.length_cons, List.length_nil] at hpl
        refine hrec _ ⟨q + 1, _, rfl, by omega, ?_, ?_⟩ (by dsimp only; omega)
        · rw [decide_eq_true k6, decide_eq_false (show ¬ q + 1 = 0 by omega)]; omega
        · rw [decide_eq_true k6, decide_eq_false (show ¬ q + 1 = 0 by omega), ← hP]
          simp only [List.append_assoc]
      · rw [decide_eq_false k6] at hP hol
        rw [if_neg (by simp)] at hP hol
        simp only [List.length_nil] at hol
        refine Gives.bind (hx _ (by simp; omega)) fun r hr => ?_
        subst hr
        rw [hw64]
        have hpl := put_len l[q] (o ++ cm)
        simp only [List.length_append] at hpl
        refine hrec _ ⟨q + 1, _, rfl, by omega, ?_, ?_⟩ (by dsimp only; omega)
        · rw [decide_eq_false k6, decide_eq_false (show ¬ q + 1 = 0 by omega)]; omega
        · rw [decide_eq_false k6, decide_eq_false (show ¬ q + 1 = 0 by omega), ← hP]
          simp only [List.append_nil]
    · obtain rfl : q = l.length := by omega
      rw [List.drop_length, putL] at hP
      refine Gives.bind_eq (r := c2) rfl ?_
      refine Gives.bind_eq (byte_go c2 o (by omega)) (Gives.of_some ?_)
      rw [hP]
/-- a value as a text, or the error. -/
def printed (v : JV) : (List Int) × Int := if valid v = 0 then (if 1048576 < (put v []).length then ([], 2) else (pr v, 0)) else ([], valid v)
theorem printed_put {v : JV} (h : ¬ 1048576 < (put v []).length) : put v [] = pr v := by
  have := put_whole v [] (by omega)
  simpa using this
theorem valid_well {v : JV} (h : valid v = 0) : well v = true ∧ tw v = false ∧ gd v ≤ 32 := by
  unfold valid at h
  split at h
  · omega
  · split at h
    · omega
    · split at h
      · omega
      · rename_i h1 h2 h3
        exact ⟨by simpa using h2, by simpa using h3, by omega⟩
theorem jPrint_go {B : Nat} (hB : B ≤ 10000000000) (hn : B + 1000 < n) {v : JV} (hd : dep v ≤ 200) (hb : Bt B v) (hp : well v = true → (pr v).length ≤ 10000000000000) : Gives (jPrint n (one v)) (fun r => r = printed v) := by
  unfold jPrint one printed
  simp only
  refine Gives.bind (jValid_go hB hn hd hb) fun r hr => ?_
  subst hr
  refine Gives.mite (fun h => ?_) fun h => ?_
  · rw [if_neg h]; exact Gives.of_some rfl
  rw [if_pos h]
  obtain ⟨hw, _, _⟩ := valid_well h
  refine Gives.bind (write_go hB (by omega) 200 v hd hb hw n [] (by omega) (by have := hp hw; simp; omega)) fun r hr => ?_
  subst hr
  refine Gives.bind_eq (r := (((put v []).length : Int), put v [])) rfl ?_
  dsimp only
  refine Gives.dite (fun h => ?_) fun h => ?_
  · rw [if_pos (by omega)]; exact Gives.of_some rfl
  · rw [if_neg (by omega)]
    refine Gives.bind_eq (r := put v []) rfl (Gives.of_some ?_)
    rw [printed_put (by omega)]
end
end Go.Sx.YtmbakmdgmccgiaaDoor
/-! W06AI: sizes of values; the law JsonValues. -/
namespace Go.Sx.YtmbakmdgmccgiaaDoor
open Go Go.Sx Go.Sx.Js
set_option autoImplicit false
set_option linter.unusedVariables false
set_option linter.unusedSimpArgs false
end Go.Sx.YtmbakmdgmccgiaaDoor
