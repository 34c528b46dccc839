/- Part of a proof by a small interpreter on plain values; no condition. -/
import Derived.Test.YtndkpphniekmlaaDoorWi
import Derived.Test.YtndkpphniekmlaaDoorSx33
namespace Go.Sx.YtndkpphniekmlaaDoor
open Go Go.Sx Go.Proofs
set_option autoImplicit false
set_option linter.unusedVariables false
set_option linter.unusedSimpArgs false
/-! the parts of a target. -/
abbrev Tg := Int × List Int × List Int × List Int × Bool × Int
def errT (e : Int) : Tg := (0, [], [], [], false, e)
def cutV (x : List Int) (k : Int) : List Int × List Int × Bool := if ixb x k = -1 then (x, ([], false)) else (x.take (ixb x k).toNat, (x.drop ((ixb x k).toNat + 1), true))
def behP (form : Int) (host rest : List Int) : Tg :=
  if pathP (if (cutV rest 63).1 = [] ∧ form = 2 then [47] else (cutV rest 63).1) = true ∧ queryP (cutV rest 63).2.1 = true then
    (form, host, (if (cutV rest 63).1 = [] ∧ form = 2 then [47] else (cutV rest 63).1), (cutV rest 63).2.1, (cutV rest 63).2.2, 0)
  else errT 23
def hostc (c : Int) : Bool := lett c || isd c || [45, 46, 95, 58].contains c
def hp : List Int → Nat
  | [] => 0
  | c :: r => if hostc c = true then hp r + 1 else 0
def HT : List Int := [104, 116, 116, 112, 58, 47, 47]
def absP (r : List Int) : Tg := if 1 ≤ hp r ∧ hp r ≤ 255 then behP 2 ((r.take (hp r)).map lwA) (r.drop (hp r)) else errT 23
def parP (s : List Int) : Tg :=
  if s.length > 65536 then errT 2
  else if s = [42] then (3, [], [], [], false, 0)
  else if s.take 1 = [47] then behP 1 [] s
  else if s.length ≥ 7 ∧ (s.take 7).map lwA = HT then absP (s.drop 7)
  else errT 23
theorem hp_le : ∀ s : List Int, hp s ≤ s.length
  | [] => by simp [hp]
  | c :: r => by
    rw [hp]
    have := hp_le r
    split <;> simp <;> omega
theorem hp_at : ∀ (s : List Int) (i : Nat), i < hp s → hostc (s.getD i 0) = true
  | [], i, h => by simp [hp] at h
  | c :: r, i, h => by
    rw [hp] at h
    split at h
    · rename_i hc
      cases i with
      | zero => exact hc
      | succ i => exact hp_at r i (by omega)
    · omega
theorem hp_end : ∀ (s : List Int), hp s < s.length → hostc (s.getD (hp s) 0) = false
  | [], h => by simp at h
  | c :: r, h => by
    rw [hp] at h ⊢
    split
    · rename_i hc
      rw [if_pos hc] at h
      exact hp_end r (by simp at h; omega)
    · rename_i hc
      simpa using hc
theorem hostc_low {c : Int} (h : hostc c = true) : 0 ≤ c ∧ c < 128 ∧ c ≠ 47 ∧ c ≠ 63 := by
  unfold hostc lett isd at h
  simp only [Bool.or_eq_true, decide_eq_true_eq, List.contains_iff_mem, List.mem_cons, List.not_mem_nil, or_false] at h
  omega
theorem cut_v (n : Nat) {x : List Int} (k : Int) (h : TX x) : cut n (x, [k]) = some (cutV x k) := cut_f n x k (by have := h.2; omega)
theorem rCut_v (n : Nat) {x : List Int} (k : Int) (h : TX x) (hn : 20000000 < n) : rCut n (x, k) = some (cutV x k) := by
  have hl := h.2
  refine Gives.eq ?_
  unfold rCut
  dsimp only
  refine Gives.loop (I := fun z => z.1 = x ∧ z.2.1 = k ∧ ∃ i : Nat, z.2.2 = (i : Int) ∧ i ≤ x.length ∧ k ∉ x.take i) (μ := fun z => x.length - z.2.2.toNat) ?_ n _ ⟨rfl, rfl, 0, rfl, by omega, by simp⟩ (by simp; omega)
  rintro rec ⟨a5, a6, a7⟩ ⟨e1, e2, i, e3, e4, e5⟩ hrec
  dsimp only at e1 e2 e3 hrec ⊢
  subst e1 e2 e3
  have hcase := ixb_case a5 a6
  refine Gives.dite (fun hlt => ?_) (fun hge => ?_)
  · have hi : i < a5.length := by omega
    refine Gives.idx 0 (by omega) hlt ?_
    rw [Int.toNat_natCast]
    refine Gives.eite (fun hk => ?_) (fun hk => ?_)
    · rcases hcase with ⟨_, hno⟩ | ⟨j, ej, hj, hj1, hj2⟩
      · exact absurd (by rw [← hk]; exact getD_mem hi) hno
      · have hji : j = i := by
          rcases Nat.lt_trichotomy j i with g | g | g
          · exfalso; refine e5 ?_
            have : (a5.take i).getD j 0 = a6 := by
              rw [hj2]; simp [List.getD_eq_getElem?_getD, g, List.getElem?_take]
              simp [List.getElem?_append, show ¬ j < min j a5.length by omega, show j - min j a5.length = 0 by omega]
            rw [← this]; exact getD_mem (by simp; omega)
          · exact g
          · exfalso; refine hj1 ?_
            have : (a5.take j).getD i 0 = a6 := by
              rw [← hk]; simp [List.getD_eq_getElem?_getD, g, List.getElem?_take]
            rw [← this]; exact getD_mem (by simp; omega)
        subst hji
        refine Gives.pos (by omega) ?_
        rw [wr1 hi (by omega)]
        refine Gives.pos (by omega) (Gives.of_some ?_)
        unfold cutV
        rw [ej, if_neg (c := ((j : Int) = -1)) (by omega)]
        simp only [Int.toNat_natCast, List.drop_zero, Nat.sub_zero]
        rw [List.take_of_length_le (show (a5.drop (j + 1)).length ≤ a5.length - (j + 1) by simp)]
    · rw [wr1 hi (by omega)]
      refine hrec _ ⟨rfl, rfl, i + 1, rfl, by omega, ?_⟩ (by dsimp only; omega)
      rw [take_succ a5 i 0 hi]
      intro hm
      rcases List.mem_append.1 hm with g | g
      · exact e5 g
      · exact hk (List.mem_singleton.1 g).symm
  · refine Gives.of_some ?_
    have : i = a5.length := by omega
    rw [this, List.take_length] at e5
    rcases hcase with ⟨e, _⟩ | ⟨j, ej, hj, hj1, hj2⟩
    · unfold cutV; rw [if_pos e]
    · exact absurd (by rw [hj2]; simp) e5
theorem cutV_TX {x : List Int} (k : Int) (h : TX x) : TX (cutV x k).1 ∧ TX (cutV x k).2.1 := by
  unfold cutV
  split
  · exact ⟨h, by simp [TX, BL]⟩
  · exact ⟨h.take _, h.drop _⟩
theorem rSmall_v (n : Nat) {s : List Int} (h : TX s) (hn : 20000000 < n) : rSmall n s = some (s.map lwA) := by
  have hl := h.2
  refine Gives.eq ?_
  unfold rSmall
  refine Gives.loop (I := fun z => z.1 = s ∧ ∃ i : Nat, z.2.1 = (i : Int) ∧ i ≤ s.length ∧ z.2.2 = (s.take i).map lwA) (μ := fun z => s.length - z.2.1.toNat) ?_ n _ ⟨rfl, 0, rfl, by omega, by simp⟩ (by simp; omega)
  rintro rec ⟨a4, a5, a6⟩ ⟨e1, i, e2, e3, e4⟩ hrec
  dsimp only at e1 e2 e4 hrec ⊢
  subst e1 e2
  have hlen : a6.length ≤ 20000000 := by rw [e4]; simp; omega
  refine Gives.dite (fun hlt => ?_) (fun hge => Gives.of_some (by rw [e4, show i = a4.length by omega, List.take_length]))
  have hi : i < a4.length := by omega
  have hb := h.1.at hi
  refine Gives.idx 0 (by omega) hlt ?_
  rw [Int.toNat_natCast, wr1 hi (by omega)]
  have nx : ∀ c, c = lwA (a4.getD i 0) → Gives (rec (a4, (((i + 1 : Nat) : Int), a6 ++ [c]))) (· = a4.map lwA) := fun c hc =>
    hrec _ ⟨rfl, i + 1, rfl, by omega, by dsimp only; rw [take_succ a4 i 0 hi, List.map_append, e4, hc]; rfl⟩ (by dsimp only; omega)
  refine Gives.dite (fun h1 => ?_) (fun h1 => Gives.pos (by omega) (nx _ (by unfold lwA; rw [if_neg (by omega)])))
  refine Gives.dite (fun h2 => Gives.pos (by omega) (nx _ (by unfold lwA; rw [if_pos (by omega), wrap_u8]; omega))) (fun h2 => Gives.pos (by omega) (nx _ (by unfold lwA; rw [if_neg (by omega)])))
theorem rBehind_v (n : Nat) (form : Int) (host : List Int) {s : List Int} (h : TX s) (hn : 20000000 < n) : rBehind n (form, (host, ([], ([], (false, s))))) = some (behP form host s) := by
  refine Gives.eq ?_
  unfold rBehind behP
  dsimp only
  obtain ⟨t1, t2⟩ := cutV_TX 63 h
  refine Gives.bind_eq (rCut_v n 63 h hn) ?_
  generalize cutV s 63 = c at t1 t2
  obtain ⟨p, q, has⟩ := c
  dsimp only at t1 t2 ⊢
  refine Gives.bind_eq (r := Out.go ((if p = [] ∧ form = 2 then [47] else p), (q, (has, (form, (host, ([], ([], (false, ((0 : Int), ([], ([], ([], false))))))))))))) ?_ ?_
  · by_cases hp : p = []
    · rw [if_pos (by simpa using hp)]
      by_cases hf : form = 2
      · rw [if_pos (by simpa using hf), if_pos ⟨hp, hf⟩]
      · rw [if_neg (by simpa using hf), if_neg (fun e => hf e.2)]
    · rw [if_neg (by simpa using hp), if_neg (fun e => hp e.1)]
  · dsimp only
    have t3 : TX (if p = [] ∧ form = 2 then [47] else p) := by
      split
      · exact ⟨fun c hc => by rw [List.mem_singleton.1 hc]; omega, by simp⟩
      · exact t1
    revert t3
    generalize (if p = [] ∧ form = 2 then [47] else p) = p'
    intro t3
    refine Gives.bind_eq (rPath_v n t3 hn) ?_
    refine Gives.ite (fun g => Gives.of_some (by rw [if_neg (fun e => by rw [e.1] at g; cases g)]; rfl)) (fun g => ?_)
    have g' : pathP p' = true := by simpa using g
    refine Gives.bind_eq (rQuery_v n t2 hn) ?_
    refine Gives.ite (fun g2 => Gives.of_some (by rw [if_neg (fun e => by rw [e.2] at g2; cases g2)]; rfl)) (fun g2 => Gives.of_some ?_)
    rw [if_pos ⟨g', by simpa using g2⟩]
theorem rParse_v (n : Nat) {s : List Int} (h : TX s) (hn : 300000000 < n) : rParse n s = some (parP s) := by
  have hl := h.2
  refine Gives.eq ?_
  unfold rParse parP
  refine Gives.dite (fun g => Gives.of_some (by rw [if_pos (c := s.length > 65536) (by omega)]; rfl)) (fun g => ?_)
  rw [if_neg (c := s.length > 65536) (by omega)]
  refine Gives.ite (fun g2 => Gives.of_some (by rw [if_pos (c := s = [42]) (by simpa using g2)])) (fun g2 => ?_)
  rw [if_neg (c := s = [42]) (by simpa using g2)]
  refine Gives.bind_eq (r := Out.go (s, (decide (s.take 1 = [47]), ((0 : Int), ([], ([], ([], false))))))) ?_ ?_
  · cases s with
    | nil => rfl
    | cons a r =>
      rw [if_pos (by simp), idx_eq 0 (by omega) (by simp), Option.bind_some, show (a :: r).getD (0 : Int).toNat 0 = a from rfl]
      have : (a == 47) = decide ((a :: r).take 1 = [47]) := by rw [Bool.eq_iff_iff]; simp
      rw [this]
  · dsimp only
    refine Gives.dite (fun g3 => ?_) (fun g3 => ?_)
    · rw [if_pos g3]
      exact Gives.bind_eq (rBehind_v n 1 [] h (by omega)) (Gives.of_some rfl)
    rw [if_neg g3]
    refine Gives.dite (fun g4 => Gives.of_some (by rw [if_neg (c := s.length ≥ 7 ∧ (s.take 7).map lwA = HT) (fun e => by omega)]; rfl)) (fun g4 => ?_)
    refine Gives.pos (by omega) ?_
    have ht : (s.drop 0).take (7 - 0) = s.take 7 := rfl
    rw [ht]
    refine Gives.bind_eq (rSmall_v n (h.take 7) (by omega)) ?_
    refine Gives.ite (fun g5 => Gives.of_some ?_) (fun g5 => ?_)
    · rw [if_neg (c := s.length ≥ 7 ∧ (s.take 7).map lwA = HT) (fun e => by rw [e.2] at g5; exact absurd g5 (by decide))]; rfl
    have g5' : (s.take 7).map lwA = HT := by simpa [HT] using g5
    rw [if_pos (c := s.length ≥ 7 ∧ (s.take 7).map lwA = HT) ⟨by omega, g5'⟩]
    refine Gives.pos (by omega) ?_
    have ht2 : (s.drop 7).take ((s.length : Int).toNat - 7) = s.drop 7 := List.take_of_length_le (by simp)
    rw [ht2]
    have h7 := h.drop 7
    revert h7
    generalize s.drop 7 = y
    intro h7
    have hy := h7.2
    have hpl := hp_le y
    unfold absP
    refine Gives.loop (I := fun z => z.1 = y ∧ z.2.2 = ((0 : Int), ([], ([], ([], false)))) ∧ ∃ i : Nat, z.2.1 = (i : Int) ∧ i ≤ hp y) (μ := fun z => y.length - z.2.1.toNat) ?_ n _ ⟨rfl, rfl, 0, rfl, by omega⟩ (by simp; omega)
    rintro rec ⟨a16, a17, a18⟩ ⟨e1, e2, i, e3, e4⟩ hrec
    dsimp only at e1 e2 e3 hrec
    subst e1 e2 e3
    dsimp only
    refine Gives.bind_eq (r := Out.go (a16, ((i : Int), (decide (i < hp a16), ((0 : Int), ([], ([], ([], false)))))))) ?_ ?_
    · by_cases hlt : (i : Int) < a16.length
      · rw [if_pos (by simpa using hlt), idx_eq 0 (by omega) hlt, Option.bind_some, Int.toNat_natCast, rLetter_v, Option.bind_some]
        have hh : hostc (a16.getD i 0) = decide (i < hp a16) := by
          by_cases hi : i < hp a16
          · rw [hp_at a16 i hi, decide_eq_true hi]
          · have : i = hp a16 := by omega
            rw [this, hp_end a16 (by omega), decide_eq_false (by omega)]
        rw [← hh]
        unfold hostc
        cases (lett (a16.getD i 0) || isd (a16.getD i 0)) with
        | true => rfl
        | false =>
          rw [if_neg Bool.false_ne_true, Option.bind_some, rAmong_v n _ _ (by simp) (by omega), Option.bind_some, Bool.false_or]
      · rw [if_neg (by simpa using hlt), decide_eq_false (by omega)]
    · dsimp only
      refine Gives.dite (fun hi => ?_) (fun hi => ?_)
      · rw [show IntKind.wrap .i64 ((i : Int) + 1) = ((i + 1 : Nat) : Int) by rw [wrap64 (by omega) (by omega)]; omega]
        exact hrec _ ⟨rfl, rfl, i + 1, rfl, by omega⟩ (by dsimp only; omega)
      · have hie : i = hp a16 := by omega
        subst hie
        refine Gives.dite (fun k1 => Gives.of_some (by rw [if_neg (c := 1 ≤ hp a16 ∧ hp a16 ≤ 255) (by omega)]; rfl)) (fun k1 => ?_)
        refine Gives.dite (fun k2 => Gives.of_some (by rw [if_neg (c := 1 ≤ hp a16 ∧ hp a16 ≤ 255) (by omega)]; rfl)) (fun k2 => ?_)
        rw [if_pos (c := 1 ≤ hp a16 ∧ hp a16 ≤ 255) (by omega)]
        refine Gives.pos (by omega) ?_
        have t1 : (a16.drop 0).take (((hp a16 : Nat) : Int).toNat - 0) = a16.take (hp a16) := rfl
        rw [t1]
        refine Gives.bind_eq (rSmall_v n (h7.take _) (by omega)) ?_
        refine Gives.pos (by omega) ?_
        have t2 : (a16.drop ((hp a16 : Nat) : Int).toNat).take ((a16.length : Int).toNat - ((hp a16 : Nat) : Int).toNat) = a16.drop (hp a16) := List.take_of_length_le (by simp)
        rw [t2]
        exact Gives.bind_eq (rBehind_v n 2 _ (h7.drop _) (by omega)) (Gives.of_some rfl)
end Go.Sx.YtndkpphniekmlaaDoor
