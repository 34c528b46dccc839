/- Part of a proof by a small interpreter on plain values; no condition. -/
import Derived.Test.YtkmmpcggdpkjdaaDoorSx20
import Derived.Test.YtkmmpcggdpkjdaaDoorW
namespace Go.Sx.YtkmmpcggdpkjdaaDoor
open Go Go.Sx
set_option autoImplicit false
set_option linter.unusedVariables false
set_option linter.unusedSimpArgs false
/-! ### a number's digits -/
abbrev tab : List Int := [48, 49, 50, 51, 52, 53, 54, 55, 56, 57, 97, 98, 99, 100, 101, 102]
def ds (m : Nat) : List Int := if h : m < 10 then [48 + (m : Int)] else ds (m / 10) ++ [48 + ((m % 10 : Nat) : Int)]
termination_by m
decreasing_by omega
theorem ds_small {m : Nat} (h : m < 10) : ds m = [48 + (m : Int)] := by rw [ds, dif_pos h]
theorem ds_big {m : Nat} (h : ¬ m < 10) : ds m = ds (m / 10) ++ [48 + ((m % 10 : Nat) : Int)] := by rw [ds, dif_neg h]
theorem dig : ∀ d : Fin 10, idx tab (d.val : Int) = some (48 + (d.val : Int)) := by decide
theorem dig2 : ∀ d : Fin 10, (tab.drop d.val).take (d.val + 1 - d.val) = [48 + (d.val : Int)] := by decide
theorem tmod10 (m : Nat) : Int.tmod (m : Int) 10 = ((m % 10 : Nat) : Int) := by
  rw [Int.tmod_eq_emod_of_nonneg (by omega)]; omega
theorem wrap_u {n : Int} (h1 : 0 ≤ n) (h2 : n < 18446744073709551616) : IntKind.wrap .u64 n = n := by rw [wrap_u64]; omega
theorem tdiv10 (m : Nat) (h : m < 18446744073709551616) : IntKind.wrap .u64 (Int.tdiv (m : Int) 10) = ((m / 10 : Nat) : Int) := by
  rw [Int.tdiv_eq_ediv_of_nonneg (by omega), wrap_u (by omega) (by omega)]; omega
theorem ds_len (m : Nat) : ∀ k, m < 10 ^ (k + 1) → (ds m).length ≤ k + 1 := by
  intro k
  induction k generalizing m with
  | zero => intro h; rw [ds_small (by simpa using h)]; simp
  | succ k ih =>
    intro h
    by_cases c : m < 10
    · rw [ds_small c]; simp
    · rw [ds_big c]
      have := ih (m / 10) (by rw [Nat.pow_succ] at h; exact Nat.div_lt_of_lt_mul (by rw [Nat.mul_comm]; exact h))
      simp; omega
theorem digits_v (n : Nat) (hn : 30 < n) (m : Nat) (hm : m < 18446744073709551616) : digits n ((m : Int), 10) = some (ds m) := by
  apply Gives.eq
  unfold digits
  dsimp only
  refine Gives.loop (X := Int × Int × Int × List Int) (fun y => ∃ (k cur : Nat) (buf : List Int), k ≤ 20 ∧ buf.length = 20 ∧ cur < 10 ^ (20 - k) ∧ cur ≤ m ∧ (0 < k → cur = 0 → ds m = buf.drop (20 - k)) ∧ ((k = 0 ∨ 0 < cur) → ds m = ds cur ++ buf.drop (20 - k)) ∧ y = ((cur : Int), 10, ((20 - k : Nat) : Int), buf))
    (fun y => y.2.2.1.toNat) ?_ n _ ⟨0, m, _, by omega, rfl, by omega, by omega, fun h => by omega, fun _ => by simp, rfl⟩ (by dsimp only; omega)
  rintro rec y ⟨k, cur, buf, hk, hb, hc, hcm, h0, h1, rfl⟩ hr
  dsimp only
  refine Gives.bind (P := fun o => o = Out.go ((cur : Int), 10, ((20 - k : Nat) : Int), decide (k = 0 ∨ 0 < cur), buf)) ?_ ?_
  · by_cases c : k = 0
    · refine Gives.epos (by omega) (Gives.of_some ?_)
      simp [c]
    · refine Gives.eneg (by omega) (Gives.of_some ?_)
      simp [c]
  rintro _ rfl
  dsimp only
  by_cases c : k = 0 ∨ 0 < cur
  · rw [if_pos (decide_eq_true c)]
    have hk20 : k < 20 := by
      rcases Nat.lt_or_ge k 20 with h | h
      · exact h
      · have : k = 20 := by omega
        subst this
        simp at hc
        omega
    rw [tmod10, tdiv10 cur (by omega), wrap64 (n := ((20 - k : Nat) : Int) - 1) (by omega) (by omega)]
    refine Gives.neg (by decide) (Gives.bind_eq (dig ⟨cur % 10, Nat.mod_lt _ (by decide)⟩) ?_)
    dsimp only
    have e1 : ((20 - k : Nat) : Int) - 1 = ((20 - (k + 1) : Nat) : Int) := by omega
    rw [e1]
    refine Gives.pos (by rw [hb]) (Gives.pos (by omega) (Gives.neg (by decide) ?_))
    rw [Int.toNat_natCast]
    have hdrop : (buf.set (20 - (k + 1)) (48 + ((cur % 10 : Nat) : Int))).drop (20 - (k + 1)) = (48 + ((cur % 10 : Nat) : Int)) :: buf.drop (20 - k) := by
      rw [List.drop_set, if_neg (by omega), Nat.sub_self, List.drop_eq_getElem_cons (by omega), List.set_cons_zero]
      congr 2
      omega
    refine hr _ ⟨k + 1, cur / 10, _, by omega, by rw [List.length_set]; exact hb, ?_, by omega, fun _ hz => ?_, fun hz => ?_, rfl⟩ (by dsimp only; omega)
    · have : 10 ^ (20 - k) = 10 * 10 ^ (20 - (k + 1)) := by
        rw [show 20 - k = (20 - (k + 1)) + 1 from by omega, Nat.pow_succ, Nat.mul_comm]
      rw [this] at hc
      exact Nat.div_lt_of_lt_mul hc
    · have hlt : cur < 10 := by omega
      rw [hdrop, h1 c, ds_small hlt, Nat.mod_eq_of_lt hlt]; rfl
    · have hge : ¬ cur < 10 := by omega
      rw [hdrop, h1 c, ds_big hge, List.append_assoc]; rfl
  · rw [if_neg (by simpa using c)]
    refine Gives.pos (by rw [hb]) (Gives.pos (by omega) (Gives.of_some ?_))
    rw [Int.toNat_natCast, List.take_of_length_le (by rw [List.length_drop]; omega)]
    exact (h0 (by omega) (by omega)).symm
theorem rTold_v (n : Nat) (hn : 30 < n) (m : Nat) (hm : m < 18446744073709551616) : rTold n ((m : Int), 10) = some (ds m) := by
  apply Gives.eq
  unfold rTold
  dsimp only
  refine Gives.loop (X := Int × Int × List Int) (fun y => ∃ (k cur : Nat) (acc : List Int), k < 20 ∧ acc.length = k ∧ cur < 10 ^ (20 - k) ∧ cur ≤ m ∧ ds m = ds cur ++ acc ∧ y = ((cur : Int), 10, acc))
    (fun y => 20 - y.2.2.length) ?_ n _ ⟨0, m, [], by omega, rfl, by omega, by omega, by simp, rfl⟩ (by simp; omega)
  rintro rec y ⟨k, cur, acc, hk, ha, hc, hcm, h1, rfl⟩ hr
  dsimp only
  refine Gives.neg (by decide) (Gives.neg (by decide) ?_)
  rw [tmod10, tdiv10 cur (by omega), wrap_u (n := ((cur % 10 : Nat) : Int) + 1) (by omega) (by omega)]
  refine Gives.pos (by omega) ?_
  have e1 : (tab.drop (((cur % 10 : Nat) : Int)).toNat).take ((((cur % 10 : Nat) : Int) + 1).toNat - (((cur % 10 : Nat) : Int)).toNat) = [48 + ((cur % 10 : Nat) : Int)] := by
    have := dig2 ⟨cur % 10, Nat.mod_lt _ (by decide)⟩
    rw [show (((cur % 10 : Nat) : Int) + 1).toNat = cur % 10 + 1 from by omega, Int.toNat_natCast]
    exact this
  rw [e1]
  refine Gives.pos (by simp; omega) (Gives.neg (by decide) ?_)
  refine Gives.eite (fun c => Gives.of_some ?_) (fun c => ?_)
  · have hlt : cur < 10 := by omega
    rw [h1, ds_small hlt, Nat.mod_eq_of_lt hlt]
  · have hge : ¬ cur < 10 := by omega
    have hk19 : k < 19 := by
      rcases Nat.lt_or_ge k 19 with h | h
      · exact h
      · have : 20 - k = 1 := by omega
        rw [this] at hc
        omega
    refine hr _ ⟨k + 1, cur / 10, _, by omega, by simp; omega, ?_, by omega, ?_, rfl⟩ (by simp; omega)
    · have : 10 ^ (20 - k) = 10 * 10 ^ (20 - (k + 1)) := by
        rw [show 20 - k = (20 - (k + 1)) + 1 from by omega, Nat.pow_succ, Nat.mul_comm]
      rw [this] at hc
      exact Nat.div_lt_of_lt_mul hc
    · rw [h1, ds_big hge, List.append_assoc]
def u64N (x : Int) : Nat := (IntKind.wrap .u64 x).toNat
theorem u64N_eq (x : Int) : IntKind.wrap .u64 x = (u64N x : Int) ∧ u64N x < 18446744073709551616 := by
  unfold u64N
  rw [wrap_u64]
  have h1 := Int.emod_nonneg x (show (18446744073709551616 : Int) ≠ 0 by decide)
  have h2 := Int.emod_lt_of_pos x (show (0 : Int) < 18446744073709551616 by decide)
  omega
theorem ds_short (x : Int) : (ds (u64N x)).length ≤ 20 := ds_len _ 19 (Nat.lt_trans (u64N_eq x).2 (by decide))
theorem charsText_v (n : Nat) (hn : 30 < n) (x : Int) : ∃ r, charsText n x = some r ∧ turnstileref01RText n x = some r ∧ r.length ≤ 21 := by
  unfold charsText turnstileref01RText
  by_cases h : x < 0
  · have d : decide (x < 0) = true := decide_eq_true h
    rw [if_pos d, if_pos d]
    obtain ⟨h1, h2⟩ := u64N_eq (0 - IntKind.wrap .u64 x)
    have h3 := ds_short (0 - IntKind.wrap .u64 x)
    dsimp only
    rw [h1, digits_v n hn _ h2, rTold_v n hn _ h2]
    simp only [Option.bind_some]
    rw [if_pos (by omega)]
    exact ⟨_, rfl, rfl, by rw [List.length_append]; exact Nat.add_le_add (Nat.le_refl 1) h3⟩
  · have d : ¬ decide (x < 0) = true := by simpa using h
    rw [if_neg d, if_neg d]
    obtain ⟨h1, h2⟩ := u64N_eq x
    have h3 := ds_short x
    rw [h1, digits_v n hn _ h2, rTold_v n hn _ h2]
    exact ⟨_, rfl, rfl, by omega⟩
theorem text_v (n : Nat) (hn : 30 < n) (s f u : Int) : ∃ r, text n (s, f, u) = some r ∧ rText n (s, f, u) = some r := by
  unfold text rText
  dsimp only
  obtain ⟨r1, a1, a2, a3⟩ := charsText_v n hn f
  obtain ⟨r2, b1, b2, b3⟩ := charsText_v n hn u
  rw [a1, a2, b1, b2]
  simp only [Option.bind_some]
  rw [if_pos (show 7 + r1.length ≤ 140737488355328 by omega), if_pos (show 5 + r2.length ≤ 140737488355328 by omega)]
  by_cases h0 : s = 0 <;> by_cases h1 : s = 1 <;> by_cases h2 : s = 2 <;> simp [h0, h1, h2]
/-! ### the breaker -/
theorem valid_v (n : Nat) (F O : Int) : (valid n (F, O) = some 0 ∧ rValid n (F, O) = some 0 ∧ 0 ≤ F ∧ F ≤ 1000 ∧ (F = 0 → O = 0) ∧ (0 < F → 1 ≤ O ∧ O ≤ 1048576)) ∨ (valid n (F, O) = some 4 ∧ rValid n (F, O) = some 4) := by
  unfold valid rValid
  dsimp only
  by_cases h1 : F < 0
  · simp [h1]
  by_cases h2 : F > 1000
  · simp [h1, h2]
  by_cases h3 : F = 0
  · subst h3
    by_cases h4 : O = 0
    · subst h4; simp
    · simp [h4]
  · have h4 : F > 0 := by omega
    by_cases h5 : O < 1
    · simp [h1, h2, h3, h4, h5]
    · by_cases h6 : O > 1048576
      · simp [h1, h2, h3, h4, h5, h6]
      · left
        simp [h1, h2, h3, h4, h5, h6]
        omega
abbrev Can (s f u F : Int) : Prop := (s = 0 ∧ u = 0 ∧ 0 ≤ f ∧ (f = 0 ∨ f < F)) ∨ (s = 1 ∧ f = 0 ∧ 1 ≤ u ∧ u ≤ 2199023255552) ∨ (s = 2 ∧ f = 0 ∧ u = 0)
theorem rCan_v (n : Nat) (s f u F O : Int) : rCan n (s, f, u, F, O) = some (decide (Can s f u F)) := by
  unfold rCan
  dsimp only
  by_cases s0 : s = 0
  · subst s0
    by_cases hu : u = 0 <;> by_cases hf : 0 ≤ f <;> by_cases hf2 : f < F <;> by_cases hf3 : f = 0 <;> simp [hu, hf, hf2, hf3]
  · by_cases s1 : s = 1
    · subst s1
      by_cases hf3 : f = 0 <;> by_cases hu : 1 ≤ u <;> by_cases hu2 : u ≤ 2199023255552 <;> simp [hu, hu2, hf3]
    · by_cases s2 : s = 2
      · subst s2
        by_cases hf3 : f = 0 <;> by_cases hu : u = 0 <;> simp [hu, hf3]
      · simp [s0, s1, s2]
theorem chk_v (n : Nat) (s f u F O t : Int) (h : valid n (F, O) = some 0) : checked n (s, f, u, F, O, t) = some (if (0 ≤ t ∧ t ≤ 1099511627776) ∧ Can s f u F then 0 else 1) := by
  unfold checked
  dsimp only
  rw [h]
  simp only [Option.bind_some]
  by_cases t1 : 0 ≤ t
  · by_cases t2 : t ≤ 1099511627776
    · by_cases s0 : s = 0
      · subst s0
        by_cases hu : u = 0 <;> by_cases hf : 0 ≤ f <;> by_cases hf2 : f < F <;> by_cases hf3 : f = 0 <;> simp [t1, t2, hu, hf, hf2, hf3]
      · by_cases s1 : s = 1
        · subst s1
          by_cases hf3 : f = 0 <;> by_cases hu : 1 ≤ u <;> by_cases hu2 : u ≤ 2199023255552 <;> simp [t1, t2, hu, hu2, hf3]
        · by_cases s2 : s = 2
          · subst s2
            by_cases hf3 : f = 0 <;> by_cases hu : u = 0 <;> simp [t1, t2, hu, hf3]
          · simp [t1, t2, s0, s1, s2]
    · by_cases s0 : s = 0 <;> by_cases s1 : s = 1 <;> by_cases s2 : s = 2 <;> simp [t1, t2, s0, s1, s2]
  · by_cases s0 : s = 0 <;> by_cases s1 : s = 1 <;> by_cases s2 : s = 2 <;> simp [t1, s0, s1, s2]
theorem checked_v (n : Nat) (s f u F O t : Int) : ∃ e, checked n (s, f, u, F, O, t) = some e ∧ rCheck n (s, f, u, F, O, t) = some e ∧ (e = 0 → (0 ≤ F ∧ F ≤ 1000 ∧ (F = 0 → O = 0) ∧ (0 < F → 1 ≤ O ∧ O ≤ 1048576)) ∧ (0 ≤ t ∧ t ≤ 1099511627776) ∧ Can s f u F) := by
  rcases valid_v n F O with ⟨h1, h2, h3⟩ | ⟨h1, h2⟩
  · refine ⟨_, chk_v n s f u F O t h1, ?_, fun h => ?_⟩
    · unfold rCheck
      dsimp only
      rw [h2]
      simp only [Option.bind_some, rCan_v]
      by_cases hc : Can s f u F
      · by_cases t1 : t < 0
        · simp [hc, t1, show ¬ 0 ≤ t by omega]
        · by_cases t2 : t > 1099511627776
          · simp [hc, t1, t2, show ¬ t ≤ 1099511627776 by omega]
          · simp [hc, t1, t2, show 0 ≤ t by omega, show t ≤ 1099511627776 by omega]
      · simp [hc]
    · split at h
      · rename_i hc
        exact ⟨h3, hc.1, hc.2⟩
      · cases h
  · refine ⟨4, ?_, ?_, fun h => by cases h⟩
    · unfold checked
      dsimp only
      rw [h1]
      rfl
    · unfold rCheck
      dsimp only
      rw [h2]
      rfl
theorem ready_v (n : Nat) (s f u F O t : Int) : ∃ r, ready n (s, f, u, F, O, t) = some r ∧ rReady n (s, f, u, F, O, t) = some r := by
  obtain ⟨e, h1, h2, h3⟩ := checked_v n s f u F O t
  unfold ready rReady
  dsimp only
  rw [h1, h2]
  simp only [Option.bind_some]
  by_cases he : e = 0
  · subst he
    by_cases s0 : s = 0 <;> by_cases s1 : s = 1 <;> simp [s0, s1]
  · simp [he]
theorem say_v (n : Nat) (s f u F O t : Int) (w : Int) (hw : w = 0 ∨ w = 1 ∨ w = 2 ∨ w = 3) : ∃ r, say n (s, f, u, F, O, t, w) = some r ∧ rSay n (s, f, u, F, O, t, w) = some r := by
  obtain ⟨e, h1, h2, h3⟩ := checked_v n s f u F O t
  unfold say rSay begin good bad drop opened
  dsimp only
  rw [h1, h2]
  simp only [Option.bind_some]
  by_cases he : e = 0
  rotate_left
  · rcases hw with rfl | rfl | rfl | rfl <;> simp [he]
  obtain ⟨⟨f1, f2, f3, f4⟩, ⟨t1, t2⟩, hc⟩ := h3 he
  subst he
  have w1 := wrap64 (n := t + O) (by omega) (by omega)
  have w2 : f ≤ 1000 → 0 ≤ f → IntKind.wrap .i64 (f + 1) = f + 1 := fun _ _ => wrap64 (by omega) (by omega)
  rcases hc with ⟨rfl, rfl, c3, c4⟩ | ⟨rfl, rfl, c3, c4⟩ | ⟨rfl, rfl, rfl⟩
  · have w3 := w2 (by omega) c3
    rcases hw with rfl | rfl | rfl | rfl
    · simp
    · simp
    · by_cases hF : F = 0
      · simp [hF]
      · have hF' : 0 < F := by omega
        by_cases hl : f + 1 < F
        · simp [hF, hF', w3, hl, show f + 1 ≠ F by omega]
        · have he : f + 1 = F := by omega
          have hO := f4 hF'
          subst he
          simp [hF, hF', w1, w3, show ¬ 1 > t + O by omega]
    · simp
  · rcases hw with rfl | rfl | rfl | rfl
    · by_cases hl : u ≤ t <;> simp [hl]
    · simp
    · simp
    · simp
  · rcases hw with rfl | rfl | rfl | rfl
    · simp
    · simp
    · simp [w1]
    · simp
theorem sure_gen (k : Nat) : sure (k + 40) () = some true := by kernel_rfl
theorem breakerSays_true (s f u F O t : Int) : breakerSays 100 (s, f, u, F, O, t) = some true := by
  apply Gives.eq
  unfold breakerSays
  dsimp only
  obtain ⟨r1, a1, a2⟩ := ready_v 100 s f u F O t
  obtain ⟨r2, b1, b2⟩ := text_v 100 (by omega) s f u
  have hv : ∃ e, valid 100 (F, O) = some e ∧ rValid 100 (F, O) = some e := by
    rcases valid_v 100 F O with ⟨h1, h2, _⟩ | ⟨h1, h2⟩
    · exact ⟨_, h1, h2⟩
    · exact ⟨_, h1, h2⟩
  obtain ⟨e, c1, c2⟩ := hv
  refine Gives.bind_eq a1 (Gives.bind_eq a2 (Gives.neg (by simp) (Gives.bind_eq (num_eq _ _) (Gives.nneg rfl (Gives.bind_eq c1 (Gives.bind_eq (num_eq _ _) (Gives.bind_eq c2 (Gives.nneg rfl (Gives.bind_eq b1 (Gives.bind_eq b2 (Gives.neg (by simp) ?_)))))))))))
  refine Gives.loop (X := Int × Int × Int × Int × Int × Int × Int × Int × Int × Int) (fun y => ∃ k : Nat, k ≤ 4 ∧ y = (t, (k : Int), s, f, u, F, O, s, f, u)) (fun y => (4 - y.2.1).toNat) ?_ 100 _ ⟨0, by omega, rfl⟩ (by simp)
  rintro rec y ⟨k, hk, rfl⟩ hr
  dsimp only
  refine Gives.dite (fun h => ?_) (fun h => Gives.bind_eq (sure_gen 60) (Gives.of_some rfl))
  obtain ⟨r, d1, d2⟩ := say_v 100 s f u F O t (k : Int) (by omega)
  refine Gives.bind_eq d1 (Gives.bind_eq d2 (Gives.neg (by simp) (Gives.bind_eq (num_eq _ _) (Gives.nneg rfl ?_))))
  rw [wrap64 (by omega) (by omega)]
  exact hr _ ⟨k + 1, by omega, rfl⟩ (by dsimp only; omega)
end Go.Sx.YtkmmpcggdpkjdaaDoor
