/- Part of a proof by a small interpreter on plain values; no condition. -/
import Derived.Test.YtdcogkfjnlpidaaDoorSx20
import Derived.Test.YtdcogkfjnlpidaaDoorWa
/-! W07K: digits, numbers. -/
namespace Go.Sx.YtdcogkfjnlpidaaDoor
open Go Go.Sx
set_option autoImplicit false
set_option linter.unusedVariables false
set_option linter.unusedSimpArgs false
def BL (s : List Int) : Prop := ∀ c ∈ s, 0 ≤ c ∧ c ≤ 255
theorem BL.take {s : List Int} (h : BL s) (n : Nat) : BL (s.take n) := fun c hc => h c (List.mem_of_mem_take hc)
theorem BL.drop {s : List Int} (h : BL s) (n : Nat) : BL (s.drop n) := fun c hc => h c (List.mem_of_mem_drop hc)
theorem getD_mem {α : Type} {s : List α} {i : Nat} {d : α} (h : i < s.length) : s.getD i d ∈ s := by
  rw [List.getD_eq_getElem?_getD, List.getElem?_eq_getElem h]; exact List.getElem_mem h
theorem BL.at {s : List Int} (h : BL s) {i : Nat} (hi : i < s.length) : 0 ≤ s.getD i 0 ∧ s.getD i 0 ≤ 255 := h _ (getD_mem hi)
theorem wrap_u8 (n : Int) : IntKind.wrap .u8 n = n % 256 := by simp [IntKind.wrap, IntKind.bits, IntKind.signed]
theorem take_succ {α : Type} (s : List α) (i : Nat) (d : α) (h : i < s.length) : s.take (i + 1) = s.take i ++ [s.getD i d] := by
  rw [List.take_add_one, List.getD_eq_getElem?_getD, List.getElem?_eq_getElem h]; rfl
theorem drop_cons {α : Type} (s : List α) (i : Nat) (d : α) (h : i < s.length) : s.drop i = s.getD i d :: s.drop (i + 1) := by
  rw [List.drop_eq_getElem_cons h, List.getD_eq_getElem?_getD, List.getElem?_eq_getElem h]; rfl
theorem digit_v (n : Nat) (c : Int) : digit n c = some (decide (48 ≤ c ∧ c ≤ 57)) := by
  unfold digit
  by_cases h : 48 ≤ c
  · rw [if_pos (by simpa using h)]; simp [h]
  · rw [if_neg (by simpa using h)]; simp [h]
/-! ### a number's digits -/
abbrev tab : List Int := [48, 49, 50, 51, 52, 53, 54, 55, 56, 57, 97, 98, 99, 100, 101, 102]
def ds (m : Nat) : List Int := if h : m < 10 then [48 + (m : Int)] else ds (m / 10) ++ [48 + ((m % 10 : Nat) : Int)]
termination_by m
decreasing_by omega
theorem ds_small {m : Nat} (h : m < 10) : ds m = [48 + (m : Int)] := by rw [ds, dif_pos h]
theorem ds_big {m : Nat} (h : ¬ m < 10) : ds m = ds (m / 10) ++ [48 + ((m % 10 : Nat) : Int)] := by rw [ds, dif_neg h]
theorem dig : ∀ d : Fin 10, idx tab (d.val : Int) = some (48 + (d.val : Int)) := by decide
theorem dig2 : ∀ d : Fin 10, (tab.drop d.val).take (d.val + 1 - d.val) = [48 + (d.val : Int)] := by decide
theorem tmod10 (m : Nat) : Int.tmod (m : Int) 10 = ((m % 10 : Nat) : Int) := by
  rw [Int.tmod_eq_emod_of_nonneg (by omega)]; omega
theorem wrap_u {n : Int} (h1 : 0 ≤ n) (h2 : n < 18446744073709551616) : IntKind.wrap .u64 n = n := by rw [wrap_u64]; omega
theorem tdiv10 (m : Nat) (h : m < 18446744073709551616) : IntKind.wrap .u64 (Int.tdiv (m : Int) 10) = ((m / 10 : Nat) : Int) := by
  rw [Int.tdiv_eq_ediv_of_nonneg (by omega), wrap_u (by omega) (by omega)]; omega
theorem ds_len (m : Nat) : ∀ k, m < 10 ^ (k + 1) → (ds m).length ≤ k + 1 := by
  intro k
  induction k generalizing m with
  | zero => intro h; rw [ds_small (by simpa using h)]; simp
  | succ k ih =>
    intro h
    by_cases c : m < 10
    · rw [ds_small c]; simp
    · rw [ds_big c]
      have := ih (m / 10) (by rw [Nat.pow_succ] at h; exact Nat.div_lt_of_lt_mul (by rw [Nat.mul_comm]; exact h))
      simp; omega
theorem digits_v (n : Nat) (hn : 30 < n) (m : Nat) (hm : m < 18446744073709551616) : digits n ((m : Int), 10) = some (ds m) := by
  apply Gives.eq
  unfold digits
  dsimp only
  refine Gives.loop (X := Int × Int × Int × List Int) (fun y => ∃ (k cur : Nat) (buf : List Int), k ≤ 20 ∧ buf.length = 20 ∧ cur < 10 ^ (20 - k) ∧ cur ≤ m ∧ (0 < k → cur = 0 → ds m = buf.drop (20 - k)) ∧ ((k = 0 ∨ 0 < cur) → ds m = ds cur ++ buf.drop (20 - k)) ∧ y = ((cur : Int), 10, ((20 - k : Nat) : Int), buf))
    (fun y => y.2.2.1.toNat) ?_ n _ ⟨0, m, _, by omega, rfl, by omega, by omega, fun h => by omega, fun _ => by simp, rfl⟩ (by dsimp only; omega)
  rintro rec y ⟨k, cur, buf, hk, hb, hc, hcm, h0, h1, rfl⟩ hr
  dsimp only
  refine Gives.bind (P := fun o => o = Out.go ((cur : Int), 10, ((20 - k : Nat) : Int), decide (k = 0 ∨ 0 < cur), buf)) ?_ ?_
  · by_cases c : k = 0
    · refine Gives.epos (by omega) (Gives.of_some ?_)
      simp [c]
    · refine Gives.eneg (by omega) (Gives.of_some ?_)
      simp [c]
  rintro _ rfl
  dsimp only
  by_cases c : k = 0 ∨ 0 < cur
  · rw [if_pos (decide_eq_true c)]
    have hk20 : k < 20 := by
      rcases Nat.lt_or_ge k 20 with h | h
      · exact h
      · have : k = 20 := by omega
        subst this
        simp at hc
        omega
    rw [tmod10, tdiv10 cur (by omega), wrap64 (n := ((20 - k : Nat) : Int) - 1) (by omega) (by omega)]
    refine Gives.neg (by decide) (Gives.bind_eq (dig ⟨cur % 10, Nat.mod_lt _ (by decide)⟩) ?_)
    dsimp only
    have e1 : ((20 - k : Nat) : Int) - 1 = ((20 - (k + 1) : Nat) : Int) := by omega
    rw [e1]
    refine Gives.pos (by rw [hb]) (Gives.pos (by omega) (Gives.neg (by decide) ?_))
    rw [Int.toNat_natCast]
    have hdrop : (buf.set (20 - (k + 1)) (48 + ((cur % 10 : Nat) : Int))).drop (20 - (k + 1)) = (48 + ((cur % 10 : Nat) : Int)) :: buf.drop (20 - k) := by
      rw [List.drop_set, if_neg (by omega), Nat.sub_self, List.drop_eq_getElem_cons (by omega), List.set_cons_zero]
      congr 2
      omega
    refine hr _ ⟨k + 1, cur / 10, _, by omega, by rw [List.length_set]; exact hb, ?_, by omega, fun _ hz => ?_, fun hz => ?_, rfl⟩ (by dsimp only; omega)
    · have : 10 ^ (20 - k) = 10 * 10 ^ (20 - (k + 1)) := by
        rw [show 20 - k = (20 - (k + 1)) + 1 from by omega, Nat.pow_succ, Nat.mul_comm]
      rw [this] at hc
      exact Nat.div_lt_of_lt_mul hc
    · have hlt : cur < 10 := by omega
      rw [hdrop, h1 c, ds_small hlt, Nat.mod_eq_of_lt hlt]; rfl
    · have hge : ¬ cur < 10 := by omega
      rw [hdrop, h1 c, ds_big hge, List.append_assoc]; rfl
  · rw [if_neg (by simpa using c)]
    refine Gives.pos (by rw [hb]) (Gives.pos (by omega) (Gives.of_some ?_))
    rw [Int.toNat_natCast, List.take_of_length_le (by rw [List.length_drop]; omega)]
    exact (h0 (by omega) (by omega)).symm
theorem rTold_v (n : Nat) (hn : 30 < n) (m : Nat) (hm : m < 18446744073709551616) : rTold n ((m : Int), 10) = some (ds m) := by
  apply Gives.eq
  unfold rTold
  dsimp only
  refine Gives.loop (X := Int × Int × List Int) (fun y => ∃ (k cur : Nat) (acc : List Int), k < 20 ∧ acc.length = k ∧ cur < 10 ^ (20 - k) ∧ cur ≤ m ∧ ds m = ds cur ++ acc ∧ y = ((cur : Int), 10, acc))
    (fun y => 20 - y.2.2.length) ?_ n _ ⟨0, m, [], by omega, rfl, by omega, by omega, by simp, rfl⟩ (by simp; omega)
  rintro rec y ⟨k, cur, acc, hk, ha, hc, hcm, h1, rfl⟩ hr
  dsimp only
  refine Gives.neg (by decide) (Gives.neg (by decide) ?_)
  rw [tmod10, tdiv10 cur (by omega), wrap_u (n := ((cur % 10 : Nat) : Int) + 1) (by omega) (by omega)]
  refine Gives.pos (by omega) ?_
  have e1 : (tab.drop (((cur % 10 : Nat) : Int)).toNat).take ((((cur % 10 : Nat) : Int) + 1).toNat - (((cur % 10 : Nat) : Int)).toNat) = [48 + ((cur % 10 : Nat) : Int)] := by
    have := dig2 ⟨cur % 10, Nat.mod_lt _ (by decide)⟩
    rw [show (((cur % 10 : Nat) : Int) + 1).toNat = cur % 10 + 1 from by omega, Int.toNat_natCast]
    exact this
  rw [e1]
  refine Gives.pos (by simp; omega) (Gives.neg (by decide) ?_)
  refine Gives.eite (fun c => Gives.of_some ?_) (fun c => ?_)
  · have hlt : cur < 10 := by omega
    rw [h1, ds_small hlt, Nat.mod_eq_of_lt hlt]
  · have hge : ¬ cur < 10 := by omega
    have hk19 : k < 19 := by
      rcases Nat.lt_or_ge k 19 with h | h
      · exact h
      · have : 20 - k = 1 := by omega
        rw [this] at hc
        omega
    refine hr _ ⟨k + 1, cur / 10, _, by omega, by simp; omega, ?_, by omega, ?_, rfl⟩ (by simp; omega)
    · have : 10 ^ (20 - k) = 10 * 10 ^ (20 - (k + 1)) := by
        rw [show 20 - k = (20 - (k + 1)) + 1 from by omega, Nat.pow_succ, Nat.mul_comm]
      rw [this] at hc
      exact Nat.div_lt_of_lt_mul hc
    · rw [h1, ds_big hge, List.append_assoc]
def u64N (x : Int) : Nat := (IntKind.wrap .u64 x).toNat
theorem u64N_eq (x : Int) : IntKind.wrap .u64 x = (u64N x : Int) ∧ u64N x < 18446744073709551616 := by
  unfold u64N
  rw [wrap_u64]
  have h1 := Int.emod_nonneg x (show (18446744073709551616 : Int) ≠ 0 by decide)
  have h2 := Int.emod_lt_of_pos x (show (0 : Int) < 18446744073709551616 by decide)
  omega
theorem ds_short (x : Int) : (ds (u64N x)).length ≤ 20 := ds_len _ 19 (Nat.lt_trans (u64N_eq x).2 (by decide))
theorem charsText_v (n : Nat) (hn : 30 < n) (x : Int) : ∃ r, charsText n x = some r ∧ rText n x = some r ∧ r.length ≤ 21 := by
  unfold charsText rText
  by_cases h : x < 0
  · have d : decide (x < 0) = true := decide_eq_true h
    rw [if_pos d, if_pos d]
    obtain ⟨h1, h2⟩ := u64N_eq (0 - IntKind.wrap .u64 x)
    have h3 := ds_short (0 - IntKind.wrap .u64 x)
    dsimp only
    rw [h1, digits_v n hn _ h2, rTold_v n hn _ h2]
    simp only [Option.bind_some]
    rw [if_pos (by omega)]
    exact ⟨_, rfl, rfl, by rw [List.length_append]; exact Nat.add_le_add (Nat.le_refl 1) h3⟩
  · have d : ¬ decide (x < 0) = true := by simpa using h
    rw [if_neg d, if_neg d]
    obtain ⟨h1, h2⟩ := u64N_eq x
    have h3 := ds_short x
    rw [h1, digits_v n hn _ h2, rTold_v n hn _ h2]
    exact ⟨_, rfl, rfl, by omega⟩
def isd (c : Int) : Bool := decide (48 ≤ c ∧ c ≤ 57)
def dnum (x : List Int) : Int := x.foldl (fun v c => v * 10 + (c - 48)) 0
def dv (x : List Int) (m : Int) : Int × Int := if x.all isd = true ∧ x ≠ [] then (if m < dnum x then (0, 4) else (dnum x, 0)) else (0, 3)
theorem dnum_app (x : List Int) (c : Int) : dnum (x ++ [c]) = dnum x * 10 + (c - 48) := by simp [dnum, List.foldl_append]
theorem hex_v (n : Nat) (c : Int) (hc : 0 ≤ c ∧ c ≤ 255) : Gives (hex n c) (fun r => (isd c = true → r = (c - 48, true)) ∧ (isd c = false → r.2 = false ∨ 10 ≤ r.1)) := by
  unfold hex
  refine Gives.bind_eq (digit_v n c) ?_
  refine Gives.ite (fun h => ?_) (fun h => ?_)
  · have h' : 48 ≤ c ∧ c ≤ 57 := by simpa using h
    refine Gives.of_some ⟨fun _ => ?_, fun h2 => ?_⟩
    · rw [wrap_u8, wrap64 (by omega) (by omega)]; congr 1; omega
    · unfold isd at h2; rw [h] at h2; cases h2
  · have hi : isd c = false := by simpa [isd] using h
    have fin : ∀ r : Int × Bool, (r.2 = false ∨ 10 ≤ r.1) → Gives (some r) (fun r => (isd c = true → r = (c - 48, true)) ∧ (isd c = false → r.2 = false ∨ 10 ≤ r.1)) := fun r hr => Gives.of_some ⟨fun h2 => (by rw [hi] at h2; cases h2), fun _ => hr⟩
    have big : ∀ k : Int, 10 ≤ IntKind.wrap .i64 (IntKind.wrap .i64 (IntKind.wrap .u8 (c - k)) + 10) := fun k => by
      rw [wrap_u8, wrap64 (n := (c - k) % 256) (by omega) (by omega), wrap64 (by omega) (by omega)]; omega
    have up : Gives (if (decide (c ≥ (65 : Int))) = true then
        (if (decide (c ≤ (70 : Int))) = true then
        (let u8 : Int := (IntKind.wrap .i64 (IntKind.wrap .u8 (c - (65 : Int))))
        (let u9 : Int := (IntKind.wrap .i64 (u8 + (10 : Int)))
        some (u9, true)))
        else
        some ((0 : Int), false))
        else
        some ((0 : Int), false)) (fun r => (isd c = true → r = (c - 48, true)) ∧ (isd c = false → r.2 = false ∨ 10 ≤ r.1)) := by
      refine Gives.dite (fun _ => ?_) (fun _ => fin _ (.inl rfl))
      refine Gives.dite (fun _ => fin _ (.inr (big 65))) (fun _ => fin _ (.inl rfl))
    refine Gives.dite (fun _ => ?_) (fun _ => up)
    refine Gives.dite (fun _ => fin _ (.inr (big 97))) (fun _ => up)
theorem rHex_v (n : Nat) (c : Int) (hc : 0 ≤ c ∧ c ≤ 255) : Gives (rHex n c) (fun r => (isd c = true → r = (c - 48, true)) ∧ (isd c = false → r.2 = false ∨ 10 ≤ r.1)) := hex_v n c hc
theorem dnum_nonneg : ∀ (x : List Int) (i : Nat), (∀ c ∈ x.take i, isd c = true) → 0 ≤ dnum (x.take i)
  | x, 0, _ => by simp [dnum]
  | x, i + 1, h => by
    by_cases hi : i < x.length
    · rw [take_succ x i 0 hi] at h ⊢
      have := dnum_nonneg x i (fun c hc => h c (by simp [hc]))
      have hd := h (x.getD i 0) (by simp)
      unfold isd at hd
      simp only [decide_eq_true_eq] at hd
      rw [dnum_app]; omega
    · rw [List.take_of_length_le (by omega)] at h ⊢
      have := dnum_nonneg x i (by rw [List.take_of_length_le (by omega)]; exact h)
      rw [List.take_of_length_le (by omega)] at this
      exact this
theorem div10 {m d a : Int} (h0 : 0 ≤ m - d) (ha : 0 ≤ a) : a > Int.tdiv (m - d) 10 ↔ m < a * 10 + d := by
  rw [Int.tdiv_eq_ediv_of_nonneg h0]; omega
theorem bad3 {x : List Int} {m c : Int} (hm : c ∈ x) (hc : isd c = false) : dv x m = (0, 3) := by
  unfold dv
  rw [if_neg]
  rintro ⟨h, _⟩
  have := List.all_eq_true.1 h c hm
  rw [hc] at this; cases this
theorem dnum_mono (x : List Int) (m : Int) (h : x.all isd = true) (hm : 0 ≤ m) : ∀ i, m < dnum (x.take i) → m < dnum x := by
  have step : ∀ i, m < dnum (x.take i) → m < dnum (x.take (i + 1)) := fun i hi => by
    by_cases hl : i < x.length
    · rw [take_succ x i 0 hl, dnum_app]
      have hd := List.all_eq_true.1 h _ (getD_mem (d := 0) hl)
      unfold isd at hd
      simp only [decide_eq_true_eq] at hd
      omega
    · rw [List.take_of_length_le (by omega)] at hi ⊢; exact hi
  intro i hi
  have : ∀ k, m < dnum (x.take (i + k)) := fun k => by
    induction k with
    | zero => exact hi
    | succ k ih => exact step _ ih
  have := this x.length
  rwa [List.take_of_length_le (by omega)] at this
theorem number_v (n : Nat) (x : List Int) (m : Int) (hx : BL x) (hl : x.length ≤ 140737488355328) (hn : x.length < n) (hm : 0 ≤ m) (hm2 : m ≤ 2199023255552) : number n (x, ((10 : Int), m)) = some (dv x m) := by
  refine Gives.eq ?_
  unfold number
  dsimp only
  refine Gives.dneg (by omega) ?_
  refine Gives.loop (I := fun z => z.1 = x ∧ z.2.1 = 10 ∧ z.2.2.1 = m ∧ ∃ i : Nat, z.2.2.2.2.2 = (i : Int) ∧ i ≤ x.length ∧ (∀ c ∈ x.take i, isd c = true) ∧ ((z.2.2.2.2.1 = false ∧ z.2.2.2.1 = dnum (x.take i) ∧ dnum (x.take i) ≤ m) ∨ (z.2.2.2.2.1 = true ∧ (x = [] ∨ m < dnum (x.take i))))) (μ := fun z => x.length - z.2.2.2.2.2.toNat) ?_ n _ ⟨rfl, rfl, rfl, 0, rfl, by omega, by simp, ?_⟩ (by simpa using hn)
  rotate_left
  · by_cases h0 : x = []
    · exact .inr ⟨by simpa using h0, .inl h0⟩
    · exact .inl ⟨by simpa using h0, rfl, by simpa [dnum] using hm⟩
  rintro rec ⟨a6, a7, a8, a9, a10, a11⟩ ⟨e1, e2, e3, i, e4, e5, e6, e7⟩ hrec
  dsimp only at e1 e2 e3 e4 e7 hrec ⊢
  subst e1 e2 e3 e4
  refine Gives.dite (fun hlt => ?_) (fun hge => ?_)
  · have hi : i < a6.length := by omega
    refine Gives.idx 0 (by omega) hlt ?_
    rw [Int.toNat_natCast]
    have hb := hx.at hi
    have htk := take_succ a6 i 0 hi
    have hmm : a6.getD i 0 ∈ a6 := getD_mem hi
    have hnn := dnum_nonneg a6 i e6
    revert hb htk hmm
    generalize a6.getD i 0 = c
    intro hb htk hmm
    refine Gives.bind (hex_v n c hb) (fun r hr => ?_)
    refine Gives.ite (fun h => ?_) (fun h => ?_)
    · refine Gives.of_some (bad3 hmm ?_).symm
      cases hd : isd c with
      | false => rfl
      | true => rw [hr.1 hd] at h; simp at h
    refine Gives.dite (fun h2 => ?_) (fun h2 => ?_)
    · refine Gives.of_some (bad3 hmm ?_).symm
      cases hd : isd c with
      | false => rfl
      | true =>
        rw [hr.1 hd] at h2; dsimp only at h2
        unfold isd at hd; simp only [decide_eq_true_eq] at hd; omega
    have hd : isd c = true := by
      cases hd : isd c with
      | true => rfl
      | false =>
        rcases hr.2 hd with e | e
        · exact absurd (by simp [e]) h
        · omega
    have hre := hr.1 hd
    subst hre
    have hd' : 48 ≤ c ∧ c ≤ 57 := by unfold isd at hd; simpa using hd
    have hnew : ∀ y ∈ a6.take (i + 1), isd y = true := by
      rw [htk]; intro y hy
      rcases List.mem_append.1 hy with hy | hy
      · exact e6 y hy
      · rw [List.mem_singleton.1 hy]; exact hd
    have hw : IntKind.wrap .i64 ((i : Int) + 1) = ((i + 1 : Nat) : Int) := by rw [wrap64 (by omega) (by omega)]; omega
    have hval : dnum (a6.take (i + 1)) = dnum (a6.take i) * 10 + (c - 48) := by rw [htk, dnum_app]
    dsimp only
    rw [hw]
    refine Gives.ite (fun hb10 => ?_) (fun hb10 => ?_)
    · rcases e7 with ⟨e, _⟩ | ⟨_, e⟩
      · rw [e] at hb10; cases hb10
      · refine hrec _ ⟨rfl, rfl, rfl, i + 1, rfl, by omega, hnew, .inr ⟨rfl, ?_⟩⟩ (by dsimp only; omega)
        rcases e with e | e
        · exact .inl e
        · exact .inr (by rw [hval]; omega)
    · obtain ⟨e, e8, e9⟩ : a10 = false ∧ a9 = dnum (a6.take i) ∧ dnum (a6.take i) ≤ a8 := by
        rcases e7 with e7 | ⟨e, _⟩
        · exact e7
        · exact absurd e hb10
      refine Gives.neg (by decide) ?_
      rw [wrap64 (n := a8 - (c - 48)) (by omega) (by omega)]
      by_cases hdm : a8 < c - 48
      · have hz : Int.tdiv (a8 - (c - 48)) 10 = 0 := by
          rw [show a8 - (c - 48) = -((c - 48) - a8) from by omega, Int.neg_tdiv, Int.tdiv_eq_zero_of_lt (by omega) (by omega)]
          rfl
        rw [hz, wrap64 (n := 0) (by omega) (by omega)]
        refine Gives.dite (fun h3 => ?_) (fun h3 => ?_)
        · exact hrec _ ⟨rfl, rfl, rfl, i + 1, rfl, by omega, hnew, .inr ⟨rfl, .inr (by rw [hval]; omega)⟩⟩ (by dsimp only; omega)
        · refine Gives.dpos hdm ?_
          exact hrec _ ⟨rfl, rfl, rfl, i + 1, rfl, by omega, hnew, .inr ⟨rfl, .inr (by rw [hval]; omega)⟩⟩ (by dsimp only; omega)
      have h10 := div10 (m := a8) (d := c - 48) (a := a9) (by omega) (by omega)
      have hq : 0 ≤ Int.tdiv (a8 - (c - 48)) 10 ∧ Int.tdiv (a8 - (c - 48)) 10 ≤ 2199023255552 := by rw [Int.tdiv_eq_ediv_of_nonneg (by omega)]; omega
      rw [wrap64 (by omega) (by omega)]
      refine Gives.dite (fun h3 => ?_) (fun h3 => ?_)
      · have := h10.1 h3
        exact hrec _ ⟨rfl, rfl, rfl, i + 1, rfl, by omega, hnew, .inr ⟨rfl, .inr (by rw [hval]; omega)⟩⟩ (by dsimp only; omega)
      · refine Gives.dneg (by omega) ?_
        have := mt h10.2 h3
        refine hrec _ ⟨rfl, rfl, rfl, i + 1, rfl, by omega, hnew, .inl ⟨e, ?_, by rw [hval]; omega⟩⟩ (by dsimp only; omega)
        dsimp only
        rw [wrap64 (n := a9 * 10) (by omega) (by omega), wrap64 (by omega) (by omega), hval]; omega
  · have hii : i = a6.length := by omega
    subst hii
    rw [List.take_length] at e6 e7
    have hall : a6.all isd = true := List.all_eq_true.2 e6
    refine Gives.ite (fun h0 => ?_) (fun h0 => ?_)
    · have : a6 = [] := by simpa using h0
      subst this; exact Gives.of_some rfl
    have h0' : a6 ≠ [] := by simpa using h0
    refine Gives.ite (fun hb => ?_) (fun hb => ?_) <;> refine Gives.of_some ?_ <;> unfold dv <;> rw [if_pos ⟨hall, h0'⟩]
    · rcases e7 with ⟨e, _⟩ | ⟨_, e | e⟩
      · rw [e] at hb; cases hb
      · exact absurd e h0'
      · rw [if_pos e]
    · rcases e7 with ⟨_, e8, e9⟩ | ⟨e, _⟩
      · rw [if_neg (by omega), e8]
      · rw [e] at hb; exact absurd rfl hb
theorem rNumber_v (n : Nat) (x : List Int) (m : Int) (hx : BL x) (hl : x.length ≤ 140737488355328) (hn : x.length < n) (hm : 0 ≤ m) (hm2 : m ≤ 2199023255552) : rNumber n (x, ((10 : Int), m)) = some (dv x m) := by
  refine Gives.eq ?_
  unfold rNumber
  dsimp only
  refine Gives.dneg (by omega) ?_
  refine Gives.loop (I := fun z => z.1 = x ∧ z.2.1 = 10 ∧ z.2.2.1 = m ∧ ∃ i : Nat, z.2.2.2 = (i : Int) ∧ i ≤ x.length ∧ (∀ c ∈ x.take i, isd c = true)) (μ := fun z => x.length - z.2.2.2.toNat) ?_ n _ ⟨rfl, rfl, rfl, 0, rfl, by omega, by simp⟩ (by simpa using hn)
  rintro rec ⟨a6, a7, a8, a9⟩ ⟨e1, e2, e3, i, e4, e5, e6⟩ hrec
  dsimp only at e1 e2 e3 e4 hrec ⊢
  subst e1 e2 e3 e4
  refine Gives.dite (fun hlt => ?_) (fun hge => ?_)
  · have hi : i < a6.length := by omega
    refine Gives.idx 0 (by omega) hlt ?_
    rw [Int.toNat_natCast]
    have hb := hx.at hi
    have htk := take_succ a6 i 0 hi
    have hmm : a6.getD i 0 ∈ a6 := getD_mem hi
    revert hb htk hmm
    generalize a6.getD i 0 = c
    intro hb htk hmm
    refine Gives.bind (rHex_v n c hb) (fun r hr => ?_)
    refine Gives.ite (fun h => ?_) (fun h => ?_)
    · refine Gives.of_some (bad3 hmm ?_).symm
      cases hd : isd c with
      | false => rfl
      | true => rw [hr.1 hd] at h; simp at h
    refine Gives.dite (fun h2 => ?_) (fun h2 => ?_)
    · refine Gives.of_some (bad3 hmm ?_).symm
      cases hd : isd c with
      | false => rfl
      | true =>
        rw [hr.1 hd] at h2; dsimp only at h2
        unfold isd at hd; simp only [decide_eq_true_eq] at hd; omega
    have hd : isd c = true := by
      cases hd : isd c with
      | true => rfl
      | false =>
        rcases hr.2 hd with e | e
        · exact absurd (by simp [e]) h
        · omega
    rw [wrap64 (by omega) (by omega)]
    refine hrec _ ⟨rfl, rfl, rfl, i + 1, by simp, by omega, ?_⟩ (by dsimp only; omega)
    rw [htk]; intro y hy
    rcases List.mem_append.1 hy with hy | hy
    · exact e6 y hy
    · rw [List.mem_singleton.1 hy]; exact hd
  · have hii : i = a6.length := by omega
    subst hii
    rw [List.take_length] at e6
    have hall : a6.all isd = true := List.all_eq_true.2 e6
    clear hrec hge
    refine Gives.eite (fun h0 => ?_) (fun h0 => ?_)
    · have : a6 = [] := List.length_eq_zero_iff.1 (by omega)
      subst this; exact Gives.of_some rfl
    have h0' : a6 ≠ [] := fun e => by subst e; simp at h0
    have hdv : dv a6 a8 = if a8 < dnum a6 then (0, 4) else (dnum a6, 0) := by unfold dv; rw [if_pos ⟨hall, h0'⟩]
    refine Gives.loop (I := fun z => z.1 = a6 ∧ z.2.1 = 10 ∧ z.2.2.1 = a8 ∧ ∃ i : Nat, z.2.2.2.2 = (i : Int) ∧ i ≤ a6.length ∧ z.2.2.2.1 = dnum (a6.take i) ∧ dnum (a6.take i) ≤ a8) (μ := fun z => a6.length - z.2.2.2.2.toNat) ?_ n _ ⟨rfl, rfl, rfl, 0, rfl, by omega, rfl, by simp [dnum]; omega⟩ (by simpa using hn)
    rintro rec ⟨b6, b7, b8, b9, b11⟩ ⟨e1, e2, e3, i, e4, e5, e7, e8⟩ hrec
    dsimp only at e1 e2 e3 e4 e7 hrec ⊢
    subst e1 e2 e3 e4
    refine Gives.dite (fun hlt => ?_) (fun hge => ?_)
    · have hi : i < b6.length := by omega
      refine Gives.idx 0 (by omega) hlt ?_
      rw [Int.toNat_natCast]
      have hb := hx.at hi
      have htk := take_succ b6 i 0 hi
      have hmm : b6.getD i 0 ∈ b6 := getD_mem hi
      have hnn := dnum_nonneg b6 i (fun c hc => e6 c (List.mem_of_mem_take hc))
      have hmo := dnum_mono b6 b8 hall (by omega) (i + 1)
      revert hb htk hmm hmo
      generalize b6.getD i 0 = c
      intro hb htk hmm hmo
      have hd := e6 c hmm
      refine Gives.bind (rHex_v n c hb) (fun r hr => ?_)
      have hre := hr.1 hd
      subst hre
      have hd' : 48 ≤ c ∧ c ≤ 57 := by unfold isd at hd; simpa using hd
      have hval : dnum (b6.take (i + 1)) = dnum (b6.take i) * 10 + (c - 48) := by rw [htk, dnum_app]
      dsimp only
      refine Gives.dite (fun hdm => Gives.of_some ?_) (fun hdm => ?_)
      · rw [hdv, if_pos (hmo (by rw [hval]; omega))]
      refine Gives.neg (by decide) ?_
      rw [wrap64 (n := b8 - (c - 48)) (by omega) (by omega)]
      have h10 := div10 (m := b8) (d := c - 48) (a := b9) (by omega) (by omega)
      have hq : 0 ≤ Int.tdiv (b8 - (c - 48)) 10 ∧ Int.tdiv (b8 - (c - 48)) 10 ≤ 2199023255552 := by rw [Int.tdiv_eq_ediv_of_nonneg (by omega)]; omega
      rw [wrap64 (n := Int.tdiv (b8 - (c - 48)) 10) (by omega) (by omega)]
      refine Gives.dite (fun h3 => Gives.of_some ?_) (fun h3 => ?_)
      · have := h10.1 h3
        rw [hdv, if_pos (hmo (by rw [hval]; omega))]
      · have := mt h10.2 h3
        rw [wrap64 (n := b9 * 10) (by omega) (by omega), wrap64 (n := b9 * 10 + (c - 48)) (by omega) (by omega), wrap64 (by omega) (by omega)]
        exact hrec _ ⟨rfl, rfl, rfl, i + 1, by simp, by omega, by dsimp only; rw [hval]; omega, by rw [hval]; omega⟩ (by dsimp only; omega)
    · have hii : i = b6.length := by omega
      subst hii
      rw [List.take_length] at e7 e8
      refine Gives.of_some ?_
      rw [hdv, if_neg (by omega), e7]
end Go.Sx.YtdcogkfjnlpidaaDoor
