/- Part of a proof by a small interpreter on plain values; no condition. -/
import Derived.Test.YtmhimaefondndaaDoorWe
namespace Go.Sx.YtmhimaefondndaaDoor
open Go Go.Sx Go.Proofs
set_option autoImplicit false
set_option linter.unusedVariables false
set_option linter.unusedSimpArgs false
/-! numbers. -/
def isd (c : Int) : Bool := decide (48 ≤ c ∧ c ≤ 57)
def dnum (x : List Int) : Int := x.foldl (fun v c => v * 10 + (c - 48)) 0
def dv (x : List Int) (m : Int) : Int × Int := if x.all isd = true ∧ x ≠ [] then (if m < dnum x then (0, 4) else (dnum x, 0)) else (0, 3)
theorem dnum_app (x : List Int) (c : Int) : dnum (x ++ [c]) = dnum x * 10 + (c - 48) := by simp [dnum, List.foldl_append]
theorem hex_v (n : Nat) (c : Int) (hc : 0 ≤ c ∧ c ≤ 255) : Gives (hex n c) (fun r => (isd c = true → r = (c - 48, true)) ∧ (isd c = false → r.2 = false ∨ 10 ≤ r.1)) := by
  unfold hex
  refine Gives.bind_eq (digit_v n c) ?_
  refine Gives.ite (fun h => ?_) (fun h => ?_)
  · have h' : 48 ≤ c ∧ c ≤ 57 := by simpa using h
    refine Gives.of_some ⟨fun _ => ?_, fun h2 => ?_⟩
    · rw [wrap_u8, wrap64 (by omega) (by omega)]; congr 1; omega
    · unfold isd at h2; rw [h] at h2; cases h2
  · have hi : isd c = false := by simpa [isd] using h
    have fin : ∀ r : Int × Bool, (r.2 = false ∨ 10 ≤ r.1) → Gives (some r) (fun r => (isd c = true → r = (c - 48, true)) ∧ (isd c = false → r.2 = false ∨ 10 ≤ r.1)) := fun r hr => Gives.of_some ⟨fun h2 => (by rw [hi] at h2; cases h2), fun _ => hr⟩
    have big : ∀ k : Int, 10 ≤ IntKind.wrap .i64 (IntKind.wrap .i64 (IntKind.wrap .u8 (c - k)) + 10) := fun k => by
      rw [wrap_u8, wrap64 (n := (c - k) % 256) (by omega) (by omega), wrap64 (by omega) (by omega)]; omega
    have up : Gives (if (decide (c ≥ (65 : Int))) = true then
        (if (decide (c ≤ (70 : Int))) = true then
        (let u8 : Int := (IntKind.wrap .i64 (IntKind.wrap .u8 (c - (65 : Int))))
        (let u9 : Int := (IntKind.wrap .i64 (u8 + (10 : Int)))
        some (u9, true)))
        else
        some ((0 : Int), false))
        else
        some ((0 : Int), false)) (fun r => (isd c = true → r = (c - 48, true)) ∧ (isd c = false → r.2 = false ∨ 10 ≤ r.1)) := by
      refine Gives.dite (fun _ => ?_) (fun _ => fin _ (.inl rfl))
      refine Gives.dite (fun _ => fin _ (.inr (big 65))) (fun _ => fin _ (.inl rfl))
    refine Gives.dite (fun _ => ?_) (fun _ => up)
    refine Gives.dite (fun _ => fin _ (.inr (big 97))) (fun _ => up)
theorem rHex_v (n : Nat) (c : Int) (hc : 0 ≤ c ∧ c ≤ 255) : Gives (rHex n c) (fun r => (isd c = true → r = (c - 48, true)) ∧ (isd c = false → r.2 = false ∨ 10 ≤ r.1)) := hex_v n c hc
theorem dnum_nonneg : ∀ (x : List Int) (i : Nat), (∀ c ∈ x.take i, isd c = true) → 0 ≤ dnum (x.take i)
  | x, 0, _ => by simp [dnum]
  | x, i + 1, h => by
    by_cases hi : i < x.length
    · rw [take_succ x i 0 hi] at h ⊢
      have := dnum_nonneg x i (fun c hc => h c (by simp [hc]))
      have hd := h (x.getD i 0) (by simp)
      unfold isd at hd
      simp only [decide_eq_true_eq] at hd
      rw [dnum_app]; omega
    · rw [List.take_of_length_le (by omega)] at h ⊢
      have := dnum_nonneg x i (by rw [List.take_of_length_le (by omega)]; exact h)
      rw [List.take_of_length_le (by omega)] at this
      exact this
theorem div10 {m d a : Int} (h0 : 0 ≤ m - d) (h1 : m - d ≤ 1000000) (ha : 0 ≤ a) : a > Int.tdiv (m - d) 10 ↔ m < a * 10 + d := by
  rw [Int.tdiv_eq_ediv_of_nonneg h0]; omega
theorem bad3 {x : List Int} {m c : Int} (hm : c ∈ x) (hc : isd c = false) : dv x m = (0, 3) := by
  unfold dv
  rw [if_neg]
  rintro ⟨h, _⟩
  have := List.all_eq_true.1 h c hm
  rw [hc] at this; cases this
theorem dnum_mono (x : List Int) (m : Int) (h : x.all isd = true) (hm : 0 ≤ m) : ∀ i, m < dnum (x.take i) → m < dnum x := by
  have step : ∀ i, m < dnum (x.take i) → m < dnum (x.take (i + 1)) := fun i hi => by
    by_cases hl : i < x.length
    · rw [take_succ x i 0 hl, dnum_app]
      have hd := List.all_eq_true.1 h _ (getD_mem (d := 0) hl)
      unfold isd at hd
      simp only [decide_eq_true_eq] at hd
      omega
    · rw [List.take_of_length_le (by omega)] at hi ⊢; exact hi
  intro i hi
  have : ∀ k, m < dnum (x.take (i + k)) := fun k => by
    induction k with
    | zero => exact hi
    | succ k ih => exact step _ ih
  have := this x.length
  rwa [List.take_of_length_le (by omega)] at this
theorem number_v (n : Nat) (x : List Int) (m : Int) (hx : BL x) (hl : x.length ≤ 140737488355328) (hn : x.length < n) (hm : 0 ≤ m) (hm9 : 9 ≤ m) (hm2 : m ≤ 1000000) : number n (x, ((10 : Int), m)) = some (dv x m) := by
  refine Gives.eq ?_
  unfold number
  dsimp only
  refine Gives.dneg (by omega) ?_
  refine Gives.loop (I := fun z => z.1 = x ∧ z.2.1 = 10 ∧ z.2.2.1 = m ∧ ∃ i : Nat, z.2.2.2.2.2 = (i : Int) ∧ i ≤ x.length ∧ (∀ c ∈ x.take i, isd c = true) ∧ ((z.2.2.2.2.1 = false ∧ z.2.2.2.1 = dnum (x.take i) ∧ dnum (x.take i) ≤ m) ∨ (z.2.2.2.2.1 = true ∧ (x = [] ∨ m < dnum (x.take i))))) (μ := fun z => x.length - z.2.2.2.2.2.toNat) ?_ n _ ⟨rfl, rfl, rfl, 0, rfl, by omega, by simp, ?_⟩ (by simpa using hn)
  rotate_left
  · by_cases h0 : x = []
    · exact .inr ⟨by simpa using h0, .inl h0⟩
    · exact .inl ⟨by simpa using h0, rfl, by simpa [dnum] using hm⟩
  rintro rec ⟨a6, a7, a8, a9, a10, a11⟩ ⟨e1, e2, e3, i, e4, e5, e6, e7⟩ hrec
  dsimp only at e1 e2 e3 e4 e7 hrec ⊢
  subst e1 e2 e3 e4
  refine Gives.dite (fun hlt => ?_) (fun hge => ?_)
  · have hi : i < a6.length := by omega
    refine Gives.idx 0 (by omega) hlt ?_
    rw [Int.toNat_natCast]
    have hb := hx.at hi
    have htk := take_succ a6 i 0 hi
    have hmm : a6.getD i 0 ∈ a6 := getD_mem hi
    have hnn := dnum_nonneg a6 i e6
    revert hb htk hmm
    generalize a6.getD i 0 = c
    intro hb htk hmm
    refine Gives.bind (hex_v n c hb) (fun r hr => ?_)
    refine Gives.ite (fun h => ?_) (fun h => ?_)
    · refine Gives.of_some (bad3 hmm ?_).symm
      cases hd : isd c with
      | false => rfl
      | true => rw [hr.1 hd] at h; simp at h
    refine Gives.dite (fun h2 => ?_) (fun h2 => ?_)
    · refine Gives.of_some (bad3 hmm ?_).symm
      cases hd : isd c with
      | false => rfl
      | true =>
        rw [hr.1 hd] at h2; dsimp only at h2
        unfold isd at hd; simp only [decide_eq_true_eq] at hd; omega
    have hd : isd c = true := by
      cases hd : isd c with
      | true => rfl
      | false =>
        rcases hr.2 hd with e | e
        · exact absurd (by simp [e]) h
        · omega
    have hre := hr.1 hd
    subst hre
    have hd' : 48 ≤ c ∧ c ≤ 57 := by unfold isd at hd; simpa using hd
    have hnew : ∀ y ∈ a6.take (i + 1), isd y = true := by
      rw [htk]; intro y hy
      rcases List.mem_append.1 hy with hy | hy
      · exact e6 y hy
      · rw [List.mem_singleton.1 hy]; exact hd
    have hw : IntKind.wrap .i64 ((i : Int) + 1) = ((i + 1 : Nat) : Int) := by rw [wrap64 (by omega) (by omega)]; omega
    have hval : dnum (a6.take (i + 1)) = dnum (a6.take i) * 10 + (c - 48) := by rw [htk, dnum_app]
    dsimp only
    rw [hw]
    refine Gives.ite (fun hb10 => ?_) (fun hb10 => ?_)
    · rcases e7 with ⟨e, _⟩ | ⟨_, e⟩
      · rw [e] at hb10; cases hb10
      · refine hrec _ ⟨rfl, rfl, rfl, i + 1, rfl, by omega, hnew, .inr ⟨rfl, ?_⟩⟩ (by dsimp only; omega)
        rcases e with e | e
        · exact .inl e
        · exact .inr (by rw [hval]; omega)
    · obtain ⟨e, e8, e9⟩ : a10 = false ∧ a9 = dnum (a6.take i) ∧ dnum (a6.take i) ≤ a8 := by
        rcases e7 with e7 | ⟨e, _⟩
        · exact e7
        · exact absurd e hb10
      refine Gives.neg (by decide) ?_
      rw [wrap64 (n := a8 - (c - 48)) (by omega) (by omega)]
      have h10 := div10 (m := a8) (d := c - 48) (a := a9) (by omega) (by omega) (by omega)
      have hq : 0 ≤ Int.tdiv (a8 - (c - 48)) 10 ∧ Int.tdiv (a8 - (c - 48)) 10 ≤ 1000000 := by rw [Int.tdiv_eq_ediv_of_nonneg (by omega)]; omega
      rw [wrap64 (by omega) (by omega)]
      refine Gives.dite (fun h3 => ?_) (fun h3 => ?_)
      · have := h10.1 h3
        exact hrec _ ⟨rfl, rfl, rfl, i + 1, rfl, by omega, hnew, .inr ⟨rfl, .inr (by rw [hval]; omega)⟩⟩ (by dsimp only; omega)
      · refine Gives.dneg (by omega) ?_
        have := mt h10.2 h3
        refine hrec _ ⟨rfl, rfl, rfl, i + 1, rfl, by omega, hnew, .inl ⟨e, ?_, by rw [hval]; omega⟩⟩ (by dsimp only; omega)
        dsimp only
        rw [wrap64 (n := a9 * 10) (by omega) (by omega), wrap64 (by omega) (by omega), hval]; omega
  · have hii : i = a6.length := by omega
    subst hii
    rw [List.take_length] at e6 e7
    have hall : a6.all isd = true := List.all_eq_true.2 e6
    refine Gives.ite (fun h0 => ?_) (fun h0 => ?_)
    · have : a6 = [] := by simpa using h0
      subst this; exact Gives.of_some rfl
    have h0' : a6 ≠ [] := by simpa using h0
    refine Gives.ite (fun hb => ?_) (fun hb => ?_) <;> refine Gives.of_some ?_ <;> unfold dv <;> rw [if_pos ⟨hall, h0'⟩]
    · rcases e7 with ⟨e, _⟩ | ⟨_, e | e⟩
      · rw [e] at hb; cases hb
      · exact absurd e h0'
      · rw [if_pos e]
    · rcases e7 with ⟨_, e8, e9⟩ | ⟨e, _⟩
      · rw [if_neg (by omega), e8]
      · rw [e] at hb; exact absurd rfl hb
theorem rNumber_v (n : Nat) (x : List Int) (m : Int) (hx : BL x) (hl : x.length ≤ 140737488355328) (hn : x.length < n) (hm9 : 9 ≤ m) (hm2 : m ≤ 1000000) : rNumber n (x, ((10 : Int), m)) = some (dv x m) := by
  refine Gives.eq ?_
  unfold rNumber
  dsimp only
  refine Gives.dneg (by omega) ?_
  refine Gives.loop (I := fun z => z.1 = x ∧ z.2.1 = 10 ∧ z.2.2.1 = m ∧ ∃ i : Nat, z.2.2.2 = (i : Int) ∧ i ≤ x.length ∧ (∀ c ∈ x.take i, isd c = true)) (μ := fun z => x.length - z.2.2.2.toNat) ?_ n _ ⟨rfl, rfl, rfl, 0, rfl, by omega, by simp⟩ (by simpa using hn)
  rintro rec ⟨a6, a7, a8, a9⟩ ⟨e1, e2, e3, i, e4, e5, e6⟩ hrec
  dsimp only at e1 e2 e3 e4 hrec ⊢
  subst e1 e2 e3 e4
  refine Gives.dite (fun hlt => ?_) (fun hge => ?_)
  · have hi : i < a6.length := by omega
    refine Gives.idx 0 (by omega) hlt ?_
    rw [Int.toNat_natCast]
    have hb := hx.at hi
    have htk := take_succ a6 i 0 hi
    have hmm : a6.getD i 0 ∈ a6 := getD_mem hi
    revert hb htk hmm
    generalize a6.getD i 0 = c
    intro hb htk hmm
    refine Gives.bind (rHex_v n c hb) (fun r hr => ?_)
    refine Gives.ite (fun h => ?_) (fun h => ?_)
    · refine Gives.of_some (bad3 hmm ?_).symm
      cases hd : isd c with
      | false => rfl
      | true => rw [hr.1 hd] at h; simp at h
    refine Gives.dite (fun h2 => ?_) (fun h2 => ?_)
    · refine Gives.of_some (bad3 hmm ?_).symm
      cases hd : isd c with
      | false => rfl
      | true =>
        rw [hr.1 hd] at h2; dsimp only at h2
        unfold isd at hd; simp only [decide_eq_true_eq] at hd; omega
    have hd : isd c = true := by
      cases hd : isd c with
      | true => rfl
      | false =>
        rcases hr.2 hd with e | e
        · exact absurd (by simp [e]) h
        · omega
    rw [wrap64 (by omega) (by omega)]
    refine hrec _ ⟨rfl, rfl, rfl, i + 1, by simp, by omega, ?_⟩ (by dsimp only; omega)
    rw [htk]; intro y hy
    rcases List.mem_append.1 hy with hy | hy
    · exact e6 y hy
    · rw [List.mem_singleton.1 hy]; exact hd
  · have hii : i = a6.length := by omega
    subst hii
    rw [List.take_length] at e6
    have hall : a6.all isd = true := List.all_eq_true.2 e6
    clear hrec hge
    refine Gives.eite (fun h0 => ?_) (fun h0 => ?_)
    · have : a6 = [] := List.length_eq_zero_iff.1 (by omega)
      subst this; exact Gives.of_some rfl
    have h0' : a6 ≠ [] := fun e => by subst e; simp at h0
    have hdv : dv a6 a8 = if a8 < dnum a6 then (0, 4) else (dnum a6, 0) := by unfold dv; rw [if_pos ⟨hall, h0'⟩]
    refine Gives.loop (I := fun z => z.1 = a6 ∧ z.2.1 = 10 ∧ z.2.2.1 = a8 ∧ ∃ i : Nat, z.2.2.2.2 = (i : Int) ∧ i ≤ a6.length ∧ z.2.2.2.1 = dnum (a6.take i) ∧ dnum (a6.take i) ≤ a8) (μ := fun z => a6.length - z.2.2.2.2.toNat) ?_ n _ ⟨rfl, rfl, rfl, 0, rfl, by omega, rfl, by simp [dnum]; omega⟩ (by simpa using hn)
    rintro rec ⟨b6, b7, b8, b9, b11⟩ ⟨e1, e2, e3, i, e4, e5, e7, e8⟩ hrec
    dsimp only at e1 e2 e3 e4 e7 hrec ⊢
    subst e1 e2 e3 e4
    refine Gives.dite (fun hlt => ?_) (fun hge => ?_)
    · have hi : i < b6.length := by omega
      refine Gives.idx 0 (by omega) hlt ?_
      rw [Int.toNat_natCast]
      have hb := hx.at hi
      have htk := take_succ b6 i 0 hi
      have hmm : b6.getD i 0 ∈ b6 := getD_mem hi
      have hnn := dnum_nonneg b6 i (fun c hc => e6 c (List.mem_of_mem_take hc))
      have hmo := dnum_mono b6 b8 hall (by omega) (i + 1)
      revert hb htk hmm hmo
      generalize b6.getD i 0 = c
      intro hb htk hmm hmo
      have hd := e6 c hmm
      refine Gives.bind (rHex_v n c hb) (fun r hr => ?_)
      have hre := hr.1 hd
      subst hre
      have hd' : 48 ≤ c ∧ c ≤ 57 := by unfold isd at hd; simpa using hd
      have hval : dnum (b6.take (i + 1)) = dnum (b6.take i) * 10 + (c - 48) := by rw [htk, dnum_app]
      dsimp only
      refine Gives.dneg (by omega) ?_
      refine Gives.neg (by decide) ?_
      rw [wrap64 (n := b8 - (c - 48)) (by omega) (by omega)]
      have h10 := div10 (m := b8) (d := c - 48) (a := b9) (by omega) (by omega) (by omega)
      have hq : 0 ≤ Int.tdiv (b8 - (c - 48)) 10 ∧ Int.tdiv (b8 - (c - 48)) 10 ≤ 1000000 := by rw [Int.tdiv_eq_ediv_of_nonneg (by omega)]; omega
      rw [wrap64 (n := Int.tdiv (b8 - (c - 48)) 10) (by omega) (by omega)]
      refine Gives.dite (fun h3 => Gives.of_some ?_) (fun h3 => ?_)
      · have := h10.1 h3
        rw [hdv, if_pos (hmo (by rw [hval]; omega))]
      · have := mt h10.2 h3
        rw [wrap64 (n := b9 * 10) (by omega) (by omega), wrap64 (n := b9 * 10 + (c - 48)) (by omega) (by omega), wrap64 (by omega) (by omega)]
        exact hrec _ ⟨rfl, rfl, rfl, i + 1, by simp, by omega, by dsimp only; rw [hval]; omega, by rw [hval]; omega⟩ (by dsimp only; omega)
    · have hii : i = b6.length := by omega
      subst hii
      rw [List.take_length] at e7 e8
      refine Gives.of_some ?_
      rw [hdv, if_neg (by omega), e7]
end Go.Sx.YtmhimaefondndaaDoor
