/- Part of a proof by a small interpreter on plain values; no condition. -/
import Derived.Test.YtkaflgmmkocjcaaDoorWM
namespace Go.Sx.YtkaflgmmkocjcaaDoor
open Go Go.Sx
set_option autoImplicit false
set_option linter.unusedVariables false
set_option linter.unusedSimpArgs false
set_option maxRecDepth 20000
section
variable (L : Nat) (c : Int) (cs : List Int) (n : Int) (acc : List Int)
theorem dgo_bad (p : Nat) (h : ixb DIG c < 0) : dgo L (c :: cs) p n acc = ([], 3) := by rw [dgo, if_pos h]
theorem dgo_0 (h : ¬ ixb DIG c < 0) : dgo L (c :: cs) 0 n acc = dgo L cs 6 (n * 64 + ixb DIG c) acc := by rw [dgo, if_neg h, if_pos rfl]
theorem dgo_6 (h : ¬ ixb DIG c < 0) : dgo L (c :: cs) 6 n acc = dgo L cs 4 ((n * 64 + ixb DIG c) % 16) (acc ++ [(n * 64 + ixb DIG c) / 16]) := by rw [dgo, if_neg h, if_neg (by decide), if_pos rfl]
theorem dgo_4 (h : ¬ ixb DIG c < 0) : dgo L (c :: cs) 4 n acc = dgo L cs 2 ((n * 64 + ixb DIG c) % 4) (acc ++ [(n * 64 + ixb DIG c) / 4]) := by rw [dgo, if_neg h, if_neg (by decide), if_neg (by decide), if_pos rfl]
theorem dgo_2 (h : ¬ ixb DIG c < 0) : dgo L (c :: cs) 2 n acc = dgo L cs 0 0 (acc ++ [n * 64 + ixb DIG c]) := by rw [dgo, if_neg h, if_neg (by decide), if_neg (by decide), if_neg (by decide)]
end
theorem dgo_err (L : Nat) : ∀ (cs : List Int) (p : Nat) (n : Int) (acc : List Int), (dgo L cs p n acc).2 = 0 ∨ dgo L cs p n acc = ([], 3)
  | [], p, n, acc => by
    unfold dgo
    split
    · exact .inr rfl
    · exact .inl rfl
  | c :: cs, p, n, acc => by
    unfold dgo
    split
    · exact .inr rfl
    · split
      · exact dgo_err L cs _ _ _
      · split
        · exact dgo_err L cs _ _ _
        · split
          · exact dgo_err L cs _ _ _
          · exact dgo_err L cs _ _ _
/-- a digit, and its value. -/
theorem dig_val (k : Int) : ixb DIG (DIG.getD (k % 64).toNat 0) = k % 64 := by
  have h := dig_back (k % 64).toNat (by omega)
  rw [h]
  omega
theorem dgo_enc (L : Nat) (hL : L % 4 ≠ 1) : ∀ (b acc : List Int), (∀ x ∈ b, 0 ≤ x ∧ x ≤ 255) → dgo L (enc b) 0 0 acc = (acc ++ b, 0)
  | [], acc, _ => by
    rw [enc, dgo, if_neg (by omega)]
    simp
  | [a], acc, hb => by
    have ha := hb a (by simp)
    have e1 := dig_val (a * 65536 / 262144); have e2 := dig_val (a * 65536 / 4096)
    rw [enc, dg4]
    simp only [List.take_succ_cons, List.take_zero]
    rw [dgo_0 _ _ _ _ _ (by omega), dgo_6 _ _ _ _ _ (by omega), dgo, e1, e2, if_neg (by omega)]
    congr 3
    omega
  | [a, b], acc, hb => by
    have ha := hb a (by simp); have hb' := hb b (by simp)
    have e1 := dig_val ((a * 65536 + b * 256) / 262144); have e2 := dig_val ((a * 65536 + b * 256) / 4096); have e3 := dig_val ((a * 65536 + b * 256) / 64)
    rw [enc, dg4]
    simp only [List.take_succ_cons, List.take_zero]
    rw [dgo_0 _ _ _ _ _ (by omega), dgo_6 _ _ _ _ _ (by omega), dgo_4 _ _ _ _ _ (by omega), dgo, e1, e2, e3, if_neg (by omega)]
    rw [List.append_assoc]
    congr 2
    simp only [List.singleton_append, List.cons.injEq, and_true]
    constructor <;> omega
  | a :: b :: c :: r, acc, hb => by
    have ha := hb a (by simp); have hb' := hb b (by simp); have hc := hb c (by simp)
    have e1 := dig_val ((a * 65536 + b * 256 + c) / 262144); have e2 := dig_val ((a * 65536 + b * 256 + c) / 4096); have e3 := dig_val ((a * 65536 + b * 256 + c) / 64); have e4 := dig_val (a * 65536 + b * 256 + c)
    rw [enc, dg4]
    simp only [List.cons_append, List.nil_append]
    rw [dgo_0 _ _ _ _ _ (by omega), dgo_6 _ _ _ _ _ (by omega), dgo_4 _ _ _ _ _ (by omega), dgo_2 _ _ _ _ _ (by omega), e1, e2, e3, e4]
    rw [dgo_enc L hL r _ (fun x hx => hb x (by simp [hx]))]
    rw [Prod.mk.injEq]
    refine ⟨?_, rfl⟩
    rw [List.append_assoc, List.append_assoc, List.append_assoc]
    congr 1
    simp only [List.cons_append, List.nil_append]
    rw [List.cons.injEq, List.cons.injEq, List.cons.injEq]
    refine ⟨?_, ?_, ?_, rfl⟩ <;> omega
theorem dig_pos {c : Int} (h : ¬ ixb DIG c < 0) : 0 ≤ ixb DIG c ∧ ixb DIG c < 64 := by
  rcases dig_range c with e | e
  · omega
  · exact e
theorem dig_eq {c k : Int} (h : ¬ ixb DIG c < 0) (hk : k % 64 = ixb DIG c) : DIG.getD (k % 64).toNat 0 = c := by
  rw [hk]; exact dig_of (by omega)
theorem dgo_back (L : Nat) : ∀ (s acc d : List Int), L % 4 = s.length % 4 → dgo L s 0 0 acc = (d, 0) → ∃ d', d = acc ++ d' ∧ enc d' = s ∧ ∀ x ∈ d', 0 ≤ x ∧ x ≤ 255
  | [], acc, d, hL, h => by
    rw [dgo] at h
    split at h
    · injection h with _ h; exact absurd h (by decide)
    · injection h with h _
      exact ⟨[], by rw [← h]; simp, rfl, fun x hx => absurd hx (by simp)⟩
  | [x], acc, d, hL, h => by
    exfalso
    by_cases hx : ixb DIG x < 0
    · rw [dgo_bad _ _ _ _ _ _ hx] at h; injection h with _ h; exact absurd h (by decide)
    · rw [dgo_0 _ _ _ _ _ hx, dgo, if_pos (.inr (by simpa using hL))] at h
      injection h with _ h; exact absurd h (by decide)
  | [x, y], acc, d, hL, h => by
    by_cases hx : ixb DIG x < 0
    · rw [dgo_bad _ _ _ _ _ _ hx] at h; injection h with _ h; exact absurd h (by decide)
    · rw [dgo_0 _ _ _ _ _ hx] at h
      by_cases hy : ixb DIG y < 0
      · rw [dgo_bad _ _ _ _ _ _ hy] at h; injection h with _ h; exact absurd h (by decide)
      · rw [dgo_6 _ _ _ _ _ hy, dgo] at h
        have h1 := dig_pos hx; have h2 := dig_pos hy
        split at h
        · injection h with _ h; exact absurd h (by decide)
        · rename_i hz
          injection h with h _
          refine ⟨[((0 * 64 + ixb DIG x) * 64 + ixb DIG y) / 16], h.symm, ?_, fun z hz => ?_⟩
          · rw [enc, dg4]
            simp only [List.take_succ_cons, List.take_zero]
            rw [dig_eq hx (by omega), dig_eq hy (by omega)]
          · simp only [List.mem_singleton] at hz
            omega
  | [x, y, z], acc, d, hL, h => by
    by_cases hx : ixb DIG x < 0
    · rw [dgo_bad _ _ _ _ _ _ hx] at h; injection h with _ h; exact absurd h (by decide)
    · rw [dgo_0 _ _ _ _ _ hx] at h
      by_cases hy : ixb DIG y < 0
      · rw [dgo_bad _ _ _ _ _ _ hy] at h; injection h with _ h; exact absurd h (by decide)
      · rw [dgo_6 _ _ _ _ _ hy] at h
        by_cases hz : ixb DIG z < 0
        · rw [dgo_bad _ _ _ _ _ _ hz] at h; injection h with _ h; exact absurd h (by decide)
        · rw [dgo_4 _ _ _ _ _ hz, dgo] at h
          have h1 := dig_pos hx; have h2 := dig_pos hy; have h3 := dig_pos hz
          split at h
          · injection h with _ h; exact absurd h (by decide)
          · rename_i hq
            injection h with h _
            refine ⟨[((0 * 64 + ixb DIG x) * 64 + ixb DIG y) / 16, (((0 * 64 + ixb DIG x) * 64 + ixb DIG y) % 16 * 64 + ixb DIG z) / 4], by rw [← h, List.append_assoc]; rfl, ?_, fun w hw => ?_⟩
            · rw [enc, dg4]
              simp only [List.take_succ_cons, List.take_zero]
              rw [dig_eq hx (by omega), dig_eq hy (by omega), dig_eq hz (by omega)]
            · simp only [List.mem_cons, List.not_mem_nil, or_false] at hw
              omega
  | x :: y :: z :: w :: r, acc, d, hL, h => by
    by_cases hx : ixb DIG x < 0
    · rw [dgo_bad _ _ _ _ _ _ hx] at h; injection h with _ h; exact absurd h (by decide)
    · rw [dgo_0 _ _ _ _ _ hx] at h
      by_cases hy : ixb DIG y < 0
      · rw [dgo_bad _ _ _ _ _ _ hy] at h; injection h with _ h; exact absurd h (by decide)
      · rw [dgo_6 _ _ _ _ _ hy] at h
        by_cases hz : ixb DIG z < 0
        · rw [dgo_bad _ _ _ _ _ _ hz] at h; injection h with _ h; exact absurd h (by decide)
        · rw [dgo_4 _ _ _ _ _ hz] at h
          by_cases hw : ixb DIG w < 0
          · rw [dgo_bad _ _ _ _ _ _ hw] at h; injection h with _ h; exact absurd h (by decide)
          · rw [dgo_2 _ _ _ _ _ hw] at h
            have h1 := dig_pos hx; have h2 := dig_pos hy; have h3 := dig_pos hz; have h4 := dig_pos hw
            obtain ⟨d', hd, he, hb⟩ := dgo_back L r _ d (by simp only [List.length_cons] at hL; omega) h
            refine ⟨((0 * 64 + ixb DIG x) * 64 + ixb DIG y) / 16 :: (((0 * 64 + ixb DIG x) * 64 + ixb DIG y) % 16 * 64 + ixb DIG z) / 4 :: ((((0 * 64 + ixb DIG x) * 64 + ixb DIG y) % 16 * 64 + ixb DIG z) % 4 * 64 + ixb DIG w) :: d', by rw [hd]; simp, ?_, fun v hv => ?_⟩
            · rw [enc, dg4, he]
              simp only [List.cons_append, List.nil_append]
              rw [dig_eq hx (by omega), dig_eq hy (by omega), dig_eq hz (by omega), dig_eq hw (by omega)]
            · simp only [List.mem_cons] at hv
              rcases hv with rfl | rfl | rfl | hv
              · omega
              · omega
              · omega
              · exact hb v hv
theorem len_v (n : Nat) (x : Nat) (h : x ≤ 1099511627776) : len n (x : Int) = some ((((4 * x + 2) / 3 : Nat) : Int), (0 : Int)) := by
  unfold len
  rw [if_neg (by simp), if_neg (by simp; omega), wrap64 (n := 4 * (x : Int)) (by omega) (by omega), wrap64 (n := 4 * (x : Int) + 2) (by omega) (by omega)]
  dsimp only
  rw [Int.tdiv_eq_ediv_of_nonneg (by omega), wrap64 (by omega) (by omega)]
  rfl
theorem u8_of {x : Int} (h : (K.int .u8).Ok x) : 0 ≤ x ∧ x ≤ 255 := by
  obtain ⟨r1, r2⟩ := h
  rw [k_min_eq] at r1
  rw [k_max_eq] at r2
  exact ⟨r1, r2⟩
theorem bulk_bytes (xs : List Int) (h : K.bulk (.list (.int .u8)) xs ≤ 1048576) : xs.length ≤ 1048576 := by
  have e : ∀ l : List Int, (List.map (K.bulk (.int .u8)) l).sum = l.length := by
    intro l
    induction l with
    | nil => rfl
    | cons a l ih => rw [List.map_cons, List.sum_cons, ih, List.length_cons]; show 1 + _ = _; omega
  have h' : (List.map (K.bulk (.int .u8)) xs).sum + 1 ≤ 1048576 := h
  rw [e] at h'
  omega
theorem sure_v : sure 9000000 () = some true := by kernel_rfl
end Go.Sx.YtkaflgmmkocjcaaDoor
