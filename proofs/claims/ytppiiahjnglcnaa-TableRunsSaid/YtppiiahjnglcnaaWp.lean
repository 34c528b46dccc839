/- Part of a proof by a small interpreter on plain values; no condition. -/
import Derived.Test.YtppiiahjnglcnaaWo
/-! W22P: TableMost. -/
namespace Go.Sx.Ytppiiahjnglcnaa
open Go Go.Sx
set_option autoImplicit false
set_option maxRecDepth 100000
set_option linter.unusedVariables false
set_option linter.unusedSimpArgs false
/-- what holds of a bucket and the times of its tokens. -/
structure St (R P B : Int) (i : Nat) (now p : Int) (l : List Int) : Prop where
  len : l.length ≤ i
  clock : 0 ≤ now ∧ now ≤ 10 * i
  parts : 0 ≤ p ∧ p ≤ B * P
  times : ∀ j, j < l.length → 0 ≤ l.getD j 0 ∧ l.getD j 0 ≤ now
  up : ∀ j k, j ≤ k → k < l.length → l.getD j 0 ≤ l.getD k 0
  bound : ∀ j, j < l.length → p ≤ B * P - P * ((l.length - j : Nat) : Int) + R * (now - l.getD j 0)
  pairs : ∀ j k, j ≤ k → k < l.length → P * ((k + 1 - j : Nat) : Int) ≤ B * P + R * (l.getD k 0 - l.getD j 0)
theorem St.step {R P B : Int} {i : Nat} {now p : Int} {l : List Int} (h : St R P B i now p l) (hR : 1 ≤ R) (hP : 1 ≤ P) (t : Int) (ht : now ≤ t ∧ t ≤ now + 10) (q : Int) (hq : q = min (B * P) (p + (t - now) * R)) : St R P B (i + 1) t q l := by
  have hd := Int.mul_nonneg (show 0 ≤ t - now by omega) (show 0 ≤ R by omega)
  refine ⟨by have := h.len; omega, by have := h.clock; omega, by have := h.parts; omega, fun j hj => by have := h.times j hj; omega, h.up, fun j hj => ?_, h.pairs⟩
  have h1 := h.bound j hj
  have e : R * (t - l.getD j 0) = R * (now - l.getD j 0) + (t - now) * R := by
    rw [Int.mul_comm (t - now) R, ← Int.mul_add]; congr 1; omega
  rw [e]
  omega
theorem St.take {R P B : Int} {i : Nat} {t q : Int} {l : List Int} (h : St R P B (i + 1) t q l) (hl : l.length ≤ i) (hP : 1 ≤ P) (hq : P ≤ q) : St R P B (i + 1) t (q - P) (l ++ [t]) := by
  have hg : ∀ j, j ≤ l.length → (l ++ [t]).getD j 0 = if j < l.length then l.getD j 0 else t := fun j hj => by
    rw [getD_app]
    by_cases e : j < l.length
    · rw [if_pos e, if_pos e]
    · rw [if_neg e, if_neg e, show j - l.length = 0 from by omega]; rfl
  have hlen : (l ++ [t]).length = l.length + 1 := by simp
  have hbound : ∀ j, j < l.length + 1 → q - P ≤ B * P - P * ((l.length + 1 - j : Nat) : Int) + R * (t - (l ++ [t]).getD j 0) := fun j hj => by
    rw [hg j (by omega)]
    by_cases e : j < l.length
    · rw [if_pos e]
      have h1 := h.bound j e
      have e2 : P * ((l.length + 1 - j : Nat) : Int) = P * ((l.length - j : Nat) : Int) + P := by
        rw [show l.length + 1 - j = (l.length - j) + 1 from by omega, Int.natCast_add, Int.mul_add]; simp
      rw [e2]; omega
    · rw [if_neg e]
      have := h.parts
      rw [show l.length + 1 - j = 1 from by omega, Int.sub_self, Int.mul_zero]
      simp; omega
  refine ⟨by omega, h.clock, by have := h.parts; omega, fun j hj => ?_, fun j k hjk hk => ?_, fun j hj => ?_, fun j k hjk hk => ?_⟩
  · rw [hlen] at hj
    rw [hg j (by omega)]
    by_cases e : j < l.length
    · rw [if_pos e]; exact h.times j e
    · rw [if_neg e]; have := h.clock; omega
  · rw [hlen] at hk
    rw [hg j (by omega), hg k (by omega)]
    by_cases e : k < l.length
    · rw [if_pos e, if_pos (by omega)]; exact h.up j k hjk e
    · rw [if_neg e]
      by_cases e2 : j < l.length
      · rw [if_pos e2]; exact (h.times j e2).2
      · rw [if_neg e2]; exact Int.le_refl _
  · rw [hlen] at hj ⊢; exact hbound j hj
  · rw [hlen] at hk
    by_cases e : k < l.length
    · rw [hg j (by omega), hg k (by omega), if_pos e, if_pos (by omega)]; exact h.pairs j k hjk e
    · have hk2 : k = l.length := by omega
      subst hk2
      have h1 := hbound j (by omega)
      have h2 : (l ++ [t]).getD l.length 0 = t := by rw [hg _ (Nat.le_refl _), if_neg (by omega)]
      rw [h2]
      omega
theorem tk_val (p a b R P B t e : Int) (hl : Lim R P B) (hp : 0 ≤ p ∧ p ≤ B * P) (ha : 0 ≤ a ∧ a ≤ t) (ht : t ≤ 1099511627776) (q : Int) (hq : q = min (B * P) (p + (t - a) * R)) :
    tkV (p, a, e) b R P B t = if q < P then (q, t, false, 0) else (q - P, t, true, 0) := by
  have h := rTake_v p a b R P B t e
  have hf : fV p a R P B t = (q, t, 0) := by
    unfold fV
    rw [if_pos hl, if_pos ⟨hp, by omega, by omega⟩]
    by_cases hta : t ≤ a
    · have e1 : t = a := by omega
      rw [if_pos hta, hq, e1, Int.sub_self, Int.zero_mul]
      congr 1
      omega
    · rw [if_neg hta, hq]
  unfold rTake at h
  dsimp only at h
  rw [rFill_v, hf, Option.bind_some] at h
  rw [if_neg (show ¬ ((q, t, (0 : Int)).2.2 != (0 : Int)) = true by simp)] at h
  have hl' := lim_mul hl
  have hD := Int.mul_nonneg (show 0 ≤ t - a by omega) (show 0 ≤ R by have := hl.1; omega)
  have hlim := hl
  by_cases hc : q < P
  · rw [if_pos (show decide ((q, t, (0 : Int)).1 < P) = true by simpa using hc)] at h
    injection h with h
    rw [← h, if_pos hc]
  · rw [if_neg (show ¬ decide ((q, t, (0 : Int)).1 < P) = true by simpa using hc)] at h
    injection h with h
    rw [← h, if_neg hc]
    show (IntKind.wrap .i64 (q - P), _) = _
    rw [wrap64 (by omega) (by omega)]
abbrev wa : Wh := (0, 0, [97], ())
/-- what the one entry is. -/
def one (l : List REnt) (p now : Int) : Prop := l = [(wa, ((p, now, ()), ()))]
theorem take_one (b R P B t p now : Int) (L : List REnt) (hL : one L p now ∨ (L = [] ∧ p = B * P ∧ now ≤ t)) (hl : Lim R P B) (hp : 0 ≤ p ∧ p ≤ B * P) (ha : 0 ≤ now ∧ now ≤ t) (ht : t ≤ 1099511627776) (q : Int) (hq : q = min (B * P) (p + (t - now) * R)) :
    ∃ L', takeL 4 L wa b R P B t = (L', decide (P ≤ q), 0) ∧ one L' (if P ≤ q then q - P else q) t := by
  have hl' := lim_mul hl
  have hD := Int.mul_nonneg (show 0 ≤ t - now by omega) (show 0 ≤ R by have := hl.1; omega)
  have key : ∀ L2 : List REnt, ∀ (e : Int), (∀ k, putL 4 L wa k = [(wa, (k, ()))]) → ∀ p' a', bvL L wa R P B t = (p', a', 0) → tkV (p', a', 0) b R P B t = (if q < P then (q, t, false, 0) else (q - P, t, true, 0)) →
      ∃ L', takeL 4 L wa b R P B t = (L', decide (P ≤ q), 0) ∧ one L' (if P ≤ q then q - P else q) t := by
    intro _ _ hput p' a' hbv htk
    unfold takeL
    rw [hbv, htk, if_neg (by simp)]
    by_cases hc : q < P
    · rw [if_pos hc, if_neg (by simp), hput]
      exact ⟨_, by rw [decide_eq_false (by omega)], by rw [if_neg (by omega)]; rfl⟩
    · rw [if_neg hc, if_neg (by simp), hput]
      exact ⟨_, by rw [decide_eq_true (by omega)], by rw [if_pos (by omega)]; rfl⟩
  rcases hL with hL | ⟨hL, hpB, _⟩
  · rw [hL] at key ⊢
    refine key [] 0 (fun k => rfl) p now ?_ (tk_val p now b R P B t 0 hl hp ha ht q hq)
    unfold bvL
    rw [if_pos hl, if_pos (by omega)]
    rfl
  · rw [hL] at key ⊢
    refine key [] 0 (fun k => rfl) (B * P) t ?_ (tk_val (B * P) t b R P B t 0 hl (by omega) (by omega) ht q ?_)
    · unfold bvL
      rw [if_pos hl, if_pos (by omega)]
      rfl
    · rw [hq, Int.sub_self, Int.zero_mul, hpB]
      omega
theorem tmod5 (v : Int) : 0 ≤ Int.tmod (IntKind.wrap .i64 (Int.tmod v 5 + 5)) 5 ∧ Int.tmod (IntKind.wrap .i64 (Int.tmod v 5 + 5)) 5 < 5 := by
  have h1 : -5 < Int.tmod v 5 ∧ Int.tmod v 5 < 5 := by
    have := Int.tmod_lt_of_pos v (show (0 : Int) < 5 by decide)
    have h2 := Int.tmod_lt_of_pos (-v) (show (0 : Int) < 5 by decide)
    rw [Int.neg_tmod] at h2
    omega
  rw [wrap64 (by omega) (by omega), Int.tmod_eq_emod_of_nonneg (by omega)]
  omega
theorem tableMost_true (b R P B : Int) (steps : List Int) : tableMost 5000 (b, R, P, B, steps, []) = some true := by
  apply Gives.eq
  unfold tableMost
  dsimp only
  rw [new_v, if_pos (by omega), Option.bind_some]
  dsimp only
  rw [rValid_v, Option.bind_some]
  refine Gives.nite (fun _ => by rw [works_true]; exact Gives.of_some rfl) (fun hv => ?_)
  have hl := vV_zero hv
  refine Gives.dite (fun _ => by rw [works_true]; exact Gives.of_some rfl) (fun hn => ?_)
  have hlm := lim_mul hl
  have hP1 : 1 ≤ P := by have := hl; omega
  have hR1 : 1 ≤ R := by have := hl; omega
  have hPB : P ≤ B * P := by
    have := Int.mul_le_mul_of_nonneg_right (show 1 ≤ B by have := hl; omega) (show 0 ≤ P by omega)
    omega
  refine Gives.loop (X := (List Int) × Int × Int × Int × Int × Int × Int × Int × Int × Int × (List (Wh × Int)) × (List Ent) × List Int)
    (fun y => ∃ (i : Nat) (now p f l : Int) (m : List (Wh × Int)) (xs : List Ent) (o : List Nat) (taken : List Int), i ≤ steps.length ∧ y = (steps, now, (i : Int), b, R, P, B, 4, f, l, m, xs, taken) ∧ Ok f l m xs o ∧ (o.length : Int) ≤ 4 ∧
      (one (ents xs o) p now ∨ (ents xs o = [] ∧ p = B * P)) ∧ St R P B i now p taken) (fun y => (400 - y.2.2.1).toNat) ?_ 5000 _
    ⟨0, 0, B * P, -1, -1, [], [], [], [], by omega, rfl, Ok.empty, by simp, .inr ⟨rfl, rfl⟩, ⟨by simp, by omega, by omega, fun j hj => by simp at hj, fun j k _ hk => by simp at hk, fun j hj => by simp at hj, fun j k _ hk => by simp at hk⟩⟩ (by simp)
  rintro rec y ⟨i, now, p, f, l, m, xs, o, taken, hi, rfl, hO, ho, hone, hS⟩ hrec
  dsimp only
  have hc := hS.clock
  refine Gives.dite (fun h => ?_) (fun h => ?_)
  · refine Gives.idx 0 (by omega) h ?_
    have h5 := tmod5 (steps.getD (i : Int).toNat 0)
    generalize Int.tmod (IntKind.wrap .i64 (Int.tmod (steps.getD (i : Int).toNat 0) 5 + 5)) 5 = d at h5 ⊢
    rw [wrap64 (n := now + d) (by omega) (by omega)]
    obtain ⟨f1, l1, m1, xs1, o1, t1, t2, t3, t4⟩ := tTake_v 4 hO (by omega) ho 0 0 [97] b R P B (now + d)
    obtain ⟨L', k1, k2⟩ := take_one b R P B (now + d) p now (ents xs o) (by rcases hone with h | ⟨h1, h2⟩; exact .inl h; exact .inr ⟨h1, h2, by omega⟩) hl hS.parts (by omega) (by omega) _ rfl
    have hst := hS.step hR1 hP1 (now + d) (by omega) _ rfl
    generalize min (B * P) (p + (now + d - now) * R) = q at k1 k2 hst
    rw [show takeL 4 (ents xs o) (0, 0, [97], ()) b R P B (now + d) = (L', decide (P ≤ q), 0) from k1] at t1 t3
    refine Gives.bind_eq t1 ?_
    dsimp only at t3 ⊢
    refine Gives.neg (by simp) ?_
    have hlen := hS.len
    refine Gives.dite (fun hc => ?_) (fun hc => ?_)
    · refine Gives.pos (by omega) ?_
      rw [wrap64 (by omega) (by omega)]
      rw [if_pos hc] at k2
      exact hrec _ ⟨i + 1, now + d, q - P, f1, l1, m1, xs1, o1, taken ++ [now + d], by omega, by simp, t2, t4, .inl (by rw [t3]; exact k2), hst.take hlen hP1 hc⟩ (by dsimp only; omega)
    · rw [wrap64 (by omega) (by omega)]
      rw [if_neg hc] at k2
      exact hrec _ ⟨i + 1, now + d, q, f1, l1, m1, xs1, o1, taken, by omega, by simp, t2, t4, .inl (by rw [t3]; exact k2), hst⟩ (by dsimp only; omega)
  · have hlen := hS.len
    refine Gives.loop (X := Int × Int × Int × Int × Int × (List Int) × List Ent)
      (fun y => ∃ j : Nat, j ≤ taken.length ∧ y = ((j : Int), b, R, P, B, taken, xs)) (fun y => (400 - y.1).toNat) ?_ 5000 _ ⟨0, by omega, rfl⟩ (by simp)
    rintro rec2 y ⟨j, hj, rfl⟩ hrec2
    dsimp only
    refine Gives.dite (fun hjl => ?_) (fun hjl => by rw [works_true]; exact Gives.of_some rfl)
    refine Gives.loop (X := Int × Int × Int × Int × Int × Int × (List Int) × List Ent)
      (fun y => ∃ k : Nat, j ≤ k ∧ k ≤ taken.length ∧ y = ((j : Int), (k : Int), b, R, P, B, taken, xs)) (fun y => (400 - y.2.1).toNat) ?_ 5000 _ ⟨j, by omega, by omega, rfl⟩ (by dsimp only; omega)
    rintro rec3 y ⟨k, hjk, hk, rfl⟩ hrec3
    dsimp only
    refine Gives.dite (fun hkl => ?_) (fun hkl => ?_)
    · refine Gives.pos (by omega) (Gives.pos (by omega) (Gives.neg (by omega) ?_))
      have hk' : k < taken.length := by omega
      have tj := hS.times j (by omega)
      have tk := hS.times k hk'
      have tu := hS.up j k hjk hk'
      have hpr := hS.pairs j k hjk hk'
      rw [Int.toNat_natCast, Int.toNat_natCast, wrap64 (n := (k : Int) - (j : Int)) (by omega) (by omega), wrap64 (n := (k : Int) - (j : Int) + 1) (by omega) (by omega), wrap64 (n := taken.getD k 0 - taken.getD j 0) (by omega) (by omega)]
      have hd0 : 0 ≤ taken.getD k 0 - taken.getD j 0 ∧ taken.getD k 0 - taken.getD j 0 ≤ 4000 := by omega
      generalize taken.getD k 0 - taken.getD j 0 = dt at hpr hd0 ⊢
      have hRd := mul_between (a := R) (b := dt) (X := 1048576) (Y := 4000) (by omega) (by have := hl.1; omega) hd0.1 hd0.2
      have hdiv := Int.ediv_nonneg hRd.1 (show 0 ≤ P by omega)
      have hdle := Int.ediv_le_self P hRd.1
      rw [wrap64 (n := R * dt) (by omega) (by omega), Int.tdiv_eq_ediv_of_nonneg hRd.1, wrap64 (n := R * dt / P) (by omega) (by omega)]
      have hB := hl.2.2
      rw [wrap64 (n := B + R * dt / P) (by omega) (by omega)]
      have hcnt : ((k + 1 - j : Nat) : Int) = (k : Int) - (j : Int) + 1 := by omega
      rw [hcnt] at hpr
      have hq : (k : Int) - (j : Int) + 1 - B ≤ R * dt / P := by
        apply Int.le_ediv_of_mul_le (by omega)
        rw [Int.sub_mul, Int.mul_comm ((k : Int) - (j : Int) + 1) P]
        omega
      refine Gives.dneg (by omega) ?_
      rw [wrap64 (by omega) (by omega)]
      exact hrec3 _ ⟨k + 1, by omega, by omega, by simp⟩ (by dsimp only; omega)
    · rw [wrap64 (by omega) (by omega)]
      exact hrec2 _ ⟨j + 1, by omega, by simp⟩ (by dsimp only; omega)
end Go.Sx.Ytppiiahjnglcnaa
