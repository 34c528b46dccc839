/- Keys; pieces. -/
import Derived.Test.YtfgkjcpcljfpdaaDoorWP
namespace Go.Sx.YtfgkjcpcljfpdaaDoor
open Go Go.Sx
set_option autoImplicit false
set_option maxRecDepth 1000000
set_option linter.unusedVariables false
set_option linter.unusedSimpArgs false
theorem turned {a : Int} (h : 0 ≤ a ∧ a ≤ 255) {j : Nat} (hj : j < 8) : bits .xor .u8 a (IntKind.wrap .u8 ((1 : Int) * 2 ^ (min j 8))) ≠ a ∧ 0 ≤ bits .xor .u8 a (IntKind.wrap .u8 ((1 : Int) * 2 ^ (min j 8))) ∧ bits .xor .u8 a (IntKind.wrap .u8 ((1 : Int) * 2 ^ (min j 8))) ≤ 255 := by
  have key : ∀ n : Fin 256, ∀ j : Fin 8, bits .xor .u8 (n.val : Int) (IntKind.wrap .u8 ((1 : Int) * 2 ^ (min j.val 8))) ≠ (n.val : Int) ∧ 0 ≤ bits .xor .u8 (n.val : Int) (IntKind.wrap .u8 ((1 : Int) * 2 ^ (min j.val 8))) ∧ bits .xor .u8 (n.val : Int) (IntKind.wrap .u8 ((1 : Int) * 2 ^ (min j.val 8))) ≤ 255 := by decide +kernel
  obtain ⟨n, rfl⟩ : ∃ n : Nat, a = (n : Int) := ⟨a.toNat, by omega⟩
  exact key ⟨n, by omega⟩ ⟨j, hj⟩
theorem U8.set {l : List Int} (h : U8 l) {i : Nat} {v : Int} (hv : 0 ≤ v ∧ v ≤ 255) : U8 (l.set i v) := by
  intro x hx
  rcases List.mem_or_eq_of_mem_set hx with h1 | rfl
  · exact h x h1
  · exact hv
theorem set_ne {l : List Int} {i : Nat} {v : Int} (hi : i < l.length) (hv : v ≠ l.getD i 0) : l ≠ l.set i v := by
  intro e
  have h1 : (l.set i v).getD i 0 = v := by simp [List.getD_eq_getElem?_getD, hi]
  rw [← e] at h1
  exact hv h1.symm
theorem keys_tail {x1 x2 r6 : List Int} {x3 : Int} (hr : r6 = hm x1 x2) (hk : x1.length ≤ 140737488351232) (ht : x2.length ≤ 140737488351232) : Gives ((let u8 : Int := (IntKind.wrap .i64 ((Int.tmod x3 (256 : Int)) + (256 : Int)))
  (if 32 = r6.length then
  (if 32 = 32 ∧ 32 = r6.length then
  (let u9 : Int := (IntKind.wrap .i64 (Int.tdiv (Int.tmod u8 (256 : Int)) (8 : Int)))
  (let u10 : Int := (IntKind.wrap .i64 (Int.tdiv (Int.tmod u8 (256 : Int)) (8 : Int)))
  (if 32 = r6.length then
  (if 0 ≤ u10 ∧ u10 < (r6.length : Int) then
  (let u11 : Int := (Int.tmod (Int.tmod u8 (256 : Int)) (8 : Int))
  (if (IntKind.wrap .u64 u11) < 0 then none else (let u12 : Int := (IntKind.wrap .u8 ((1 : Int) * 2 ^ (min (IntKind.wrap .u64 u11).toNat 8)))
  (let u13 : Int := (bits .xor .u8 (r6.getD u10.toNat (0 : Int)) u12)
  (if 32 = r6.length then
  (if 0 ≤ u9 ∧ u9 < (r6.length : Int) then
  (if 32 = r6.length then
  (Option.bind (verify FU (x1, (x2, ((r6.drop 0).take (32 - 0))))) fun r14 =>
  (if r14 = true then
  (if 32 = (r6.set u9.toNat u13).length then
  (Option.bind (verify FU (x1, (x2, (((r6.set u9.toNat u13).drop 0).take (32 - 0))))) fun r15 =>
  (if (!r15) = true then
  (if 32 = r6.length then
  (Option.bind (verify FU (x1, (x2, ((r6.drop 0).take (31 - 0))))) fun r16 =>
  (if (!r16) = true then
  (if 32 = r6.length then
  (if 32 = (r6.set u9.toNat u13).length then
  (Option.bind (same FU (((r6.drop 0).take (32 - 0)), (((r6.set u9.toNat u13).drop 0).take (32 - 0)))) fun r17 =>
  (if (!r17) = true then
  (Option.bind (works FU ()) fun r18 =>
  some r18)
  else
  some false))
  else none)
  else none)
  else
  some false))
  else none)
  else
  some false))
  else none)
  else
  some false))
  else none)
  else none)
  else none)))))
  else none)
  else none)))
  else none)
  else none))) (· = true) := by
  have hl : r6.length = 32 := by rw [hr]; exact hm_len _ _
  have hb : U8 r6 := by rw [hr]; exact hm_bytes _ _
  have m1 := Int.tmod_lt_of_pos x3 (b := 256) (by omega)
  have m2 : -256 < Int.tmod x3 256 := by
    have := Int.tmod_lt_of_pos (-x3) (b := 256) (by omega)
    rw [Int.neg_tmod] at this
    omega
  rw [wrap64 (n := Int.tmod x3 256 + 256) (by omega) (by omega)]
  dsimp only
  rw [Int.tmod_eq_emod_of_nonneg (a := Int.tmod x3 256 + 256) (by omega)]
  generalize hbit : (Int.tmod x3 256 + 256) % 256 = bit
  have b0 : 0 ≤ bit ∧ bit < 256 := by omega
  rw [Int.tmod_eq_emod_of_nonneg b0.1, Int.tdiv_eq_ediv_of_nonneg b0.1, wrap64 (n := bit / 8) (by omega) (by omega)]
  have w64 : IntKind.wrap .u64 (bit % 8) = bit % 8 := by simp [IntKind.wrap, IntKind.bits, IntKind.signed]; omega
  rw [w64]
  refine Gives.pos hl.symm (Gives.pos ⟨rfl, hl.symm⟩ (Gives.pos hl.symm (Gives.pos (by omega) (Gives.neg (by omega) ?_))))
  have hi : (bit / 8).toNat < r6.length := by omega
  obtain ⟨t1, t2⟩ := turned (byte_of hb _ hi) (j := (bit % 8).toNat) (by omega)
  have hne := set_ne hi t1
  have hb2 := hb.set (i := (bit / 8).toNat) t2
  generalize bits .xor .u8 (r6.getD (bit / 8).toNat 0) (IntKind.wrap .u8 ((1 : Int) * 2 ^ (min (bit % 8).toNat 8))) = v at hne hb2 ⊢
  have hl2 : (r6.set (bit / 8).toNat v).length = 32 := by rw [List.length_set, hl]
  generalize r6.set (bit / 8).toNat v = c at hne hb2 hl2 ⊢
  refine Gives.pos hl.symm (Gives.pos (by omega) (Gives.pos hl.symm ?_))
  rw [all32 hl, all32 hl2]
  refine Gives.bind_eq (verify_gives hk ht (by omega) hb).eq ?_
  rw [if_pos (by rw [← hr]; simp)]
  refine Gives.pos hl2.symm (Gives.bind_eq (verify_gives hk ht (by omega) hb2).eq ?_)
  rw [if_pos (by rw [← hr]; simpa using hne)]
  have h31 : ((r6.drop 0).take (31 - 0)).length = 31 := by rw [List.drop_zero, List.length_take]; omega
  refine Gives.pos hl.symm (Gives.bind_eq (verify_gives hk ht (by omega) (fun x hx => hb x (by rw [List.drop_zero] at hx; exact List.mem_of_mem_take hx))).eq ?_)
  rw [if_pos (by
    rw [← hr]
    have : r6 ≠ (r6.drop 0).take (31 - 0) := fun e => by have := congrArg List.length e; omega
    simpa using this)]
  refine Gives.pos hl.symm (Gives.pos hl2.symm (Gives.bind_eq (same_gives hb hb2 (by omega) (by omega)).eq ?_))
  rw [if_pos (by simpa using hne)]
  exact Gives.bind_eq works_eq (Gives.of_some rfl)
theorem kb_fil {r key : List Int} (hr : r.length ≤ 64) (h : kb key = fil r) : kb r = kb key := by
  rw [h]
  unfold kb
  rw [if_neg (by omega)]
theorem fil_fil {r : List Int} (hr : r.length ≤ 64) : fil (fil r) = fil r := by
  have := fil_len r hr
  rw [fil, this]
  simp
theorem macKeys_true (k t : List Int) (x3 : Int) (hk : k.length ≤ 140737488351232) (ht : t.length ≤ 140737488351232) : macKeys FU (k, t, x3) = some true := by
  apply Gives.eq
  unfold macKeys
  dsimp only
  have hl := hm_len k t
  refine Gives.bind_eq (twin_eq (by omega)) ?_
  refine Gives.dite (fun hgt => ?_) (fun hle => ?_)
  · have hs := shaL_len k
    refine Gives.bind_eq (rSum_gives (by omega)).eq (Gives.pos ⟨rfl, hs.symm⟩ (Gives.pos hs.symm (Gives.bind_eq (msumP_gives hk ht).eq (Gives.pos ⟨rfl, hl.symm⟩ (Gives.pos hl.symm ?_)))))
    rw [all32 hs]
    refine Gives.bind_eq (msumP_gives (by omega) ht).eq ?_
    have e : hm (shaL k) t = hm k t := by
      unfold hm
      rw [kb_fil (key := k) (by omega) (by unfold kb; rw [if_pos (by omega)])]
    rw [e]
    refine Gives.pos ⟨hl, hl⟩ ?_
    rw [if_neg (by simp)]
    exact keys_tail rfl hk ht
  · refine Gives.loop (fun y => y.1 = k ∧ y.2.1 = t ∧ y.2.2.1 = x3 ∧ k.length ≤ y.2.2.2.length ∧ y.2.2.2.length ≤ 64 ∧ y.2.2.2 = k ++ List.replicate (y.2.2.2.length - k.length) 0) (fun y => 64 - y.2.2.2.length) ?_ _ _ ⟨rfl, rfl, rfl, Nat.le_refl _, by show k.length ≤ 64; omega, by simp⟩ (by show 64 - k.length < 281474976710700; omega)
    rintro rec ⟨a21, a22, a23, a24⟩ ⟨k1, k2, k3, k4, k5, k6⟩ hrec
    dsimp only at k1 k2 k3 k4 k5 k6 hrec ⊢
    subst k1 k2 k3
    refine Gives.dite (fun hlt => ?_) (fun hge => ?_)
    · refine Gives.pos (by omega) ?_
      have hl24 : (a24 ++ [(0 : Int)]).length = a24.length + 1 := by simp
      refine hrec _ ⟨rfl, rfl, rfl, by show a21.length ≤ (a24 ++ [(0 : Int)]).length; omega, by show (a24 ++ [(0 : Int)]).length ≤ 64; omega, ?_⟩ (by show 64 - (a24 ++ [(0 : Int)]).length < 64 - a24.length; omega)
      show a24 ++ [(0 : Int)] = a21 ++ List.replicate ((a24 ++ [(0 : Int)]).length - a21.length) 0
      rw [hl24, show a24.length + 1 - a21.length = (a24.length - a21.length) + 1 from by omega, List.replicate_succ', ← List.append_assoc, ← k6]
    · refine Gives.bind_eq (msumP_gives hk ht).eq (Gives.pos ⟨rfl, hl.symm⟩ (Gives.pos hl.symm ?_))
      have e : hm a24 a22 = hm a21 a22 := by
        have e1 : a24 = fil a21 := by unfold fil; rw [show 64 - a21.length = a24.length - a21.length from by omega]; exact k6
        unfold hm
        rw [e1, kb_fil (key := a21) (by rw [← e1]; exact k5) (by unfold kb; rw [if_neg (by omega), fil_fil (by omega)])]
      refine Gives.bind_eq (msumP_gives (by omega) ht).eq ?_
      rw [e]
      refine Gives.pos ⟨hl, hl⟩ ?_
      rw [if_neg (by simp)]
      exact keys_tail rfl hk ht
theorem mclone_eq (q s b : List Int) (h l : Int) : mclone FU (q, s, b, h, l) = some (q, s, b, h, l, q, s, b, h, l) := rfl
theorem macPieces_true (k t c : List Int) (hk : k.length ≤ 140737488351232) (ht : t.length ≤ 140737488351232) : macPieces FU (k, t, c) = some true := by
  apply Gives.eq
  unfold macPieces
  dsimp only
  have hl := hm_len k t
  have hkl := kb_len k
  have hxl : (xk 54 (kb k)).length = 64 := by rw [xk_len, hkl]
  refine Gives.bind_eq (twin_eq (by omega)) (Gives.bind (mnewK_gives (by omega)) ?_)
  rintro ⟨q, s, b, h, l, row⟩ ⟨r, er⟩
  dsimp only at r er ⊢
  refine Gives.loop (fun y => y.1 = k ∧ y.2.1 = t ∧ y.2.2.1 = c ∧ 0 ≤ y.2.2.2.1 ∧ y.2.2.2.2.1.length = k.length ∧ y.2.2.2.1 ≤ (k.length : Int) ∧ MR y.2.2.2.2.2 (kb k) (xk 54 (kb k))) (fun y => ((k.length : Int) - y.2.2.2.1).toNat) ?_ _ _ ⟨rfl, rfl, rfl, by simp, by rw [er], by simp, r⟩ (by show ((k.length : Int) - 0).toNat < 281474976710700; omega)
  rintro rec ⟨a8, a9, a10, i, row2, st⟩ ⟨k1, k2, k3, k4, k5, k6, r1⟩ hrec
  obtain ⟨q, s, b, h, l⟩ := st
  dsimp only at k1 k2 k3 k4 k5 k6 r1 hrec ⊢
  subst k1 k2 k3
  refine Gives.dite (fun hlt => Gives.pos ⟨k4, hlt⟩ ?_) (fun hge => ?_)
  · rw [wrap64 (by omega) (by omega)]
    exact hrec _ ⟨rfl, rfl, rfl, by show 0 ≤ i + 1; omega, by show (row2.set i.toNat 33).length = a8.length; rw [List.length_set, k5], by show i + 1 ≤ (a8.length : Int); omega, r1⟩ (by show ((a8.length : Int) - (i + 1)).toNat < ((a8.length : Int) - i).toNat; omega)
  clear hrec
  refine Gives.loop (fun y => y.1 = a8 ∧ y.2.1 = a9 ∧ y.2.2.1 = a10 ∧ 0 ≤ y.2.2.2.1 ∧ y.2.2.2.1 ≤ (a9.length : Int) ∧ 0 ≤ y.2.2.2.2.1 ∧ y.2.2.2.2.1 ≤ 100 ∧ MR y.2.2.2.2.2 (kb a8) (xk 54 (kb a8) ++ a9.take y.2.2.2.1.toNat)) (fun y => (100 - y.2.2.2.2.1).toNat) ?_ _ _ ⟨rfl, rfl, rfl, by simp, by simp, by simp, by simp, by simpa using r1⟩ (by show 100 < FU; decide)
  rintro rec ⟨a21, a22, a23, fr, j, st⟩ ⟨k1, k2, k3, m1, m2, m3, m4, r2⟩ hrec
  obtain ⟨q, s, b, h, l⟩ := st
  dsimp only at k1 k2 k3 m1 m2 m3 m4 r2 hrec ⊢
  subst k1 k2 k3
  refine Gives.bind (P := fun o => ∃ f : Bool, o = Out.go (a21, (a22, (a23, (fr, (j, (f, (q, (s, (b, (h, l)))))))))) ∧ (f = true → j < (a23.length : Int) ∧ j < 100 ∧ fr < (a22.length : Int))) ?_ ?_
  · refine Gives.dite (fun h1 => Gives.dite (fun h2 => Gives.of_some ⟨_, rfl, fun h3 => ⟨h1, h2, of_decide_eq_true h3⟩⟩) (fun h2 => Gives.of_some ⟨false, rfl, fun h => by cases h⟩)) (fun h1 => Gives.of_some ⟨false, rfl, fun h => by cases h⟩)
  rintro _ ⟨f, rfl, hf⟩
  dsimp only
  cases f with
  | true =>
    obtain ⟨f1, f2, f3⟩ := hf rfl
    rw [if_pos rfl]
    refine Gives.idx 0 m3 f1 ?_
    generalize a23.getD j.toNat 0 = v
    have p1 := Int.tmod_lt_of_pos v (b := 90) (by omega)
    have p2 : -90 < Int.tmod v 90 := by
      have := Int.tmod_lt_of_pos (-v) (b := 90) (by omega)
      rw [Int.neg_tmod] at this
      omega
    rw [wrap64 (n := Int.tmod v 90 + 90) (by omega) (by omega), wrap64 (n := (a22.length : Int) - fr) (by omega) (by omega), Int.tmod_eq_emod_of_nonneg (a := Int.tmod v 90 + 90) (by omega)]
    generalize hw : (Int.tmod v 90 + 90) % 90 = w
    generalize hu : (if (a22.length : Int) - fr < w then (a22.length : Int) - fr else w) = u
    have hu0 : 0 ≤ u ∧ fr + u ≤ (a22.length : Int) := by rw [← hu]; split <;> omega
    rw [wrap64 (n := fr + u) (by omega) (by omega)]
    have ha : a22.take fr.toNat ++ (a22.drop fr.toNat).take ((fr + u).toNat - fr.toNat) = a22.take (fr + u).toNat := by
      rw [← List.take_add]; congr 1; omega
    have hpl : ((a22.drop fr.toNat).take ((fr + u).toNat - fr.toNat)).length ≤ 140737488351232 := by rw [List.length_take, List.length_drop]; omega
    have htl : ∀ n : Nat, (a22.take n).length ≤ 140737488351232 := fun n => by rw [List.length_take]; omega
    refine Gives.pos (by omega) (Gives.bind_eq (twin_eq (by omega)) (Gives.bind (mwrite_gives r2 _ (by rw [List.length_append]; have := htl fr.toNat; omega)) ?_))
    rintro ⟨q', s', b', h', l'⟩ r3
    rw [List.append_assoc, ha] at r3
    dsimp only
    refine Gives.bind_eq (msum_gives r3 hkl (by rw [List.length_append]; have := htl (fr + u).toNat; omega)).eq ?_
    dsimp only
    rw [wrap64 (n := j + 1) (by omega) (by omega)]
    exact hrec _ ⟨rfl, rfl, rfl, by show 0 ≤ fr + u; omega, by show fr + u ≤ (a22.length : Int); omega, by show 0 ≤ j + 1; omega, by show j + 1 ≤ 100; omega, r3⟩ (by show (100 - (j + 1)).toNat < (100 - j).toNat; omega)
  | false =>
    rw [if_neg (by simp)]
    refine Gives.bind_eq (mclone_eq _ _ _ _ _) ?_
    dsimp only
    have ha : a22.take fr.toNat ++ (a22.drop fr.toNat).take (((a22.length : Int)).toNat - fr.toNat) = a22 := by
      rw [← List.take_add, List.take_of_length_le (by omega)]
    have hpl : ((a22.drop fr.toNat).take (((a22.length : Int)).toNat - fr.toNat)).length ≤ 140737488351232 := by rw [List.length_take, List.length_drop]; omega
    have htl : ∀ n : Nat, (a22.take n).length ≤ 140737488351232 := fun n => by rw [List.length_take]; omega
    refine Gives.pos (by omega) (Gives.bind_eq (twin_eq (by omega)) (Gives.bind (mwrite_gives r2 _ (by rw [List.length_append]; have := htl fr.toNat; omega)) ?_))
    rintro ⟨q1, s1, b1, h1, l1⟩ r3
    rw [List.append_assoc, ha] at r3
    dsimp only
    refine Gives.bind (mwrite_gives r2 _ (by rw [List.length_append]; have := htl fr.toNat; simp only [List.length_cons, List.length_nil]; omega)) ?_
    rintro _ _
    have hml : (xk 54 (kb a21) ++ a22).length ≤ 140737488355000 := by rw [List.length_append]; omega
    have hms : ∀ {q s b : List Int} {h l : Int}, MR (q, s, b, h, l) (kb a21) (xk 54 (kb a21) ++ a22) → msum FU (q, s, b, h, l) = some (hm a21 a22, q, s, b, h, l) := fun r => (msum_gives r hkl hml).eq
    refine Gives.bind_eq (msumP_gives hk ht).eq (Gives.pos ⟨rfl, hl.symm⟩ (Gives.bind_eq (hms r3) ?_))
    dsimp only
    refine Gives.pos hl.symm (Gives.pos ⟨hl, hl⟩ ?_)
    rw [if_neg (by simp)]
    refine Gives.bind_eq (hms r3) ?_
    dsimp only
    refine Gives.pos hl.symm (Gives.pos ⟨hl, hl⟩ ?_)
    rw [if_neg (by simp)]
    have e1 : q1 = kb a21 := r3.1
    subst e1
    refine Gives.bind (mreset_gives hkl _ _ _ _) ?_
    rintro ⟨q2, s2, b2, h2, l2⟩ r4
    dsimp only
    refine Gives.bind_eq (twin_eq (by omega)) (Gives.bind (mwrite_gives r4 a22 (by omega)) ?_)
    rintro ⟨q3, s3, b3, h3, l3⟩ r5
    dsimp only
    refine Gives.bind_eq (r := ()) rfl (Gives.bind_eq (r := ()) rfl (Gives.bind_eq (hms r5) ?_))
    dsimp only
    refine Gives.pos hl.symm (Gives.pos ⟨hl, hl⟩ ?_)
    rw [if_pos (by simp)]
    refine Gives.bind_eq rfl (Gives.pos ⟨rfl, rfl⟩ ?_)
    rw [if_pos (by simp)]
    exact Gives.bind_eq (r := ()) rfl (Gives.bind_eq works_eq (Gives.of_some rfl))
end Go.Sx.YtfgkjcpcljfpdaaDoor
