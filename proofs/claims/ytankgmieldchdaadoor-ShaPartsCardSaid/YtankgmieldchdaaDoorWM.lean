/- What the functions of the sum come to: mixing, writing, what stands behind, the sum. -/
import Derived.Test.YtankgmieldchdaaDoorWL
namespace Go.Sx.YtankgmieldchdaaDoor
open Go Go.Sx
set_option autoImplicit false
set_option maxRecDepth 1000000
set_option linter.unusedVariables false
set_option linter.unusedSimpArgs false
theorem mix_gives {h b : List Int} (hh : h.length = 8) (hb : b.length = 64) (x y : Int) : Gives (mix FU (h, b, x, y)) (· = (blk h b, b, x, y)) := by
  unfold mix
  dsimp only
  refine Gives.bind_eq (schedule_gives hb).eq ?_
  refine Gives.pos ⟨rfl, (wpre_len b 64).symm⟩ (Gives.pos ⟨rfl, hh.symm⟩ ?_)
  refine Gives.loop (fun z => 0 ≤ z.1 ∧ z.1 ≤ 64 ∧ z.2.1 = h ∧ z.2.2.1 = b ∧ z.2.2.2.1 = x ∧ z.2.2.2.2.1 = y ∧ z.2.2.2.2.2.1 = wpre b 64 ∧ z.2.2.2.2.2.2 = rnds (wpre b 64) z.1.toNat h) (fun z => (64 - z.1).toNat) ?_ _ _ ⟨by simp, by simp, rfl, rfl, rfl, rfl, rfl, rfl⟩ (by show 64 < FU; decide)
  rintro rec ⟨a8, a9, a10, a11, a12, a13, a14⟩ ⟨k0, k1, k2, k3, k4, k5, k6, k7⟩ hrec
  dsimp only at k0 k1 k2 k3 k4 k5 k6 k7 hrec ⊢
  subst k2 k3 k4 k5
  have hl : a14.length = 8 := by rw [k7]; exact rnds_len _ hh _
  have hk := cK_len
  have hw : a13.length = 64 := by rw [k6, wpre_len]
  refine Gives.dite (fun hlt => ?_) (fun hge => ?_)
  · obtain ⟨s0, s1, s2, s3, s4, s5, s6, s7, es⟩ := eight hl
    iterate 6 refine Gives.pos (by omega) ?_
    refine Gives.bind_eq (turn_eq FU _).2.2.2.2.1 (Gives.bind_eq (turn_eq FU _).2.2.2.2.2.1 (Gives.bind_eq (turn_eq FU _).2.2.2.2.2.2.1 ?_))
    iterate 4 refine Gives.pos (by omega) ?_
    refine Gives.idx 0 (by omega) (by omega) ?_
    iterate 2 refine Gives.pos (by omega) ?_
    refine Gives.bind_eq (turn_eq FU _).2.2.2.2.2.2.2.1 (Gives.bind_eq (turn_eq FU _).2.2.2.2.2.2.2.2.1 (Gives.bind_eq (turn_eq FU _).2.2.2.2.2.2.2.2.2 ?_))
    iterate 10 refine Gives.pos (by omega) ?_
    have ec : (a14.take 1 ++ ((a14.drop 0).take (7 - 0)).take (8 - 1) ++ a14.drop (1 + min (8 - 1) ((a14.drop 0).take (7 - 0)).length)) = [s0, s0, s1, s2, s3, s4, s5, s6] := by rw [es]; rfl
    rw [ec]
    iterate 6 refine Gives.pos (by simp) ?_
    rw [wrap64 (by omega) (by omega)]
    refine hrec _ ⟨by show (0 : Int) ≤ a8 + 1; omega, by show a8 + 1 ≤ 64; omega, rfl, rfl, rfl, rfl, k6, ?_⟩ (by show (64 - (a8 + 1)).toNat < (64 - a8).toNat; omega)
    show _ = rnds (wpre a10 64) (a8 + 1).toNat a9
    rw [show (a8 + 1).toNat = a8.toNat + 1 from by omega]
    unfold rnds
    rw [← k7, ← k6, es]
    rfl
  · obtain ⟨a, b', c, d, e, f, g, i, eh⟩ := eight hh
    obtain ⟨a', b'', c', d', e', f', g', i', es⟩ := eight hl
    have e64 : a8.toNat = 64 := by omega
    rw [e64] at k7
    unfold blk
    rw [← k7, eh, es]
    refine Gives.of_eq (r := ([IntKind.wrap .u32 (a + a'), IntKind.wrap .u32 (b' + b''), IntKind.wrap .u32 (c + c'), IntKind.wrap .u32 (d + d'), IntKind.wrap .u32 (e + e'), IntKind.wrap .u32 (f + f'), IntKind.wrap .u32 (g + g'), IntKind.wrap .u32 (i + i')], a10, a11, a12)) ?_ rfl
    kernel_rfl
/-! ### blocks, one behind the other -/
def blks : Nat → List Int → List Int → List Int
  | 0, h, _ => h
  | k + 1, h, m => blks k (blk h (m.take 64)) (m.drop 64)
theorem blks_len : ∀ (k : Nat) (h m : List Int), h.length = 8 → (blks k h m).length = 8
  | 0, h, m, e => e
  | k + 1, h, m, e => blks_len k _ _ (blk_len _ _)
theorem blks_snoc : ∀ (k : Nat) (h m : List Int), blks (k + 1) h m = blk (blks k h m) ((m.drop (64 * k)).take 64)
  | 0, h, m => by simp [blks]
  | k + 1, h, m => by
    rw [blks, blks_snoc k]
    rw [blks, List.drop_drop]
    congr 3
    omega
theorem blks_pre : ∀ (k : Nat) (h m m' : List Int), m.take (64 * k) = m'.take (64 * k) → blks k h m = blks k h m'
  | 0, _, _, _, _ => rfl
  | k + 1, h, m, m', e => by
    have e1 : m.take 64 = m'.take 64 := by
      have := congrArg (List.take 64) e
      rwa [List.take_take, List.take_take, Nat.min_eq_left (by omega)] at this
    rw [blks, blks, e1]
    apply blks_pre
    have := congrArg (List.drop 64) e
    rw [List.drop_take, List.drop_take] at this
    rwa [show 64 * (k + 1) - 64 = 64 * k from by omega] at this
/-- what is under way is what these bytes come to. -/
structure Rep (s b : List Int) (have' len : Int) (m : List Int) : Prop where
  st : s = blks (m.length / 64) cF m
  bl : b.length = 64
  hv : have' = ((m.length % 64 : Nat) : Int)
  rest : b.take (m.length % 64) = m.drop (64 * (m.length / 64))
  len : len = (m.length : Int)
theorem cF_len : cF.length = 8 := by decide
theorem Rep.slen {s b m : List Int} {h l : Int} (r : Rep s b h l m) : s.length = 8 := by rw [r.st]; exact blks_len _ _ _ cF_len
theorem hnew_eq : hnew FU () = some (cF, List.replicate 64 0, 0, 0) := rfl
theorem rep_new : Rep cF (List.replicate 64 0) 0 0 [] := ⟨rfl, by simp, rfl, rfl, rfl⟩
theorem hwrite_gives {s b m : List Int} {h l : Int} (r : Rep s b h l m) (x : List Int) (hx : m.length + x.length ≤ 281474976710600) : Gives (hwrite FU (x, s, b, h, l)) (fun y => Rep y.1 y.2.1 y.2.2.1 y.2.2.2 (m ++ x)) := by
  unfold hwrite
  dsimp only
  rw [r.len, wrap64 (by omega) (by omega)]
  refine Gives.loop (fun y => ∃ m', m ++ x = m' ++ y.1 ∧ Rep y.2.1 y.2.2.1 y.2.2.2.1 (m'.length : Int) m' ∧ y.2.2.2.2 = (m.length : Int) + x.length) (fun y => y.1.length) ?_ _ _ ⟨m, rfl, ⟨r.st, r.bl, r.hv, r.rest, rfl⟩, rfl⟩ (by show x.length < 281474976710700; omega)
  rintro rec ⟨a9, a10, a11, a12, a13⟩ ⟨m', e1, r1, e2⟩ hrec
  dsimp only at e1 r1 e2 hrec ⊢
  have hlen := congrArg List.length e1
  rw [List.length_append, List.length_append] at hlen
  have h1 := r1.hv
  have h2 := r1.bl
  have hmod : m'.length % 64 < 64 := Nat.mod_lt _ (by omega)
  have ht : a12.toNat = m'.length % 64 := by omega
  refine Gives.dite (fun hgt => ?_) (fun hle => ?_)
  · refine Gives.pos (by omega) (Gives.pos (by omega) ?_)
    refine Gives.pos (by omega) ?_
    rw [ht]
    have ek : ((min (64 - m'.length % 64) a9.length : Nat) : Int).toNat = min (64 - m'.length % 64) a9.length := by simp
    have e64 : IntKind.wrap .i64 (a12 + ((min (64 - m'.length % 64) a9.length : Nat) : Int)) = ((m'.length % 64 + min (64 - m'.length % 64) a9.length : Nat) : Int) := by rw [wrap64 (by omega) (by omega)]; omega
    rw [e64, ek, show ((a9.length : Int)).toNat = a9.length from by simp]
    -- the bytes that are taken
    generalize hk : min (64 - m'.length % 64) a9.length = k at *
    have hk0 : 0 < k := by omega
    have htake : a9.take (64 - m'.length % 64) = a9.take k := by
      rcases Nat.le_total (64 - m'.length % 64) a9.length with q | q
      · rw [← hk, Nat.min_eq_left q]
      · rw [← hk, Nat.min_eq_right q, List.take_of_length_le q, List.take_of_length_le (Nat.le_refl _)]
    rw [htake]
    have hb2 : (List.take (m'.length % 64) a11 ++ a9.take k ++ List.drop (m'.length % 64 + k) a11).length = 64 := by
      simp only [List.length_append, List.length_take, List.length_drop]; omega
    have hrest : (a9.drop k).take (a9.length - k) = a9.drop k := List.take_of_length_le (by rw [List.length_drop]; exact Nat.le_refl _)
    rw [hrest]
    have hm2 : (m' ++ a9.take k).length = m'.length + k := by rw [List.length_append, List.length_take]; omega
    have happ : m ++ x = (m' ++ a9.take k) ++ a9.drop k := by rw [e1, List.append_assoc, List.take_append_drop]
    have hpre : (List.take (m'.length % 64) a11 ++ a9.take k ++ List.drop (m'.length % 64 + k) a11).take (m'.length % 64 + k) = (m' ++ a9.take k).drop (64 * (m'.length / 64)) := by
      rw [List.take_append_of_le_length (by simp only [List.length_append, List.length_take]; omega), List.take_of_length_le (by simp only [List.length_append, List.length_take]; omega)]
      rw [r1.rest, List.drop_append_of_le_length (by omega)]
    refine Gives.eite (fun heq => ?_) (fun hne => ?_)
    · refine Gives.bind_eq (mix_gives r1.slen hb2 _ _).eq ?_
      dsimp only
      have hfull : m'.length % 64 + k = 64 := by omega
      refine hrec _ ⟨m' ++ a9.take k, happ, ?_, e2⟩ (by show (a9.drop k).length < a9.length; rw [List.length_drop]; omega)
      have hd : (m' ++ a9.take k).length / 64 = m'.length / 64 + 1 := by rw [hm2]; omega
      have hmm : (m' ++ a9.take k).length % 64 = 0 := by rw [hm2]; omega
      refine ⟨?_, hb2, by rw [hmm]; rfl, ?_, rfl⟩
      · show blk a10 _ = _
        rw [hd, blks_snoc, r1.st]
        congr 1
        · exact blks_pre _ _ _ _ (by rw [List.take_append_of_le_length (by omega)])
        · have hB := List.take_of_length_le (i := 64) (Nat.le_of_eq hb2)
          rw [← hpre, hfull]
          rw [hfull] at hB
          rw [hB, hB]
      · rw [hmm, hd, List.take_zero, List.drop_eq_nil_of_le (by rw [hm2]; omega)]
    · refine hrec _ ⟨m' ++ a9.take k, happ, ?_, e2⟩ (by show (a9.drop k).length < a9.length; rw [List.length_drop]; omega)
      have hd : (m' ++ a9.take k).length / 64 = m'.length / 64 := by rw [hm2]; omega
      have hmm : (m' ++ a9.take k).length % 64 = m'.length % 64 + k := by rw [hm2]; omega
      refine ⟨?_, hb2, by rw [hmm], by rw [hmm, hd]; exact hpre, rfl⟩
      show a10 = _
      rw [hd, r1.st]
      exact blks_pre _ _ _ _ (by rw [List.take_append_of_le_length (by omega)])
  · have h9 : a9 = [] := List.eq_nil_of_length_eq_zero (by omega)
    subst h9
    rw [List.append_nil] at e1
    subst e1
    refine Gives.of_some ⟨r1.st, r1.bl, r1.hv, r1.rest, ?_⟩
    show a13 = _
    rw [e2, List.length_append]
    omega
/-! ### what stands behind -/
def tl8 (n : Nat) : List Int := [(n : Int) * 8 / 2 ^ 56 % 256, (n : Int) * 8 / 2 ^ 48 % 256, (n : Int) * 8 / 2 ^ 40 % 256, (n : Int) * 8 / 2 ^ 32 % 256, (n : Int) * 8 / 2 ^ 24 % 256, (n : Int) * 8 / 2 ^ 16 % 256, (n : Int) * 8 / 2 ^ 8 % 256, (n : Int) * 8 % 256]
def padL (n : Nat) : List Int := 128 :: (List.replicate (64 - (n + 8) % 64 - 1) 0 ++ tl8 n)
theorem padL_len (n : Nat) : (padL n).length = 64 - (n + 8) % 64 + 8 := by
  have : (n + 8) % 64 < 64 := Nat.mod_lt _ (by omega)
  simp [padL, tl8]
  omega
theorem wrap_u8 (n : Int) : IntKind.wrap .u8 n = n % 256 := by simp [IntKind.wrap, IntKind.bits, IntKind.signed]
theorem shr_eq (a : Int) (k : Nat) : Int.fdiv a (2 ^ k) = a / 2 ^ k := Int.fdiv_eq_ediv_of_nonneg _ (Int.le_of_lt (Int.pow_pos (by decide)))
theorem pad_gives (m : Nat) (hm : m ≤ 1152921504606846976) : Gives (pad FU (m : Int)) (· = (padL m, 0)) := by
  unfold pad
  refine Gives.dneg (by omega) (Gives.dneg (by omega) ?_)
  rw [wrap64 (n := (m : Int) + 8) (by omega) (by omega), Int.tmod_eq_emod_of_nonneg (by omega)]
  have hmod : ((m : Int) + 8) % 64 = ((m + 8) % 64 : Nat) := by omega
  have hlt : (m + 8) % 64 < 64 := Nat.mod_lt _ (by omega)
  rw [hmod]
  generalize hr : (m + 8) % 64 = r at *
  dsimp only
  rw [wrap64 (n := (64 : Int) - (r : Int)) (by omega) (by omega), wrap64 (n := (64 : Int) - (r : Int) + 8) (by omega) (by omega)]
  refine Gives.pos (by omega) ?_
  have hL : ((64 : Int) - (r : Int) + 8).toNat = 72 - r := by omega
  rw [hL]
  refine Gives.pos (by simp; omega) ?_
  have hset : (List.replicate (72 - r) (0 : Int)).set 0 128 = (128 :: List.replicate (63 - r) 0) ++ List.replicate 8 0 := by
    obtain ⟨q, hq⟩ : ∃ q, 72 - r = q + 8 + 1 := ⟨63 - r, by omega⟩
    rw [hq, List.replicate_succ, List.set_cons_zero, show 63 - r = q from by omega, List.cons_append, List.replicate_append_replicate]
  rw [hset]
  have hw : ∀ j : Nat, j < 8 → Int.fdiv (IntKind.wrap .i64 ((m : Int) * 8)) (2 ^ (8 * j)) % 256 = (m : Int) * 8 / 2 ^ (8 * j) % 256 := by
    intro j hj
    rcases Nat.lt_or_ge m 1152921504606846976 with h | h
    · rw [wrap64 (by omega) (by omega), shr_eq]
    · obtain rfl : m = 1152921504606846976 := by omega
      clear hset hr hlt hmod hL
      revert j
      decide
  have key : ∀ (p : List Int), 0 < p.length → p.length ≤ 100 → Gives (loopF (X := Int × Int × List Int) (A := (List Int) × Int) (fun rec5 y6 => match y6 with
  | (a7, (a8, a9)) =>
  (if (decide (a8 < (8 : Int))) = true then
  (let u10 : Int := (IntKind.wrap .i64 ((a9.length : Int) - (1 : Int)))
  (if (IntKind.wrap .i64 ((8 : Int) * a8)) < 0 then none else (let u11 : Int := (Int.fdiv (IntKind.wrap .i64 (a7 * 8)) (2 ^ (min (IntKind.wrap .i64 ((8 : Int) * a8)).toNat 64)))
  (if 0 ≤ (IntKind.wrap .i64 (u10 - a8)) ∧ (IntKind.wrap .i64 (u10 - a8)) < (a9.length : Int) then
  (let u12 : List Int := (a9.set (IntKind.wrap .i64 (u10 - a8)).toNat (IntKind.wrap .u8 u11))
  rec5 (a7, ((IntKind.wrap .i64 (a8 + (1 : Int))), u12)))
  else none))))
  else
  some (a9, (0 : Int)))) FU ((m : Int), ((0 : Int), (p ++ List.replicate 8 0)))) (· = (p ++ tl8 m, 0)) := by
    intro p hp0 hp
    refine Gives.loop (fun x => x.1 = (m : Int) ∧ 0 ≤ x.2.1 ∧ x.2.1 ≤ 8 ∧ x.2.2 = p ++ (List.replicate (8 - x.2.1.toNat) 0 ++ (tl8 m).drop (8 - x.2.1.toNat))) (fun x => (8 - x.2.1).toNat) ?_ _ _ ⟨rfl, by simp, by simp, by simp [tl8]⟩ (by show 8 < FU; decide)
    rintro rec ⟨a7, a8, a9⟩ ⟨k1, k2, k3, k4⟩ hrec
    dsimp only at k1 k2 k3 k4 hrec ⊢
    subst k1
    have hl : a9.length = p.length + 8 := by rw [k4]; simp [tl8]
    refine Gives.dite (fun hlt => ?_) (fun hge => ?_)
    · rw [wrap64 (n := (a9.length : Int) - 1) (by omega) (by omega), wrap64 (n := 8 * a8) (by omega) (by omega), wrap64 (n := (a9.length : Int) - 1 - a8) (by omega) (by omega), wrap64 (n := a8 + 1) (by omega) (by omega)]
      refine Gives.neg (by omega) (Gives.pos (by omega) ?_)
      refine hrec _ ⟨rfl, by show (0 : Int) ≤ a8 + 1; omega, by show a8 + 1 ≤ 8; omega, ?_⟩ (by show (8 - (a8 + 1)).toNat < (8 - a8).toNat; omega)
      show List.set a9 _ _ = p ++ (List.replicate (8 - (a8 + 1).toNat) 0 ++ (tl8 m).drop (8 - (a8 + 1).toNat))
      rw [wrap_u8, show min (8 * a8).toNat 64 = 8 * a8.toNat from by omega, hw _ (by omega)]
      have hi : ((a9.length : Int) - 1 - a8).toNat = p.length + (8 - a8.toNat - 1) := by omega
      rw [hi, k4, List.set_append_right _ _ (by omega), Nat.add_sub_cancel_left]
      congr 1
      have h8 : a8 = 0 ∨ a8 = 1 ∨ a8 = 2 ∨ a8 = 3 ∨ a8 = 4 ∨ a8 = 5 ∨ a8 = 6 ∨ a8 = 7 := by omega
      rcases h8 with h | h | h | h | h | h | h | h <;> subst h <;> simp [tl8, List.replicate]
    · refine Gives.of_some ?_
      have : a8.toNat = 8 := by omega
      rw [k4, this]
      simp
  refine (key (128 :: List.replicate (63 - r) 0) (by simp) (by simp; omega)).mono fun y hy => ?_
  rw [hy]
  unfold padL
  rw [hr, show 64 - r - 1 = 63 - r from by omega]
  rfl
theorem rPad_gives (m : Nat) (hm : m ≤ 1152921504606846976) : Gives (rPad FU (m : Int)) (· = (padL m, 0)) := by
  unfold rPad
  refine Gives.dneg (by omega) (Gives.dneg (by omega) ?_)
  have hlt : (m + 8) % 64 < 64 := Nat.mod_lt _ (by omega)
  refine Gives.loop (fun x => x.1 = (m : Int) ∧ ∃ z, x.2 = 128 :: List.replicate z 0 ∧ z ≤ 64 - (m + 8) % 64 - 1) (fun x => 73 - x.2.length) ?_ _ _ ⟨rfl, 0, rfl, by omega⟩ (by show 72 < FU; decide)
  rintro rec ⟨a4, a5⟩ ⟨k1, z, k2, k3⟩ hrec
  dsimp only at k1 k2 k3 hrec ⊢
  subst k1
  have hl : a5.length = z + 1 := by rw [k2]; simp
  rw [hl, wrap64 (n := (m : Int) + ((z + 1 : Nat) : Int)) (by omega) (by omega), wrap64 (n := (m : Int) + ((z + 1 : Nat) : Int) + 8) (by omega) (by omega), Int.tmod_eq_emod_of_nonneg (by omega)]
  refine Gives.nite (fun hne => ?_) (fun heq => ?_)
  · refine Gives.pos (by omega) ?_
    have hz : z < 64 - (m + 8) % 64 - 1 := by
      rcases Nat.lt_or_ge z (64 - (m + 8) % 64 - 1) with h | h
      · exact h
      · exfalso; apply hne; omega
    refine hrec _ ⟨rfl, z + 1, ?_, by omega⟩ (by show 73 - (a5 ++ [(0 : Int)]).length < 73 - a5.length; rw [List.length_append, hl]; simp; omega)
    show a5 ++ [(0 : Int)] = _
    rw [k2, List.replicate_succ', List.cons_append]
  · have hz : z = 64 - (m + 8) % 64 - 1 := by omega
    have hu : IntKind.wrap .u64 ((IntKind.wrap .u64 (m : Int)) * 8) = (m : Int) * 8 := by rw [wrap_u64, wrap_u64]; omega
    rw [hu]
    have key : ∀ p : List Int, p.length ≤ 100 → Gives (loopF (X := Int × Int × List Int) (A := (List Int) × Int) (fun rec9 y10 => match y10 with
  | (a11, (a12, a13)) =>
  (if (decide (a12 ≥ (0 : Int))) = true then
  (let u14 : Int := (IntKind.wrap .i64 ((8 : Int) * a12))
  (if (IntKind.wrap .u64 u14) < 0 then none else (let u15 : Int := (Int.fdiv a11 (2 ^ (min (IntKind.wrap .u64 u14).toNat 64)))
  (if (a13.length + 1) * 1 ≤ 140737488355328 then
  (let u16 : List Int := (a13 ++ ([(IntKind.wrap .u8 u15)] : List Int))
  (let u17 : Int := (IntKind.wrap .i64 (a12 - (1 : Int)))
  rec9 (a11, (u17, u16))))
  else none))))
  else
  some (a13, (0 : Int)))) FU (((m : Int) * 8), ((7 : Int), p))) (· = (p ++ tl8 m, 0)) := by
      intro p hp
      refine Gives.loop (fun x => x.1 = (m : Int) * 8 ∧ -1 ≤ x.2.1 ∧ x.2.1 ≤ 7 ∧ x.2.2 = p ++ (tl8 m).take (7 - x.2.1).toNat) (fun x => (x.2.1 + 1).toNat) ?_ _ _ ⟨rfl, by simp, by simp, by simp⟩ (by show 8 < FU; decide)
      rintro rec ⟨a11, a12, a13⟩ ⟨j1, j2, j3, j4⟩ hrec2
      dsimp only at j1 j2 j3 j4 hrec2 ⊢
      subst j1
      have hl13 : a13.length ≤ p.length + 8 := by rw [j4]; simp [tl8]; omega
      refine Gives.dite (fun hge => ?_) (fun hlt2 => ?_)
      · have e1 : IntKind.wrap .u64 (IntKind.wrap .i64 (8 * a12)) = 8 * a12 := by rw [wrap64 (by omega) (by omega), wrap_u64]; omega
        rw [e1, wrap64 (n := a12 - 1) (by omega) (by omega)]
        refine Gives.neg (by omega) (Gives.pos (by omega) ?_)
        refine hrec2 _ ⟨rfl, by show -1 ≤ a12 - 1; omega, by show a12 - 1 ≤ 7; omega, ?_⟩ (by show (a12 - 1 + 1).toNat < (a12 + 1).toNat; omega)
        show a13 ++ [_] = p ++ (tl8 m).take (7 - (a12 - 1)).toNat
        rw [shr_eq, wrap_u8, j4, List.append_assoc]
        congr 1
        have h8 : a12 = 0 ∨ a12 = 1 ∨ a12 = 2 ∨ a12 = 3 ∨ a12 = 4 ∨ a12 = 5 ∨ a12 = 6 ∨ a12 = 7 := by omega
        rcases h8 with h | h | h | h | h | h | h | h <;> subst h <;> simp [tl8]
      · refine Gives.of_some ?_
        have : (7 - a12).toNat = 8 := by omega
        rw [j4, this]
        rfl
    refine (key a5 (by omega)).mono fun y hy => ?_
    rw [hy, k2, hz]
    rfl
end Go.Sx.YtankgmieldchdaaDoor
