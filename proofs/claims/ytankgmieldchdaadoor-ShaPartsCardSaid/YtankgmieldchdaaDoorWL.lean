/- What the functions of the sum come to: the words of a block, its rounds, a block's work: the program's and the document's. -/
import Derived.Test.YtankgmieldchdaaDoorWK
namespace Go.Sx.YtankgmieldchdaaDoor
open Go Go.Sx
set_option autoImplicit false
set_option maxRecDepth 1000000
set_option linter.unusedVariables false
set_option linter.unusedSimpArgs false
/-! ### turning -/
def rr (x : Int) (k : Nat) : Int := bits .or .u32 (Int.fdiv x (2 ^ k)) (IntKind.wrap .u32 (x * 2 ^ (32 - k)))
theorem or_comm32 (a b : Int) : bits .or .u32 a b = bits .or .u32 b a := by
  show IntKind.wrap .u32 _ = IntKind.wrap .u32 _
  rw [BitVec.or_comm]
theorem rRotr_eq (n : Nat) (x : Int) (k : Nat) (hk : k ≤ 31) : rRotr n (x, (k : Int)) = some (rr x k) := by
  have e1 : IntKind.wrap .u64 ((32 : Int) - (k : Int)) = ((32 - k : Nat) : Int) := by rw [wrap_u64]; omega
  unfold rRotr
  simp only [e1]
  rw [if_neg (show ¬ ((k : Int) < 0) by omega)]
  rw [if_neg (show ¬ (((32 - k : Nat) : Int) < 0) by omega)]
  unfold rr
  rw [Int.toNat_natCast, Int.toNat_natCast, Nat.min_eq_left (by omega), Nat.min_eq_left (by omega)]
theorem turn_eq (n : Nat) (x : Int) : turn n (x, 17) = some (rr x 17) ∧ turn n (x, 19) = some (rr x 19) ∧ turn n (x, 7) = some (rr x 7) ∧ turn n (x, 18) = some (rr x 18) ∧ turn n (x, 6) = some (rr x 6) ∧ turn n (x, 11) = some (rr x 11) ∧ turn n (x, 25) = some (rr x 25) ∧ turn n (x, 2) = some (rr x 2) ∧ turn n (x, 13) = some (rr x 13) ∧ turn n (x, 22) = some (rr x 22) := by
  have h : ∀ (k s : Nat), turn n (x, (k : Int)) = some (bits .or .u32 (IntKind.wrap .u32 (x * 2 ^ s)) (Int.fdiv x (2 ^ k))) → s = 32 - k → turn n (x, (k : Int)) = some (rr x k) := by
    intro k s h e
    rw [h, or_comm32]
    subst e
    rfl
  refine ⟨h 17 15 ?_ rfl, h 19 13 ?_ rfl, h 7 25 ?_ rfl, h 18 14 ?_ rfl, h 6 26 ?_ rfl, h 11 21 ?_ rfl, h 25 7 ?_ rfl, h 2 30 ?_ rfl, h 13 19 ?_ rfl, h 22 10 ?_ rfl⟩ <;> kernel_rfl
/-! ### the words of a block -/
def word (b : List Int) (t : Nat) : Int := bits .or .u32 (bits .or .u32 (bits .or .u32 (IntKind.wrap .u32 ((IntKind.wrap .u32 (b.getD (4 * t) 0)) * 16777216)) (IntKind.wrap .u32 ((IntKind.wrap .u32 (b.getD (4 * t + 1) 0)) * 65536))) (IntKind.wrap .u32 ((IntKind.wrap .u32 (b.getD (4 * t + 2) 0)) * 256))) (IntKind.wrap .u32 (b.getD (4 * t + 3) 0))
def sig0 (x : Int) : Int := bits .xor .u32 (bits .xor .u32 (rr x 7) (rr x 18)) (Int.fdiv x 8)
def sig1 (x : Int) : Int := bits .xor .u32 (bits .xor .u32 (rr x 17) (rr x 19)) (Int.fdiv x 1024)
def nxt (w : List Int) (t : Nat) : Int := IntKind.wrap .u32 ((IntKind.wrap .u32 ((IntKind.wrap .u32 (sig1 (w.getD (t - 2) 0) + w.getD (t - 7) 0)) + sig0 (w.getD (t - 15) 0))) + w.getD (t - 16) 0)
def wpre (b : List Int) : Nat → List Int
  | 0 => []
  | t + 1 => wpre b t ++ [if t < 16 then word b t else nxt (wpre b t) t]
theorem wpre_len (b : List Int) : ∀ t, (wpre b t).length = t
  | 0 => rfl
  | t + 1 => by simp [wpre, wpre_len b t]
theorem w4 {a : Int} (h0 : 0 ≤ a) (h1 : a < 16) (k : Int) (hk0 : 0 ≤ k) (hk : k ≤ 3) : IntKind.wrap .i64 ((IntKind.wrap .i64 ((4 : Int) * a)) + k) = 4 * a + k := by
  rw [wrap64 (n := 4 * a) (by omega) (by omega), wrap64 (by omega) (by omega)]
theorem rSchedule_gives {b : List Int} (hb : b.length = 64) : Gives (rSchedule FU b) (· = wpre b 64) := by
  unfold rSchedule
  refine Gives.loop (fun x => x.1 = b ∧ 0 ≤ x.2.1 ∧ x.2.1 ≤ 16 ∧ x.2.2 = wpre b x.2.1.toNat) (fun x => (16 - x.2.1).toNat) ?_ _ _ ⟨rfl, by simp, by simp, rfl⟩ (by show 16 < FU; decide)
  rintro rec ⟨a4, a5, a6⟩ ⟨h4, h0, h1, h2⟩ hrec
  dsimp only at h4 h0 h1 h2 hrec ⊢
  subst h4
  refine Gives.dite (fun hlt => ?_) (fun hge => ?_)
  · have e0 := wrap64 (n := 4 * a5) (by omega) (by omega)
    have e1 := w4 h0 hlt 1 (by omega) (by omega)
    have e2 := w4 h0 hlt 2 (by omega) (by omega)
    have e3 := w4 h0 hlt 3 (by omega) (by omega)
    rw [e1, e2, e3, e0]
    refine Gives.idx 0 (by omega) (by omega) ?_
    refine Gives.idx 0 (by omega) (by omega) ?_
    refine Gives.idx 0 (by omega) (by omega) ?_
    refine Gives.idx 0 (by omega) (by omega) ?_
    have hl : a6.length = a5.toNat := by rw [h2, wpre_len]
    refine Gives.pos (by omega) ?_
    rw [wrap64 (by omega) (by omega)]
    refine hrec _ ⟨rfl, by show (0 : Int) ≤ a5 + 1; omega, by show a5 + 1 ≤ 16; omega, ?_⟩ (by show (16 - (a5 + 1)).toNat < (16 - a5).toNat; omega)
    show _ = wpre a4 (a5 + 1).toNat
    rw [show (a5 + 1).toNat = a5.toNat + 1 from by omega]
    unfold wpre
    rw [if_pos (by omega), ← h2]
    congr 2
    unfold word
    rw [show (4 * a5).toNat = 4 * a5.toNat from by omega, show (4 * a5 + 1).toNat = 4 * a5.toNat + 1 from by omega, show (4 * a5 + 2).toNat = 4 * a5.toNat + 2 from by omega, show (4 * a5 + 3).toNat = 4 * a5.toNat + 3 from by omega]
  · refine Gives.loop (fun x => 16 ≤ x.1 ∧ x.1 ≤ 64 ∧ x.2 = wpre a4 x.1.toNat) (fun x => (64 - x.1).toNat) ?_ _ _ ⟨by simp, by simp, ?_⟩ (by show 48 < FU; decide)
    · rintro rec ⟨a21, a22⟩ ⟨k0, k1, k2⟩ hrec2
      dsimp only at k0 k1 k2 hrec2 ⊢
      have hl : a22.length = a21.toNat := by rw [k2, wpre_len]
      refine Gives.dite (fun hlt => ?_) (fun hge => ?_)
      · rw [wrap64 (n := a21 - 2) (by omega) (by omega), wrap64 (n := a21 - 15) (by omega) (by omega), wrap64 (n := a21 - 7) (by omega) (by omega), wrap64 (n := a21 - 16) (by omega) (by omega), wrap64 (n := a21 + 1) (by omega) (by omega)]
        refine Gives.pos (by omega) (Gives.pos (by omega) ?_)
        refine Gives.bind_eq (rRotr_eq FU _ 17 (by omega)) (Gives.bind_eq (rRotr_eq FU _ 19 (by omega)) (Gives.bind_eq (rRotr_eq FU _ 7 (by omega)) (Gives.bind_eq (rRotr_eq FU _ 18 (by omega)) ?_)))
        refine Gives.pos (by omega) (Gives.pos (by omega) (Gives.pos (by omega) ?_))
        refine hrec2 _ ⟨by show (16 : Int) ≤ a21 + 1; omega, by show a21 + 1 ≤ 64; omega, ?_⟩ (by show (64 - (a21 + 1)).toNat < (64 - a21).toNat; omega)
        show _ = wpre a4 (a21 + 1).toNat
        rw [show (a21 + 1).toNat = a21.toNat + 1 from by omega]
        unfold wpre
        rw [if_neg (by omega), ← k2]
        congr 2
        unfold nxt sig0 sig1
        rw [show (a21 - 2).toNat = a21.toNat - 2 from by omega, show (a21 - 15).toNat = a21.toNat - 15 from by omega, show (a21 - 7).toNat = a21.toNat - 7 from by omega, show (a21 - 16).toNat = a21.toNat - 16 from by omega]
      · refine Gives.of_some ?_
        rw [k2, show a21.toNat = 64 from by omega]
    · show a6 = wpre a4 (16 : Int).toNat
      rw [h2]
      congr 1
      omega
/-! ### the program's words -/
theorem set_mid (w : List Int) (m : Nat) (v : Int) (hm : 0 < m) : (w ++ List.replicate m (0 : Int)).set w.length v = (w ++ [v]) ++ List.replicate (m - 1) 0 := by
  obtain ⟨m, rfl⟩ : ∃ k, m = k + 1 := ⟨m - 1, by omega⟩
  rw [List.replicate_succ, List.set_append_right _ _ (Nat.le_refl _), Nat.sub_self, List.set_cons_zero, List.append_assoc]
  rfl
theorem getD_left (w l : List Int) (j : Nat) (h : j < w.length) : (w ++ l).getD j 0 = w.getD j 0 := by rw [getD_app, if_pos h]
theorem schedule_gives {b : List Int} (hb : b.length = 64) : Gives (schedule FU b) (· = wpre b 64) := by
  unfold schedule
  refine Gives.pos hb.symm ?_
  refine Gives.loop (fun x => x.2.1 = b ∧ 0 ≤ x.1 ∧ x.1 ≤ 16 ∧ x.2.2.1.length = 64 ∧ x.2.2.2 = wpre b x.1.toNat ++ List.replicate (64 - x.1.toNat) 0) (fun x => (16 - x.1).toNat) ?_ _ _ ⟨rfl, by simp, by simp, rfl, rfl⟩ (by show 16 < FU; decide)
  rintro rec ⟨a4, a5, a6, a7⟩ ⟨h5, h0, h1, h6, h7⟩ hrec
  dsimp only at h5 h0 h1 h6 h7 hrec ⊢
  subst h5
  have hl7 : a7.length = 64 := by rw [h7, List.length_append, wpre_len, List.length_replicate]; omega
  refine Gives.dite (fun hlt => ?_) (fun hge => ?_)
  · have e0 := wrap64 (n := 4 * a4) (by omega) (by omega)
    have e1 := w4 h0 hlt 1 (by omega) (by omega)
    have e2 := w4 h0 hlt 2 (by omega) (by omega)
    have e3 := w4 h0 hlt 3 (by omega) (by omega)
    rw [e1, e2, e3, e0]
    refine Gives.pos hb.symm (Gives.pos (by omega) (Gives.pos hb.symm (Gives.pos (by omega) (Gives.pos hb.symm (Gives.pos (by omega) (Gives.pos hb.symm (Gives.pos (by omega) (Gives.pos hl7.symm (Gives.pos (by omega) ?_)))))))))
    rw [wrap64 (by omega) (by omega)]
    refine hrec _ ⟨rfl, by show (0 : Int) ≤ a4 + 1; omega, by show a4 + 1 ≤ 16; omega, h6, ?_⟩ (by show (16 - (a4 + 1)).toNat < (16 - a4).toNat; omega)
    show List.set a7 _ _ = wpre a5 (a4 + 1).toNat ++ List.replicate (64 - (a4 + 1).toNat) 0
    rw [show (a4 + 1).toNat = a4.toNat + 1 from by omega]
    have hs := set_mid (wpre a5 a4.toNat) (64 - a4.toNat) (word a5 a4.toNat) (by omega)
    rw [wpre_len, ← h7] at hs
    rw [show wpre a5 (a4.toNat + 1) = wpre a5 a4.toNat ++ [word a5 a4.toNat] from by rw [wpre, if_pos (by omega)], show 64 - (a4.toNat + 1) = 64 - a4.toNat - 1 from by omega, ← hs]
    congr 1
    unfold word
    rw [show (4 * a4).toNat = 4 * a4.toNat from by omega, show (4 * a4 + 1).toNat = 4 * a4.toNat + 1 from by omega, show (4 * a4 + 2).toNat = 4 * a4.toNat + 2 from by omega, show (4 * a4 + 3).toNat = 4 * a4.toNat + 3 from by omega]
  · refine Gives.loop (fun x => 16 ≤ x.1 ∧ x.1 ≤ 64 ∧ x.2.1.length = 64 ∧ x.2.2 = wpre a5 x.1.toNat ++ List.replicate (64 - x.1.toNat) 0) (fun x => (64 - x.1).toNat) ?_ _ _ ⟨by simp, by simp, h6, ?_⟩ (by show 48 < FU; decide)
    · rintro rec ⟨a21, a22, a23⟩ ⟨k0, k1, k3, k2⟩ hrec2
      dsimp only at k0 k1 k2 k3 hrec2 ⊢
      have hl : a23.length = 64 := by rw [k2, List.length_append, wpre_len, List.length_replicate]; omega
      have hg : ∀ j, j < a21.toNat → a23.getD j 0 = (wpre a5 a21.toNat).getD j 0 := fun j hj => by rw [k2, getD_left _ _ _ (by rw [wpre_len]; exact hj)]
      refine Gives.dite (fun hlt => ?_) (fun hge => ?_)
      · rw [wrap64 (n := a21 - 2) (by omega) (by omega), wrap64 (n := a21 - 15) (by omega) (by omega), wrap64 (n := a21 - 7) (by omega) (by omega), wrap64 (n := a21 - 16) (by omega) (by omega), wrap64 (n := a21 + 1) (by omega) (by omega)]
        refine Gives.pos hl.symm (Gives.pos (by omega) (Gives.pos hl.symm (Gives.pos (by omega) ?_)))
        refine Gives.bind_eq (turn_eq FU _).1 (Gives.bind_eq (turn_eq FU _).2.1 ?_)
        refine Gives.pos hl.symm (Gives.pos (by omega) ?_)
        refine Gives.bind_eq (turn_eq FU _).2.2.1 (Gives.bind_eq (turn_eq FU _).2.2.2.1 ?_)
        refine Gives.pos hl.symm (Gives.pos (by omega) (Gives.pos hl.symm (Gives.pos (by omega) ?_)))
        refine hrec2 _ ⟨by show (16 : Int) ≤ a21 + 1; omega, by show a21 + 1 ≤ 64; omega, k3, ?_⟩ (by show (64 - (a21 + 1)).toNat < (64 - a21).toNat; omega)
        show List.set a23 _ _ = wpre a5 (a21 + 1).toNat ++ List.replicate (64 - (a21 + 1).toNat) 0
        rw [show (a21 + 1).toNat = a21.toNat + 1 from by omega]
        have hs := set_mid (wpre a5 a21.toNat) (64 - a21.toNat) (nxt (wpre a5 a21.toNat) a21.toNat) (by omega)
        rw [wpre_len, ← k2] at hs
        rw [show wpre a5 (a21.toNat + 1) = wpre a5 a21.toNat ++ [nxt (wpre a5 a21.toNat) a21.toNat] from by rw [wpre, if_neg (by omega)], show 64 - (a21.toNat + 1) = 64 - a21.toNat - 1 from by omega, ← hs]
        congr 1
        rw [hg _ (by omega), hg _ (by omega), hg _ (by omega), hg _ (by omega)]
        unfold nxt sig0 sig1
        rw [show (a21 - 2).toNat = a21.toNat - 2 from by omega, show (a21 - 15).toNat = a21.toNat - 15 from by omega, show (a21 - 7).toNat = a21.toNat - 7 from by omega, show (a21 - 16).toNat = a21.toNat - 16 from by omega]
      · refine Gives.pos hl.symm (Gives.pos ⟨k3.symm, hl.symm⟩ (Gives.pos hl.symm (Gives.of_some ?_)))
        rw [k2, show a21.toNat = 64 from by omega]
        simp
    · show a7 = wpre a5 (16 : Int).toNat ++ List.replicate (64 - (16 : Int).toNat) 0
      rw [h7]
      have : a4.toNat = 16 := by omega
      rw [this]
      rfl
/-! ### the rounds -/
def rnd (k w : Int) (s : List Int) : List Int :=
  let t1 := IntKind.wrap .u32 ((IntKind.wrap .u32 ((IntKind.wrap .u32 ((IntKind.wrap .u32 ((s.getD 7 0) + (bits .xor .u32 (bits .xor .u32 (rr (s.getD 4 0) 6) (rr (s.getD 4 0) 11)) (rr (s.getD 4 0) 25)))) + (bits .xor .u32 (bits .and .u32 (s.getD 4 0) (s.getD 5 0)) (bits .and .u32 (bits .xor .u32 4294967295 (s.getD 4 0)) (s.getD 6 0))))) + k)) + w)
  let t2 := IntKind.wrap .u32 ((bits .xor .u32 (bits .xor .u32 (rr (s.getD 0 0) 2) (rr (s.getD 0 0) 13)) (rr (s.getD 0 0) 22)) + (bits .xor .u32 (bits .xor .u32 (bits .and .u32 (s.getD 0 0) (s.getD 1 0)) (bits .and .u32 (s.getD 0 0) (s.getD 2 0))) (bits .and .u32 (s.getD 1 0) (s.getD 2 0))))
  [IntKind.wrap .u32 (t1 + t2), s.getD 0 0, s.getD 1 0, s.getD 2 0, IntKind.wrap .u32 (s.getD 3 0 + t1), s.getD 4 0, s.getD 5 0, s.getD 6 0]
def rnds (w : List Int) : Nat → List Int → List Int
  | 0, s => s
  | t + 1, s => rnd (cK.getD t 0) (w.getD t 0) (rnds w t s)
theorem rnd_len (k w : Int) (s : List Int) : (rnd k w s).length = 8 := rfl
theorem rnds_len (w : List Int) {s : List Int} (h : s.length = 8) : ∀ t, (rnds w t s).length = 8
  | 0 => h
  | t + 1 => rfl
def add8 (h s : List Int) : List Int := (List.range 8).map fun i => IntKind.wrap .u32 (h.getD i 0 + s.getD i 0)
/-- a block's work. -/
def blk (h b : List Int) : List Int := add8 h (rnds (wpre b 64) 64 h)
theorem blk_len (h b : List Int) : (blk h b).length = 8 := by simp [blk, add8]
theorem eight {s : List Int} (h : s.length = 8) : ∃ a b c d e f g i, s = [a, b, c, d, e, f, g, i] := by
  match s, h with
  | [a, b, c, d, e, f, g, i], _ => exact ⟨a, b, c, d, e, f, g, i, rfl⟩
theorem cK_len : cK.length = 64 := by decide
theorem rBlock_gives {h b : List Int} (hh : h.length = 8) (hb : b.length = 64) : Gives (rBlock FU (h, cK, b)) (· = blk h b) := by
  unfold rBlock
  dsimp only
  refine Gives.bind_eq (rSchedule_gives hb).eq ?_
  have e8 : [h.getD 0 0, h.getD 1 0, h.getD 2 0, h.getD 3 0, h.getD 4 0, h.getD 5 0, h.getD 6 0, h.getD 7 0] = h := by
    obtain ⟨a, b, c, d, e, f, g, i, rfl⟩ := eight hh
    rfl
  refine Gives.idx 0 (by omega) (by omega) (Gives.idx 0 (by omega) (by omega) (Gives.idx 0 (by omega) (by omega) (Gives.idx 0 (by omega) (by omega) (Gives.idx 0 (by omega) (by omega) (Gives.idx 0 (by omega) (by omega) (Gives.idx 0 (by omega) (by omega) (Gives.idx 0 (by omega) (by omega) ?_)))))))
  refine Gives.loop (fun x => x.1 = h ∧ x.2.1 = cK ∧ x.2.2.1 = wpre b 64 ∧ 0 ≤ x.2.2.2.1 ∧ x.2.2.2.1 ≤ 64 ∧ x.2.2.2.2 = rnds (wpre b 64) x.2.2.2.1.toNat h) (fun x => (64 - x.2.2.2.1).toNat) ?_ _ _ ⟨rfl, rfl, rfl, by simp, by simp, e8⟩ (by show 64 < FU; decide)
  rintro rec ⟨a15, a16, a17, a18, a19⟩ ⟨h1, h2, h3, h4, h5, h6⟩ hrec
  dsimp only at h1 h2 h3 h4 h5 h6 hrec ⊢
  subst h1 h2
  have hl : a19.length = 8 := by rw [h6]; exact rnds_len _ hh _
  have hk := cK_len
  have hw : a17.length = 64 := by rw [h3, wpre_len]
  refine Gives.dite (fun hlt => ?_) (fun hge => ?_)
  · rw [wrap64 (n := a18 + 1) (by omega) (by omega)]
    refine Gives.pos (by omega) ?_
    refine Gives.bind_eq (rRotr_eq FU _ 6 (by omega)) (Gives.bind_eq (rRotr_eq FU _ 11 (by omega)) (Gives.bind_eq (rRotr_eq FU _ 25 (by omega)) ?_))
    refine Gives.pos (by omega) (Gives.pos (by omega) (Gives.pos (by omega) ?_))
    refine Gives.idx 0 (by omega) (by omega) (Gives.idx 0 (by omega) (by omega) ?_)
    refine Gives.pos (by omega) (Gives.bind_eq (rRotr_eq FU _ 2 (by omega)) (Gives.pos (by omega) (Gives.bind_eq (rRotr_eq FU _ 13 (by omega)) (Gives.pos (by omega) (Gives.bind_eq (rRotr_eq FU _ 22 (by omega)) ?_)))))
    iterate 13 refine Gives.pos (by omega) ?_
    refine hrec _ ⟨rfl, rfl, h3, by show (0 : Int) ≤ a18 + 1; omega, by show a18 + 1 ≤ 64; omega, ?_⟩ (by show (64 - (a18 + 1)).toNat < (64 - a18).toNat; omega)
    show _ = rnds (wpre b 64) (a18 + 1).toNat a15
    rw [show (a18 + 1).toNat = a18.toNat + 1 from by omega]
    unfold rnds
    rw [← h6, ← h3]
    rfl
  · obtain ⟨a, b', c, d, e, f, g, i, eh⟩ := eight hh
    obtain ⟨a', b'', c', d', e', f', g', i', es⟩ := eight hl
    have e64 : a18.toNat = 64 := by omega
    rw [e64] at h6
    unfold blk
    rw [← h6, eh, es]
    refine Gives.of_eq (r := [IntKind.wrap .u32 (a + a'), IntKind.wrap .u32 (b' + b''), IntKind.wrap .u32 (c + c'), IntKind.wrap .u32 (d + d'), IntKind.wrap .u32 (e + e'), IntKind.wrap .u32 (f + f'), IntKind.wrap .u32 (g + g'), IntKind.wrap .u32 (i + i')]) ?_ rfl
    kernel_rfl
end Go.Sx.YtankgmieldchdaaDoor
