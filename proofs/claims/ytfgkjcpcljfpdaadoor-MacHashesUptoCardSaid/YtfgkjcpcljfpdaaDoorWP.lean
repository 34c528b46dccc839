/- The document's code; comparing; the known code. -/
import Derived.Test.YtfgkjcpcljfpdaaDoorWO
namespace Go.Sx.YtfgkjcpcljfpdaaDoor
open Go Go.Sx
set_option autoImplicit false
set_option maxRecDepth 1000000
set_option linter.unusedVariables false
set_option linter.unusedSimpArgs false
theorem ins_set (r Z : List Int) (i : Nat) (h1 : i < r.length) (h2 : i < Z.length) : (r.take i ++ Z.drop i).set i (r.getD i 0) = r.take (i + 1) ++ Z.drop (i + 1) := by
  rw [List.drop_eq_getElem_cons h2, mid_set _ _ _ _ _ (by rw [List.length_take]; omega), take_snoc _ _ h1]
theorem ins_len (r Z : List Int) (i : Nat) (h1 : i ≤ r.length) (h2 : i ≤ Z.length) : (r.take i ++ Z.drop i).length = Z.length := by
  rw [List.length_append, List.length_take, List.length_drop]; omega
abbrev Z64 : List Int := List.replicate 64 0
theorem rsum_first {x1 x2 : List Int} (hk : x1.length ≤ 140737488355000) : Gives ((if (decide ((x1.length : Int) > (64 : Int))) = true then
  (Option.bind (turnstileref03RSum FU x1) fun r3 =>
  (if 32 = 32 ∧ 32 = r3.length then
  (loopF (X := (List Int) × Int × (List Int) × (List Int) × List Int) (A := Out ((List Int) × (List Int) × List Int) (List Int)) (fun rec4 y5 => match y5 with
  | (a6, (a7, (a8, (a9, a10)))) =>
  (if (decide (a7 < (32 : Int))) = true then
  (if 32 = a10.length then
  (if 0 ≤ a7 ∧ a7 < (a10.length : Int) then
  (if 64 = a9.length then
  (if 0 ≤ a7 ∧ a7 < (a9.length : Int) then
  (let u11 : List Int := (a9.set a7.toNat (a10.getD a7.toNat (0 : Int)))
  rec4 (a6, ((IntKind.wrap .i64 (a7 + (1 : Int))), (a8, (u11, a10)))))
  else none)
  else none)
  else none)
  else none)
  else
  (some (Out.go (a6, (a8, a9)))))) FU (x2, ((0 : Int), (List.replicate 32 0, (Z64, r3)))))
  else none))
  else
  (loopF (X := (List Int) × (List Int) × Int × (List Int) × List Int) (A := Out ((List Int) × (List Int) × List Int) (List Int)) (fun rec12 y13 => match y13 with
  | (a14, (a15, (a16, (a17, a18)))) =>
  (if (decide (a16 < (a14.length : Int))) = true then
  (Option.bind (idx a14 a16) fun v19 =>
  (if 64 = a18.length then
  (if 0 ≤ a16 ∧ a16 < (a18.length : Int) then
  (let u20 : Int := (IntKind.wrap .i64 (a16 + (1 : Int)))
  rec12 (a14, (a15, (u20, (a17, (a18.set a16.toNat v19))))))
  else none)
  else none))
  else
  (some (Out.go (a15, (a17, a18)))))) FU (x1, (x2, ((0 : Int), (List.replicate 32 0, Z64)))))) : Option (Out ((List Int) × (List Int) × List Int) (List Int))) (· = Out.go (x2, (List.replicate 32 0, kb x1))) := by
  have zl : Z64.length = 64 := by simp
  refine Gives.dite (fun hgt => ?_) (fun hle => ?_)
  · refine Gives.bind_eq (rSum_gives hk).eq ?_
    have hl := shaL_len x1
    refine Gives.pos ⟨rfl, hl.symm⟩ ?_
    have e : fil (shaL x1) = kb x1 := by unfold kb; rw [if_pos (by omega)]
    generalize hr : shaL x1 = r3 at *
    refine Gives.loop (fun y => y.1 = x2 ∧ 0 ≤ y.2.1 ∧ y.2.1 ≤ 32 ∧ y.2.2.1 = List.replicate 32 0 ∧ y.2.2.2.1 = r3.take y.2.1.toNat ++ Z64.drop y.2.1.toNat ∧ y.2.2.2.2 = r3) (fun y => (32 - y.2.1).toNat) ?_ _ _ ⟨rfl, by simp, by simp, rfl, rfl, rfl⟩ (by show 32 < FU; decide)
    rintro rec ⟨a6, i, a8, a9, a10⟩ ⟨k1, k2, k3, k4, k5, k6⟩ hrec
    dsimp only at k1 k2 k3 k4 k5 k6 hrec ⊢
    subst k1 k4 k6
    have hl9 : a9.length = 64 := by rw [k5, ins_len _ _ _ (by omega) (by omega), zl]
    refine Gives.dite (fun hlt => ?_) (fun hge => ?_)
    · iterate 4 refine Gives.pos (by omega) ?_
      rw [k5, ins_set _ _ _ (by omega) (by omega), wrap64 (by omega) (by omega)]
      refine hrec _ ⟨rfl, by show (0 : Int) ≤ i + 1; omega, by show i + 1 ≤ 32; omega, rfl, ?_, rfl⟩ (by show (32 - (i + 1)).toNat < (32 - i).toNat; omega)
      show _ = a10.take (i + 1).toNat ++ Z64.drop (i + 1).toNat
      rw [show (i + 1).toNat = i.toNat + 1 from by omega]
    · refine Gives.of_some ?_
      rw [k5, show i.toNat = 32 from by omega, List.take_of_length_le (by omega), ← e]
      unfold fil
      rw [hl, List.drop_replicate]
  · have e : fil x1 = kb x1 := by unfold kb; rw [if_neg (by omega)]
    refine Gives.loop (fun y => y.1 = x1 ∧ y.2.1 = x2 ∧ 0 ≤ y.2.2.1 ∧ y.2.2.1 ≤ (x1.length : Int) ∧ y.2.2.2.1 = List.replicate 32 0 ∧ y.2.2.2.2 = x1.take y.2.2.1.toNat ++ Z64.drop y.2.2.1.toNat) (fun y => ((x1.length : Int) - y.2.2.1).toNat) ?_ _ _ ⟨rfl, rfl, by simp, by simp, rfl, rfl⟩ (by show ((x1.length : Int) - 0).toNat < 281474976710700; omega)
    rintro rec ⟨a14, a15, i, a17, a18⟩ ⟨k1, k2, k3, k4, k5, k6⟩ hrec
    dsimp only at k1 k2 k3 k4 k5 k6 hrec ⊢
    subst k1 k2 k5
    have hl9 : a18.length = 64 := by rw [k6, ins_len _ _ _ (by omega) (by omega), zl]
    refine Gives.dite (fun hlt => ?_) (fun hge => ?_)
    · refine Gives.idx 0 k3 hlt ?_
      iterate 2 refine Gives.pos (by omega) ?_
      rw [k6, ins_set _ _ _ (by omega) (by omega), wrap64 (by omega) (by omega)]
      refine hrec _ ⟨rfl, rfl, by show (0 : Int) ≤ i + 1; omega, by show i + 1 ≤ (a14.length : Int); omega, rfl, ?_⟩ (by show ((a14.length : Int) - (i + 1)).toNat < ((a14.length : Int) - i).toNat; omega)
      show _ = a14.take (i + 1).toNat ++ Z64.drop (i + 1).toNat
      rw [show (i + 1).toNat = i.toNat + 1 from by omega]
    · refine Gives.of_some ?_
      rw [k6, show i.toNat = a14.length from by omega, List.take_of_length_le (by omega), ← e]
      unfold fil
      rw [List.drop_replicate]
theorem rsumP_gives {key text : List Int} (hk : key.length ≤ 140737488351232) (ht : text.length ≤ 140737488351232) : Gives (rSum FU (key, text)) (· = hm key text) := by
  unfold rSum
  dsimp only
  refine Gives.bind_eq (rsum_first (x1 := key) (x2 := text) (by omega)).eq ?_
  dsimp only
  unfold hm
  have hl := kb_len key
  generalize kb key = K at hl ⊢
  refine Gives.loop (fun y => y.1 = text ∧ 0 ≤ y.2.1 ∧ y.2.1 ≤ 64 ∧ y.2.2.1 = List.replicate 32 0 ∧ y.2.2.2.1 = K ∧ y.2.2.2.2.1 = xk 54 (K.take y.2.1.toNat) ∧ y.2.2.2.2.2 = xk 92 (K.take y.2.1.toNat)) (fun y => (64 - y.2.1).toNat) ?_ _ _ ⟨rfl, by simp, by simp, rfl, rfl, by simp [xk], by simp [xk]⟩ (by show 64 < FU; decide)
  rintro rec ⟨a27, i, a29, a30, a31, a32⟩ ⟨k1, k2, k3, k4, k5, k6, k7⟩ hrec
  dsimp only at k1 k2 k3 k4 k5 k6 k7 hrec ⊢
  subst k1 k4 k5
  have l31 : a31.length = i.toNat := by rw [k6, xk_len, List.length_take]; omega
  have l32 : a32.length = i.toNat := by rw [k7, xk_len, List.length_take]; omega
  refine Gives.dite (fun hlt => ?_) (fun hge => ?_)
  · iterate 6 refine Gives.pos (by omega) ?_
    rw [wrap64 (by omega) (by omega)]
    refine hrec _ ⟨rfl, by show (0 : Int) ≤ i + 1; omega, by show i + 1 ≤ 64; omega, rfl, rfl, ?_, ?_⟩ (by show (64 - (i + 1)).toNat < (64 - i).toNat; omega)
    · show _ = xk 54 (a30.take (i + 1).toNat)
      rw [show (i + 1).toNat = i.toNat + 1 from by omega, take_snoc _ _ (by omega), k6]
      simp [xk]
    · show _ = xk 92 (a30.take (i + 1).toNat)
      rw [show (i + 1).toNat = i.toNat + 1 from by omega, take_snoc _ _ (by omega), k7]
      simp [xk]
  · rw [show i.toNat = 64 from by omega, List.take_of_length_le (by omega)] at k6 k7
    refine Gives.pos (by omega) (Gives.bind_eq (rSum_gives (by rw [List.length_append]; omega)).eq ?_)
    have hs := shaL_len (a31 ++ a27)
    refine Gives.pos ⟨rfl, hs.symm⟩ ?_
    rw [← k6, ← k7]
    generalize shaL (a31 ++ a27) = r36 at hs ⊢
    refine Gives.loop (fun y => 0 ≤ y.1 ∧ y.1 ≤ 32 ∧ y.2.1 = List.replicate 32 0 ∧ y.2.2.1 = a32 ++ r36.take y.1.toNat ∧ y.2.2.2 = r36) (fun y => (32 - y.1).toNat) ?_ _ _ ⟨by simp, by simp, rfl, by simp, rfl⟩ (by show 32 < FU; decide)
    rintro rec ⟨j, a40, a41, a42⟩ ⟨m1, m2, m3, m4, m5⟩ hrec2
    dsimp only at m1 m2 m3 m4 m5 hrec2 ⊢
    subst m3 m5
    have l41 : a41.length = 64 + j.toNat := by rw [m4, List.length_append, List.length_take]; omega
    refine Gives.dite (fun hlt => ?_) (fun hge => ?_)
    · iterate 3 refine Gives.pos (by omega) ?_
      rw [wrap64 (by omega) (by omega)]
      refine hrec2 _ ⟨by show (0 : Int) ≤ j + 1; omega, by show j + 1 ≤ 32; omega, rfl, ?_, rfl⟩ (by show (32 - (j + 1)).toNat < (32 - j).toNat; omega)
      show _ = a32 ++ a42.take (j + 1).toNat
      rw [show (j + 1).toNat = j.toNat + 1 from by omega, take_snoc _ _ (by omega), m4, List.append_assoc]
    · rw [show j.toNat = 32 from by omega, List.take_of_length_le (by omega)] at m4
      refine Gives.bind_eq (rSum_gives (by omega)).eq ?_
      refine Gives.pos ⟨by simp, (shaL_len _).symm⟩ (Gives.pos (shaL_len _).symm (Gives.of_some ?_))
      rw [m4]
/-! ### comparing -/
def U8 (l : List Int) : Prop := ∀ x ∈ l, 0 ≤ x ∧ x ≤ 255
theorem dig_bytes (h : List Int) : U8 (dig h) := by
  intro x hx
  obtain ⟨i, _, rfl⟩ := List.mem_map.1 hx
  rw [wrap_u8]
  omega
theorem hm_bytes (k t : List Int) : U8 (hm k t) := dig_bytes _
theorem hm_len (k t : List Int) : (hm k t).length = 32 := shaL_len _
theorem bv8 (x : BitVec 8) : IntKind.wrap .u8 ((x.toNat : Nat) : Int) = ((x.toNat : Nat) : Int) := by
  rw [wrap_u8]
  have := x.isLt
  omega
theorem xor8 {a b : Int} (h1 : 0 ≤ a ∧ a ≤ 255) (h2 : 0 ≤ b ∧ b ≤ 255) : (bits .xor .u8 a b = 0 ↔ a = b) ∧ 0 ≤ bits .xor .u8 a b ∧ bits .xor .u8 a b ≤ 255 := by
  obtain ⟨n, rfl⟩ : ∃ n : Nat, a = (n : Int) := ⟨a.toNat, by omega⟩
  obtain ⟨m, rfl⟩ : ∃ m : Nat, b = (m : Int) := ⟨b.toNat, by omega⟩
  have e : bits .xor .u8 (n : Int) (m : Int) = (((BitVec.ofNat 8 n) ^^^ (BitVec.ofNat 8 m)).toNat : Int) := bv8 _
  rw [e]
  have h := ((BitVec.ofNat 8 n) ^^^ (BitVec.ofNat 8 m)).isLt
  refine ⟨?_, by omega, by omega⟩
  rw [BitVec.toNat_xor, BitVec.toNat_ofNat, BitVec.toNat_ofNat, Nat.mod_eq_of_lt (by omega), Nat.mod_eq_of_lt (by omega)]
  constructor
  · intro h
    have : n ^^^ m = 0 := by omega
    have h2 : (n ^^^ m) ^^^ m = 0 ^^^ m := by rw [this]
    rw [Nat.xor_assoc, Nat.xor_self, Nat.xor_zero, Nat.zero_xor] at h2
    rw [h2]
  · intro h
    have : n = m := by omega
    subst this
    simp
theorem or8 {a b : Int} (h1 : 0 ≤ a ∧ a ≤ 255) (h2 : 0 ≤ b ∧ b ≤ 255) : (bits .or .u8 a b = 0 ↔ a = 0 ∧ b = 0) ∧ 0 ≤ bits .or .u8 a b ∧ bits .or .u8 a b ≤ 255 := by
  obtain ⟨n, rfl⟩ : ∃ n : Nat, a = (n : Int) := ⟨a.toNat, by omega⟩
  obtain ⟨m, rfl⟩ : ∃ m : Nat, b = (m : Int) := ⟨b.toNat, by omega⟩
  have e : bits .or .u8 (n : Int) (m : Int) = (((BitVec.ofNat 8 n) ||| (BitVec.ofNat 8 m)).toNat : Int) := bv8 _
  rw [e]
  have h := ((BitVec.ofNat 8 n) ||| (BitVec.ofNat 8 m)).isLt
  refine ⟨?_, by omega, by omega⟩
  rw [BitVec.toNat_or, BitVec.toNat_ofNat, BitVec.toNat_ofNat, Nat.mod_eq_of_lt (by omega), Nat.mod_eq_of_lt (by omega)]
  constructor
  · intro h
    have : n ||| m = 0 := by omega
    have := Nat.or_eq_zero_iff.1 this
    omega
  · intro h
    have h1 : n = 0 := by omega
    have h2 : m = 0 := by omega
    subst h1 h2
    rfl
theorem byte_of {s : List Int} (hs : U8 s) (i : Nat) (h : i < s.length) : 0 ≤ s.getD i 0 ∧ s.getD i 0 ≤ 255 := by
  rw [List.getD_eq_getElem?_getD, List.getElem?_eq_getElem h]
  exact hs _ (List.getElem_mem h)
theorem same_gives {a b : List Int} (ha : U8 a) (hb : U8 b) (hl : a.length ≤ 140737488355000) (hlb : b.length ≤ 140737488355000) : Gives (same FU (a, b)) (· = (a == b)) := by
  unfold same
  dsimp only
  by_cases hab : a.length = b.length
  · rw [if_neg (by simp [hab])]
    refine Gives.loop (fun y => y.1 = a ∧ y.2.1 = b ∧ (0 ≤ y.2.2.1 ∧ y.2.2.1 ≤ 255) ∧ y.2.2.2.1 = (a.length : Int) ∧ 0 ≤ y.2.2.2.2 ∧ y.2.2.2.2 ≤ (a.length : Int) ∧ (y.2.2.1 = 0 ↔ a.take y.2.2.2.2.toNat = b.take y.2.2.2.2.toNat)) (fun y => ((a.length : Int) - y.2.2.2.2).toNat) ?_ _ _ ⟨rfl, rfl, by simp, rfl, by simp, by simp, by simp⟩ (by show ((a.length : Int) - 0).toNat < 281474976710700; omega)
    rintro rec ⟨a5, a6, d, a8, i⟩ ⟨k1, k2, k3, k4, k5, k6, k7⟩ hrec
    dsimp only at k1 k2 k3 k4 k5 k6 k7 hrec ⊢
    subst k1 k2 k4
    refine Gives.dite (fun hlt => ?_) (fun hge => ?_)
    · refine Gives.idx 0 k5 hlt (Gives.idx 0 k5 (by omega) ?_)
      have b1 := byte_of ha i.toNat (by omega)
      have b2 := byte_of hb i.toNat (by omega)
      obtain ⟨x1, x2⟩ := xor8 b1 b2
      obtain ⟨o1, o2⟩ := or8 k3 x2
      rw [wrap64 (by omega) (by omega)]
      refine hrec _ ⟨rfl, rfl, o2, rfl, by show (0 : Int) ≤ i + 1; omega, by show i + 1 ≤ (a5.length : Int); omega, ?_⟩ (by show ((a5.length : Int) - (i + 1)).toNat < ((a5.length : Int) - i).toNat; omega)
      show bits .or .u8 d _ = 0 ↔ a5.take (i + 1).toNat = a6.take (i + 1).toNat
      rw [o1, x1, k7, show (i + 1).toNat = i.toNat + 1 from by omega, take_snoc _ _ (by omega), take_snoc _ _ (by omega)]
      constructor
      · rintro ⟨e1, e2⟩; rw [e1, e2]
      · intro e
        have := List.append_inj e (by rw [List.length_take, List.length_take]; omega)
        exact ⟨this.1, by simpa using this.2⟩
    · refine Gives.of_some ?_
      rw [show i.toNat = a5.length from by omega, List.take_of_length_le (Nat.le_refl _), List.take_of_length_le (by omega)] at k7
      by_cases e : a5 = a6
      · rw [k7.2 e, e]; simp
      · have : d ≠ 0 := fun h => e (k7.1 h)
        rw [show (d == (0 : Int)) = false from by simpa using this, show (a5 == a6) = false from by simpa using e]
  · rw [if_pos (by simp; omega)]
    refine Gives.of_some ?_
    rw [show (a == b) = false from by simpa using fun e => hab (by rw [e])]
theorem verify_gives {k t c : List Int} (hk : k.length ≤ 140737488351232) (ht : t.length ≤ 140737488351232) (hc : c.length ≤ 140737488355000) (hb : U8 c) : Gives (verify FU (k, t, c)) (· = (hm k t == c)) := by
  unfold verify
  dsimp only
  refine Gives.bind_eq (msumP_gives hk ht).eq (Gives.pos ⟨rfl, (hm_len _ _).symm⟩ (Gives.pos (hm_len _ _).symm ?_))
  rw [all32 (hm_len _ _)]
  exact Gives.bind_eq (same_gives (hm_bytes k t) hb (by rw [hm_len]; omega) hc).eq (Gives.of_some rfl)
theorem rVerify_gives {k t c : List Int} (hk : k.length ≤ 140737488351232) (ht : t.length ≤ 140737488351232) : Gives (rVerify FU (k, t, c)) (· = (hm k t == c)) := by
  unfold rVerify
  dsimp only
  have hl := hm_len k t
  refine Gives.bind_eq (rsumP_gives hk ht).eq (Gives.pos ⟨rfl, hl.symm⟩ ?_)
  generalize hm k t = r at hl ⊢
  by_cases hc : c.length = 32
  · rw [if_neg (by simp; omega)]
    refine Gives.loop (fun y => y.1 = c ∧ 0 ≤ y.2.1 ∧ y.2.1 ≤ 32 ∧ y.2.2 = r ∧ c.take y.2.1.toNat = r.take y.2.1.toNat) (fun y => (32 - y.2.1).toNat) ?_ _ _ ⟨rfl, by simp, by simp, rfl, by simp⟩ (by show 32 < FU; decide)
    rintro rec ⟨a7, i, a9⟩ ⟨k1, k2, k3, k4, k5⟩ hrec
    dsimp only at k1 k2 k3 k4 k5 hrec ⊢
    subst k1 k4
    refine Gives.dite (fun hlt => ?_) (fun hge => ?_)
    · refine Gives.idx 0 k2 (by omega) (Gives.pos (by omega) (Gives.pos (by omega) ?_))
      by_cases hv : a7.getD i.toNat 0 = a9.getD i.toNat 0
      · rw [if_neg (by simpa using hv), wrap64 (by omega) (by omega)]
        refine hrec _ ⟨rfl, by show (0 : Int) ≤ i + 1; omega, by show i + 1 ≤ 32; omega, rfl, ?_⟩ (by show (32 - (i + 1)).toNat < (32 - i).toNat; omega)
        show a7.take (i + 1).toNat = a9.take (i + 1).toNat
        rw [show (i + 1).toNat = i.toNat + 1 from by omega, take_snoc _ _ (by omega), take_snoc _ _ (by omega), k5, hv]
      · rw [if_pos (by simpa using hv)]
        refine Gives.of_some ?_
        rw [show (a9 == a7) = false from by simpa using fun e => hv (by rw [e])]
    · refine Gives.of_some ?_
      rw [show i.toNat = 32 from by omega, List.take_of_length_le (by omega), List.take_of_length_le (by omega)] at k5
      rw [k5]
      simp
  · rw [if_pos (by simp; omega)]
    refine Gives.of_some ?_
    rw [show (r == c) = false from by simpa using fun e => hc (by rw [← e, hl])]
theorem works_eq : works FU () = some true := by kernel_rfl
theorem twin_eq {x : List Int} (h : x.length ≤ 140737488355000) : twin FU x = some x := by
  unfold twin
  rw [if_pos (by omega)]
theorem macSums_true (k t c : List Int) (hk : k.length ≤ 140737488351232) (ht : t.length ≤ 140737488351232) (hc : c.length ≤ 140737488351232) (bk : U8 k) (bt : U8 t) (bc : U8 c) : macSums FU (k, t, c) = some true := by
  apply Gives.eq
  unfold macSums
  dsimp only
  have hl := hm_len k t
  refine Gives.bind_eq (twin_eq (by omega)) (Gives.bind_eq (twin_eq (by omega)) (Gives.bind_eq (twin_eq (by omega)) (Gives.bind_eq (msumP_gives hk ht).eq ?_)))
  refine Gives.pos ⟨rfl, hl.symm⟩ (Gives.pos hl.symm (Gives.bind_eq (rsumP_gives hk ht).eq (Gives.pos ⟨hl, hl⟩ ?_)))
  rw [if_neg (by simp), if_neg (by simp), if_neg (by simp)]
  refine Gives.bind_eq (verify_gives hk ht (by omega) bc).eq (Gives.bind_eq (rVerify_gives hk ht).eq ?_)
  rw [if_pos (by simp), all32 hl]
  refine Gives.pos hl.symm (Gives.bind_eq (verify_gives hk ht (by omega) (hm_bytes k t)).eq ?_)
  rw [if_pos (by simp)]
  refine Gives.bind_eq (same_gives bt bc (by omega) (by omega)).eq (Gives.bind_eq (r := (t == c)) rfl ?_)
  rw [if_pos (by simp)]
  refine Gives.bind_eq (twin_eq (by omega)) (Gives.bind_eq (same_gives bt bt (by omega) (by omega)).eq ?_)
  rw [if_pos (by simp)]
  exact Gives.bind_eq works_eq (Gives.of_some rfl)
end Go.Sx.YtfgkjcpcljfpdaaDoor
