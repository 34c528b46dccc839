/- Hashes; a number's bytes. -/
import Derived.Test.YtfgkjcpcljfpdaaDoorWQ
namespace Go.Sx.YtfgkjcpcljfpdaaDoor
open Go Go.Sx
set_option autoImplicit false
set_option maxRecDepth 1000000
set_option linter.unusedVariables false
set_option linter.unusedSimpArgs false
theorem u8_of {x : Int} (h : (K.int .u8).Ok x) : 0 ≤ x ∧ x ≤ 255 := by
  obtain ⟨r1, r2⟩ := h
  rw [k_min_eq] at r1
  rw [k_max_eq] at r2
  exact ⟨r1, r2⟩
theorem u64_of {x : Int} (h : (K.int .u64).Ok x) : 0 ≤ x ∧ x ≤ 18446744073709551615 := by
  obtain ⟨r1, r2⟩ := h
  rw [k_min_eq] at r1
  rw [k_max_eq] at r2
  exact ⟨r1, r2⟩
def fs (h v : Int) : Int := IntKind.wrap .u64 ((bits .xor .u64 h (IntKind.wrap .u64 v)) * (1099511628211 : Int))
def fnv (h : Int) (s : List Int) : Int := s.foldl fs h
theorem take_snocG {α : Type} (d : α) (k : List α) (i : Nat) (h : i < k.length) : k.take (i + 1) = k.take i ++ [k.getD i d] := by
  rw [List.take_add_one, List.getElem?_eq_getElem h, List.getD_eq_getElem?_getD, List.getElem?_eq_getElem h]
  rfl
theorem fnv_snoc (h : Int) (s : List Int) (i : Nat) (hi : i < s.length) : fnv h (s.take (i + 1)) = fs (fnv h (s.take i)) (s.getD i 0) := by
  unfold fnv
  rw [take_snoc _ _ hi, List.foldl_append]
  rfl
theorem fnv_app (h : Int) (a b : List Int) : fnv h (a ++ b) = fnv (fnv h a) b := List.foldl_append
theorem hashed_gives (h : Int) {s : List Int} (hs : s.length ≤ 140737488355000) : Gives (hashed FU (h, s)) (· = fnv h s) := by
  unfold hashed
  dsimp only
  refine Gives.loop (fun y => y.1 = fnv h (s.take y.2.2.2.toNat) ∧ y.2.1 = s ∧ y.2.2.1 = (s.length : Int) ∧ 0 ≤ y.2.2.2 ∧ y.2.2.2 ≤ (s.length : Int)) (fun y => ((s.length : Int) - y.2.2.2).toNat) ?_ _ _ ⟨rfl, rfl, rfl, by simp, by simp⟩ (by show ((s.length : Int) - 0).toNat < 281474976710700; omega)
  rintro rec ⟨a5, a6, a7, i⟩ ⟨k1, k2, k3, k4, k5⟩ hrec
  dsimp only at k1 k2 k3 k4 k5 hrec ⊢
  subst k2 k3
  refine Gives.dite (fun hlt => ?_) (fun hge => ?_)
  · refine Gives.idx 0 k4 hlt ?_
    rw [wrap64 (by omega) (by omega)]
    refine hrec _ ⟨?_, rfl, rfl, by show 0 ≤ i + 1; omega, by show i + 1 ≤ (a6.length : Int); omega⟩ (by show ((a6.length : Int) - (i + 1)).toNat < ((a6.length : Int) - i).toNat; omega)
    show _ = fnv h (a6.take (i + 1).toNat)
    rw [show (i + 1).toNat = i.toNat + 1 from by omega, fnv_snoc _ _ _ (by omega), ← k1]
    rfl
  · refine Gives.of_some ?_
    rw [k1, List.take_of_length_le (by omega)]
abbrev OFF : Int := 14695981039346656037
theorem hash_gives {s : List Int} (hs : s.length ≤ 140737488355000) : Gives (hash FU s) (· = fnv OFF s) := by
  unfold hash
  exact Gives.bind_eq (hashed_gives _ hs).eq (Gives.of_some rfl)
theorem rHash_gives {s : List Int} (hs : s.length ≤ 140737488355000) : Gives (rHash FU s) (· = fnv OFF s) := by
  unfold rHash
  refine Gives.loop (fun y => y.1 = s ∧ y.2.1 = fnv OFF (s.take y.2.2.toNat) ∧ 0 ≤ y.2.2 ∧ y.2.2 ≤ (s.length : Int)) (fun y => ((s.length : Int) - y.2.2).toNat) ?_ _ _ ⟨rfl, rfl, by simp, by simp⟩ (by show ((s.length : Int) - 0).toNat < 281474976710700; omega)
  rintro rec ⟨a4, a5, i⟩ ⟨k1, k2, k3, k4⟩ hrec
  dsimp only at k1 k2 k3 k4 hrec ⊢
  subst k1
  refine Gives.dite (fun hlt => ?_) (fun hge => ?_)
  · refine Gives.idx 0 k3 hlt ?_
    rw [wrap64 (by omega) (by omega)]
    refine hrec _ ⟨rfl, ?_, by show 0 ≤ i + 1; omega, by show i + 1 ≤ (a4.length : Int); omega⟩ (by show ((a4.length : Int) - (i + 1)).toNat < ((a4.length : Int) - i).toNat; omega)
    show _ = fnv OFF (a4.take (i + 1).toNat)
    rw [show (i + 1).toNat = i.toNat + 1 from by omega, fnv_snoc _ _ _ (by omega), ← k2]
    rfl
  · refine Gives.of_some ?_
    rw [k2, List.take_of_length_le (by omega)]
def hall (h : Int) (l : List (List Int)) : Int := l.foldl (fun h s => fnv (fnv h s) [0]) h
def flat (l : List (List Int)) : List Int := l.flatMap (· ++ [0])
theorem fnv_flat : ∀ (l : List (List Int)) (h : Int), fnv h (flat l) = hall h l
  | [], _ => rfl
  | s :: l, h => by
    show fnv h ((s ++ [0]) ++ flat l) = hall (fnv (fnv h s) [0]) l
    rw [fnv_app, fnv_app, fnv_flat l]
theorem flat_snoc (l : List (List Int)) (i : Nat) (h : i < l.length) : flat (l.take (i + 1)) = (flat (l.take i) ++ l.getD i []) ++ [0] := by
  unfold flat
  rw [take_snocG [] _ _ h, List.flatMap_append, List.append_assoc]
  simp
theorem flat_le (l : List (List Int)) (i : Nat) : (flat (l.take i)).length ≤ (flat l).length := by
  have e : flat l = flat (l.take i) ++ flat (l.drop i) := by
    unfold flat
    rw [← List.flatMap_append, List.take_append_drop]
  rw [e, List.length_append]
  omega
theorem hashAll_gives {l : List (List Int)} (hl : (flat l).length ≤ 140737488355000) (hll : l.length ≤ 140737488355000) : Gives (hashAll FU l) (· = hall OFF l) := by
  unfold hashAll
  refine Gives.loop (fun y => y.1 = hall OFF (l.take y.2.2.2.toNat) ∧ y.2.1 = l ∧ y.2.2.1 = (l.length : Int) ∧ 0 ≤ y.2.2.2 ∧ y.2.2.2 ≤ (l.length : Int)) (fun y => ((l.length : Int) - y.2.2.2).toNat) ?_ _ _ ⟨rfl, rfl, rfl, by simp, by simp⟩ (by show ((l.length : Int) - 0).toNat < 281474976710700; omega)
  rintro rec ⟨a4, a5, a6, i⟩ ⟨k1, k2, k3, k4, k5⟩ hrec
  dsimp only at k1 k2 k3 k4 k5 hrec ⊢
  subst k2 k3
  refine Gives.dite (fun hlt => ?_) (fun hge => ?_)
  · refine Gives.idx [] k4 hlt ?_
    have f1 := flat_snoc a5 i.toNat (by omega)
    have f2 := flat_le a5 (i.toNat + 1)
    rw [f1, List.length_append, List.length_append] at f2
    refine Gives.bind_eq (hashed_gives _ (by omega)).eq (Gives.bind_eq (hashed_gives _ (by simp)).eq ?_)
    rw [wrap64 (by omega) (by omega)]
    refine hrec _ ⟨?_, rfl, rfl, by show 0 ≤ i + 1; omega, by show i + 1 ≤ (a5.length : Int); omega⟩ (by show ((a5.length : Int) - (i + 1)).toNat < ((a5.length : Int) - i).toNat; omega)
    show _ = hall OFF (a5.take (i + 1).toNat)
    unfold hall
    rw [show (i + 1).toNat = i.toNat + 1 from by omega, take_snocG [] _ _ (by omega), List.foldl_append, k1]
    rfl
  · refine Gives.of_some ?_
    rw [k1, List.take_of_length_le (by omega)]
theorem rHashAll_gives {l : List (List Int)} (hl : (flat l).length ≤ 140737488355000) (hll : l.length ≤ 140737488355000) : Gives (rHashAll FU l) (· = hall OFF l) := by
  unfold rHashAll
  refine Gives.loop (fun y => y.1 = l ∧ 0 ≤ y.2.1 ∧ y.2.1 ≤ (l.length : Int) ∧ y.2.2 = flat (l.take y.2.1.toNat)) (fun y => ((l.length : Int) - y.2.1).toNat) ?_ _ _ ⟨rfl, by simp, by simp, rfl⟩ (by show ((l.length : Int) - 0).toNat < 281474976710700; omega)
  rintro rec ⟨a4, i, a6⟩ ⟨k1, k2, k3, k4⟩ hrec
  dsimp only at k1 k2 k3 k4 hrec ⊢
  subst k1
  refine Gives.dite (fun hlt => ?_) (fun hge => ?_)
  · refine Gives.idx [] k2 hlt ?_
    have f1 := flat_snoc a4 i.toNat (by omega)
    have f2 := flat_le a4 (i.toNat + 1)
    rw [f1, List.length_append, List.length_append, ← k4, show ([0] : List Int).length = 1 from rfl] at f2
    refine Gives.pos (by omega) (Gives.pos (by rw [List.length_append]; omega) ?_)
    rw [wrap64 (by omega) (by omega)]
    refine hrec _ ⟨rfl, by show 0 ≤ i + 1; omega, by show i + 1 ≤ (a4.length : Int); omega, ?_⟩ (by show ((a4.length : Int) - (i + 1)).toNat < ((a4.length : Int) - i).toNat; omega)
    show _ = flat (a4.take (i + 1).toNat)
    rw [show (i + 1).toNat = i.toNat + 1 from by omega, f1, k4]
  · rw [show a6 = flat a4 from by rw [k4, List.take_of_length_le (by omega)]]
    refine Gives.bind_eq (rHash_gives hl).eq (Gives.of_some ?_)
    exact fnv_flat _ _
/-! ### a number's bytes -/
def bt (N j : Nat) : Int := ((N / 2 ^ (8 * (7 - j)) % 256 : Nat) : Int)
def bts (N : Nat) : List Int := (List.range 8).map (bt N)
theorem bts_len (N : Nat) : (bts N).length = 8 := by simp [bts]
theorem rep_snoc (j : Nat) (h : 0 < j) : List.replicate j (0 : Int) = 0 :: List.replicate (j - 1) 0 := by
  obtain ⟨q, rfl⟩ : ∃ q, j = q + 1 := ⟨j - 1, by omega⟩
  rfl
theorem bts_get (N i : Nat) (hi : i < 8) : (bts N)[i]'(by rw [bts_len]; exact hi) = bt N i := by simp [bts]
theorem bytes_gives (N : Nat) (hN : N ≤ 18446744073709551615) : Gives (bytes FU (N : Int)) (· = bts N) := by
  unfold bytes
  refine Gives.loop (fun y => y.1 = (N : Int) ∧ 0 ≤ y.2.1 ∧ y.2.1 ≤ 8 ∧ y.2.2.1.length = 8 ∧ y.2.2.2 = (bts N).take y.2.1.toNat ++ List.replicate (8 - y.2.1.toNat) 0) (fun y => (8 - y.2.1).toNat) ?_ _ _ ⟨rfl, by simp, by simp, rfl, rfl⟩ (by show 8 < FU; decide)
  rintro rec ⟨a4, i, a6, a7⟩ ⟨k1, k2, k3, k4, k5⟩ hrec
  dsimp only at k1 k2 k3 k4 k5 hrec ⊢
  subst k1
  have hb := bts_len N
  have hp : ((bts N).take i.toNat).length = i.toNat := by rw [List.length_take]; omega
  have hl : a7.length = 8 := by rw [k5, List.length_append, hp, List.length_replicate]; omega
  refine Gives.dite (fun hlt => ?_) (fun hge => ?_)
  · rw [wrap64 (n := 8 * i) (by omega) (by omega), wrap64 (n := 56 - 8 * i) (by omega) (by omega)]
    have w64 : IntKind.wrap .u64 (56 - 8 * i) = 56 - 8 * i := by simp [IntKind.wrap, IntKind.bits, IntKind.signed]; omega
    rw [w64]
    refine Gives.neg (by omega) ?_
    refine Gives.pos hl.symm (Gives.pos (by omega) ?_)
    rw [wrap64 (n := i + 1) (by omega) (by omega), shr_eq, wrap_u8, show min (56 - 8 * i).toNat 64 = 8 * (7 - i.toNat) from by omega]
    refine hrec _ ⟨rfl, by show (0 : Int) ≤ i + 1; omega, by show i + 1 ≤ 8; omega, k4, ?_⟩ (by show (8 - (i + 1)).toNat < (8 - i).toNat; omega)
    show a7.set i.toNat _ = (bts N).take (i + 1).toNat ++ List.replicate (8 - (i + 1).toNat) 0
    rw [k5, rep_snoc _ (by omega), mid_set _ _ _ _ _ hp, show (i + 1).toNat = i.toNat + 1 from by omega, take_snoc _ _ (by omega)]
    have e : (bts N).getD i.toNat 0 = (N : Int) / 2 ^ (8 * (7 - i.toNat)) % 256 := by
      rw [List.getD_eq_getElem?_getD, List.getElem?_eq_getElem (by omega), Option.getD_some, bts_get _ _ (by omega)]
      unfold bt
      rw [Int.natCast_emod, Int.natCast_ediv, Int.natCast_pow]
      rfl
    rw [e, show 8 - i.toNat - 1 = 8 - (i.toNat + 1) from by omega]
  · refine Gives.pos hl.symm (Gives.pos ⟨k4.symm, hl.symm⟩ (Gives.pos hl.symm (Gives.of_some ?_)))
    rw [k5, show i.toNat = 8 from by omega, List.take_of_length_le (by omega)]
    simp
theorem rBytes_gives (N : Nat) (hN : N ≤ 18446744073709551615) : Gives (rBytes FU (N : Int)) (· = bts N) := by
  unfold rBytes
  refine Gives.loop (fun y => (-1 ≤ y.2.1 ∧ y.2.1 ≤ 7) ∧ y.1 = ((N / 2 ^ (8 * (7 - y.2.1).toNat) : Nat) : Int) ∧ y.2.2.1.length = 8 ∧ y.2.2.2 = List.replicate (y.2.1 + 1).toNat 0 ++ (bts N).drop (y.2.1 + 1).toNat) (fun y => (y.2.1 + 1).toNat) ?_ _ _ ⟨by simp, by simp, rfl, ?_⟩ (by show 8 < FU; decide)
  · rintro rec ⟨a4, i, a6, a7⟩ ⟨k1, k2, k4, k5⟩ hrec
    dsimp only at k1 k2 k4 k5 hrec ⊢
    have hb := bts_len N
    have hl : a7.length = 8 := by rw [k5, List.length_append, List.length_drop, List.length_replicate]; omega
    refine Gives.dite (fun hlt => ?_) (fun hge => ?_)
    · refine Gives.pos hl.symm (Gives.pos (by omega) ?_)
      have ha : N / 2 ^ (8 * (7 - i).toNat) ≤ 18446744073709551615 := Nat.le_trans (Nat.div_le_self _ _) hN
      have hstep : N / 2 ^ (8 * (7 - i).toNat) / 256 = N / 2 ^ (8 * (7 - (i - 1)).toNat) := by
        rw [Nat.div_div_eq_div_mul, show 8 * (7 - (i - 1)).toNat = 8 * (7 - i).toNat + 8 from by omega, Nat.pow_add]
      have hbt : bt N i.toNat = ((N / 2 ^ (8 * (7 - i).toNat) % 256 : Nat) : Int) := by
        unfold bt
        rw [show 7 - i.toNat = (7 - i).toNat from by omega]
      generalize N / 2 ^ (8 * (7 - i).toNat) = A at *
      rw [k2, Int.tmod_eq_emod_of_nonneg (by omega), Int.tdiv_eq_ediv_of_nonneg (by omega), wrap_u8, wrap64 (n := i - 1) (by omega) (by omega)]
      have w64 : IntKind.wrap .u64 ((A : Int) / 256) = ((A / 256 : Nat) : Int) := by simp [IntKind.wrap, IntKind.bits, IntKind.signed]; omega
      rw [w64, hstep]
      refine hrec _ ⟨⟨by show -1 ≤ i - 1; omega, by show i - 1 ≤ 7; omega⟩, rfl, k4, ?_⟩ (by show (i - 1 + 1).toNat < (i + 1).toNat; omega)
      show a7.set i.toNat _ = List.replicate (i - 1 + 1).toNat 0 ++ (bts N).drop (i - 1 + 1).toNat
      rw [k5, show (i + 1).toNat = i.toNat + 1 from by omega, show (i - 1 + 1).toNat = i.toNat from by omega, List.replicate_succ', List.append_assoc, List.singleton_append, mid_set _ _ _ _ _ (by simp), List.drop_eq_getElem_cons (i := i.toNat) (by omega), bts_get _ _ (by omega), hbt, List.append_assoc]
      rw [show (A : Int) % 256 % 256 = ((A % 256 : Nat) : Int) from by omega]
      rfl
    · refine Gives.pos hl.symm (Gives.pos ⟨k4.symm, hl.symm⟩ (Gives.pos hl.symm (Gives.of_some ?_)))
      rw [k5, show (i + 1).toNat = 0 from by omega]
      rfl
  · show _ = List.replicate 8 0 ++ (bts N).drop 8
    rw [List.drop_eq_nil_of_le (by rw [bts_len]; omega)]
    rfl
theorem macHashes_true (s : List Int) (l : List (List Int)) (n : Int) (hs : s.length ≤ 1048576) (hl : (flat l).length ≤ 1048576) (hll : l.length ≤ 1048576) (hn : 0 ≤ n ∧ n ≤ 18446744073709551615) : macHashes FU (s, l, n) = some true := by
  apply Gives.eq
  unfold macHashes
  dsimp only
  obtain ⟨N, rfl⟩ : ∃ N : Nat, n = (N : Int) := ⟨n.toNat, by omega⟩
  refine Gives.pos (by omega) (Gives.bind_eq (hash_gives (by omega)).eq (Gives.bind_eq (rHash_gives (by omega)).eq (Gives.epos rfl ?_)))
  refine Gives.bind_eq (hashAll_gives (by omega) (by omega)).eq (Gives.bind_eq (rHashAll_gives (by omega) (by omega)).eq (Gives.epos rfl ?_))
  refine Gives.bind_eq (bytes_gives N (by omega)).eq (Gives.bind_eq (rBytes_gives N (by omega)).eq (Gives.pos ⟨bts_len _, bts_len _⟩ ?_))
  rw [if_pos (by simp)]
  exact Gives.bind_eq works_eq (Gives.of_some rfl)
theorem bulk_flat : ∀ (l : List (List Int)), (flat l).length = (l.map fun s => K.bulk .str s).sum ∧ l.length ≤ (flat l).length
  | [] => ⟨rfl, Nat.le_refl _⟩
  | s :: l => by
    obtain ⟨h1, h2⟩ := bulk_flat l
    have e : (flat (s :: l)).length = s.length + 1 + (flat l).length := by
      show ((s ++ [0]) ++ flat l).length = _
      simp only [List.length_append, List.length_cons, List.length_nil]
    have e2 : K.bulk .str s = s.length + 1 := rfl
    simp only [List.map_cons, List.sum_cons, List.length_cons]
    omega
end Go.Sx.YtfgkjcpcljfpdaaDoor
