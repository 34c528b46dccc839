/- The sum's text; the laws of all bytes and of pieces. -/
import Derived.Test.YtankgmieldchdaaDoorWN1
namespace Go.Sx.YtankgmieldchdaaDoor
open Go Go.Sx
set_option autoImplicit false
set_option maxRecDepth 1000000
set_option linter.unusedVariables false
set_option linter.unusedSimpArgs false
abbrev DG : List Int := [(48 : Int), (49 : Int), (50 : Int), (51 : Int), (52 : Int), (53 : Int), (54 : Int), (55 : Int), (56 : Int), (57 : Int), (97 : Int), (98 : Int), (99 : Int), (100 : Int), (101 : Int), (102 : Int)]
def hexd (v : Int) : List Int := [DG.getD (v / 16).toNat 0, DG.getD (v % 16).toNat 0]
def txt (s : List Int) : List Int := s.flatMap hexd
theorem low4 {v : Int} (h0 : 0 ≤ v) (h1 : v ≤ 255) : bits .and .u8 v 15 = v % 16 := by
  have key : ∀ n : Fin 256, bits .and .u8 (n.val : Int) 15 = (n.val : Int) % 16 := by decide +kernel
  have := key ⟨v.toNat, by omega⟩
  rwa [show ((v.toNat : Nat) : Int) = v from by omega] at this
theorem txt_snoc (s : List Int) (i : Nat) (h : i < s.length) : txt (s.take (i + 1)) = txt (s.take i) ++ hexd (s.getD i 0) := by
  unfold txt
  rw [List.take_add_one, List.flatMap_append]
  simp [h]
theorem txt_len (s : List Int) : (txt s).length = 2 * s.length := by
  unfold txt
  induction s with
  | nil => rfl
  | cons a s ih => rw [List.flatMap_cons, List.length_append, ih, List.length_cons]; simp [hexd]; omega
theorem byte_of {s : List Int} (hs : ∀ x ∈ s, 0 ≤ x ∧ x ≤ 255) (i : Nat) : 0 ≤ s.getD i 0 ∧ s.getD i 0 ≤ 255 := by
  rcases Nat.lt_or_ge i s.length with h | h
  · rw [List.getD_eq_getElem?_getD, List.getElem?_eq_getElem h]
    exact hs _ (List.getElem_mem h)
  · rw [getD_ge _ _ h]; omega
theorem dig_bytes (h : List Int) : ∀ x ∈ dig h, 0 ≤ x ∧ x ≤ 255 := by
  intro x hx
  obtain ⟨i, _, rfl⟩ := List.mem_map.1 hx
  rw [wrap_u8]
  omega
theorem text_gives {s : List Int} (hl : s.length = 32) (hs : ∀ x ∈ s, 0 ≤ x ∧ x ≤ 255) : Gives (text FU s) (· = txt s) := by
  unfold text
  refine Gives.pos hl.symm (Gives.pos hl.symm ?_)
  refine Gives.loop (fun x => x.1 = s ∧ 0 ≤ x.2.1 ∧ x.2.1 ≤ 32 ∧ x.2.2 = txt (s.take x.2.1.toNat)) (fun x => (32 - x.2.1).toNat) ?_ _ _ ⟨rfl, by simp, by simp, rfl⟩ (by show 32 < FU; decide)
  rintro rec ⟨a4, a5, a6⟩ ⟨k1, k2, k3, k4⟩ hrec
  dsimp only at k1 k2 k3 k4 hrec ⊢
  subst k1
  refine Gives.dite (fun hlt => ?_) (fun hge => ?_)
  · obtain ⟨b0, b1⟩ := byte_of hs a5.toNat
    refine Gives.idx 0 k2 (by omega) ?_
    rw [Int.fdiv_eq_ediv_of_nonneg _ (by omega), low4 b0 b1]
    refine Gives.idx 0 (by omega) (by show _ < ((16 : Nat) : Int); omega) (Gives.idx 0 (by omega) (by show _ < ((16 : Nat) : Int); omega) ?_)
    have h6 : a6.length = 2 * a5.toNat := by rw [k4, txt_len, List.length_take]; omega
    refine Gives.pos (by omega) ?_
    rw [wrap64 (by omega) (by omega)]
    refine hrec _ ⟨rfl, by show (0 : Int) ≤ a5 + 1; omega, by show a5 + 1 ≤ 32; omega, ?_⟩ (by show (32 - (a5 + 1)).toNat < (32 - a5).toNat; omega)
    show _ = txt (a4.take (a5 + 1).toNat)
    rw [show (a5 + 1).toNat = a5.toNat + 1 from by omega, txt_snoc _ _ (by omega), ← k4]
    rfl
  · refine Gives.of_some ?_
    rw [k4, show a5.toNat = 32 from by omega, List.take_of_length_le (by omega)]
theorem cut1 (l : List Int) (d : Int) (k : Nat) (h : k < l.length) : (l.drop k).take (k + 1 - k) = [l.getD k d] := by
  rw [show k + 1 - k = 1 from by omega, List.drop_eq_getElem_cons h, List.take_succ_cons, List.take_zero, List.getD_eq_getElem?_getD, List.getElem?_eq_getElem h]
  rfl
theorem rText_gives {s : List Int} (hl : s.length = 32) (hs : ∀ x ∈ s, 0 ≤ x ∧ x ≤ 255) : Gives (rText FU s) (· = txt s) := by
  unfold rText
  refine Gives.pos hl.symm ?_
  refine Gives.loop (fun x => x.2.2 = s ∧ 0 ≤ x.2.1 ∧ x.2.1 ≤ 32 ∧ x.1 = txt (s.take x.2.1.toNat)) (fun x => (32 - x.2.1).toNat) ?_ _ _ ⟨rfl, by simp, by simp, rfl⟩ (by show 32 < FU; decide)
  rintro rec ⟨a4, a5, a6⟩ ⟨k1, k2, k3, k4⟩ hrec
  dsimp only at k1 k2 k3 k4 hrec ⊢
  subst k1
  refine Gives.dite (fun hlt => ?_) (fun hge => ?_)
  · obtain ⟨b0, b1⟩ := byte_of hs a5.toNat
    rw [Int.fdiv_eq_ediv_of_nonneg _ (by omega), low4 b0 b1]
    have w1 : ∀ v : Int, 0 ≤ v → v ≤ 15 → IntKind.wrap .u8 (v + 1) = v + 1 := fun v h0 h1 => by rw [wrap_u8]; omega
    rw [w1 _ (by omega) (by omega), w1 _ (by omega) (by omega)]
    have h4 : a4.length = 2 * a5.toNat := by rw [k4, txt_len, List.length_take]; omega
    have c1 : (DG.drop (a6.getD a5.toNat 0 / 16).toNat).take ((a6.getD a5.toNat 0 / 16 + 1).toNat - (a6.getD a5.toNat 0 / 16).toNat) = [DG.getD (a6.getD a5.toNat 0 / 16).toNat 0] := by
      rw [show (a6.getD a5.toNat 0 / 16 + 1).toNat = (a6.getD a5.toNat 0 / 16).toNat + 1 from by omega]
      exact cut1 _ _ _ (by show _ < 16; omega)
    have c2 : (DG.drop (a6.getD a5.toNat 0 % 16).toNat).take ((a6.getD a5.toNat 0 % 16 + 1).toNat - (a6.getD a5.toNat 0 % 16).toNat) = [DG.getD (a6.getD a5.toNat 0 % 16).toNat 0] := by
      rw [show (a6.getD a5.toNat 0 % 16 + 1).toNat = (a6.getD a5.toNat 0 % 16).toNat + 1 from by omega]
      exact cut1 _ _ _ (by show _ < 16; omega)
    rw [c1, c2]
    iterate 5 refine Gives.pos (by omega) ?_
    refine Gives.pos (by simp; omega) ?_
    iterate 5 refine Gives.pos (by omega) ?_
    refine Gives.pos (by simp; omega) ?_
    rw [wrap64 (by omega) (by omega)]
    refine hrec _ ⟨rfl, by show (0 : Int) ≤ a5 + 1; omega, by show a5 + 1 ≤ 32; omega, ?_⟩ (by show (32 - (a5 + 1)).toNat < (32 - a5).toNat; omega)
    show _ = txt (a6.take (a5 + 1).toNat)
    rw [show (a5 + 1).toNat = a5.toNat + 1 from by omega, txt_snoc _ _ (by omega), ← k4, List.append_assoc]
    rfl
  · refine Gives.of_some ?_
    rw [k4, show a5.toNat = 32 from by omega, List.take_of_length_le (by omega)]
theorem shaL_bytes (m : List Int) : ∀ x ∈ shaL m, 0 ≤ x ∧ x ≤ 255 := dig_bytes _
theorem hlen_eq (s b : List Int) (h l : Int) : hlen FU (s, b, h, l, ()) = some l := rfl
theorem shaSums_true (b cuts : List Int) (hb : b.length ≤ 140737488355000) : shaSums FU (b, cuts) = some true := by
  apply Gives.eq
  unfold shaSums
  dsimp only
  have hl := shaL_len b
  have htx := (text_gives hl (shaL_bytes b)).eq
  refine Gives.pos (by omega) (Gives.bind_eq (rSum_gives hb).eq (Gives.pos ⟨rfl, hl.symm⟩ ?_))
  refine Gives.bind_eq hnew_eq (Gives.bind_eq (sum_gives hb).eq (Gives.pos hl.symm (Gives.pos ⟨hl, hl⟩ ?_)))
  rw [if_neg (by simp)]
  refine Gives.pos hl.symm (Gives.bind_eq htx (Gives.pos hl.symm (Gives.bind_eq (rText_gives hl (shaL_bytes b)).eq ?_)))
  rw [if_neg (by simp)]
  dsimp only
  refine Gives.loop (fun x => x.1 = b ∧ x.2.1 = cuts ∧ x.2.2.1 = b ∧ 0 ≤ x.2.2.2.1 ∧ x.2.2.2.1 ≤ (b.length : Int) ∧ 0 ≤ x.2.2.2.2.1 ∧ x.2.2.2.2.1 ≤ 50 ∧ x.2.2.2.2.2.1 = shaL b ∧ Rep x.2.2.2.2.2.2.1 x.2.2.2.2.2.2.2.1 x.2.2.2.2.2.2.2.2.1 x.2.2.2.2.2.2.2.2.2 (b.take x.2.2.2.1.toNat)) (fun x => (50 - x.2.2.2.2.1).toNat) ?_ _ _ ⟨rfl, rfl, rfl, by simp, by simp, by simp, by simp, rfl, rep_new⟩ (by show 50 < FU; decide)
  rintro rec ⟨a10, a11, a12, at', i, a15, st, bl, hv, ln⟩ ⟨k1, k2, k3, k4, k5, k6, k7, k8, r⟩ hrec
  dsimp only at k1 k2 k3 k4 k5 k6 k7 k8 r hrec ⊢
  subst k1 k2 k3 k8
  have fin : Gives (if 0 ≤ at' ∧ at' ≤ (a12.length : Int) ∧ (a12.length : Int) ≤ (a12.length : Int) then
      (let u40 : List Int := ((a12.drop at'.toNat).take (((a12.length : Int)).toNat - at'.toNat))
      (Option.bind (hwrite FU (u40, (st, (bl, (hv, ln))))) fun r41 =>
      (Option.bind (hsum FU (r41.1, (r41.2.1, (r41.2.2.1, (r41.2.2.2, ()))))) fun r42 =>
      (if 32 = (shaL a12).length then
      (if List.length r42 = 32 ∧ List.length (shaL a12) = 32 then
      (if (r42 == shaL a12) = true then
      (Option.bind (hsum FU (r41.1, (r41.2.1, (r41.2.2.1, (r41.2.2.2, ()))))) fun r43 =>
      (if 32 = (shaL a12).length then
      (if List.length r43 = 32 ∧ List.length (shaL a12) = 32 then
      (if (r43 == shaL a12) = true then
      (Option.bind (hlen FU (r41.1, (r41.2.1, (r41.2.2.1, (r41.2.2.2, ()))))) fun r44 =>
      (if (r44 == (a12.length : Int)) = true then
      (if (a12 == a12) = true then
      (Option.bind (sure FU ()) fun r45 =>
      some r45)
      else
      some false)
      else
      some false))
      else
      some false)
      else none)
      else none))
      else
      some false)
      else none)
      else none)))) else none) (· = true) := by
    refine Gives.pos (by omega) ?_
    have e1 : (a12.drop at'.toNat).take (((a12.length : Int)).toNat - at'.toNat) = a12.drop at'.toNat := List.take_of_length_le (by rw [List.length_drop]; omega)
    rw [e1]
    refine Gives.bind (hwrite_gives r (a12.drop at'.toNat) (by rw [← List.length_append, List.take_append_drop]; omega)) ?_
    rintro ⟨s', b', h', l'⟩ r2
    dsimp only at r2 ⊢
    rw [List.take_append_drop] at r2
    refine Gives.bind_eq (hsum_gives r2 hb).eq (Gives.pos hl.symm (Gives.pos ⟨hl, hl⟩ ?_))
    rw [if_pos (by simp)]
    refine Gives.bind_eq (hsum_gives r2 hb).eq (Gives.pos hl.symm (Gives.pos ⟨hl, hl⟩ ?_))
    rw [if_pos (by simp)]
    refine Gives.bind_eq (hlen_eq _ _ _ _) (Gives.epos r2.len ?_)
    rw [if_pos (by simp)]
    exact Gives.bind_eq sure_eq (Gives.of_some rfl)
  by_cases hi : i < (a11.length : Int)
  · rw [if_pos (decide_eq_true hi)]
    refine Gives.bind_eq rfl ?_
    dsimp only
    by_cases h50 : i < 50
    · rw [if_pos (decide_eq_true h50)]
      refine Gives.idx 0 k6 hi ?_
      generalize hc : a11.getD i.toNat 0 = c
      rw [wrap64 (n := (a12.length : Int) - at') (by omega) (by omega)]
      obtain ⟨u0, u1⟩ := unit_ok c 100 (by omega) (by omega)
      generalize hu : IntKind.wrap .i64 (Int.tmod (IntKind.wrap .u64 c) 100) = u at *
      generalize hv2 : (if (a12.length : Int) - at' < u then (a12.length : Int) - at' else u) = v
      have hv0 : 0 ≤ v ∧ at' + v ≤ (a12.length : Int) := by rw [← hv2]; split <;> omega
      rw [wrap64 (n := at' + v) (by omega) (by omega)]
      refine Gives.pos (by omega) ?_
      refine Gives.bind (hwrite_gives r ((a12.drop at'.toNat).take ((at' + v).toNat - at'.toNat)) (by rw [List.length_take, List.length_take, List.length_drop]; omega)) ?_
      rintro ⟨s', b', h', l'⟩ r2
      dsimp only at r2 ⊢
      have e1 : a12.take at'.toNat ++ (a12.drop at'.toNat).take ((at' + v).toNat - at'.toNat) = a12.take (at' + v).toNat := by
        rw [← List.take_add]; congr 1; omega
      rw [e1] at r2
      refine Gives.bind_eq (hlen_eq _ _ _ _) ?_
      refine Gives.nneg (by rw [r2.len, List.length_take]; omega) ?_
      rw [wrap64 (n := i + 1) (by omega) (by omega)]
      exact hrec _ ⟨rfl, rfl, rfl, by show 0 ≤ at' + v; omega, by show at' + v ≤ (a12.length : Int); omega, by show (0 : Int) ≤ i + 1; omega, by show i + 1 ≤ 50; omega, rfl, r2⟩ (by show (50 - (i + 1)).toNat < (50 - i).toNat; omega)
    · rw [if_neg (by simpa using h50)]
      exact fin
  · rw [if_neg (by simpa using hi)]
    refine Gives.bind_eq rfl ?_
    dsimp only
    rw [if_neg (by simp)]
    exact fin
theorem shaCuts_true (a b c : List Int) (ha : a.length ≤ 140737488351232) (hb : b.length ≤ 140737488351232) (hc : c.length ≤ 140737488351232) : shaCuts FU (a, b, c) = some true := by
  apply Gives.eq
  unfold shaCuts
  dsimp only
  have hs : Gives (Option.bind (sure FU ()) fun r5 => some r5) (· = true) := Gives.bind_eq sure_eq (Gives.of_some rfl)
  refine Gives.bind_eq hnew_eq ?_
  dsimp only
  refine Gives.dite (fun _ => hs) (fun h1 => Gives.dite (fun _ => hs) (fun h2 => Gives.dite (fun _ => hs) (fun h3 => ?_)))
  iterate 7 refine Gives.pos (by omega) ?_
  refine Gives.bind (hwrite_gives rep_new a (by simp; omega)) ?_
  rintro ⟨s1, b1, v1, l1⟩ r1
  dsimp only at r1 ⊢
  rw [List.nil_append] at r1
  refine Gives.bind_eq (hsum_gives r1 (by omega)).eq (Gives.pos ⟨rfl, (shaL_len _).symm⟩ ?_)
  refine Gives.bind_eq (r := (s1, b1, v1, l1)) rfl ?_
  dsimp only
  refine Gives.bind (hwrite_gives r1 b (by omega)) ?_
  rintro ⟨s2, b2, v2, l2⟩ r2
  refine Gives.bind (hwrite_gives r1 c (by omega)) ?_
  rintro ⟨s3, b3, v3, l3⟩ r3
  dsimp only at r2 r3 ⊢
  have l2' : (a ++ b).length = a.length + b.length := List.length_append
  have l3' : (a ++ c).length = a.length + c.length := List.length_append
  refine Gives.pos (shaL_len _).symm (Gives.pos (by omega) (Gives.bind_eq (sum_gives (by omega)).eq (Gives.pos ⟨shaL_len _, shaL_len _⟩ ?_)))
  rw [if_pos (by simp)]
  refine Gives.bind_eq (hsum_gives r2 (by omega)).eq (Gives.bind_eq (sum_gives (by omega)).eq (Gives.pos ⟨shaL_len _, shaL_len _⟩ ?_))
  rw [if_pos (by simp)]
  refine Gives.bind_eq (hsum_gives r3 (by omega)).eq (Gives.bind_eq (sum_gives (by omega)).eq (Gives.pos ⟨shaL_len _, shaL_len _⟩ ?_))
  rw [if_pos (by simp)]
  refine Gives.bind_eq (hlen_eq _ _ _ _) (Gives.epos r2.len (Gives.bind_eq (hlen_eq _ _ _ _) (Gives.epos r3.len hs)))
end Go.Sx.YtankgmieldchdaaDoor
