/- Part of a proof by a small interpreter on plain values; no condition. -/
import Derived.Test.YtbiipgbejlfkbaaDoorWd
namespace Go.Sx.YtbiipgbejlfkbaaDoor
open Go Go.Sx Go.Proofs
set_option autoImplicit false
set_option linter.unusedVariables false
set_option linter.unusedSimpArgs false
theorem validRune_t (n : Nat) (c : Int) : Gives (validRune n c) (fun _ => True) := by
  unfold validRune
  repeat' first | exact Gives.of_some trivial | (refine Gives.dite (fun _ => ?_) (fun _ => ?_))
theorem runeLoop (m : Nat) : (loopF (X := (List Int) × Int) (A := Int) (fun rec8 y9 => match y9 with
  | (a10, a11) =>
  (if a11.toNat < List.length a10 then
  (let u12 : Int := (((u8d a10 a11.toNat).1 : Nat) : Int)
  (if (u12 == (65533 : Int)) = true then
  some ((a11.toNat : Nat) : Int)
  else
  rec8 (a10, (((a11.toNat + (u8d a10 a11.toNat).2) : Nat) : Int))))
  else
  some (-1 : Int))) (m + 3) ([47, 63], (0 : Int))) = some (-1) := rfl
theorem indexRune_v (n : Nat) {c : Int} (h : 0 ≤ c ∧ c ≤ 1114111) (hn : 3 ≤ n) : indexRune n ([47, 63], c) = some (if c < 128 then ixb [47, 63] c else -1) := by
  refine Gives.eq ?_
  unfold indexRune
  dsimp only
  refine Gives.bind_eq (r := Out.go ([47, 63], (c, decide (c < 128)))) (by rw [if_pos (by simpa using h.1)]) ?_
  dsimp only
  by_cases h128 : c < 128
  · rw [if_pos (by simpa using h128), if_pos h128]
    refine Gives.bind_eq (show stringsIndexByte n ([47, 63], IntKind.wrap .u8 c) = some (ixb [47, 63] c) from ?_) (Gives.of_some rfl)
    rw [show IntKind.wrap .u8 c = c by rw [wrap_u8]; omega]; rfl
  · rw [if_neg (by simpa using h128), if_neg h128]
    refine Gives.eite (fun hre => ?_) (fun hre => ?_)
    · obtain ⟨m, rfl⟩ : ∃ m, n = m + 3 := ⟨n - 3, by omega⟩
      exact Gives.of_eq (runeLoop m) rfl
    · refine Gives.bind (validRune_t n c) (fun v _ => ?_)
      refine Gives.ite (fun _ => Gives.of_some rfl) (fun _ => ?_)
      have hl := encode_len c (by omega)
      have hb := encode_bytes c (by omega)
      generalize bytesL (Utf8.encode c) = e at hl hb
      have hw : IntKind.wrap .i64 ((e.length : Int) - 1) = ((e.length - 1 : Nat) : Int) := by rw [wrap64 (by omega) (by omega)]; omega
      rw [hw]
      obtain ⟨m, rfl⟩ : ∃ m, n = m + 1 := ⟨n - 1, by omega⟩
      show Gives (if (decide (((e.length - 1 : Nat) : Int) < (([47, 63] : List Int).length : Int))) = true then _ else _) _
      refine Gives.dite (fun hlt => ?_) (fun _ => Gives.of_some rfl)
      have h2 : e.length = 2 := by
        have : ((([47, 63] : List Int).length : Nat) : Int) = 2 := rfl
        omega
      have he : e.length - 1 = 1 := by omega
      rw [he]
      refine Gives.bind_eq (r := (63 : Int)) rfl ?_
      have hm : e.getD 1 0 ∈ e := getD_mem (by omega)
      have hx : idx e ((1 : Nat) : Int) = some (e.getD 1 0) := idx_eq 0 (by omega) (by omega)
      refine Gives.bind_eq hx ?_
      have h63 : (63 : Int) ≠ e.getD 1 0 := fun e1 => by have := hb _ hm; omega
      refine Gives.npos h63 ?_
      dsimp only
      have hw2 : IntKind.wrap .i64 (((1 : Nat) : Int) + 1) = 2 := by rw [wrap64 (by omega) (by omega)]; rfl
      rw [hw2]
      refine Gives.pos (by simp) ?_
      refine Gives.bind_eq hx ?_
      refine Gives.bind_eq (show stringsIndexByte (m + 1) (_, e.getD 1 0) = some (-1) from rfl) ?_
      exact Gives.dpos (by decide) (Gives.of_some rfl)
def SET : List Bool := ((List.replicate 256 false).set 47 true).set 63 true
theorem set_v (m : Nat) : makeASCIISet (m + 3) [47, 63] = some (SET, true) := by kernel_rfl
theorem SET_len : SET.length = 256 := by kernel_rfl
theorem setHas_v (n : Nat) {c : Int} (h : 0 ≤ c ∧ c ≤ 255) : setHas n (c, SET) = some (SET.getD c.toNat false, SET) := by
  have hl := SET_len
  unfold setHas
  dsimp only
  rw [if_pos (by rw [hl]), if_pos (by rw [hl]; omega)]
theorem indexAny_t (n : Nat) {s : List Int} (h : TX s) (hn : 3000000 < n) : Gives (indexAny n (s, [47, 63])) (fun r => -1 ≤ r ∧ r < (s.length : Int)) := by
  have hl := h.2
  unfold indexAny
  dsimp only
  refine Gives.neg (by decide) ?_
  refine Gives.eneg (by decide) ?_
  refine Gives.bind_eq (show shouldUseASCIISet n (s.length : Int) = some (decide ((s.length : Int) > 8)) from rfl) ?_
  refine Gives.dite (fun h8 => ?_) (fun h8 => ?_)
  · obtain ⟨m, hm⟩ : ∃ m, n = m + 3 := ⟨n - 3, by omega⟩
    refine Gives.bind_eq (by rw [hm]; exact set_v m) ?_
    refine Gives.pos ⟨rfl, SET_len.symm⟩ ?_
    refine Gives.pos rfl ?_
    refine Gives.loop (I := fun z => z.1 = s ∧ z.2.2 = SET ∧ ∃ i : Nat, z.2.1 = (i : Int) ∧ i ≤ s.length) (μ := fun z => s.length - z.2.1.toNat) ?_ n _ ⟨rfl, rfl, 0, rfl, by omega⟩ (by simp; omega)
    rintro rec ⟨a10, a11, a12⟩ ⟨e1, e2, i, e3, e4⟩ hrec
    dsimp only at e1 e2 e3 hrec ⊢
    subst e1 e2 e3
    refine Gives.dite (fun hlt => ?_) (fun hge => Gives.of_some (by omega))
    have hi : i < a10.length := by omega
    refine Gives.idx 0 (by omega) hlt ?_
    rw [Int.toNat_natCast, setHas_v n (h.1.at hi), Option.bind_some]
    refine Gives.ite (fun _ => Gives.of_some (by omega)) (fun _ => ?_)
    dsimp only
    rw [wrap64 (by omega) (by omega)]
    exact hrec _ ⟨rfl, rfl, i + 1, by simp, by omega⟩ (by dsimp only; omega)
  · refine Gives.loop (I := fun z => z.1 = [47, 63] ∧ z.2.1 = s ∧ ∃ i : Nat, z.2.2 = (i : Int)) (μ := fun z => s.length - z.2.2.toNat) ?_ n _ ⟨rfl, rfl, 0, rfl⟩ (by simp; omega)
    rintro rec ⟨a25, a26, a27⟩ ⟨e1, e2, i, e3⟩ hrec
    dsimp only at e1 e2 e3 hrec ⊢
    subst e1 e2 e3
    have hsp := u8d_spec a26 i
    rw [Int.toNat_natCast]
    refine Gives.ite (fun hlt => ?_) (fun _ => Gives.of_some (by omega))
    rw [indexRune_v n (by omega) (by omega), Option.bind_some]
    refine Gives.dite (fun _ => Gives.of_some (by omega)) (fun _ => ?_)
    exact hrec _ ⟨rfl, rfl, i + (u8d a26 i).2, rfl⟩ (by dsimp only; omega)
theorem isHost_t (n : Nat) {s : List Int} (h : TX s) (hn : 3000000 < n) : Gives (isHost n s) (fun _ => True) := by
  have hl := h.2
  unfold isHost
  refine Gives.loop (I := fun z => z.1 = s ∧ z.2.1 = (s.length : Int) ∧ ∃ i : Nat, z.2.2 = (i : Int) ∧ i ≤ s.length) (μ := fun z => s.length - z.2.2.toNat) ?_ n _ ⟨rfl, rfl, 0, rfl, by omega⟩ (by simp; omega)
  rintro rec ⟨a4, a5, a6⟩ ⟨e1, e2, i, e3, e4⟩ hrec
  dsimp only at e1 e2 e3 hrec ⊢
  subst e1 e2 e3
  refine Gives.dite (fun hlt => ?_) (fun hge => Gives.dite (fun _ => Gives.of_some trivial) (fun _ => Gives.of_some trivial))
  have hi : i < a4.length := by omega
  have hb := h.1.at hi
  have step1 : Gives (rec (a4, ((a4.length : Int), IntKind.wrap .i64 ((i : Int) + 1)))) (fun _ => True) := by
    rw [wrap64 (by omega) (by omega)]
    exact hrec _ ⟨rfl, rfl, i + 1, by simp, by omega⟩ (by dsimp only; omega)
  refine Gives.idx 0 (by omega) hlt ?_
  rw [Int.toNat_natCast, letter_v n hb, Option.bind_some]
  refine Gives.ite (fun _ => ?_) (fun _ => step1)
  refine Gives.idx 0 (by omega) hlt ?_
  rw [Int.toNat_natCast, digit_v, Option.bind_some]
  refine Gives.ite (fun _ => ?_) (fun _ => step1)
  refine Gives.idx 0 (by omega) hlt ?_
  refine Gives.bind_eq (show stringsIndexByte n (_, _) = some (ixb _ _) from rfl) ?_
  exact Gives.dite (fun _ => Gives.of_some trivial) (fun _ => step1)
theorem mapGo_len (f : Int → Int) : ∀ (m : Nat) (l : List UInt8), (Lib.mapGoD f m l).length ≤ 4 * m
  | 0, l => by simp [Lib.mapGoD]
  | m + 1, l => by
    unfold Lib.mapGoD
    split
    · simp
    · rw [List.length_append]
      have ih := mapGo_len f m (l.drop (Lib.decodeL l).2)
      split
      · have := (Lib.encodeRuneZ_length (f (Lib.decodeL l).1)).2
        simp only [Lib.encodeRune, List.length_map]
        omega
      · simp; omega
theorem strToLower_v (n : Nat) {s : List Int} (h : s.length ≤ 2000000) : strToLower n s = some (toLowerL s) := by
  unfold strToLower lowRun
  have hl : (toLowerL s).length ≤ 4 * s.length := by
    unfold toLowerL i8s Lib.toLowerD Lib.mapD
    rw [List.length_map]
    have := mapGo_len Lib.toLowerU (u8s s).length (u8s s)
    have e : (u8s s).length = s.length := by simp [u8s]
    rw [e] at this ⊢; exact this
  rw [if_pos ⟨by omega, by omega⟩]
theorem toLowerL_BL (s : List Int) : BL (toLowerL s) := fun c hc => by
  unfold toLowerL i8s at hc
  obtain ⟨b, _, rfl⟩ := List.mem_map.1 hc
  have := b.toNat_lt
  omega
theorem parse_t (n : Nat) {s : List Int} (h : TX s) (hn : 300000000 < n) : Gives (parse n s) (fun _ => True) := by
  have hl := h.2
  unfold parse
  refine Gives.dite (fun _ => Gives.of_some trivial) (fun _ => ?_)
  refine Gives.bind (P := fun o => match o with | .go z => TX z.1 | .ret _ => True) ?_ ?_
  · refine Gives.ite (fun _ => Gives.of_some trivial) (fun _ => ?_)
    refine Gives.bind (P := fun o => match o with | .go z => z.1 = s ∧ z.2.1 = s ∧ (z.2.2.1 = true → 7 ≤ s.length) | .ret r => (match r with | .go z => TX z.1 | .ret _ => True)) ?_ ?_
    · refine Gives.dite (fun h7 => ?_) (fun _ => Gives.of_some ⟨rfl, rfl, fun e => by cases e⟩)
      refine Gives.pos (by omega) ?_
      have ht : (s.drop 0).take (7 - 0) = s.take 7 := by simp
      rw [ht, strToLower_v n (by simp; omega), Option.bind_some]
      exact Gives.of_some ⟨rfl, rfl, fun _ => by omega⟩
    · rintro o ho
      match o, ho with
      | .ret r, hr => exact Gives.of_some hr
      | .go (z4, (z5, (z6, (z7, (z8, (z9, (z10, (z11, (z12, (z13, (z14, (z15, z16)))))))))))), ⟨g1, g2, g3⟩ =>
        dsimp only at g1 g2 g3 ⊢
        subst g1 g2
        refine Gives.ite (fun h6 => ?_) (fun _ => Gives.of_some h)
        have h7 := g3 h6
        refine Gives.pos (by omega) ?_
        have ht : (z5.drop 7).take (((z5.length : Int)).toNat - 7) = z5.drop 7 := List.take_of_length_le (by simp)
        rw [ht]
        have t7 := h.drop 7
        revert t7
        generalize z5.drop 7 = y
        intro t7
        have hy := t7.2
        refine Gives.bind (indexAny_t n t7 (by omega)) (fun r hr => ?_)
        refine Gives.bind (P := fun o => match o with | .go z => z.1 = y ∧ 0 ≤ z.2.1 ∧ z.2.1 ≤ (y.length : Int) | .ret r => (match r with | .go z => TX z.1 | .ret _ => True)) ?_ ?_
        · refine Gives.dite (fun _ => Gives.of_some ⟨rfl, by dsimp only; omega, by dsimp only; omega⟩) (fun h0 => Gives.of_some ⟨rfl, by dsimp only; omega, by dsimp only; omega⟩)
        · rintro o ho
          match o, ho with
          | .ret r, hr => exact Gives.of_some hr
          | .go (z20, (z21, (z22, (z23, (z24, (z25, (z26, (z27, (z28, (z29, (z30, z31))))))))))), ⟨k1, k2, k3⟩ =>
            dsimp only at k1 k2 k3 ⊢
            subst k1
            refine Gives.pos (by omega) ?_
            refine Gives.pos (by omega) ?_
            have tt : TX ((z20.drop 0).take (z21.toNat - 0)) := (t7.drop 0).take _
            refine Gives.bind (isHost_t n tt (by omega)) (fun rr _ => ?_)
            refine Gives.ite (fun _ => Gives.of_some trivial) (fun _ => ?_)
            rw [strToLower_v n tt.2, Option.bind_some]
            exact Gives.of_some ((t7.drop _).take _)
  · rintro o ho
    match o, ho with
    | .ret _, _ => exact Gives.of_some trivial
    | .go (z38, (z39, (z40, (z41, (z42, (z43, (z44, (z45, (z46, (z47, z48)))))))))), g1 =>
      have t38 : TX z38 := g1
      dsimp only
      have l38 := t38.2
      rw [cut_f n z38 63 (by omega), Option.bind_some]
      have hc : ∀ r : List Int × List Int × Bool, r = (if ixb z38 63 = -1 then (z38, ([], false)) else (z38.take (ixb z38 63).toNat, (z38.drop ((ixb z38 63).toNat + 1), true))) → TX r.1 ∧ TX r.2.1 := fun r hr => by
        rw [hr]; split
        · exact ⟨t38, by simp [TX, BL]⟩
        · exact ⟨t38.take _, t38.drop _⟩
      generalize hR : (if ixb z38 63 = -1 then (z38, ([], false)) else (z38.take (ixb z38 63).toNat, (z38.drop ((ixb z38 63).toNat + 1), true))) = r at hc
      obtain ⟨c1, c2⟩ := hc r rfl
      refine Gives.bind (P := fun o => match o with | .go z => TX z.2.2.2.2.2.2.2.1 ∧ TX z.2.2.2.2.2.2.2.2.1 | .ret _ => True) ?_ ?_
      · refine Gives.ite (fun _ => ?_) (fun _ => Gives.of_some ⟨c1, c2⟩)
        refine Gives.ite (fun _ => Gives.of_some ⟨⟨fun c hc => by rw [List.mem_singleton.1 hc]; omega, by simp⟩, c2⟩) (fun _ => Gives.of_some ⟨c1, c2⟩)
      · rintro o ho
        match o, ho with
        | .ret _, _ => exact Gives.of_some trivial
        | .go (z51, (z52, (z53, (z54, (z55, (z56, (z57, (z58, (z59, z60))))))))), ⟨g1, g2⟩ =>
          dsimp only at g1 g2 ⊢
          refine Gives.bind (isPath_t n g1 (by omega)) (fun r1 _ => ?_)
          refine Gives.ite (fun _ => Gives.of_some trivial) (fun _ => ?_)
          unfold isQuery
          refine Gives.bind (Gives.bind (made_t n z59 _ _ g2 (by omega)) (fun q _ => Gives.of_some trivial)) (fun r2 _ => ?_)
          exact Gives.ite (fun _ => Gives.of_some trivial) (fun _ => Gives.of_some trivial)
/-- a rule, whether it can be: an answer there is. -/
theorem isPathH_t (n : Nat) {s : List Int} (h : TX s) (e : Int) (hn : 300000000 < n) : Gives (isPath n (s, e)) (fun _ => True) := by
  unfold isPath
  dsimp only
  refine Gives.ite (fun _ => Gives.of_some trivial) (fun _ => ?_)
  refine Gives.bind (parse_t n h hn) (fun r _ => ?_)
  refine Gives.ite (fun _ => ?_) (fun _ => Gives.of_some trivial)
  exact Gives.ite (fun _ => Gives.of_some trivial) (fun _ => Gives.of_some trivial)
end Go.Sx.YtbiipgbejlfkbaaDoor
