/- Part of a proof by a small interpreter on plain values; no condition. -/
import Derived.Test.YtmbakmdgmccgiabDoorWk
/-! V06L: the law JsonBlanks. -/
namespace Go.Sx.YtmbakmdgmccgiabDoor
open Go Go.Sx Go.Sx.Js
set_option autoImplicit false
set_option linter.unusedVariables false
set_option linter.unusedSimpArgs false
def blT : List Int := [32, 9, 10, 13]
def blk (bs : List Int) (k : Nat) : Int := blT.getD ((Int.tmod (Int.tmod (bs.getD (k % bs.length) 0) 4 + 4) 4).toNat) 0
theorem blT_at {x : Int} : (0 ≤ Int.tmod (Int.tmod x 4 + 4) 4 ∧ Int.tmod (Int.tmod x 4 + 4) 4 < 4) ∧ (-4 < Int.tmod x 4 ∧ Int.tmod x 4 < 4) := by
  have h1 : -4 < Int.tmod x 4 ∧ Int.tmod x 4 < 4 := by
    rcases Int.le_total 0 x with h | h
    · rw [Int.tmod_eq_emod_of_nonneg h]; omega
    · have : Int.tmod x 4 = -(Int.tmod (-x) 4) := by rw [Int.neg_tmod]; omega
      rw [this, Int.tmod_eq_emod_of_nonneg (by omega)]; omega
  refine ⟨?_, h1⟩
  rw [Int.tmod_eq_emod_of_nonneg (by omega)]
  omega
theorem blT_in {j : Int} (h0 : 0 ≤ j) (h1 : j < 4) : idx blT j = some (blT.getD j.toNat 0) ∧ isBlank (blT.getD j.toNat 0) = true ∧ 0 ≤ blT.getD j.toNat 0 ∧ blT.getD j.toNat 0 ≤ 255 := by
  have : j = 0 ∨ j = 1 ∨ j = 2 ∨ j = 3 := by omega
  rcases this with rfl | rfl | rfl | rfl <;> decide
theorem blk_blank (bs : List Int) (k : Nat) : isBlank (blk bs k) = true := (blT_in (blT_at).1.1 (blT_at).1.2).2.1
theorem byt_app1 {a : List Int} {c : Int} (ha : Byt a) (hc : 0 ≤ c ∧ c ≤ 255) : Byt (a ++ [c]) := byt_app ha (byt_cons hc byt_nil)
theorem jsonBlanks_true (v : JV) (bs : List Int) (ho : JV.Ok v) (hb : JV.bulk v ≤ 1048576) (hbs : bs.length ≤ 1048576) : jsonBlanks 9223372036854776000 (v.kind, v.b, v.text, v.n, v.whole, v.list, v.names, bs) = some true := by
  have hlim : lim = 9223372036854775807 := rfl
  have hB := Bt_of v ho hb
  have hpl := pr_len v
  refine Gives.eq ?_
  unfold jsonBlanks
  simp only
  refine Gives.bind (small_go (by omega) v) fun r hr => ?_
  cases r with
  | false => exact Gives.pos rfl (Gives.bind_eq works_true (Gives.of_some rfl))
  | true =>
  have hd := hr rfl
  refine Gives.neg (by simp) ?_
  refine Gives.bind (jPrint_go (n := 9223372036854776000) (B := 1048576) (by omega) (by omega) hd hB (fun _ => by omega)) fun r hr => ?_
  subst hr
  unfold printed
  by_cases hv : valid v = 0
  case neg =>
    rw [if_neg hv]
    exact Gives.mpos hv (Gives.bind_eq works_true (Gives.of_some rfl))
  rw [if_pos hv]
  by_cases hs : 1048576 < (put v []).length
  · rw [if_pos hs]
    exact Gives.mpos (by simp) (Gives.bind_eq works_true (Gives.of_some rfl))
  rw [if_neg hs]
  have hsm := pr_small hs
  refine Gives.mneg rfl ?_
  refine Gives.dite (fun h => Gives.bind_eq works_true (Gives.of_some rfl)) fun h => ?_
  refine Gives.eite (fun h => Gives.bind_eq works_true (Gives.of_some rfl)) fun hbn => ?_
  have hps : (pr v).length ≤ 100000 := by dsimp only at h; omega
  have hbn : 0 < bs.length := by omega
  have hpb := pr_byt v hB
  dsimp only
  obtain ⟨w, k', hw1, hw2⟩ := spc_txt (bl := blk bs) (B := 1048576) (blk_blank bs) trivial v 0 [] (valid_well hv).1 hB
  rw [List.append_nil] at hw1
  have hw0 : spc (blk bs) false false 0 (pr v) = w := by rw [hw1]; simp [spc]
  generalize hS : pr v = s at *
  refine Gives.loop (fun z => ∃ (i k : Nat) (t e : Bool) (out : List Int), z = (bs, s, t, e, (k : Int), (i : Int), v.kind, v.b, v.text, v.n, v.whole, v.list, v.names, out) ∧ i ≤ s.length ∧ k ≤ i ∧ out.length ≤ 3 * i ∧ Byt out ∧ (e = true → t = true) ∧ out ++ spc (blk bs) t e k (s.drop i) = w) (fun z => s.length - z.2.2.2.2.2.1.toNat) (fun rec z hz hrec => ?_) _ _ ⟨0, 0, false, false, [], rfl, by omega, by omega, by simp, byt_nil, by simp, by simpa using hw0⟩ (by dsimp only; omega)
  obtain ⟨i, k, t, e, out, rfl, hi, hk, hol, hob, het, hO⟩ := hz
  dsimp only at hrec ⊢
  refine Gives.dite (fun hlt => ?_) fun hge => ?_
  · have hil : i < s.length := by omega
    have hdr : s.drop i = s[i] :: s.drop (i + 1) := List.drop_eq_getElem_cons hil
    have hcb := hpb _ (List.getElem_mem hil)
    rw [hdr] at hO
    have hw64 : IntKind.wrap .i64 ((i : Int) + 1) = ((i + 1 : Nat) : Int) := by rw [wrap64 (by omega) (by omega)]; rfl
    -- the state behind the byte
    refine Gives.bind (P := fun o => ∃ (k2 : Nat) (t2 e2 : Bool) (out2 : List Int), o = Out.go (bs, s, t2, e2, (k2 : Int), (i : Int), v.kind, v.b, v.text, v.n, v.whole, v.list, v.names, out2) ∧ k2 ≤ i + 1 ∧ out2.length ≤ 3 * (i + 1) ∧ Byt out2 ∧ (e2 = true → t2 = true) ∧ out2 ++ spc (blk bs) t2 e2 k2 (s.drop (i + 1)) = w) ?_ fun o ho => ?_
    · refine Gives.bind_eq (idx_get hil) ?_
      generalize s[i] = c at *
      refine Gives.bind_eq (r := Out.go (bs, s, t, e, (k : Int), (i : Int), c, (!t && struct c), v.kind, v.b, v.text, v.n, v.whole, v.list, v.names, out)) ?_ ?_
      · cases t with
        | true => rfl
        | false =>
          rw [if_pos (by rfl)]
          unfold struct
          cases h1 : (c == 91) <;> cases h2 : (c == 93) <;> cases h3 : (c == 123) <;> cases h4 : (c == 125) <;> cases h5 : (c == 44) <;> cases h6 : (c == 58) <;> rfl
      dsimp only
      rw [spc] at hO
      cases hf : (!t && struct c) with
      | true =>
        rw [if_pos hf] at hO
        obtain ⟨hf1, hsc⟩ := Bool.and_eq_true_iff.1 hf
        have ht : t = false := by cases t with
          | false => rfl
          | true => cases hf1
        subst ht
        have he : e = false := by cases e with
          | false => rfl
          | true => cases het rfl
        subst he
        have h34 : c ≠ 34 := by rintro rfl; cases hsc
        have hkm : Int.tmod (k : Int) (bs.length : Int) = ((k % bs.length : Nat) : Int) := by
          rw [Int.tmod_eq_emod_of_nonneg (by omega)]; rfl
        have hkl : k % bs.length < bs.length := Nat.mod_lt _ hbn
        have hx : bs.getD (k % bs.length) 0 = bs[k % bs.length] := by simp [hkl]
        obtain ⟨⟨x0, x1⟩, x2, x3⟩ := blT_at (x := bs.getD (k % bs.length) 0)
        obtain ⟨b1, b2, b3, b4⟩ := blT_in x0 x1
        refine Gives.bind_eq (r := Out.go (bs, s, false, false, ((k + 1 : Nat) : Int), (i : Int), c, true, v.kind, v.b, v.text, v.n, v.whole, v.list, v.names, out ++ [blk bs k])) ?_ ?_
        · rw [if_pos rfl, if_neg (by omega), hkm, idx_get hkl, ← hx]
          simp only [Option.bind_some]
          rw [wrap64 (by omega) (by omega)]
          have b1 : idx [32, 9, 10, 13] (Int.tmod (Int.tmod (bs.getD (k % bs.length) 0) 4 + 4) 4) = some (blk bs k) := b1
          rw [b1]
          simp only [Option.bind_some]
          rw [if_pos (by omega), wrap64 (by omega) (by omega)]
          rfl
        dsimp only
        refine Gives.pos (by simp; omega) ?_
        refine Gives.bind_eq (r := Out.go (bs, s, false, false, ((k + 1 : Nat) : Int), (i : Int), c, v.kind, v.b, v.text, v.n, v.whole, v.list, v.names, out ++ [blk bs k] ++ [c] ++ [32])) ?_ ?_
        · rw [if_pos rfl, if_pos (by simp; omega)]
        dsimp only
        refine Gives.neg (by simp) (Gives.neg (by simp) (Gives.eneg h34 (Gives.of_some ⟨k + 1, false, false, _, rfl, by omega, by simp; omega, byt_app1 (byt_app1 (byt_app1 hob ⟨b3, b4⟩) hcb) (by omega), by simp, ?_⟩)))
        rw [← hO]
        simp
      | false =>
        rw [if_neg (by rw [hf]; simp)] at hO
        refine Gives.bind_eq (r := Out.go (bs, s, t, e, (k : Int), (i : Int), c, false, v.kind, v.b, v.text, v.n, v.whole, v.list, v.names, out)) (by rw [if_neg (by simp)]) ?_
        dsimp only
        refine Gives.pos (by simp; omega) ?_
        refine Gives.bind_eq (r := Out.go (bs, s, t, e, (k : Int), (i : Int), c, v.kind, v.b, v.text, v.n, v.whole, v.list, v.names, out ++ [c])) (by rw [if_neg (by simp)]) ?_
        dsimp only
        have fin : ∀ (t2 e2 : Bool), (e2 = true → t2 = true) → spc (blk bs) (if e = true then t else if (t && c == 92) = true then t else if c = 34 then !t else t) (if e = true then false else t && c == 92) k (s.drop (i + 1)) = spc (blk bs) t2 e2 k (s.drop (i + 1)) →
            ∃ (k2 : Nat) (t3 e3 : Bool) (out2 : List Int), (Out.go (bs, s, t2, e2, (k : Int), (i : Int), v.kind, v.b, v.text, v.n, v.whole, v.list, v.names, out ++ [c]) : Out _ Bool) = Out.go (bs, s, t3, e3, (k2 : Int), (i : Int), v.kind, v.b, v.text, v.n, v.whole, v.list, v.names, out2) ∧ k2 ≤ i + 1 ∧ out2.length ≤ 3 * (i + 1) ∧ Byt out2 ∧ (e3 = true → t3 = true) ∧ out2 ++ spc (blk bs) t3 e3 k2 (s.drop (i + 1)) = w := by
          intro t2 e2 h1 h2
          refine ⟨k, t2, e2, out ++ [c], rfl, by omega, by simp; omega, byt_app1 hob hcb, h1, ?_⟩
          rw [← hO, ← h2]
          simp
        cases e with
        | true => exact Gives.pos rfl (Gives.of_some (fin t false (by simp) (by simp)))
        | false =>
          refine Gives.neg (by simp) ?_
          cases t with
          | true =>
            refine Gives.pos rfl ?_
            refine Gives.eite (fun h92 => ?_) fun h92 => ?_
            · exact Gives.of_some (fin true true (by simp) (by simp [h92]))
            · have hn : (c == 92) = false := by simpa using h92
              refine Gives.eite (fun h34 => ?_) fun h34 => ?_
              · exact Gives.of_some (fin false false (by simp) (by simp [h34]))
              · exact Gives.of_some (fin true false (by simp) (by simp [hn, h34]))
          | false =>
            refine Gives.neg (by simp) ?_
            refine Gives.eite (fun h34 => ?_) fun h34 => ?_
            · exact Gives.of_some (fin true false (by simp) (by simp [h34]))
            · exact Gives.of_some (fin false false (by simp) (by simp [h34]))
    · obtain ⟨k2, t2, e2, out2, rfl, g1, g2, g3, g4, g5⟩ := ho
      dsimp only
      rw [hw64]
      exact hrec _ ⟨i + 1, k2, t2, e2, out2, rfl, by omega, g1, g2, g3, g4, g5⟩ (by dsimp only; omega)
  · obtain rfl : i = s.length := by omega
    rw [List.drop_length, show spc (blk bs) t e k [] = [] by rw [spc], List.append_nil] at hO
    subst hO
    refine Gives.bind (parse_go (s := out) hob (by omega)) fun q hq => ?_
    rw [parse_txt hv hB hw2 (by omega)] at hq
    obtain ⟨q1, q2, q3, q4, q5, q6, q7, q8, q9⟩ := q
    unfold JP.val at hq
    simp only [Prod.mk.injEq] at hq
    obtain ⟨hq1, hq2, hq3⟩ := hq
    subst hq1 hq2 hq3
    refine Gives.epos rfl ?_
    refine Gives.bind (jSame_go (n := 9223372036854776000) (by omega) 200 (JV.mk q1 q2 q3 q4 q5 q6 q7) (JV.mk q1 q2 q3 q4 q5 q6 q7) hd (Ok_sm _ ho) 9223372036854776000 (by omega)) fun r3 h3 => ?_
    exact Gives.pos (h3.2 rfl) (Gives.bind_eq works_true (Gives.of_some rfl))
end Go.Sx.YtmbakmdgmccgiabDoor
namespace Go.Sx.YtmbakmdgmccgiabDoor
open Go Go.Sx
set_option autoImplicit false
theorem ints_len : ∀ (l : List Int), (List.map (K.bulk (.int .i64)) l).sum = l.length
  | [] => rfl
  | x :: r => by
    have := ints_len r
    have e : K.bulk (.int .i64) x = 1 := rfl
    simp only [List.map_cons, List.sum_cons, List.length_cons]
    omega
theorem jsonBlanks_f (v : JV) (bs : List Int) (ho : JV.Ok v) (hb : K.bulk .js v + (K.bulk (.list (.int .i64)) bs + 0) ≤ 1048576) : jsonBlanks 9223372036854776000 (v.kind, v.b, v.text, v.n, v.whole, v.list, v.names, bs) = some true := by
  have e1 : K.bulk (.list (.int .i64)) bs = (List.map (K.bulk (.int .i64)) bs).sum + 1 := rfl
  have e2 := ints_len bs
  have e3 : K.bulk .js v = JV.bulk v := rfl
  exact jsonBlanks_true v bs ho (by omega) (by omega)
end Go.Sx.YtmbakmdgmccgiabDoor
