/- Part of a proof by a small interpreter on plain values; no condition. -/
import Derived.Test.YtbiipgbejlfkbaaDoorWf
namespace Go.Sx.YtbiipgbejlfkbaaDoor
open Go Go.Sx Go.Proofs
set_option autoImplicit false
set_option linter.unusedVariables false
set_option linter.unusedSimpArgs false
theorem healthRuns_f {x1 : List Int} {x2 x3 x4 x5 : Int} {x6 : List Bool} {x7 : List Int} (h : TX x1) : healthRuns FU (x1, (x2, (x3, (x4, (x5, (x6, x7)))))) = some true := by
  refine Gives.eq ?_
  have fin : Gives (Option.bind (works FU ()) fun r9 => some r9) (· = true) := Gives.bind_eq works_v (Gives.of_some rfl)
  obtain ⟨v, hv, h0, hR⟩ := valid_t (x2 := x2) (x3 := x3) (x4 := x4) (x5 := x5) h
  unfold healthRuns
  dsimp only
  by_cases h2 : x2 = 0
  · subst h2
    obtain ⟨r, hr, hz⟩ := new_idle (x1 := x1) (x3 := x3) (x4 := x4) (x5 := x5) (now := 0)
    refine Gives.bind_eq hr ?_
    refine Gives.mite (fun h1 => ?_) (fun h1 => ?_)
    · refine Gives.eneg h1 ?_
      rw [hz h1]
      exact Gives.pos rfl fin
    · refine Gives.epos rfl ?_
      exact Gives.epos h1 fin
  by_cases hv0 : v = 0
  · subst hv0
    obtain ⟨r1, r2, r3, r4⟩ := hR rfl h2
    have hr : Rule x1 x2 x3 x4 x5 := ⟨hv, r1, r2, r3, r4⟩
    have hnew := new_v (now := 0) hr
    rw [if_pos (by decide)] at hnew
    refine Gives.bind_eq hnew ?_
    refine Gives.mneg rfl ?_
    refine Gives.eneg h2 ?_
    refine Gives.dite (fun _ => Gives.epos rfl fin) (fun h20 => ?_)
    refine Gives.loop (I := fun z => z.1 = x6 ∧ z.2.1 = x7 ∧ z.2.2.2.2.2.2.2.1 = x1 ∧ z.2.2.2.2.2.2.2.2.1 = x2 ∧ z.2.2.2.2.2.2.2.2.2.1 = x3 ∧ z.2.2.2.2.2.2.2.2.2.2.1 = x4 ∧ z.2.2.2.2.2.2.2.2.2.2.2.1 = x5 ∧
        ∃ (i : Nat) (up : Bool) (row last now N : Int), z.2.2.1 = up ∧ z.2.2.2.1 = row ∧ z.2.2.2.2.1 = last ∧ z.2.2.2.2.2.1 = now ∧ z.2.2.2.2.2.2.1 = (i : Int) ∧ z.2.2.2.2.2.2.2.2.2.2.2.2 = (up, (row, (N, -1))) ∧
          i ≤ x6.length ∧ i ≤ 200 ∧ (0 ≤ row ∧ row < (if up = true then x5 else x4)) ∧ now ≤ N ∧ 0 ≤ N ∧ N ≤ i * 1048584 ∧ (last = -1 ∨ (0 ≤ last ∧ last + x2 ≤ N)))
      (μ := fun z => 200 - z.2.2.2.2.2.2.1.toNat) ?_ FU _ ⟨rfl, rfl, rfl, rfl, rfl, rfl, rfl, 0, true, 0, -1, 0, 0, rfl, rfl, rfl, rfl, rfl, rfl, by omega, by omega, ⟨by omega, by simp; omega⟩, by omega, by omega, by omega, .inl rfl⟩ (by simp; decide)
    rintro rec ⟨a17, a18, a19, a20, a21, a22, a23, a24, a25, a26, a27, a28, a29, a30, a31, a32⟩ ⟨e1, e2, e3, e4, e5, e6, e7, i, up, row, last, now, N, f1, f2, f3, f4, f5, f6, f7, f8, f9, f10, f11, f12, f13⟩ hrec
    dsimp only at e1 e2 e3 e4 e5 e6 e7 f1 f2 f3 f4 f5 f6 hrec ⊢
    injection f6 with g1 g2
    injection g2 with g2 g3
    injection g3 with g3 g4
    subst e1 e2 e3 e4 e5 e6 e7
    obtain rfl := f1.symm
    obtain rfl := f2.symm
    obtain rfl := f3.symm
    obtain rfl := f4.symm
    subst f5
    obtain rfl := g1.symm
    obtain rfl := g2.symm
    obtain rfl := g3.symm
    subst g4
    refine Gives.dite (fun hlt => ?_) (fun _ => fin)
    refine Gives.dite (fun h200 => ?_) (fun _ => fin)
    refine Gives.bind (P := fun o => ∃ k : Int, 0 ≤ k ∧ k ≤ 8 ∧ o = Out.go (a17, (a18, (up, (row, (last, (now, ((i : Int), (k, (a24, (a25, (a26, (a27, (a28, (up, (row, (N, (-1 : Int)))))))))))))))))) ?_ ?_
    · refine Gives.dite (fun hw => ?_) (fun _ => Gives.of_some ⟨0, by omega, by omega, rfl⟩)
      refine Gives.idx 0 (by omega) hw ?_
      have hk := ticks_v (a18.getD (i : Int).toNat 0) 9 (by decide) (by decide)
      exact Gives.of_some ⟨_, hk.1, by omega, rfl⟩
    rintro _ ⟨k, hk0, hk8, rfl⟩
    dsimp only
    have hmax : (if N > now then N else now) = N := by split <;> omega
    rw [hmax, wrap64 (n := N + k) (by omega) (by omega)]
    have c1 : canP up row N (-1) a27 a28 (N + k) := ⟨by omega, ⟨f9.1, by have := f9.2; omega⟩, by omega, by omega⟩
    rw [due_v hr c1, Option.bind_some, send_v hr c1 ⟨by omega, by omega⟩, Option.bind_some]
    have c2 : canP up row (N + k + a25) (N + k) a27 a28 (N + k) := ⟨by omega, ⟨f9.1, by have := f9.2; omega⟩, by omega, by omega⟩
    dsimp only
    rw [due_v hr c2, Option.bind_some, send_no hr c2 (by omega), Option.bind_some]
    rw [decide_eq_true (show (-1 : Int) < 0 ∧ N + k ≥ N by omega), decide_eq_false (show ¬ (N + k < 0 ∧ N + k ≥ N + k + a25) by omega)]
    refine Gives.bind (P := fun o => o = Out.go (a17, (a18, (up, (row, (N + k, ((i : Int), (false, (a24, (a25, (a26, (a27, (a28, (up, (row, (N, ((-1 : Int), (up, (row, (N + k + a25, N + k)))))))))))))))))))) ?_ ?_
    · refine Gives.neg (by decide) ?_
      refine Gives.mneg rfl ?_
      refine Gives.mneg rfl ?_
      refine Gives.neg (by decide) ?_
      refine Gives.mneg rfl ?_
      refine Gives.bind_eq (num_v FU _) ?_
      refine Gives.nneg rfl ?_
      have hs : (!(up == up)) = false := by simp
      refine Gives.dite (fun hl => ?_) (fun hl => ?_)
      · rcases f13 with f13 | f13
        · omega
        rw [wrap64 (by omega) (by omega)]
        refine Gives.dneg (by omega) ?_
        rw [hs]; exact Gives.of_some rfl
      · rw [hs]; exact Gives.of_some rfl
    rintro _ rfl
    dsimp only
    refine Gives.neg (by decide) ?_
    have hi : i < a17.length := by omega
    refine Gives.idx false (by omega) hlt ?_
    rw [Int.toNat_natCast]
    have hsv := said_v hr c2 (by omega) (a17.getD i false)
    refine Gives.bind_eq hsv ?_
    generalize hg : a17.getD i false = good
    have hw1 : IntKind.wrap .i64 ((i : Int) + 1) = ((i + 1 : Nat) : Int) := by rw [wrap64 (by omega) (by omega)]; omega
    have hwr : IntKind.wrap .i64 (row + 1) = row + 1 := by
      have := f9.2
      have r3 := hr.r; have r4 := hr.f
      rw [wrap64 (by omega) (by split at this <;> omega)]
    have hN : (N + k + a25) ≤ ((i + 1 : Nat) : Int) * 1048584 := by omega
    have nx : ∀ (u : Bool) (rw_ : Int), (0 ≤ rw_ ∧ rw_ < (if u = true then a28 else a27)) → Gives (rec (a17, (a18, (u, (rw_, (N + k, (N + k, (((i + 1 : Nat) : Int), (a24, (a25, (a26, (a27, (a28, (u, (rw_, (N + k + a25, (-1 : Int))))))))))))))))) (· = true) := fun u rw_ hrw =>
      hrec _ ⟨rfl, rfl, rfl, rfl, rfl, rfl, rfl, i + 1, u, rw_, N + k, N + k, N + k + a25, rfl, rfl, rfl, rfl, rfl, rfl, by omega, by omega, hrw, by omega, by omega, hN, .inr ⟨by omega, by omega⟩⟩ (by dsimp only; omega)
    by_cases hgu : good = up
    · rw [if_pos hgu]
      refine Gives.mneg rfl ?_
      refine Gives.bind (P := fun o => o = Out.go (a17, (a18, (up, ((0 : Int), (N + k, (N + k, ((i : Int), (a24, (a25, (a26, (a27, (a28, (up, (row, (N, ((-1 : Int), (up, ((0 : Int), (N + k + a25, (-1 : Int))))))))))))))))))))) ?_ ?_
      · refine Gives.idx false (by omega) hlt ?_
        rw [Int.toNat_natCast, hg, hgu]
        exact Gives.pos (by simp) (Gives.of_some rfl)
      rintro _ rfl
      dsimp only
      refine Gives.bind (P := fun o => o = Out.go (a17, (a18, (up, ((0 : Int), (N + k, (N + k, ((i : Int), (false, (a24, (a25, (a26, (a27, (a28, (up, (row, (N, ((-1 : Int), (up, ((0 : Int), (N + k + a25, (-1 : Int)))))))))))))))))))))) ?_ ?_
      · have r3 := hr.r; have r4 := hr.f
        have z4 : ((0 : Int) == a27) = false := by rw [beq_eq_false_iff_ne]; omega
        have z5 : ((0 : Int) == a28) = false := by rw [beq_eq_false_iff_ne]; omega
        rw [z4, z5]
        cases up <;> exact Gives.of_some rfl
      rintro _ rfl
      dsimp only
      refine Gives.neg (by decide) ?_
      refine Gives.neg (by simp) ?_
      rw [hw1]
      exact nx up 0 ⟨by omega, by have r3 := hr.r; have r4 := hr.f; split <;> omega⟩
    · rw [if_neg hgu]
      by_cases hm : row + 1 = (if up = true then a28 else a27)
      · rw [if_pos hm]
        refine Gives.mneg rfl ?_
        refine Gives.bind (P := fun o => o = Out.go (a17, (a18, (up, (row + 1, (N + k, (N + k, ((i : Int), (a24, (a25, (a26, (a27, (a28, (up, (row, (N, ((-1 : Int), ((!up), ((0 : Int), (N + k + a25, (-1 : Int))))))))))))))))))))) ?_ ?_
        · refine Gives.idx false (by omega) hlt ?_
          rw [Int.toNat_natCast, hg]
          refine Gives.neg (by simpa using hgu) ?_
          rw [hwr]; exact Gives.of_some rfl
        rintro _ rfl
        dsimp only
        refine Gives.bind (P := fun o => o = Out.go (a17, (a18, (up, (row + 1, (N + k, (N + k, ((i : Int), (true, (a24, (a25, (a26, (a27, (a28, (up, (row, (N, ((-1 : Int), ((!up), ((0 : Int), (N + k + a25, (-1 : Int)))))))))))))))))))))) ?_ ?_
        · cases up with
          | true =>
            refine Gives.pos rfl ?_
            refine Gives.epos (by simpa using hm) (Gives.of_some rfl)
          | false =>
            refine Gives.neg (by decide) ?_
            refine Gives.pos rfl ?_
            have : (row + 1 == a27) = true := by simpa using hm
            rw [this]; exact Gives.of_some rfl
        rintro _ rfl
        dsimp only
        refine Gives.pos rfl ?_
        refine Gives.neg (by simp) ?_
        rw [hw1]
        exact nx (!up) 0 ⟨by omega, by have r3 := hr.r; have r4 := hr.f; split <;> omega⟩
      · rw [if_neg hm]
        refine Gives.mneg rfl ?_
        refine Gives.bind (P := fun o => o = Out.go (a17, (a18, (up, (row + 1, (N + k, (N + k, ((i : Int), (a24, (a25, (a26, (a27, (a28, (up, (row, (N, ((-1 : Int), (up, (row + 1, (N + k + a25, (-1 : Int))))))))))))))))))))) ?_ ?_
        · refine Gives.idx false (by omega) hlt ?_
          rw [Int.toNat_natCast, hg]
          refine Gives.neg (by simpa using hgu) ?_
          rw [hwr]; exact Gives.of_some rfl
        rintro _ rfl
        dsimp only
        refine Gives.bind (P := fun o => o = Out.go (a17, (a18, (up, (row + 1, (N + k, (N + k, ((i : Int), (false, (a24, (a25, (a26, (a27, (a28, (up, (row, (N, ((-1 : Int), (up, (row + 1, (N + k + a25, (-1 : Int)))))))))))))))))))))) ?_ ?_
        · cases up with
          | true =>
            refine Gives.pos rfl ?_
            refine Gives.eneg (by simpa using hm) ?_
            exact Gives.neg (by decide) (Gives.of_some rfl)
          | false =>
            refine Gives.neg (by decide) ?_
            refine Gives.pos rfl ?_
            have : (row + 1 == a27) = false := by simpa using hm
            rw [this]; exact Gives.of_some rfl
        rintro _ rfl
        dsimp only
        refine Gives.neg (by decide) ?_
        refine Gives.neg (by simp) ?_
        rw [hw1]
        exact nx up (row + 1) ⟨by omega, by have := f9.2; omega⟩
  · refine Gives.bind_eq (new_bad hv hv0) ?_
    refine Gives.mpos hv0 ?_
    refine Gives.eneg hv0 ?_
    exact Gives.pos rfl fin
end Go.Sx.YtbiipgbejlfkbaaDoor
