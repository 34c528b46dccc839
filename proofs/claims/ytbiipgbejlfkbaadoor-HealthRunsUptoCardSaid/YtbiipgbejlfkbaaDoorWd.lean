/- Part of a proof by a small interpreter on plain values; no condition. -/
import Derived.Test.YtbiipgbejlfkbaaDoorWc
namespace Go.Sx.YtbiipgbejlfkbaaDoor
open Go Go.Sx Go.Proofs
set_option autoImplicit false
set_option linter.unusedVariables false
set_option linter.unusedSimpArgs false
def codedOk (o : Option (List Int)) : Bool := match o with
  | some l => l.length == 3 && l.all fun c => decide (0 ≤ c ∧ c ≤ 255)
  | none => false
theorem coded_all : ∀ c : Fin 256, codedOk (coded 0 (c.val : Int)) = true := by decide +kernel
theorem coded_t (n : Nat) {c : Int} (h : 0 ≤ c ∧ c ≤ 255) : Gives (coded n c) (fun l => l.length = 3 ∧ BL l) := by
  have := coded_all ⟨c.toNat, by omega⟩
  rw [show (((⟨c.toNat, by omega⟩ : Fin 256).val : Nat) : Int) = c by simp; omega] at this
  rw [show coded n c = coded 0 c from rfl]
  unfold codedOk at this
  split at this
  · rename_i l hl
    simp only [Bool.and_eq_true, beq_iff_eq, List.all_eq_true, decide_eq_true_eq] at this
    exact Gives.of_eq hl ⟨this.1, this.2⟩
  · cases this
theorem bldByte_v (n : Nat) (c : Int) (b : List Int) (h : b.length ≤ 1000000000) : bldByte n (c, b) = some (b ++ [c]) := by
  unfold bldByte
  dsimp only
  rw [show bldCheck n b = some b from rfl, Option.bind_some, if_pos (by omega)]
theorem normal_t (n : Nat) {s : List Int} (h : TX s) (hn : 300000000 < n) : Gives (normal n s) (fun _ => True) := by
  have hl := h.2
  unfold normal
  refine Gives.bind (isPath_t n h (by omega)) (fun r hr => ?_)
  refine Gives.ite (fun _ => Gives.of_some trivial) (fun hr1 => ?_)
  have hs1 : 1 ≤ s.length := hr (by simpa using hr1)
  refine Gives.loop (I := fun z => z.1 = s ∧ ∃ i : Nat, z.2.1 = (i : Int) ∧ i ≤ s.length ∧ z.2.2.length ≤ i ∧ BL z.2.2 ∧ (i = 0 ∨ 1 ≤ z.2.2.length)) (μ := fun z => s.length - z.2.1.toNat) ?_ n _ ⟨rfl, 0, rfl, by omega, by simp, fun c hc => (nomatch hc), .inl rfl⟩ (by simp; omega)
  rintro rec ⟨a5, a6, a7⟩ ⟨e1, i, e2, e3, e4, e5, e6⟩ hrec
  dsimp only at e1 e2 e4 e5 e6 hrec ⊢
  subst e1 e2
  refine Gives.dite (fun hlt => ?_) (fun hge => ?_)
  · have hi : i < a5.length := by omega
    have hb := h.1.at hi
    rw [code_v n h.1 (by omega) hi, Option.bind_some]
    refine Gives.ite (fun hc => ?_) (fun hc => ?_)
    · refine Gives.idx 0 (by omega) hlt ?_
      rw [Int.toNat_natCast, bldByte_v n _ _ (by omega), Option.bind_some, wrap64 (by omega) (by omega)]
      exact hrec _ ⟨rfl, i + 1, by simp, by omega, by simp; omega, e5.app (fun c hc => by rw [List.mem_singleton.1 hc]; exact hb), .inr (by simp)⟩ (by dsimp only; omega)
    · have hok : (codeV a5 i).2 = true := by simpa using hc
      have hlt2 := codeV_lt hok
      have hr := codeV_range a5 i
      rw [unreserved_v n hr, Option.bind_some]
      have hw : IntKind.wrap .i64 ((IntKind.wrap .i64 ((i : Int) + 2)) + 1) = ((i + 3 : Nat) : Int) := by
        rw [wrap64 (n := (i : Int) + 2) (by omega) (by omega), wrap64 (by omega) (by omega)]; omega
      rw [hw]
      refine Gives.ite (fun _ => ?_) (fun _ => ?_)
      · rw [bldByte_v n _ _ (by omega), Option.bind_some]
        exact hrec _ ⟨rfl, i + 3, rfl, by omega, by simp; omega, e5.app (fun c hc => by rw [List.mem_singleton.1 hc]; exact hr), .inr (by simp)⟩ (by dsimp only; omega)
      · refine Gives.bind (coded_t n hr) (fun l hl3 => ?_)
        rw [bldStr_v n l a7 (by omega), Option.bind_some]
        exact hrec _ ⟨rfl, i + 3, rfl, by omega, by simp; omega, e5.app hl3.2, .inr (by simp; omega)⟩ (by dsimp only; omega)
  · clear hrec
    refine Gives.bind_eq (show bldString n a7 = some a7 from rfl) ?_
    have h7 : 1 ≤ a7.length := by
      rcases e6 with e | e
      · omega
      · exact e
    refine Gives.pos (by omega) ?_
    have htk : (a7.drop 1).take (((a7.length : Int)).toNat - 1) = a7.drop 1 := List.take_of_length_le (by simp)
    rw [htk]
    have hd : (a7.drop 1).length ≤ 2000000 := by simp; omega
    refine Gives.bind_eq (split_v n (a7.drop 1) 47 (by omega) (by omega)) ?_
    have hjl := jn_len 47 (spl 47 (a7.drop 1))
    rw [jn_spl] at hjl
    have hcl := spl_count 47 (a7.drop 1)
    have hcc := List.count_le_length (a := (47 : Int)) (l := a7.drop 1)
    generalize spl 47 (a7.drop 1) = L at hjl hcl
    have hLl : L.length ≤ 2000001 := by omega
    have hsL : sumL L ≤ 2000000 := by omega
    refine Gives.loop (I := fun z => z.1 = L ∧ z.2.1 = L ∧ z.2.2.1 = (L.length : Int) ∧ ∃ j : Nat, z.2.2.2.1 = (j : Int) ∧ j ≤ L.length ∧ z.2.2.2.2.length ≤ j ∧ sumL z.2.2.2.2 ≤ sumL (L.take j)) (μ := fun z => L.length - z.2.2.2.1.toNat) ?_ n _ ⟨rfl, rfl, rfl, 0, rfl, by omega, by simp, by simp [sumL]⟩ (by simp; omega)
    rintro rec ⟨b1, b2, b3, b4, out⟩ ⟨f1, f2, f3, j, f4, f5, f6, f7⟩ hrec
    dsimp only at f1 f2 f3 f4 f6 f7 hrec ⊢
    subst f1 f2 f3 f4
    refine Gives.dite (fun hlt => ?_) (fun hge => ?_)
    · have hj : j < b2.length := by omega
      have hst := sumL_take b2 j hj
      have hle := sumL_le b2 (j + 1)
      have hw : IntKind.wrap .i64 ((j : Int) + 1) = ((j + 1 : Nat) : Int) := by rw [wrap64 (by omega) (by omega)]; omega
      rw [hw]
      refine Gives.idx [] (by omega) hlt ?_
      rw [Int.toNat_natCast]
      have sapp : ∀ (o : List (List Int)) (x : List Int), sumL (o ++ [x]) = sumL o + x.length := fun o x => by simp [sumL]
      have nx : ∀ o : List (List Int), o.length ≤ j + 1 → sumL o ≤ sumL (b2.take (j + 1)) → Gives (rec (b2, (b2, ((b2.length : Int), (((j + 1 : Nat) : Int), o))))) (fun _ => True) := fun o h1 h2 =>
        hrec _ ⟨rfl, rfl, rfl, j + 1, rfl, by omega, h1, h2⟩ (by dsimp only; omega)
      refine Gives.ite (fun _ => ?_) (fun _ => ?_)
      · refine Gives.eite (fun _ => Gives.of_some trivial) (fun h0 => ?_)
        have hw2 : IntKind.wrap .i64 ((out.length : Int) - 1) = ((out.length - 1 : Nat) : Int) := by rw [wrap64 (by omega) (by omega)]; omega
        rw [hw2, Int.toNat_natCast]
        have htl := sumL_le out (out.length - 1)
        refine Gives.pos (by omega) ?_
        refine Gives.eite (fun _ => ?_) (fun _ => ?_)
        · refine Gives.pos (by simp; omega) ?_
          exact nx _ (by simp; omega) (by rw [sapp]; simp; omega)
        · exact nx _ (by simp; omega) (by omega)
      · refine Gives.ite (fun _ => ?_) (fun _ => ?_)
        · refine Gives.eite (fun _ => ?_) (fun _ => nx _ (by omega) (by omega))
          refine Gives.pos (by omega) ?_
          exact nx _ (by simp; omega) (by rw [sapp]; simp; omega)
        · refine Gives.pos (by omega) ?_
          exact nx _ (by simp; omega) (by rw [sapp]; omega)
    · have hle := sumL_le b2 j
      have hjo := jn_len 47 out
      rw [join_v n out 47 (by omega) (by omega) (by omega), Option.bind_some]
      exact Gives.pos (by omega) (Gives.of_some trivial)
/-! the library's search of any of some bytes. -/
theorem encode_bytes (r : Int) (h : 128 ≤ r) : ∀ c ∈ bytesL (Utf8.encode r), 128 ≤ c ∧ c ≤ 255 := by
  unfold Utf8.encode
  have e : (if Utf8.valid r = true then r.toNat else Utf8.runeError) ≥ 128 ∧ (if Utf8.valid r = true then r.toNat else Utf8.runeError) ≤ 1114111 := by
    split
    · rename_i hv
      unfold Utf8.valid at hv
      simp only [Bool.or_eq_true, Bool.and_eq_true, decide_eq_true_eq] at hv
      omega
    · decide
  generalize (if Utf8.valid r = true then r.toNat else Utf8.runeError) = c at e
  dsimp only
  intro d hd
  have b : ∀ m : Nat, 128 ≤ m → m ≤ 255 → d = ((UInt8.ofNat m).toNat : Int) → 128 ≤ d ∧ d ≤ 255 := fun m h1 h2 h3 => by
    rw [h3]; simp; omega
  split at hd
  · omega
  split at hd
  · simp [bytesL] at hd
    rcases hd with rfl | rfl <;> omega
  split at hd
  · simp [bytesL] at hd
    rcases hd with rfl | rfl | rfl <;> omega
  · simp [bytesL] at hd
    rcases hd with rfl | rfl | rfl | rfl <;> omega
theorem encode_len (r : Int) (h : 128 ≤ r) : 2 ≤ (bytesL (Utf8.encode r)).length ∧ (bytesL (Utf8.encode r)).length ≤ 4 := by
  unfold Utf8.encode
  have e : (if Utf8.valid r = true then r.toNat else Utf8.runeError) ≥ 128 := by
    split
    · omega
    · decide
  generalize (if Utf8.valid r = true then r.toNat else Utf8.runeError) = c at e
  dsimp only
  split
  · omega
  split
  · simp [bytesL]
  split
  · simp [bytesL]
  · simp [bytesL]
end Go.Sx.YtbiipgbejlfkbaaDoor
