/- Part of a proof by a small interpreter on plain values; no condition. -/
import Derived.Test.YtndkpphniekmlaaDoorWc
namespace Go.Sx.YtndkpphniekmlaaDoor
open Go Go.Sx Go.Proofs
set_option autoImplicit false
set_option linter.unusedVariables false
set_option linter.unusedSimpArgs false
/-! codes told and read. -/
def hdg (v : Int) : Int := if v < 10 then v + 48 else v + 55
def enc1 (v : Int) : List Int := [37, hdg (v / 16), hdg (v % 16)]
theorem coded_all : ∀ c : Fin 256, coded 0 (c.val : Int) = some (enc1 (c.val : Int)) := by decide +kernel
theorem coded_v (n : Nat) {c : Int} (h : 0 ≤ c ∧ c ≤ 255) : coded n c = some (enc1 c) := by
  have := coded_all ⟨c.toNat, by omega⟩
  rw [show (((⟨c.toNat, by omega⟩ : Fin 256).val : Nat) : Int) = c by simp; omega] at this
  rw [show coded n c = coded 0 c from rfl]
  exact this
theorem bldByte_v (n : Nat) (c : Int) (b : List Int) (h : b.length ≤ 1000000000) : bldByte n (c, b) = some (b ++ [c]) := by
  unfold bldByte
  dsimp only
  rw [show bldCheck n b = some b from rfl, Option.bind_some, if_pos (by omega)]
def cd (s : List Int) : Int × Bool := codeV s 0
theorem codeV_cd (s : List Int) (i : Nat) : codeV s i = cd (s.drop i) := by
  unfold cd codeV
  have e : ∀ k, (s.drop i).getD k 0 = s.getD (i + k) 0 := fun k => by simp [List.getD_eq_getElem?_getD, List.getElem?_drop]
  rw [e, e, e, List.length_drop]
  have e2 : (0 + 2 < s.length - i ∧ s.getD (i + 0) 0 = 37) ↔ (i + 2 < s.length ∧ s.getD i 0 = 37) := ⟨fun h => ⟨by omega, h.2⟩, fun h => ⟨by omega, h.2⟩⟩
  by_cases h : i + 2 < s.length ∧ s.getD i 0 = 37
  · rw [if_pos h, if_pos (e2.2 h)]
  · rw [if_neg h, if_neg (fun h' => h (e2.1 h'))]
theorem cd_range (s : List Int) : 0 ≤ (cd s).1 ∧ (cd s).1 ≤ 255 := codeV_range s 0
theorem cd_code (a b : Int) (r : List Int) : cd (37 :: a :: b :: r) = ((hexV a).1 * 16 + (hexV b).1, (hexV a).2 && (hexV b).2) := by
  unfold cd codeV
  rw [if_pos ⟨by simp, rfl⟩]; try rfl
theorem cd_inv {s : List Int} (h : (cd s).2 = true) : ∃ a b r, s = 37 :: a :: b :: r ∧ (hexV a).2 = true ∧ (hexV b).2 = true := by
  have hl := codeV_lt (show (codeV s 0).2 = true from h)
  match s, hl, h with
  | [], hl, _ => simp at hl
  | [_], hl, _ => simp at hl
  | [_, _], hl, _ => simp at hl
  | c :: a :: b :: r, _, h =>
    by_cases hc : c = 37
    · subst hc
      rw [cd_code] at h
      simp only [Bool.and_eq_true] at h
      exact ⟨a, b, r, rfl, h.1, h.2⟩
    · unfold cd codeV at h
      rw [if_neg (fun e => hc e.2)] at h
      cases h
/-! what a text means, what is decoded, what may stand in it. -/
def meantP (s : List Int) : List Int :=
  match s with
  | [] => []
  | c :: r => if (cd (c :: r)).2 = true then (if unres (cd (c :: r)).1 = true then [(cd (c :: r)).1] else enc1 (cd (c :: r)).1) ++ meantP (r.drop 2) else c :: meantP r
termination_by s.length
decreasing_by all_goals simp <;> omega
def decP (s : List Int) : Option (List Int) :=
  match s with
  | [] => some []
  | c :: r => if c = 37 then (if (cd (c :: r)).2 = true then (decP (r.drop 2)).map ((cd (c :: r)).1 :: ·) else none) else (decP r).map (c :: ·)
termination_by s.length
decreasing_by all_goals simp <;> omega
def madeP (o : List Int) (soft : Bool) (s : List Int) : Bool :=
  match s with
  | [] => true
  | c :: r => if c = 37 then (cd (c :: r)).2 && (!(soft && (decide ((cd (c :: r)).1 < 32) || decide ((cd (c :: r)).1 = 127))) && madeP o soft (r.drop 2)) else (pByte c || o.contains c) && madeP o soft r
termination_by s.length
decreasing_by all_goals simp <;> omega
theorem drop3 (s : List Int) (i : Nat) : (s.drop (i + 1)).drop 2 = s.drop (i + 3) := by rw [List.drop_drop]
theorem wr1 {i : Nat} {s : List Int} (h : i < s.length) (hs : s.length ≤ 100000000) : IntKind.wrap .i64 ((i : Int) + 1) = ((i + 1 : Nat) : Int) := by rw [wrap64 (by omega) (by omega)]; omega
theorem wr3 {i : Nat} {s : List Int} (h : i < s.length) (hs : s.length ≤ 100000000) : IntKind.wrap .i64 ((IntKind.wrap .i64 ((i : Int) + 2)) + 1) = ((i + 3 : Nat) : Int) := by
  rw [wrap64 (n := (i : Int) + 2) (by omega) (by omega), wrap64 (by omega) (by omega)]; omega
theorem made_v (n : Nat) (s o : List Int) (b : Bool) (h : TX s) (hn : 20000000 < n) : made n (s, (o, b)) = some (madeP o b s) := by
  have hl := h.2
  refine Gives.eq ?_
  unfold made
  dsimp only
  refine Gives.loop (I := fun z => z.1 = s ∧ z.2.1 = o ∧ z.2.2.1 = b ∧ ∃ i : Nat, z.2.2.2 = (i : Int) ∧ i ≤ s.length ∧ madeP o b (s.drop i) = madeP o b s) (μ := fun z => s.length - z.2.2.2.toNat) ?_ n _ ⟨rfl, rfl, rfl, 0, rfl, by omega, rfl⟩ (by simp; omega)
  rintro rec ⟨a6, a7, a8, a9⟩ ⟨e1, e2, e3, i, e4, e5, e6⟩ hrec
  dsimp only at e1 e2 e3 e4 hrec ⊢
  subst e1 e2 e3 e4
  refine Gives.dite (fun hlt => ?_) (fun hge => ?_)
  · have hi : i < a6.length := by omega
    have hb := h.1.at hi
    refine Gives.idx 0 (by omega) hlt ?_
    rw [Int.toNat_natCast]
    rw [drop_cons a6 i 0 hi, madeP, ← drop_cons a6 i 0 hi, ← codeV_cd] at e6
    refine Gives.eite (fun h37 => ?_) (fun h37 => ?_)
    · rw [if_pos h37] at e6
      rw [code_v n h.1 (by omega) hi, Option.bind_some]
      refine Gives.ite (fun hc => Gives.of_some ?_) (fun hc => ?_)
      · rw [← e6, show (codeV a6 i).2 = false by simpa using hc]; rfl
      · have hok : (codeV a6 i).2 = true := by simpa using hc
        have hlt2 := codeV_lt hok
        rw [wr3 hi (by omega)]
        rw [hok, drop3] at e6
        have nx : madeP a7 a8 (a6.drop (i + 3)) = madeP a7 a8 a6 → Gives (rec (a6, (a7, (a8, ((i + 3 : Nat) : Int))))) (· = madeP a7 a8 a6) := fun e =>
          hrec _ ⟨rfl, rfl, rfl, i + 3, rfl, by omega, e⟩ (by dsimp only; omega)
        refine Gives.ite (fun h8 => ?_) (fun h8 => ?_)
        · subst h8
          refine Gives.dite (fun h32 => Gives.of_some ?_) (fun h32 => Gives.eite (fun h127 => Gives.of_some ?_) (fun h127 => ?_))
          · rw [← e6]; simp [h32]
          · rw [← e6]; simp [h127]
          · refine nx ?_
            rw [← e6]; simp [h32, h127]
        · have h8' : a8 = false := by simpa using h8
          subst h8'
          exact nx (by rw [← e6]; simp)
    · rw [if_neg h37] at e6
      have nx : (pByte (a6.getD i 0) || a7.contains (a6.getD i 0)) = true → Gives (rec (a6, (a7, (a8, IntKind.wrap .i64 ((i : Int) + 1))))) (· = madeP a7 a8 a6) := fun e => by
        rw [wr1 hi (by omega)]
        exact hrec _ ⟨rfl, rfl, rfl, i + 1, rfl, by omega, by rw [← e6, e]; rfl⟩ (by dsimp only; omega)
      refine Gives.idx 0 (by omega) hlt ?_
      rw [Int.toNat_natCast, pathByte_v n hb, Option.bind_some]
      refine Gives.ite (fun hp => ?_) (fun hp => nx (by rw [show pByte (a6.getD i 0) = true by simpa using hp]; rfl))
      refine Gives.idx 0 (by omega) hlt ?_
      rw [Int.toNat_natCast]
      refine Gives.bind_eq (show stringsIndexByte n (a7, a6.getD i 0) = some (ixb a7 (a6.getD i 0)) from rfl) ?_
      have hm := ixb_mem a7 (a6.getD i 0)
      have hp' : pByte (a6.getD i 0) = false := by simpa using hp
      refine Gives.dite (fun hx => Gives.of_some ?_) (fun hx => nx ?_)
      · rw [← e6, hp', ← hm, decide_eq_false (by omega)]; rfl
      · rw [hp', ← hm, decide_eq_true (by omega)]; rfl
  · refine Gives.of_some ?_
    rw [← e6, show i = a6.length by omega, List.drop_length]; simp [madeP]
def pathP (s : List Int) : Bool := decide (s.take 1 = [47]) && madeP [47] true s
def queryP (s : List Int) : Bool := madeP [47, 63] false s
theorem isPath_v (n : Nat) {s : List Int} (h : TX s) (hn : 20000000 < n) : isPath n s = some (pathP s) := by
  have hl := h.2
  unfold isPath pathP
  rw [hasPrefix_v n s 47 (by omega), Option.bind_some]
  by_cases hc : s.take 1 = [47]
  · rw [if_pos (by simpa using hc), made_v n s _ _ h hn, Option.bind_some]; simp [hc]
  · rw [if_neg (by simpa using hc)]; simp [hc]
theorem isQuery_v (n : Nat) {s : List Int} (h : TX s) (hn : 20000000 < n) : isQuery n s = some (queryP s) := by
  unfold isQuery queryP
  rw [made_v n s _ _ h hn, Option.bind_some]
theorem decode_v (n : Nat) {s : List Int} (h : TX s) (hn : 20000000 < n) : decode n s = some (match decP s with | none => ([], 23) | some o => (o, 0)) := by
  have hl := h.2
  refine Gives.eq ?_
  unfold decode
  refine Gives.loop (I := fun z => z.1 = s ∧ ∃ i : Nat, z.2.1 = (i : Int) ∧ i ≤ s.length ∧ z.2.2.length ≤ i ∧ (decP (s.drop i)).map (z.2.2 ++ ·) = decP s) (μ := fun z => s.length - z.2.1.toNat) ?_ n _ ⟨rfl, 0, rfl, by omega, by simp, by simp⟩ (by simp; omega)
  rintro rec ⟨a4, a5, a6⟩ ⟨e1, i, e2, e3, e4, e5⟩ hrec
  dsimp only at e1 e2 e4 e5 hrec ⊢
  subst e1 e2
  refine Gives.dite (fun hlt => ?_) (fun hge => ?_)
  · have hi : i < a4.length := by omega
    rw [drop_cons a4 i 0 hi, decP, ← drop_cons a4 i 0 hi, ← codeV_cd] at e5
    refine Gives.idx 0 (by omega) hlt ?_
    rw [Int.toNat_natCast]
    refine Gives.nite (fun h37 => ?_) (fun h37 => ?_)
    · rw [if_neg h37] at e5
      refine Gives.idx 0 (by omega) hlt ?_
      rw [Int.toNat_natCast, bldByte_v n _ _ (by omega), Option.bind_some, wr1 hi (by omega)]
      refine hrec _ ⟨rfl, i + 1, rfl, by omega, by simp; omega, ?_⟩ (by dsimp only; omega)
      rw [← e5]; cases decP (a4.drop (i + 1)) <;> simp
    · rw [if_pos h37] at e5
      rw [code_v n h.1 (by omega) hi, Option.bind_some]
      refine Gives.ite (fun hc => Gives.of_some ?_) (fun hc => ?_)
      · have hc' : (codeV a4 i).2 = false := by simpa using hc
        rw [hc'] at e5
        rw [← e5]; rfl
      · have hok : (codeV a4 i).2 = true := by simpa using hc
        have hlt2 := codeV_lt hok
        rw [hok, if_pos rfl, drop3] at e5
        rw [bldByte_v n _ _ (by omega), Option.bind_some, wr3 hi (by omega)]
        refine hrec _ ⟨rfl, i + 3, rfl, by omega, by simp; omega, ?_⟩ (by dsimp only; omega)
        rw [← e5]; cases decP (a4.drop (i + 3)) <;> simp
  · refine Gives.bind_eq (show bldString n a6 = some a6 from rfl) (Gives.of_some ?_)
    rw [← e5, show i = a4.length by omega, List.drop_length]; simp [decP]
def encP (s : List Int) : List Int := s.flatMap fun c => if unres c = true then [c] else enc1 c
theorem encode_v (n : Nat) {s : List Int} (h : TX s) (hn : 20000000 < n) : encode n s = some (encP s) := by
  have hl := h.2
  refine Gives.eq ?_
  unfold encode
  refine Gives.loop (I := fun z => z.1 = s ∧ z.2.1 = (s.length : Int) ∧ ∃ i : Nat, z.2.2.1 = (i : Int) ∧ i ≤ s.length ∧ z.2.2.2.length ≤ 3 * i ∧ z.2.2.2 ++ encP (s.drop i) = encP s) (μ := fun z => s.length - z.2.2.1.toNat) ?_ n _ ⟨rfl, rfl, 0, rfl, by omega, by simp, by simp⟩ (by simp; omega)
  rintro rec ⟨a4, a5, a6, a7⟩ ⟨e1, e2, i, e3, e4, e5, e6⟩ hrec
  dsimp only at e1 e2 e3 e5 e6 hrec ⊢
  subst e1 e2 e3
  refine Gives.dite (fun hlt => ?_) (fun hge => ?_)
  · have hi : i < a4.length := by omega
    have hb := h.1.at hi
    rw [drop_cons a4 i 0 hi, encP, List.flatMap_cons, ← encP] at e6
    refine Gives.idx 0 (by omega) hlt ?_
    rw [Int.toNat_natCast, unreserved_v n hb, Option.bind_some]
    refine Gives.ite (fun hc => ?_) (fun hc => ?_)
    · refine Gives.idx 0 (by omega) hlt ?_
      rw [Int.toNat_natCast, bldByte_v n _ _ (by omega), Option.bind_some, wr1 hi (by omega)]
      refine hrec _ ⟨rfl, rfl, i + 1, rfl, by omega, by simp; omega, ?_⟩ (by dsimp only; omega)
      rw [← e6, if_pos hc]; simp
    · refine Gives.idx 0 (by omega) hlt ?_
      rw [Int.toNat_natCast, coded_v n hb, Option.bind_some, bldStr_v n _ a7 (by simp [enc1]; omega), Option.bind_some]
      dsimp only
      rw [wr1 hi (by omega)]
      refine hrec _ ⟨rfl, rfl, i + 1, rfl, by omega, by simp [enc1]; omega, ?_⟩ (by dsimp only; omega)
      rw [← e6, if_neg hc]; simp
  · refine Gives.bind_eq (show bldString n a7 = some a7 from rfl) (Gives.of_some ?_)
    rw [← e6, show i = a4.length by omega, List.drop_length]; simp [encP]
end Go.Sx.YtndkpphniekmlaaDoor
