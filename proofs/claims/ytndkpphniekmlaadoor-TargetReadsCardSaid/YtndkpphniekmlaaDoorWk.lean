/- Part of a proof by a small interpreter on plain values; no condition. -/
import Derived.Test.YtndkpphniekmlaaDoorWj
namespace Go.Sx.YtndkpphniekmlaaDoor
open Go Go.Sx Go.Proofs
set_option autoImplicit false
set_option linter.unusedVariables false
set_option linter.unusedSimpArgs false
theorem encode_bytes (r : Int) (h : 128 ≤ r) : ∀ c ∈ bytesL (Utf8.encode r), 128 ≤ c ∧ c ≤ 255 := by
  unfold Utf8.encode
  have e : (if Utf8.valid r = true then r.toNat else Utf8.runeError) ≥ 128 ∧ (if Utf8.valid r = true then r.toNat else Utf8.runeError) ≤ 1114111 := by
    split
    · rename_i hv
      unfold Utf8.valid at hv
      simp only [Bool.or_eq_true, Bool.and_eq_true, decide_eq_true_eq] at hv
      omega
    · decide
  generalize (if Utf8.valid r = true then r.toNat else Utf8.runeError) = c at e
  dsimp only
  intro d hd
  have b : ∀ m : Nat, 128 ≤ m → m ≤ 255 → d = ((UInt8.ofNat m).toNat : Int) → 128 ≤ d ∧ d ≤ 255 := fun m h1 h2 h3 => by
    rw [h3]; simp; omega
  split at hd
  · omega
  split at hd
  · simp [bytesL] at hd
    rcases hd with rfl | rfl <;> omega
  split at hd
  · simp [bytesL] at hd
    rcases hd with rfl | rfl | rfl <;> omega
  · simp [bytesL] at hd
    rcases hd with rfl | rfl | rfl | rfl <;> omega
theorem encode_len (r : Int) (h : 128 ≤ r) : 2 ≤ (bytesL (Utf8.encode r)).length ∧ (bytesL (Utf8.encode r)).length ≤ 4 := by
  unfold Utf8.encode
  have e : (if Utf8.valid r = true then r.toNat else Utf8.runeError) ≥ 128 := by
    split
    · omega
    · decide
  generalize (if Utf8.valid r = true then r.toNat else Utf8.runeError) = c at e
  dsimp only
  split
  · omega
  split
  · simp [bytesL]
  split
  · simp [bytesL]
  · simp [bytesL]
theorem validRune_t (n : Nat) (c : Int) : Gives (validRune n c) (fun _ => True) := by
  unfold validRune
  repeat' first | exact Gives.of_some trivial | (refine Gives.dite (fun _ => ?_) (fun _ => ?_))
theorem runeLoop (m : Nat) : (loopF (X := (List Int) × Int) (A := Int) (fun rec8 y9 => match y9 with
  | (a10, a11) =>
  (if a11.toNat < List.length a10 then
  (let u12 : Int := (((u8d a10 a11.toNat).1 : Nat) : Int)
  (if (u12 == (65533 : Int)) = true then
  some ((a11.toNat : Nat) : Int)
  else
  rec8 (a10, (((a11.toNat + (u8d a10 a11.toNat).2) : Nat) : Int))))
  else
  some (-1 : Int))) (m + 3) ([47, 63], (0 : Int))) = some (-1) := rfl
theorem indexRune_v (n : Nat) {c : Int} (h : 0 ≤ c ∧ c ≤ 1114111) (hn : 3 ≤ n) : indexRune n ([47, 63], c) = some (if c < 128 then ixb [47, 63] c else -1) := by
  refine Gives.eq ?_
  unfold indexRune
  dsimp only
  refine Gives.bind_eq (r := Out.go ([47, 63], (c, decide (c < 128)))) (by rw [if_pos (by simpa using h.1)]) ?_
  dsimp only
  by_cases h128 : c < 128
  · rw [if_pos (by simpa using h128), if_pos h128]
    refine Gives.bind_eq (show stringsIndexByte n ([47, 63], IntKind.wrap .u8 c) = some (ixb [47, 63] c) from ?_) (Gives.of_some rfl)
    rw [show IntKind.wrap .u8 c = c by rw [wrap_u8]; omega]; rfl
  · rw [if_neg (by simpa using h128), if_neg h128]
    refine Gives.eite (fun hre => ?_) (fun hre => ?_)
    · obtain ⟨m, rfl⟩ : ∃ m, n = m + 3 := ⟨n - 3, by omega⟩
      exact Gives.of_eq (runeLoop m) rfl
    · refine Gives.bind (validRune_t n c) (fun v _ => ?_)
      refine Gives.ite (fun _ => Gives.of_some rfl) (fun _ => ?_)
      have hl := encode_len c (by omega)
      have hb := encode_bytes c (by omega)
      generalize bytesL (Utf8.encode c) = e at hl hb
      have hw : IntKind.wrap .i64 ((e.length : Int) - 1) = ((e.length - 1 : Nat) : Int) := by rw [wrap64 (by omega) (by omega)]; omega
      rw [hw]
      obtain ⟨m, rfl⟩ : ∃ m, n = m + 1 := ⟨n - 1, by omega⟩
      show Gives (if (decide (((e.length - 1 : Nat) : Int) < (([47, 63] : List Int).length : Int))) = true then _ else _) _
      refine Gives.dite (fun hlt => ?_) (fun _ => Gives.of_some rfl)
      have h2 : e.length = 2 := by
        have : ((([47, 63] : List Int).length : Nat) : Int) = 2 := rfl
        omega
      have he : e.length - 1 = 1 := by omega
      rw [he]
      refine Gives.bind_eq (r := (63 : Int)) rfl ?_
      have hm : e.getD 1 0 ∈ e := getD_mem (by omega)
      have hx : idx e ((1 : Nat) : Int) = some (e.getD 1 0) := idx_eq 0 (by omega) (by omega)
      refine Gives.bind_eq hx ?_
      have h63 : (63 : Int) ≠ e.getD 1 0 := fun e1 => by have := hb _ hm; omega
      refine Gives.npos h63 ?_
      dsimp only
      have hw2 : IntKind.wrap .i64 (((1 : Nat) : Int) + 1) = 2 := by rw [wrap64 (by omega) (by omega)]; rfl
      rw [hw2]
      refine Gives.pos (by simp) ?_
      refine Gives.bind_eq hx ?_
      refine Gives.bind_eq (show stringsIndexByte (m + 1) (_, e.getD 1 0) = some (-1) from rfl) ?_
      exact Gives.dpos (by decide) (Gives.of_some rfl)
def SET : List Bool := ((List.replicate 256 false).set 47 true).set 63 true
theorem set_v (m : Nat) : makeASCIISet (m + 3) [47, 63] = some (SET, true) := by kernel_rfl
theorem SET_len : SET.length = 256 := by kernel_rfl
theorem setHas_v (n : Nat) {c : Int} (h : 0 ≤ c ∧ c ≤ 255) : setHas n (c, SET) = some (SET.getD c.toNat false, SET) := by
  have hl := SET_len
  unfold setHas
  dsimp only
  rw [if_pos (by rw [hl]), if_pos (by rw [hl]; omega)]
theorem mapGo_len (f : Int → Int) : ∀ (m : Nat) (l : List UInt8), (Lib.mapGoD f m l).length ≤ 4 * m
  | 0, l => by simp [Lib.mapGoD]
  | m + 1, l => by
    unfold Lib.mapGoD
    split
    · simp
    · rw [List.length_append]
      have ih := mapGo_len f m (l.drop (Lib.decodeL l).2)
      split
      · have := (Lib.encodeRuneZ_length (f (Lib.decodeL l).1)).2
        simp only [Lib.encodeRune, List.length_map]
        omega
      · simp; omega
theorem strToLower_v (n : Nat) {s : List Int} (h : s.length ≤ 20000000) : strToLower n s = some (toLowerL s) := by
  unfold strToLower lowRun
  have hl : (toLowerL s).length ≤ 4 * s.length := by
    unfold toLowerL i8s Lib.toLowerD Lib.mapD
    rw [List.length_map]
    have := mapGo_len Lib.toLowerU (u8s s).length (u8s s)
    have e : (u8s s).length = s.length := by simp [u8s]
    rw [e] at this ⊢; exact this
  rw [if_pos ⟨by omega, by omega⟩]
theorem toLowerL_BL (s : List Int) : BL (toLowerL s) := fun c hc => by
  unfold toLowerL i8s at hc
  obtain ⟨b, _, rfl⟩ := List.mem_map.1 hc
  have := b.toNat_lt
  omega

theorem SET_has : ∀ c : Fin 256, SET.getD c.val false = decide ((c.val : Int) = 47 ∨ (c.val : Int) = 63) := by decide +kernel
theorem SET_v {c : Int} (h : 0 ≤ c ∧ c ≤ 255) : SET.getD c.toNat false = decide (c = 47 ∨ c = 63) := by
  have := SET_has ⟨c.toNat, by omega⟩
  rw [show (((⟨c.toNat, by omega⟩ : Fin 256).val : Nat) : Int) = c by simp; omega] at this
  exact this
/-- where a host may end. -/
def endAt (s : List Int) (m : Nat) : Prop := m = hp s ∨ (hp s < m ∧ hp s < s.length ∧ s.getD (hp s) 0 ≠ 47 ∧ s.getD (hp s) 0 ≠ 63)
theorem ixb_two {c : Int} : (ixb [47, 63] c ≥ 0 ↔ c = 47 ∨ c = 63) ∧ -1 ≤ ixb [47, 63] c := by
  simp only [ixb]
  by_cases h1 : 47 = c
  · rw [if_pos h1]; omega
  · rw [if_neg h1]
    by_cases h2 : 63 = c
    · rw [if_pos h2]; simp; omega
    · rw [if_neg h2]; simp; omega
theorem indexAny_h (n : Nat) {s : List Int} (h : TX s) (hn : 30000000 < n) : Gives (indexAny n (s, [47, 63])) (fun r => -1 ≤ r ∧ r < (s.length : Int) ∧ endAt s (if r < 0 then s.length else r.toNat)) := by
  have hl := h.2
  have hpl := hp_le s
  have hho : ∀ i, i < hp s → s.getD i 0 < 128 ∧ s.getD i 0 ≠ 47 ∧ s.getD i 0 ≠ 63 ∧ 0 ≤ s.getD i 0 := fun i hi => by
    have := hostc_low (hp_at s i hi)
    omega
  -- what the loops keep
  have fin : ∀ i : Nat, s.length ≤ i → (i ≤ hp s ∨ (hp s < i ∧ hp s < s.length ∧ s.getD (hp s) 0 ≠ 47 ∧ s.getD (hp s) 0 ≠ 63)) → Gives (some (-1 : Int)) (fun r => -1 ≤ r ∧ r < (s.length : Int) ∧ endAt s (if r < 0 then s.length else r.toNat)) := fun i h1 h2 =>
    Gives.of_some ⟨by omega, by omega, by rw [if_pos (by omega)]; unfold endAt; omega⟩
  have hit : ∀ i : Nat, i < s.length → (i = hp s ∨ (hp s < i ∧ hp s < s.length ∧ s.getD (hp s) 0 ≠ 47 ∧ s.getD (hp s) 0 ≠ 63)) → Gives (some (i : Int)) (fun r => -1 ≤ r ∧ r < (s.length : Int) ∧ endAt s (if r < 0 then s.length else r.toNat)) := fun i h1 h2 =>
    Gives.of_some ⟨by omega, by omega, by rw [if_neg (by omega), Int.toNat_natCast]; exact h2⟩
  unfold indexAny
  dsimp only
  refine Gives.neg (by decide) ?_
  refine Gives.eneg (by decide) ?_
  refine Gives.bind_eq (show shouldUseASCIISet n (s.length : Int) = some (decide ((s.length : Int) > 8)) from rfl) ?_
  refine Gives.dite (fun h8 => ?_) (fun h8 => ?_)
  · obtain ⟨m, hm⟩ : ∃ m, n = m + 3 := ⟨n - 3, by omega⟩
    refine Gives.bind_eq (by rw [hm]; exact set_v m) ?_
    refine Gives.pos ⟨rfl, SET_len.symm⟩ ?_
    refine Gives.pos rfl ?_
    refine Gives.loop (I := fun z => z.1 = s ∧ z.2.2 = SET ∧ ∃ i : Nat, z.2.1 = (i : Int) ∧ i ≤ s.length ∧ (i ≤ hp s ∨ (hp s < i ∧ hp s < s.length ∧ s.getD (hp s) 0 ≠ 47 ∧ s.getD (hp s) 0 ≠ 63))) (μ := fun z => s.length - z.2.1.toNat) ?_ n _ ⟨rfl, rfl, 0, rfl, by omega, .inl (by omega)⟩ (by simp; omega)
    rintro rec ⟨a10, a11, a12⟩ ⟨e1, e2, i, e3, e4, e5⟩ hrec
    dsimp only at e1 e2 e3 hrec ⊢
    subst e1 e2 e3
    refine Gives.dite (fun hlt => ?_) (fun hge => fin i (by omega) e5)
    have hi : i < a10.length := by omega
    have hb := h.1.at hi
    refine Gives.idx 0 (by omega) hlt ?_
    rw [Int.toNat_natCast, setHas_v n hb, Option.bind_some, SET_v hb]
    refine Gives.dite (fun hs => hit i hi ?_) (fun hs => ?_)
    · rcases e5 with e | e
      · by_cases g : i < hp a10
        · have := hho i g; omega
        · left; omega
      · exact .inr e
    · dsimp only
      rw [wr1 hi (by omega)]
      refine hrec _ ⟨rfl, rfl, i + 1, rfl, by omega, ?_⟩ (by dsimp only; omega)
      rcases e5 with e | e
      · by_cases g : i < hp a10
        · left; omega
        · right
          have : i = hp a10 := by omega
          rw [← this]; omega
      · right; omega
  · refine Gives.loop (I := fun z => z.1 = [47, 63] ∧ z.2.1 = s ∧ ∃ i : Nat, z.2.2 = (i : Int) ∧ (i ≤ hp s ∨ (hp s < i ∧ hp s < s.length ∧ s.getD (hp s) 0 ≠ 47 ∧ s.getD (hp s) 0 ≠ 63))) (μ := fun z => s.length - z.2.2.toNat) ?_ n _ ⟨rfl, rfl, 0, rfl, .inl (by omega)⟩ (by simp; omega)
    rintro rec ⟨a25, a26, a27⟩ ⟨e1, e2, i, e3, e5⟩ hrec
    dsimp only at e1 e2 e3 hrec ⊢
    subst e1 e2 e3
    have hsp := u8d_spec a26 i
    rw [Int.toNat_natCast]
    refine Gives.ite (fun hlt => ?_) (fun hge => fin i (by omega) e5)
    have hb := h.1.at hlt
    have hcase : ((a26.getD i 0 < 128 ∧ u8d a26 i = ((a26.getD i 0).toNat, 1)) ∨ (128 ≤ a26.getD i 0 ∧ 128 ≤ (u8d a26 i).1)) := by
      by_cases g : a26.getD i 0 < 128
      · exact .inl ⟨g, u8d_ascii (by omega)⟩
      · exact .inr ⟨by omega, u8d_high (by omega)⟩
    rw [indexRune_v n (by omega) (by omega), Option.bind_some]
    have htwo := ixb_two (c := ((u8d a26 i).1 : Int))
    have nx : (a26.getD i 0 ≠ 47 ∧ a26.getD i 0 ≠ 63) → ((u8d a26 i).2 = 1 ∨ ¬ i < hp a26) → Gives (rec ([47, 63], (a26, ((i + (u8d a26 i).2 : Nat) : Int)))) (fun r => -1 ≤ r ∧ r < (a26.length : Int) ∧ endAt a26 (if r < 0 then a26.length else r.toNat)) := fun g1 g2 => by
      refine hrec _ ⟨rfl, rfl, i + (u8d a26 i).2, rfl, ?_⟩ (by dsimp only; omega)
      rcases e5 with e | e
      · by_cases g : i < hp a26
        · left; omega
        · right
          have : i = hp a26 := by omega
          rw [← this]; omega
      · right; omega
    refine Gives.dite (fun hs => hit i hlt ?_) (fun hs => ?_)
    · rcases e5 with e | e
      · by_cases g : i < hp a26
        · exfalso
          have h3 := hho i g
          rcases hcase with ⟨g1, g2⟩ | ⟨g1, g2⟩
          · rw [g2] at hs htwo
            dsimp only at hs htwo
            rw [if_pos (by omega)] at hs
            have := htwo.1.1 hs
            omega
          · omega
        · left; omega
      · exact .inr e
    · rcases hcase with ⟨g1, g2⟩ | ⟨g1, g2⟩
      · refine nx ?_ (.inl (by rw [g2]))
        rw [g2] at hs htwo
        dsimp only at hs htwo
        rw [if_pos (by omega)] at hs
        have h4 : ¬ ((((a26.getD i 0).toNat : Nat) : Int) = 47 ∨ (((a26.getD i 0).toNat : Nat) : Int) = 63) := fun e => hs (htwo.1.2 e)
        omega
      · refine nx (by omega) (.inr fun g => ?_)
        have := hho i g
        omega
theorem hp_take : ∀ (s : List Int) (m : Nat), hp (s.take m) = min m (hp s)
  | [], m => by simp [hp]
  | c :: r, 0 => by simp [hp]
  | c :: r, m + 1 => by
    rw [List.take_succ_cons, hp, hp, hp_take r m]
    split <;> omega
theorem isHost_v (n : Nat) {s : List Int} (h : TX s) (hn : 30000000 < n) : isHost n s = some (decide (hp s = s.length ∧ 1 ≤ s.length ∧ s.length ≤ 255)) := by
  have hl := h.2
  have hpl := hp_le s
  refine Gives.eq ?_
  unfold isHost
  refine Gives.loop (I := fun z => z.1 = s ∧ z.2.1 = (s.length : Int) ∧ ∃ i : Nat, z.2.2 = (i : Int) ∧ i ≤ hp s) (μ := fun z => s.length - z.2.2.toNat) ?_ n _ ⟨rfl, rfl, 0, rfl, by omega⟩ (by simp; omega)
  rintro rec ⟨a4, a5, a6⟩ ⟨e1, e2, i, e3, e4⟩ hrec
  dsimp only at e1 e2 e3 hrec ⊢
  subst e1 e2 e3
  refine Gives.dite (fun hlt => ?_) (fun hge => ?_)
  · have hi : i < a4.length := by omega
    have hb := h.1.at hi
    have step1 : hostc (a4.getD i 0) = true → Gives (rec (a4, ((a4.length : Int), IntKind.wrap .i64 ((i : Int) + 1)))) (· = decide (hp a4 = a4.length ∧ 1 ≤ a4.length ∧ a4.length ≤ 255)) := fun hc => by
      have : i < hp a4 := by
        by_cases g : i < hp a4
        · exact g
        · exfalso
          have e : i = hp a4 := by omega
          rw [e, hp_end a4 (by omega)] at hc; cases hc
      rw [wr1 hi (by omega)]
      exact hrec _ ⟨rfl, rfl, i + 1, rfl, by omega⟩ (by dsimp only; omega)
    have stop : hostc (a4.getD i 0) = false → Gives (some false) (· = decide (hp a4 = a4.length ∧ 1 ≤ a4.length ∧ a4.length ≤ 255)) := fun hc => by
      refine Gives.of_some ?_
      have : ¬ i < hp a4 := fun g => by rw [hp_at a4 i g] at hc; cases hc
      rw [decide_eq_false (by omega)]
    unfold hostc at step1 stop
    refine Gives.idx 0 (by omega) hlt ?_
    rw [Int.toNat_natCast, letter_v n hb, Option.bind_some]
    refine Gives.ite (fun h1 => ?_) (fun h1 => step1 (by rw [show lett (a4.getD i 0) = true by simpa using h1]; rfl))
    have h1' : lett (a4.getD i 0) = false := by simpa using h1
    refine Gives.idx 0 (by omega) hlt ?_
    rw [Int.toNat_natCast, digit_v, Option.bind_some]
    refine Gives.ite (fun h2 => ?_) (fun h2 => step1 (by rw [show isd (a4.getD i 0) = true by simpa using h2, Bool.or_true]; rfl))
    have h2' : isd (a4.getD i 0) = false := by simpa using h2
    refine Gives.idx 0 (by omega) hlt ?_
    rw [Int.toNat_natCast]
    have hm := ixb_mem [45, 46, 95, 58] (a4.getD i 0)
    refine Gives.bind_eq (show stringsIndexByte n ([45, 46, 95, 58], a4.getD i 0) = some (ixb [45, 46, 95, 58] (a4.getD i 0)) from rfl) ?_
    refine Gives.dite (fun h3 => stop ?_) (fun h3 => step1 ?_)
    · rw [h1', h2', ← hm, decide_eq_false (by omega)]; rfl
    · rw [h1', h2', ← hm, decide_eq_true (by omega)]; rfl
  · refine Gives.dite (fun g1 => Gives.of_some ?_) (fun g1 => Gives.of_some ?_)
    · rw [decide_eq_decide]; omega
    · rw [decide_eq_false (by omega)]
theorem head_low {s : List Int} (h : BL s) : toLowerL s = HT ↔ s.map lwA = HT := by
  have key : ∀ q : List Int, (∀ c ∈ q, c ∈ [47, 58, 104, 112, 116]) → (toLowerL s = q ↔ s.map lwA = q) := fun q hq => by
    constructor
    · intro e
      have := low_http h hq e
      rw [← e, low_ascii this]
    · intro e
      have ha : ∀ c ∈ s, 0 ≤ c ∧ c < 128 := fun c hc => by
        have hm : lwA c ∈ q := by rw [← e]; exact List.mem_map_of_mem hc
        have := hq _ hm
        have hb := h c hc
        unfold lwA at this
        simp only [List.mem_cons, List.not_mem_nil, or_false] at this
        split at this <;> omega
      rw [low_ascii ha, e]
  exact key HT (by decide)
theorem beh_no {form : Int} {host s : List Int} (h : pathP (if (cutV s 63).1 = [] ∧ form = 2 then [47] else (cutV s 63).1) ≠ true) : behP form host s = errT 23 := by
  unfold behP
  rw [if_neg (fun e => h e.1)]
theorem cut_head (c : Int) (r : List Int) (h : c ≠ 63) : ∃ q, (cutV (c :: r) 63).1 = c :: q := by
  unfold cutV
  split
  · exact ⟨r, rfl⟩
  · rename_i hh
    rcases ixb_case (c :: r) 63 with ⟨e, _⟩ | ⟨i, e, h1, h2, h3⟩
    · exact absurd e hh
    · rw [e, Int.toNat_natCast]
      cases i with
      | zero => simp at h3; exact absurd h3 h
      | succ i => exact ⟨r.take i, rfl⟩
theorem path_head {c : Int} {r : List Int} (h : c ≠ 47) : pathP (c :: r) ≠ true := by
  unfold pathP; simp [h]
theorem beh_two {c : Int} {r host : List Int} (h1 : c ≠ 47) (h2 : c ≠ 63) : behP 2 host (c :: r) = errT 23 := by
  obtain ⟨q, hq⟩ := cut_head c r h2
  refine beh_no ?_
  rw [hq, if_neg (fun e => by cases e.1)]
  exact path_head h1
theorem beh_one {s : List Int} (h : s.take 1 ≠ [47]) : behP 1 [] s = errT 23 := by
  refine beh_no ?_
  rw [if_neg (fun e => by cases e.2)]
  cases s with
  | nil => simp [cutV, ixb, pathP]
  | cons c r =>
    by_cases h63 : c = 63
    · subst h63
      have : (cutV (63 :: r) 63).1 = [] := by simp [cutV, ixb]
      rw [this]; simp [pathP]
    · obtain ⟨q, hq⟩ := cut_head c r h63
      rw [hq]
      exact path_head (by simpa using h)
end Go.Sx.YtndkpphniekmlaaDoor
