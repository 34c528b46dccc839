/- Part of a proof by a small interpreter on plain values; no condition. -/
import Derived.Test.YtmbakmdgmccgiaaDoorWf
import Derived.Lib.TrimUEq
/-! W06AC: UTF-8: the table of second bytes says what the library says. -/
namespace Go.Sx.YtmbakmdgmccgiaaDoor
open Go Go.Sx Go.Sx.Js
set_option autoImplicit false
set_option linter.unusedVariables false
set_option linter.unusedSimpArgs false
def utf8 : Nat → List Int → Bool
  | 0, _ => true
  | _ + 1, [] => true
  | m + 1, c :: r => if c < 128 then utf8 m r else match Js.rune (c :: r) with
    | .ok _ r' => utf8 m r'
    | .bad _ _ => false
/-- what a rune's reading and the library's decoding have in common. -/
inductive RD : PR (List Int) → Nat × Nat → Prop
  | ok {b l : List Int} {d : Nat × Nat} (h : d.2 = b.length) (h2 : 2 ≤ b.length) : RD (.ok b l) d
  | bad {e : Int} {l : List Int} {d : Nat × Nat} (h : d = (65533, 1)) : RD (.bad e l) d
theorem class_of (x : Nat) (h : 128 ≤ x) (h2 : x ≤ 255) : (194 ≤ x ∧ x ≤ 223 ∧ bounds (x : Int) = (1, 128, 191)) ∨ (x = 224 ∧ bounds (x : Int) = (2, 160, 191)) ∨ (x = 237 ∧ bounds (x : Int) = (2, 128, 159)) ∨ (225 ≤ x ∧ x ≤ 239 ∧ x ≠ 237 ∧ bounds (x : Int) = (2, 128, 191)) ∨
    (x = 240 ∧ bounds (x : Int) = (3, 144, 191)) ∨ (241 ≤ x ∧ x ≤ 243 ∧ bounds (x : Int) = (3, 128, 191)) ∨ (x = 244 ∧ bounds (x : Int) = (3, 128, 143)) ∨ ((x < 194 ∨ 244 < x) ∧ bounds (x : Int) = (0, 0, 0)) := by
  unfold bounds
  by_cases a1 : 194 ≤ x ∧ x ≤ 223
  · rw [if_pos (by omega)]; exact .inl ⟨a1.1, a1.2, rfl⟩
  rw [if_neg (by omega)]
  by_cases a2 : x = 224
  · rw [if_pos (by omega)]; exact .inr (.inl ⟨a2, rfl⟩)
  rw [if_neg (by omega)]
  by_cases a3 : x = 237
  · rw [if_pos (by omega)]; exact .inr (.inr (.inl ⟨a3, rfl⟩))
  rw [if_neg (by omega)]
  by_cases a4 : 225 ≤ x ∧ x ≤ 239
  · rw [if_pos (by omega)]; exact .inr (.inr (.inr (.inl ⟨a4.1, a4.2, a3, rfl⟩)))
  rw [if_neg (by omega)]
  by_cases a5 : x = 240
  · rw [if_pos (by omega)]; exact .inr (.inr (.inr (.inr (.inl ⟨a5, rfl⟩))))
  rw [if_neg (by omega)]
  by_cases a6 : 241 ≤ x ∧ x ≤ 243
  · rw [if_pos (by omega)]; exact .inr (.inr (.inr (.inr (.inr (.inl ⟨a6.1, a6.2, rfl⟩)))))
  rw [if_neg (by omega)]
  by_cases a7 : x = 244
  · rw [if_pos (by omega)]; exact .inr (.inr (.inr (.inr (.inr (.inr (.inl ⟨a7, rfl⟩))))))
  rw [if_neg (by omega)]
  exact .inr (.inr (.inr (.inr (.inr (.inr (.inr ⟨by omega, rfl⟩))))))
theorem conts_c (m : Nat) (lo hi c : Int) (r : List Int) : conts (m + 1) lo hi (c :: r) = if c < lo ∨ c > hi then .bad 3 (c :: r) else (conts m 128 191 r).map (c :: ·) := rfl
theorem conts_1 (lo hi c : Int) (r : List Int) : conts 1 lo hi (c :: r) = if c < lo ∨ c > hi then .bad 3 (c :: r) else .ok [c] r := rfl
theorem conts_2 (lo hi c d : Int) (r : List Int) : conts 2 lo hi (c :: d :: r) = if c < lo ∨ c > hi then .bad 3 (c :: d :: r) else if d < 128 ∨ d > 191 then .bad 3 (d :: r) else .ok [c, d] r := by
  rw [show conts 2 lo hi (c :: d :: r) = if c < lo ∨ c > hi then .bad 3 (c :: d :: r) else (conts 1 128 191 (d :: r)).map (c :: ·) from rfl, conts_1]
  split
  · rfl
  · split <;> rfl
theorem conts_3 (lo hi c d e : Int) (r : List Int) : conts 3 lo hi (c :: d :: e :: r) = if c < lo ∨ c > hi then .bad 3 (c :: d :: e :: r) else if d < 128 ∨ d > 191 then .bad 3 (d :: e :: r) else if e < 128 ∨ e > 191 then .bad 3 (e :: r) else .ok [c, d, e] r := by
  rw [show conts 3 lo hi (c :: d :: e :: r) = if c < lo ∨ c > hi then .bad 3 (c :: d :: e :: r) else (conts 2 128 191 (d :: e :: r)).map (c :: ·) from rfl, conts_2]
  split
  · rfl
  · split
    · rfl
    · split <;> rfl
/-- too few bytes. -/
theorem conts_few : ∀ (m : Nat) (lo hi : Int) (l : List Int), l.length < m → ∃ r, conts m lo hi l = .bad 3 r
  | m + 1, lo, hi, [], _ => ⟨[], rfl⟩
  | m + 1, lo, hi, c :: r, h => by
    rw [conts_c]
    split
    · exact ⟨_, rfl⟩
    · obtain ⟨r', e⟩ := conts_few m 128 191 r (by simpa using h)
      rw [e]
      exact ⟨r', rfl⟩
theorem RD_bad {e : Int} {l : List Int} {d : Nat × Nat} {f : List Int → List Int} (h : d = (65533, 1)) : RD ((PR.bad e l).map f) d := .bad h
theorem RD_ok {b l : List Int} {d : Nat × Nat} {f : List Int → List Int} (h : d.2 = (f b).length) (h2 : 2 ≤ (f b).length) : RD ((PR.ok b l).map f) d := .ok h h2
set_option maxHeartbeats 4000000 in
theorem rune_dec (x0 : Nat) (r : List Int) (y1 y2 y3 : Nat) (n : Nat) (h0 : 128 ≤ x0) (h02 : x0 ≤ 255) (hn : n = r.length + 1) (e1 : ∀ c t, r = c :: t → c = (y1 : Int)) (e2 : ∀ c d t, r = c :: d :: t → d = (y2 : Int)) (e3 : ∀ c d e t, r = c :: d :: e :: t → e = (y3 : Int)) :
    (y1 ≤ 255 ∧ y2 ≤ 255 ∧ y3 ≤ 255) → RD (Js.rune ((x0 : Int) :: r)) (Lib.decodeN n x0 y1 y2 y3) := by
  rintro ⟨b1, b2, b3⟩
  generalize hD : Lib.decodeN n x0 y1 y2 y3 = D
  rw [rune_cons]
  have few : ∀ m lo hi, r.length < m → ∃ t, conts m lo hi r = .bad 3 t := fun m lo hi h => conts_few m lo hi r h
  rcases class_of x0 h0 h02 with ⟨c1, c2, hb⟩ | ⟨c1, hb⟩ | ⟨c1, hb⟩ | ⟨c1, c2, c3, hb⟩ | ⟨c1, hb⟩ | ⟨c1, c2, hb⟩ | ⟨c1, hb⟩ | ⟨c1, hb⟩
  · rw [hb, if_neg (show ¬ (1 = 0) by omega)]
    dsimp only
    rcases r with _ | ⟨a, t⟩
    · obtain ⟨t, e⟩ := few 1 128 191 (by simp)
      rw [e]
      simp only [List.length_nil] at hn
      (refine RD_bad ?_; rw [← hD]; unfold Lib.decodeN; repeat' split) <;> first | with_reducible rfl | (exfalso; omega)
    · obtain rfl := e1 a t rfl
      simp only [List.length_cons] at hn
      clear e1 e2 e3 few hb
      rw [conts_1]
      rcases Classical.em ((y1 : Int) < 128 ∨ (y1 : Int) > 191) with q | q
      · rw [if_pos q]
        (refine RD_bad ?_; rw [← hD]; unfold Lib.decodeN; repeat' split) <;> first | with_reducible rfl | (exfalso; omega)
      · rw [if_neg q]
        (refine RD_ok ?_ (by simp); rw [← hD]; unfold Lib.decodeN; repeat' split) <;> first | exact rfl | (exfalso; omega)
  · rw [hb, if_neg (show ¬ (2 = 0) by omega)]
    dsimp only
    rcases r with _ | ⟨a, _ | ⟨b, t⟩⟩
    · obtain ⟨t, e⟩ := few 2 160 191 (by simp)
      rw [e]
      simp only [List.length_nil] at hn
      (refine RD_bad ?_; rw [← hD]; unfold Lib.decodeN; repeat' split) <;> first | with_reducible rfl | (exfalso; omega)
    · obtain ⟨t, e⟩ := few 2 160 191 (by simp)
      rw [e]
      simp only [List.length_cons, List.length_nil] at hn
      (refine RD_bad ?_; rw [← hD]; unfold Lib.decodeN; repeat' split) <;> first | with_reducible rfl | (exfalso; omega)
    · obtain rfl := e1 a (b :: t) rfl
      obtain rfl := e2 _ b t rfl
      simp only [List.length_cons] at hn
      clear e1 e2 e3 few hb
      rw [conts_2]
      rcases Classical.em ((y1 : Int) < 160 ∨ (y1 : Int) > 191) with q | q
      · rw [if_pos q]
        (refine RD_bad ?_; rw [← hD]; unfold Lib.decodeN; repeat' split) <;> first | with_reducible rfl | (exfalso; omega)
      · rw [if_neg q]
        rcases Classical.em ((y2 : Int) < 128 ∨ (y2 : Int) > 191) with q2 | q2
        · rw [if_pos q2]
          (refine RD_bad ?_; rw [← hD]; unfold Lib.decodeN; repeat' split) <;> first | with_reducible rfl | (exfalso; omega)
        · rw [if_neg q2]
          (refine RD_ok ?_ (by simp); rw [← hD]; unfold Lib.decodeN; repeat' split) <;> first | exact rfl | (exfalso; omega)
  · rw [hb, if_neg (show ¬ (2 = 0) by omega)]
    dsimp only
    rcases r with _ | ⟨a, _ | ⟨b, t⟩⟩
    · obtain ⟨t, e⟩ := few 2 128 159 (by simp)
      rw [e]
      simp only [List.length_nil] at hn
      (refine RD_bad ?_; rw [← hD]; unfold Lib.decodeN; repeat' split) <;> first | with_reducible rfl | (exfalso; omega)
    · obtain ⟨t, e⟩ := few 2 128 159 (by simp)
      rw [e]
      simp only [List.length_cons, List.length_nil] at hn
      (refine RD_bad ?_; rw [← hD]; unfold Lib.decodeN; repeat' split) <;> first | with_reducible rfl | (exfalso; omega)
    · obtain rfl := e1 a (b :: t) rfl
      obtain rfl := e2 _ b t rfl
      simp only [List.length_cons] at hn
      clear e1 e2 e3 few hb
      rw [conts_2]
      rcases Classical.em ((y1 : Int) < 128 ∨ (y1 : Int) > 159) with q | q
      · rw [if_pos q]
        (refine RD_bad ?_; rw [← hD]; unfold Lib.decodeN; repeat' split) <;> first | with_reducible rfl | (exfalso; omega)
      · rw [if_neg q]
        rcases Classical.em ((y2 : Int) < 128 ∨ (y2 : Int) > 191) with q2 | q2
        · rw [if_pos q2]
          (refine RD_bad ?_; rw [← hD]; unfold Lib.decodeN; repeat' split) <;> first | with_reducible rfl | (exfalso; omega)
        · rw [if_neg q2]
          (refine RD_ok ?_ (by simp); rw [← hD]; unfold Lib.decodeN; repeat' split) <;> first | exact rfl | (exfalso; omega)
  · rw [hb, if_neg (show ¬ (2 = 0) by omega)]
    dsimp only
    rcases r with _ | ⟨a, _ | ⟨b, t⟩⟩
    · obtain ⟨t, e⟩ := few 2 128 191 (by simp)
      rw [e]
      simp only [List.length_nil] at hn
      (refine RD_bad ?_; rw [← hD]; unfold Lib.decodeN; repeat' split) <;> first | with_reducible rfl | (exfalso; omega)
    · obtain ⟨t, e⟩ := few 2 128 191 (by simp)
      rw [e]
      simp only [List.length_cons, List.length_nil] at hn
      (refine RD_bad ?_; rw [← hD]; unfold Lib.decodeN; repeat' split) <;> first | with_reducible rfl | (exfalso; omega)
    · obtain rfl := e1 a (b :: t) rfl
      obtain rfl := e2 _ b t rfl
      simp only [List.length_cons] at hn
      clear e1 e2 e3 few hb
      rw [conts_2]
      rcases Classical.em ((y1 : Int) < 128 ∨ (y1 : Int) > 191) with q | q
      · rw [if_pos q]
        (refine RD_bad ?_; rw [← hD]; unfold Lib.decodeN; repeat' split) <;> first | with_reducible rfl | (exfalso; omega)
      · rw [if_neg q]
        rcases Classical.em ((y2 : Int) < 128 ∨ (y2 : Int) > 191) with q2 | q2
        · rw [if_pos q2]
          (refine RD_bad ?_; rw [← hD]; unfold Lib.decodeN; repeat' split) <;> first | with_reducible rfl | (exfalso; omega)
        · rw [if_neg q2]
          (refine RD_ok ?_ (by simp); rw [← hD]; unfold Lib.decodeN; repeat' split) <;> first | exact rfl | (exfalso; omega)
  · rw [hb, if_neg (show ¬ (3 = 0) by omega)]
    dsimp only
    rcases r with _ | ⟨a, _ | ⟨b, _ | ⟨c, t⟩⟩⟩
    · obtain ⟨t, e⟩ := few 3 144 191 (by simp)
      rw [e]
      simp only [List.length_nil] at hn
      (refine RD_bad ?_; rw [← hD]; unfold Lib.decodeN; repeat' split) <;> first | with_reducible rfl | (exfalso; omega)
    · obtain ⟨t, e⟩ := few 3 144 191 (by simp)
      rw [e]
      simp only [List.length_cons, List.length_nil] at hn
      (refine RD_bad ?_; rw [← hD]; unfold Lib.decodeN; repeat' split) <;> first | with_reducible rfl | (exfalso; omega)
    · obtain ⟨t, e⟩ := few 3 144 191 (by simp)
      rw [e]
      simp only [List.length_cons, List.length_nil] at hn
      (refine RD_bad ?_; rw [← hD]; unfold Lib.decodeN; repeat' split) <;> first | with_reducible rfl | (exfalso; omega)
    · obtain rfl := e1 a (b :: c :: t) rfl
      obtain rfl := e2 _ b (c :: t) rfl
      obtain rfl := e3 _ _ c t rfl
      simp only [List.length_cons] at hn
      clear e1 e2 e3 few hb
      rw [conts_3]
      rcases Classical.em ((y1 : Int) < 144 ∨ (y1 : Int) > 191) with q | q
      · rw [if_pos q]
        (refine RD_bad ?_; rw [← hD]; unfold Lib.decodeN; repeat' split) <;> first | with_reducible rfl | (exfalso; omega)
      · rw [if_neg q]
        rcases Classical.em ((y2 : Int) < 128 ∨ (y2 : Int) > 191) with q2 | q2
        · rw [if_pos q2]
          (refine RD_bad ?_; rw [← hD]; unfold Lib.decodeN; repeat' split) <;> first | with_reducible rfl | (exfalso; omega)
        · rw [if_neg q2]
          rcases Classical.em ((y3 : Int) < 128 ∨ (y3 : Int) > 191) with q3 | q3
          · rw [if_pos q3]
            (refine RD_bad ?_; rw [← hD]; unfold Lib.decodeN; repeat' split) <;> first | with_reducible rfl | (exfalso; omega)
          · rw [if_neg q3]
            (refine RD_ok ?_ (by simp); rw [← hD]; unfold Lib.decodeN; repeat' split) <;> first | exact rfl | (exfalso; omega)
  · rw [hb, if_neg (show ¬ (3 = 0) by omega)]
    dsimp only
    rcases r with _ | ⟨a, _ | ⟨b, _ | ⟨c, t⟩⟩⟩
    · obtain ⟨t, e⟩ := few 3 128 191 (by simp)
      rw [e]
      simp only [List.length_nil] at hn
      (refine RD_bad ?_; rw [← hD]; unfold Lib.decodeN; repeat' split) <;> first | with_reducible rfl | (exfalso; omega)
    · obtain ⟨t, e⟩ := few 3 128 191 (by simp)
      rw [e]
      simp only [List.length_cons, List.length_nil] at hn
      (refine RD_bad ?_; rw [← hD]; unfold Lib.decodeN; repeat' split) <;> first | with_reducible rfl | (exfalso; omega)
    · obtain ⟨t, e⟩ := few 3 128 191 (by simp)
      rw [e]
      simp only [List.length_cons, List.length_nil] at hn
      (refine RD_bad ?_; rw [← hD]; unfold Lib.decodeN; repeat' split) <;> first | with_reducible rfl | (exfalso; omega)
    · obtain rfl := e1 a (b :: c :: t) rfl
      obtain rfl := e2 _ b (c :: t) rfl
      obtain rfl := e3 _ _ c t rfl
      simp only [List.length_cons] at hn
      clear e1 e2 e3 few hb
      rw [conts_3]
      rcases Classical.em ((y1 : Int) < 128 ∨ (y1 : Int) > 191) with q | q
      · rw [if_pos q]
        (refine RD_bad ?_; rw [← hD]; unfold Lib.decodeN; repeat' split) <;> first | with_reducible rfl | (exfalso; omega)
      · rw [if_neg q]
        rcases Classical.em ((y2 : Int) < 128 ∨ (y2 : Int) > 191) with q2 | q2
        · rw [if_pos q2]
          (refine RD_bad ?_; rw [← hD]; unfold Lib.decodeN; repeat' split) <;> first | with_reducible rfl | (exfalso; omega)
        · rw [if_neg q2]
          rcases Classical.em ((y3 : Int) < 128 ∨ (y3 : Int) > 191) with q3 | q3
          · rw [if_pos q3]
            (refine RD_bad ?_; rw [← hD]; unfold Lib.decodeN; repeat' split) <;> first | with_reducible rfl | (exfalso; omega)
          · rw [if_neg q3]
            (refine RD_ok ?_ (by simp); rw [← hD]; unfold Lib.decodeN; repeat' split) <;> first | exact rfl | (exfalso; omega)
  · rw [hb, if_neg (show ¬ (3 = 0) by omega)]
    dsimp only
    rcases r with _ | ⟨a, _ | ⟨b, _ | ⟨c, t⟩⟩⟩
    · obtain ⟨t, e⟩ := few 3 128 143 (by simp)
      rw [e]
      simp only [List.length_nil] at hn
      (refine RD_bad ?_; rw [← hD]; unfold Lib.decodeN; repeat' split) <;> first | with_reducible rfl | (exfalso; omega)
    · obtain ⟨t, e⟩ := few 3 128 143 (by simp)
      rw [e]
      simp only [List.length_cons, List.length_nil] at hn
      (refine RD_bad ?_; rw [← hD]; unfold Lib.decodeN; repeat' split) <;> first | with_reducible rfl | (exfalso; omega)
    · obtain ⟨t, e⟩ := few 3 128 143 (by simp)
      rw [e]
      simp only [List.length_cons, List.length_nil] at hn
      (refine RD_bad ?_; rw [← hD]; unfold Lib.decodeN; repeat' split) <;> first | with_reducible rfl | (exfalso; omega)
    · obtain rfl := e1 a (b :: c :: t) rfl
      obtain rfl := e2 _ b (c :: t) rfl
      obtain rfl := e3 _ _ c t rfl
      simp only [List.length_cons] at hn
      clear e1 e2 e3 few hb
      rw [conts_3]
      rcases Classical.em ((y1 : Int) < 128 ∨ (y1 : Int) > 143) with q | q
      · rw [if_pos q]
        (refine RD_bad ?_; rw [← hD]; unfold Lib.decodeN; repeat' split) <;> first | with_reducible rfl | (exfalso; omega)
      · rw [if_neg q]
        rcases Classical.em ((y2 : Int) < 128 ∨ (y2 : Int) > 191) with q2 | q2
        · rw [if_pos q2]
          (refine RD_bad ?_; rw [← hD]; unfold Lib.decodeN; repeat' split) <;> first | with_reducible rfl | (exfalso; omega)
        · rw [if_neg q2]
          rcases Classical.em ((y3 : Int) < 128 ∨ (y3 : Int) > 191) with q3 | q3
          · rw [if_pos q3]
            (refine RD_bad ?_; rw [← hD]; unfold Lib.decodeN; repeat' split) <;> first | with_reducible rfl | (exfalso; omega)
          · rw [if_neg q3]
            (refine RD_ok ?_ (by simp); rw [← hD]; unfold Lib.decodeN; repeat' split) <;> first | exact rfl | (exfalso; omega)
  · rw [hb, if_pos rfl]
    refine .bad ?_
    rw [← hD]
    unfold Lib.decodeN
    rw [if_neg (by omega)]
    split
    · rw [if_neg (by omega)]
    · split
      · omega
      · split
        · rw [if_neg (by omega)]
        · rfl
end Go.Sx.YtmbakmdgmccgiaaDoor
/-! W06AD: UTF-8: both are one; texts in quotes. -/
namespace Go.Sx.YtmbakmdgmccgiaaDoor
open Go Go.Sx Go.Sx.Js
set_option autoImplicit false
set_option linter.unusedVariables false
set_option linter.unusedSimpArgs false
theorem conts_split : ∀ {m : Nat} {lo hi : Int} {l r b : List Int}, conts m lo hi l = .ok b r → l = b ++ r
  | 0, lo, hi, l, r, b, h => by injection h with h1 h2; subst h1 h2; rfl
  | m + 1, lo, hi, [], r, b, h => by cases h
  | m + 1, lo, hi, c :: l, r, b, h => by
    rw [conts_c] at h
    split at h
    · cases h
    · obtain ⟨b', h1, rfl⟩ := map_ok h
      rw [conts_split h1]; rfl
theorem rune_split {l r b : List Int} (h : Js.rune l = .ok b r) : l = b ++ r := by
  cases l with
  | nil => cases h
  | cons c l =>
    rw [rune_cons] at h
    split at h
    · cases h
    · obtain ⟨b', h1, rfl⟩ := map_ok h
      rw [conts_split h1]; rfl
theorem u8s_getD {l : List Int} (h : Byt l) (k : Nat) : ((u8s l).getD k 0).toNat = (l.getD k 0).toNat := by
  unfold u8s
  rw [List.getD_eq_getElem?_getD, List.getD_eq_getElem?_getD, List.getElem?_map]
  by_cases hk : k < l.length
  · have := h l[k] (List.getElem_mem hk)
    simp [hk]
    omega
  · simp [hk]
theorem getD_byt {l : List Int} (h : Byt l) (k : Nat) : 0 ≤ l.getD k 0 ∧ l.getD k 0 ≤ 255 := by
  rw [List.getD_eq_getElem?_getD]
  by_cases hk : k < l.length
  · have := h l[k] (List.getElem_mem hk)
    simpa [hk] using this
  · simp [hk]
theorem utf8_s (m : Nat) (c : Int) (r : List Int) : utf8 (m + 1) (c :: r) = if c < 128 then utf8 m r else match Js.rune (c :: r) with
    | .ok _ r' => utf8 m r'
    | .bad _ _ => false := rfl
theorem valid_utf8 : ∀ (m : Nat) (l : List Int), Byt l → l.length ≤ m → Lib.validGoD m (u8s l) = utf8 m l
  | 0, l, _, _ => rfl
  | m + 1, [], _, _ => rfl
  | m + 1, c :: r, hb, hl => by
    have hr : Byt r := fun x hx => hb x (by simp [hx])
    have hc := hb c (by simp)
    simp only [List.length_cons] at hl
    have hlen : (u8s (c :: r)).length = r.length + 1 := by simp [u8s]
    have hN : Lib.decodeL (u8s (c :: r)) = Lib.decodeN (r.length + 1) c.toNat (r.getD 0 0).toNat (r.getD 1 0).toNat (r.getD 2 0).toNat := by
      rw [Lib.decodeL_N, hlen, u8s_getD hb, u8s_getD hb, u8s_getD hb, u8s_getD hb]
      rfl
    have hne : ¬ u8s (c :: r) = [] := by simp [u8s]
    have hgo : Lib.validGoD (m + 1) (u8s (c :: r)) = if u8s (c :: r) = [] then true else if (Lib.decodeL (u8s (c :: r))).1 = 65533 ∧ (Lib.decodeL (u8s (c :: r))).2 = 1 then false else Lib.validGoD m ((u8s (c :: r)).drop (Lib.decodeL (u8s (c :: r))).2) := rfl
    rw [hgo, if_neg hne, hN, utf8_s]
    by_cases h1 : c < 128
    · have hD : Lib.decodeN (r.length + 1) c.toNat (r.getD 0 0).toNat (r.getD 1 0).toNat (r.getD 2 0).toNat = (c.toNat, 1) := by
        unfold Lib.decodeN
        rw [if_pos (by omega)]
      rw [hD, if_neg (by simp only; omega), if_pos h1]
      exact valid_utf8 m r hr (by omega)
    · rw [if_neg h1]
      have h0 := getD_byt hr 0
      have h1' := getD_byt hr 1
      have h2' := getD_byt hr 2
      have hrd := rune_dec c.toNat r (r.getD 0 0).toNat (r.getD 1 0).toNat (r.getD 2 0).toNat (r.length + 1) (by omega) (by omega) rfl
        (fun a t e => by subst e; simp only [List.getD_cons_zero] at h0 ⊢; omega) (fun a b t e => by subst e; simp only [List.getD_cons_succ, List.getD_cons_zero] at h1' ⊢; omega) (fun a b d t e => by subst e; simp only [List.getD_cons_succ, List.getD_cons_zero] at h2' ⊢; omega) ⟨by omega, by omega, by omega⟩
      rw [show ((c.toNat : Nat) : Int) = c by omega] at hrd
      generalize Lib.decodeN (r.length + 1) c.toNat (r.getD 0 0).toNat (r.getD 1 0).toNat (r.getD 2 0).toNat = D at *
      cases hR : Js.rune (c :: r) with
      | ok b r' =>
        rw [hR] at hrd
        cases hrd with
        | ok e1 e2 =>
          have hsp := rune_split hR
          have hlr := congrArg List.length hsp
          simp only [List.length_cons, List.length_append] at hlr
          rw [if_neg (by omega), e1, hsp]
          have : (u8s (b ++ r')).drop b.length = u8s r' := by simp [u8s]
          rw [this]
          exact valid_utf8 m r' (fun x hx => hb x (by rw [hsp]; simp [hx])) (by omega)
      | bad e r' =>
        rw [hR] at hrd
        cases hrd with
        | bad e1 =>
          rw [if_pos (by rw [e1]; exact ⟨rfl, rfl⟩)]
theorem validL_utf8 {l : List Int} (h : Byt l) : validL l = utf8 l.length l := by
  unfold validL Lib.validD
  rw [show (u8s l).length = l.length by simp [u8s]]
  exact valid_utf8 _ _ h (Nat.le_refl _)
theorem utf8_nil (m : Nat) : utf8 m [] = true := by cases m <;> rfl
section
variable {n : Nat} {s : List Int}
end
/-! texts in quotes. -/
def hexD (x : Int) : Int := if x < 10 then 48 + x else 87 + x
def esc (c : Int) : List Int := if c = 34 ∨ c = 92 then [92, c] else if c = 10 then [92, 110] else if c = 13 then [92, 114] else if c = 9 then [92, 116] else if c < 32 then [92, 117, 48, 48, hexD (c / 16), hexD (c % 16)] else [c]
def escs : List Int → List Int
  | [] => []
  | c :: r => esc c ++ escs r
def quote (s : List Int) : List Int := 34 :: (escs s ++ [34])
theorem esc_len (c : Int) : 1 ≤ (esc c).length ∧ (esc c).length ≤ 6 := by
  unfold esc
  repeat' split
  all_goals simp
theorem escs_app : ∀ (a b : List Int), escs (a ++ b) = escs a ++ escs b
  | [], b => rfl
  | c :: r, b => by simp only [List.cons_append, escs, escs_app r b, List.append_assoc]
theorem escs_len : ∀ (s : List Int), (escs s).length ≤ 6 * s.length
  | [] => by simp [escs]
  | c :: r => by
    have := esc_len c
    have := escs_len r
    simp only [escs, List.length_append, List.length_cons]
    omega
theorem escs_take {s : List Int} {k : Nat} (h : k < s.length) : escs (s.take (k + 1)) = escs (s.take k) ++ esc s[k] := by
  rw [List.take_add_one]
  simp only [h, List.getElem?_eq_getElem, Option.toList]
  rw [escs_app]
  simp [escs]
theorem escs_take_len (s : List Int) (k : Nat) : (escs (s.take k)).length ≤ 6 * s.length := by
  have := escs_len (s.take k)
  rw [List.length_take] at this
  omega
def quoteOr (s : List Int) : (List Int) × Int := if utf8 s.length s = true then (quote s, 0) else ([], 3)
section
variable {n : Nat} {s : List Int}
theorem byte_go (x : Int) (b : List Int) (hb : b.length ≤ 100000000000000) : bldByte n (x, b) = some (b ++ [x]) := by
  unfold bldByte
  simp only
  rw [show bldCheck n b = some b from rfl]
  simp only [Option.bind_some]
  rw [if_pos (by omega)]
theorem str_go (x b : List Int) (hb : b.length + x.length ≤ 100000000000000) : bldStr n (x, b) = some ((x.length : Int), b ++ x) := by
  unfold bldStr
  simp only
  rw [show bldCheck n b = some b from rfl]
  simp only [Option.bind_some]
  rw [if_pos (by omega)]
def hexDs : List Int := [48, 49, 50, 51, 52, 53, 54, 55, 56, 57, 97, 98, 99, 100, 101, 102]
theorem hexD_tab : (List.range 32).all (fun k => (hexDs.drop ((k : Int).fdiv 16).toNat).take ((IntKind.wrap .u8 ((k : Int).fdiv 16 + 1)).toNat - ((k : Int).fdiv 16).toNat) == [hexD ((k : Int) / 16)] && (hexDs.drop (bits .and .u8 (k : Int) 15).toNat).take ((IntKind.wrap .u8 (bits .and .u8 (k : Int) 15 + 1)).toNat - (bits .and .u8 (k : Int) 15).toNat) == [hexD ((k : Int) % 16)] &&
    decide (0 ≤ (k : Int).fdiv 16 ∧ (k : Int).fdiv 16 ≤ IntKind.wrap .u8 ((k : Int).fdiv 16 + 1) ∧ IntKind.wrap .u8 ((k : Int).fdiv 16 + 1) ≤ 16) && decide (0 ≤ bits .and .u8 (k : Int) 15 ∧ bits .and .u8 (k : Int) 15 ≤ IntKind.wrap .u8 (bits .and .u8 (k : Int) 15 + 1) ∧ IntKind.wrap .u8 (bits .and .u8 (k : Int) 15 + 1) ≤ 16)) = true := by kernel_rfl
theorem hexD_go {c : Int} (h0 : 0 ≤ c) (h1 : c < 32) : (hexDs.drop (c.fdiv 16).toNat).take ((IntKind.wrap .u8 (c.fdiv 16 + 1)).toNat - (c.fdiv 16).toNat) = [hexD (c / 16)] ∧ (hexDs.drop (bits .and .u8 c 15).toNat).take ((IntKind.wrap .u8 (bits .and .u8 c 15 + 1)).toNat - (bits .and .u8 c 15).toNat) = [hexD (c % 16)] ∧
    (0 ≤ c.fdiv 16 ∧ c.fdiv 16 ≤ IntKind.wrap .u8 (c.fdiv 16 + 1) ∧ IntKind.wrap .u8 (c.fdiv 16 + 1) ≤ 16) ∧ (0 ≤ bits .and .u8 c 15 ∧ bits .and .u8 c 15 ≤ IntKind.wrap .u8 (bits .and .u8 c 15 + 1) ∧ IntKind.wrap .u8 (bits .and .u8 c 15 + 1) ≤ 16) := by
  obtain ⟨k, rfl⟩ := Int.eq_ofNat_of_zero_le h0
  have := List.all_eq_true.1 hexD_tab k (List.mem_range.2 (by omega))
  simp only [Bool.and_eq_true, beq_iff_eq, decide_eq_true_eq] at this
  exact ⟨this.1.1.1, this.1.1.2, this.1.2, this.2⟩
theorem jQuote_go (hs : Byt s) (hl : s.length ≤ 10000000000) (hn : s.length + 5 < n) : Gives (jQuote n s) (fun r => r = quoteOr s) := by
  unfold jQuote quoteOr
  refine Gives.bind_eq (r := utf8 s.length s) (by show validRun s = _; unfold validRun; rw [validL_utf8 hs]) ?_
  cases hu : utf8 s.length s with
  | false => exact Gives.pos rfl (Gives.of_some rfl)
  | true =>
    refine Gives.neg (by simp) ?_
    rw [if_pos rfl]
    refine Gives.bind_eq (byte_go 34 [] (by simp)) ?_
    refine Gives.loop (fun z => ∃ k : Nat, z = (s, (s.length : Int), (k : Int), 34 :: escs (s.take k)) ∧ k ≤ s.length) (fun z => s.length - z.2.2.1.toNat) (fun rec z hz hrec => ?_) n _ ⟨0, rfl, by omega⟩ (by dsimp only; omega)
    obtain ⟨k, rfl, hk⟩ := hz
    have hbl := escs_take_len s k
    dsimp only at hrec ⊢
    refine Gives.dite (fun hlt => ?_) fun hge => ?_
    · have hks : k < s.length := by omega
      have hc := hs _ (List.getElem_mem hks)
      have het := escs_take hks
      refine Gives.bind_eq (idx_get hks) ?_
      have hw : IntKind.wrap .i64 ((k : Int) + 1) = ((k + 1 : Nat) : Int) := by rw [wrap64 (by omega) (by omega)]; rfl
      generalize s[k] = c at *
      have fin : ∀ b : List Int, b = (34 :: escs (s.take k)) ++ esc c → Gives (rec (s, (s.length : Int), IntKind.wrap .i64 ((k : Int) + 1), b)) (fun r => r = (quote s, 0)) := by
        rintro b rfl
        rw [hw]
        refine hrec _ ⟨k + 1, ?_, by omega⟩ (by dsimp only; omega)
        rw [het]
        rfl
      refine Gives.bind_eq (r := Out.go (s, c, (s.length : Int), (k : Int), c, decide (c = 34 ∨ c = 92), 34 :: escs (s.take k))) ?_ ?_
      · by_cases h1 : c = 34
        · rw [if_pos (by simpa using h1)]; simp [h1]
        · rw [if_neg (by simpa using h1)]; simp [h1]; rfl
      dsimp only
      unfold esc at fin
      refine Gives.dite (fun h1 => ?_) fun h1 => ?_
      · rw [if_pos h1] at fin
        refine Gives.bind_eq (byte_go 92 _ (by simp; omega)) (Gives.bind_eq (byte_go c _ (by simp; omega)) (fin _ (by simp)))
      · rw [if_neg h1] at fin
        refine Gives.eite (fun h2 => ?_) fun h2 => ?_
        · rw [if_pos h2] at fin
          exact Gives.bind_eq (str_go [92, 110] _ (by simp; omega)) (fin _ rfl)
        · rw [if_neg h2] at fin
          refine Gives.eite (fun h3 => ?_) fun h3 => ?_
          · rw [if_pos h3] at fin
            exact Gives.bind_eq (str_go [92, 114] _ (by simp; omega)) (fin _ rfl)
          · rw [if_neg h3] at fin
            refine Gives.eite (fun h4 => ?_) fun h4 => ?_
            · rw [if_pos h4] at fin
              exact Gives.bind_eq (str_go [92, 116] _ (by simp; omega)) (fin _ rfl)
            · rw [if_neg h4] at fin
              refine Gives.dite (fun h5 => ?_) fun h5 => ?_
              · rw [if_pos h5] at fin
                obtain ⟨g1, g2, g3, g4⟩ := hexD_go hc.1 h5
                have g1 : List.take ((IntKind.wrap .u8 (c.fdiv 16 + 1)).toNat - (c.fdiv 16).toNat) (List.drop (c.fdiv 16).toNat [48, 49, 50, 51, 52, 53, 54, 55, 56, 57, 97, 98, 99, 100, 101, 102]) = [hexD (c / 16)] := g1
                have g2 : List.take ((IntKind.wrap .u8 (bits .and .u8 c 15 + 1)).toNat - (bits .and .u8 c 15).toNat) (List.drop (bits .and .u8 c 15).toNat [48, 49, 50, 51, 52, 53, 54, 55, 56, 57, 97, 98, 99, 100, 101, 102]) = [hexD (c % 16)] := g2
                refine Gives.pos g3 ?_
                rw [g1]
                refine Gives.pos (by simp) (Gives.pos g4 ?_)
                rw [g2]
                refine Gives.pos (by simp) ?_
                exact Gives.bind_eq (str_go _ _ (by simp; omega)) (fin _ (by simp))
              · rw [if_neg h5] at fin
                exact Gives.bind_eq (byte_go c _ (by simp; omega)) (fin _ rfl)
    · obtain rfl : k = s.length := by omega
      rw [List.take_length] at hbl ⊢
      refine Gives.bind_eq (byte_go 34 _ (by simp; omega)) (Gives.bind_eq rfl (Gives.of_some rfl))
end
end Go.Sx.YtmbakmdgmccgiaaDoor
