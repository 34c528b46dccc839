/- Part of a proof by a small interpreter on plain values; no condition. -/
import Derived.Test.YtmbakmdgmccgiaaDoorWb
/-! W06Q: the program's reader: numbers. -/
namespace Go.Sx.YtmbakmdgmccgiaaDoor
open Go Go.Sx Go.Sx.Js
set_option autoImplicit false
set_option linter.unusedVariables false
set_option linter.unusedSimpArgs false
section
variable {n : Nat}
theorem liteHas (t : List Int) : stringsliteHasPrefix n (t, [45]) = some (decide (hd t = 45)) := by
  unfold stringsliteHasPrefix
  cases t with
  | nil => rfl
  | cons c r =>
    simp only
    rw [if_pos (by simp; omega), if_pos (by simp; omega)]
    simp [hd]
    rfl
theorem has_v (t : List Int) : hasPrefix n (t, [45]) = some (decide (hd t = 45)) := by
  unfold hasPrefix
  simp only
  rw [liteHas]
  rfl
theorem trim_v (t : List Int) : trimPrefix n (t, [45]) = some (if hd t = 45 then t.tail else t) := by
  unfold trimPrefix stringsliteTrimPrefix
  simp only
  rw [liteHas]
  simp only [Option.bind_some]
  by_cases h : hd t = 45
  · cases t with
    | nil => simp [hd] at h
    | cons c r =>
      rw [if_pos (by simpa using h), if_pos (by simp; omega), if_pos h]
      simp
  · rw [if_neg (by simpa using h), if_neg h]
    rfl
theorem intLoop_cons (c : Int) (r : List Int) (n : Int) : intLoop (c :: r) n = if n < Int.tdiv (-9223372036854775808 + (c - 48)) 10 then none else intLoop r (10 * n - (c - 48)) := rfl
theorem integer_go {t : List Int} (hd' : ∀ c ∈ (if hd t = 45 then t.tail else t), 48 ≤ c ∧ c ≤ 57) (hl : t.length ≤ 4611686018427387904) (hn : t.length < n) : integer n t = some (integerOf t) := by
  unfold integer
  rw [has_v, trim_v]
  simp only [Option.bind_some]
  generalize hu : (if hd t = 45 then t.tail else t) = u at *
  have hul : u.length ≤ t.length := by
    rw [← hu]; split
    · simp
    · exact Nat.le_refl _
  have key : ∀ v, (v = match intLoop u 0 with
      | some n => if hd t = 45 then (n, true) else if n = -9223372036854775808 then (0, false) else (-n, true)
      | none => (0, false)) → v = integerOf t := by
    intro v hv
    rw [hv]
    unfold integerOf
    by_cases h : hd t = 45
    · rw [if_pos h] at hu ⊢
      rw [hu]
      cases intLoop u 0 with
      | none => rfl
      | some q => simp only [if_pos h]
    · rw [if_neg h] at hu ⊢
      subst hu
      cases intLoop t 0 with
      | none => rfl
      | some q => simp only [if_neg h]
  refine Gives.eq (Gives.mono (Q := fun v => v = match intLoop u 0 with
      | some n => if hd t = 45 then (n, true) else if n = -9223372036854775808 then (0, false) else (-n, true)
      | none => (0, false)) ?_ key)
  refine Gives.loop (fun z => ∃ (k : Nat) (q : Int), z = (decide (hd t = 45), q, (u.length : Int), (k : Int), u) ∧ k ≤ u.length ∧ (-9223372036854775808 ≤ q ∧ q ≤ 0) ∧ intLoop (u.drop k) q = intLoop u 0) (fun z => u.length - z.2.2.2.1.toNat) (fun rec z hz hrec => ?_) n _ ⟨0, 0, rfl, by omega, by omega, rfl⟩ (by simp; omega)
  obtain ⟨k, q, rfl, hk, hq, hI⟩ := hz
  dsimp only at hrec ⊢
  refine Gives.dite (fun hlt => ?_) fun hge => ?_
  · have hku : k < u.length := by omega
    have hdr : u.drop k = u[k] :: u.drop (k + 1) := List.drop_eq_getElem_cons hku
    have hc := hd' _ (List.getElem_mem hku)
    refine Gives.pos (by omega) ?_
    rw [show u.getD (k : Int).toNat 0 = u[k] by simp [hku]]
    rw [hdr] at hI
    rw [intLoop_cons] at hI
    rw [wrap_u8 (n := u[k] - 48) (by omega) (by omega), wrap64 (n := u[k] - 48) (by omega) (by omega), wrap64 (n := -9223372036854775808 + (u[k] - 48)) (by omega) (by omega)]
    have hdv : Int.tdiv (-9223372036854775808 + (u[k] - 48)) 10 = -((9223372036854775808 - (u[k] - 48)) / 10) := by
      rw [show -9223372036854775808 + (u[k] - 48) = -(9223372036854775808 - (u[k] - 48)) by omega, Int.neg_tdiv, Int.tdiv_eq_ediv_of_nonneg (by omega)]
    rw [wrap64 (n := Int.tdiv _ 10) (by rw [hdv]; omega) (by rw [hdv]; omega)]
    refine Gives.dite (fun h1 => ?_) fun h1 => ?_
    · rw [if_pos h1] at hI
      rw [← hI]
      exact Gives.of_some rfl
    · rw [if_neg h1] at hI
      rw [hdv] at h1
      rw [wrap64 (n := 10 * q) (by omega) (by omega), wrap64 (n := 10 * q - (u[k] - 48)) (by omega) (by omega), wrap64 (n := (k : Int) + 1) (by omega) (by omega)]
      exact hrec _ ⟨k + 1, _, rfl, by omega, by omega, hI⟩ (by dsimp only; omega)
  · obtain rfl : k = u.length := by omega
    rw [List.drop_length] at hI
    have hI : some q = intLoop u 0 := hI
    rw [← hI]
    dsimp only
    by_cases h : hd t = 45
    · rw [if_pos h]
      exact Gives.dpos h (Gives.of_some rfl)
    · rw [if_neg h]
      refine Gives.dneg h ?_
      refine Gives.eite (fun h2 => ?_) fun h2 => ?_
      · rw [if_pos h2]
        exact Gives.of_some rfl
      · rw [if_neg h2, wrap64 (by omega) (by omega)]
        exact Gives.of_some (by rw [Int.zero_sub])
end
end Go.Sx.YtmbakmdgmccgiaaDoor
/-! W06R: the program's reader: numbers, put together. -/
namespace Go.Sx.YtmbakmdgmccgiaaDoor
open Go Go.Sx Go.Sx.Js
set_option autoImplicit false
set_option linter.unusedVariables false
set_option linter.unusedSimpArgs false
section
variable {n : Nat} {s : List Int}
/-- what a number's reading gives: its kind's cells, and the reader. -/
abbrev JT := Int × Bool × (List Int) × Int × Bool × (List JV) × (List (List Int)) × RS
def JT.val (r : JT) : JV := JV.mk r.1 r.2.1 r.2.2.1 r.2.2.2.1 r.2.2.2.2.1 r.2.2.2.2.2.1 r.2.2.2.2.2.2.1
def AftJ (s : List Int) : PR JV → JT → Prop
  | .ok x l => fun r => JT.val r = x ∧ In s l r.2.2.2.2.2.2.2
  | .bad e l => fun r => Er s e l r.2.2.2.2.2.2.2
def AftW (s : List Int) (i0 : Nat) : PR (Nat × Bool) → Bool → RS → Prop
  | .ok q l => fun w y => w = q.2 ∧ ∃ (f : Int) (p : Pool), y = (s, ((i0 + q.1 : Nat) : Int), f, p) ∧ f < 0 ∧ At s (i0 + q.1) l
  | .bad e l => fun _ => Er s e l
theorem peek_er {y : RS} {e : Int} {l : List Int} (h : Er s e l y) : jPeek n y = some (-1, y) := by
  obtain ⟨a, f, p, rfl, hf, hp⟩ := h
  exact peek_bad hf
theorem bind_assoc {α β γ : Type} (r : PR α) (f : α → List Int → PR β) (g : β → List Int → PR γ) : (r.bind f).bind g = r.bind fun x l => (f x l).bind g := by cases r <;> rfl
theorem step_ok {k k' : Nat} {l r : List Int} (h : Js.step k l = .ok k' r) : k' = k + 1 ∧ r = l.tail := by
  unfold Js.step at h
  split at h
  · cases h
  · injection h with h1 h2
    exact ⟨h1.symm, h2.symm⟩
theorem digits1_ok : ∀ {k k' : Nat} {any : Bool} {l r : List Int}, digits1 k any l = .ok k' r → ∃ d, l = d ++ r ∧ k' = k + d.length ∧ ∀ c ∈ d, 48 ≤ c ∧ c ≤ 57
  | k, k', any, [], r, h => by
    unfold digits1 at h
    split at h
    · injection h with h1 h2
      subst h1 h2
      exact ⟨[], rfl, rfl, by simp⟩
    · cases h
  | k, k', any, c :: l, r, h => by
    unfold digits1 at h
    split at h
    · rename_i hc
      split at h
      · cases h
      · obtain ⟨d, rfl, rfl, h3⟩ := digits1_ok h
        have hc' : 48 ≤ c ∧ c ≤ 57 := by simpa [isDigit] using hc
        exact ⟨c :: d, rfl, by simp; omega, fun x hx => by
          rcases List.mem_cons.1 hx with rfl | hx
          · exact hc'
          · exact h3 x hx⟩
    · split at h
      · injection h with h1 h2
        subst h1 h2
        exact ⟨[], rfl, rfl, by simp⟩
      · cases h
theorem numSign_ok {k : Nat} {l r : List Int} (h : numSign l = .ok k r) : (k = 0 ∧ l = r ∧ hd l ≠ 45) ∨ (k = 1 ∧ l = 45 :: r) := by
  unfold numSign at h
  split at h
  · rename_i h1
    obtain ⟨e1, e2⟩ := step_ok h
    cases l with
    | nil => simp [hd] at h1
    | cons c l => exact .inr ⟨e1, by rw [e2]; simp only [List.tail_cons]; rw [show c = 45 from h1]⟩
  · injection h with h1 h2
    exact .inl ⟨h1.symm, h2, by assumption⟩
theorem numInt_ok {k k' : Nat} {l r : List Int} (h : numInt k l = .ok k' r) : ∃ d, l = d ++ r ∧ k' = k + d.length ∧ ∀ c ∈ d, 48 ≤ c ∧ c ≤ 57 := by
  unfold numInt at h
  split at h
  · rename_i h1
    obtain ⟨e1, e2⟩ := step_ok h
    cases l with
    | nil => simp [hd] at h1
    | cons c l =>
      have h1 : c = 48 := h1
      subst h1
      exact ⟨[48], by rw [e2]; rfl, by rw [e1]; rfl, by simp⟩
  · exact digits1_ok h
/-- a whole number's text: digits, behind a sign. -/
theorem numText_whole {k : Nat} {l r : List Int} (h : numText l = .ok (k, true) r) : ∀ c ∈ (if hd (l.take k) = 45 then (l.take k).tail else l.take k), 48 ≤ c ∧ c ≤ 57 := by
  unfold numText at h
  obtain ⟨k1, r1, h1, h⟩ := bind_ok h
  obtain ⟨k2, r2, h2, h⟩ := bind_ok h
  obtain ⟨⟨k3, w3⟩, r3, h3, h⟩ := bind_ok h
  have h34 : k3 = k2 ∧ r3 = r2 ∧ w3 = true → k = k2 := by
    rintro ⟨rfl, rfl, rfl⟩
    unfold numExp at h
    split at h
    · obtain ⟨_, _, _, h⟩ := bind_ok h
      obtain ⟨_, _, _, h⟩ := bind_ok h
      obtain ⟨_, _, e⟩ := map_ok h
      injection e with _ e
      cases e
    · injection h with h _
      injection h with h _
      exact h.symm
  have hw3 : w3 = true := by
    unfold numExp at h
    split at h
    · obtain ⟨_, _, _, h⟩ := bind_ok h
      obtain ⟨_, _, _, h⟩ := bind_ok h
      obtain ⟨_, _, e⟩ := map_ok h
      injection e with _ e
      cases e
    · injection h with h _
      injection h with _ h
  have h33 : k3 = k2 ∧ r3 = r2 := by
    unfold numFrac at h3
    split at h3
    · obtain ⟨_, _, _, h3⟩ := bind_ok h3
      obtain ⟨_, _, e⟩ := map_ok h3
      injection e with _ e
      rw [hw3] at e
      cases e
    · injection h3 with e1 e2
      injection e1 with e1 _
      exact ⟨e1.symm, e2.symm⟩
  obtain rfl := h34 ⟨h33.1, h33.2, hw3⟩
  obtain ⟨d, rfl, rfl, hd'⟩ := numInt_ok h2
  rcases numSign_ok h1 with ⟨rfl, rfl, hne⟩ | ⟨rfl, rfl⟩
  · rw [Nat.zero_add, List.take_left']
    · by_cases hdd : hd d = 45
      · rw [if_pos hdd]
        exact fun c hc => hd' c (List.mem_of_mem_tail hc)
      · rw [if_neg hdd]
        exact hd'
    · rfl
  · rw [Nat.add_comm 1, List.take_succ_cons, List.take_left' rfl]
    rw [if_pos (show hd (45 :: d) = 45 from rfl)]
    exact hd'
theorem numbered_go {t : List Int} {w : Bool} (hw : w = true → ∀ c ∈ (if hd t = 45 then t.tail else t), 48 ≤ c ∧ c ≤ 57) (hl : t.length ≤ 4611686018427387904) (hn : t.length < n) : ∃ r, numbered n (t, w) = some r ∧ JV.mk r.1 r.2.1 r.2.2.1 r.2.2.2.1 r.2.2.2.2.1 r.2.2.2.2.2.1 r.2.2.2.2.2.2 = numVal t w := by
  unfold numbered
  cases w with
  | false => exact ⟨_, rfl, rfl⟩
  | true =>
    simp only [if_true]
    rw [integer_go (hw rfl) hl hn]
    exact ⟨_, rfl, rfl⟩
theorem number_go (hs : Byt s) (hl : s.length ≤ 4611686018427387904) {i : Nat} {f : Int} {p : Pool} {l : List Int} (h : At s i l) (hf : f < 0) (hn : s.length < n) : Gives (jNumber n (s, (i : Int), f, p)) (AftJ s (Js.number l)) := by
  have hlen := h.len
  unfold jNumber
  simp only
  refine Gives.bind (P := fun o => ∃ y : RS, o = Out.go ((i : Int), y.1, y.2.1, y.2.2.1, 0, false, [], 0, false, y.2.2.2, [], []) ∧ AftN s i (numSign l) y) ?_ fun o ho => ?_
  · refine Gives.bind_eq (peek_ok hs h hf) ?_
    unfold numSign
    refine Gives.eite (fun h1 => ?_) fun h1 => ?_
    · rw [if_pos h1]
      refine Gives.bind (step_go (i0 := i) (k := 0) hl h hf (by intro e; subst e; simp [hd] at h1)) fun y hy => ?_
      exact Gives.of_some ⟨y, rfl, hy⟩
    · rw [if_neg h1]
      exact Gives.of_some ⟨(s, (i : Int), f, p), rfl, f, p, rfl, hf, h⟩
  obtain ⟨y1, rfl, h1⟩ := ho
  dsimp only
  refine Gives.bind (P := fun o => ∃ y : RS, o = Out.go ((i : Int), y.1, y.2.1, y.2.2.1, 0, false, [], 0, false, y.2.2.2, [], []) ∧ AftN s i ((numSign l).bind fun k l => numInt k l) y) ?_ fun o ho => ?_
  · cases e1 : numSign l with
    | bad e r =>
      rw [e1] at h1
      refine Gives.bind_eq (peek_er (y := y1) h1) ?_
      refine Gives.eneg (by simp) ?_
      refine Gives.bind_eq (digits_bad (y := y1) h1 (by omega)) ?_
      exact Gives.of_some ⟨y1, rfl, h1⟩
    | ok k r =>
      rw [e1] at h1
      obtain ⟨f', p', rfl, hf', h'⟩ := h1
      simp only [PR.bind]
      refine Gives.bind_eq (peek_ok hs h' hf') ?_
      unfold numInt
      refine Gives.eite (fun h1 => ?_) fun h1 => ?_
      · rw [if_pos h1]
        refine Gives.bind (step_go (i0 := i) hl h' hf' (by intro e; subst e; simp [hd] at h1)) fun y hy => ?_
        exact Gives.of_some ⟨y, rfl, hy⟩
      · rw [if_neg h1]
        refine Gives.bind (digits_go (i0 := i) hs hl h' hf' (by have := h'.len; omega)) fun y hy => ?_
        exact Gives.of_some ⟨y, rfl, hy⟩
  obtain ⟨y2, rfl, h2⟩ := ho
  dsimp only
  clear h1
  refine Gives.bind (P := fun o => ∃ (w : Bool) (y : RS), o = Out.go ((i : Int), w, y.1, y.2.1, y.2.2.1, 0, false, [], 0, false, y.2.2.2, [], []) ∧ AftW s i (((numSign l).bind fun k l => numInt k l).bind fun k l => numFrac k l) w y) ?_ fun o ho => ?_
  · cases e2 : (numSign l).bind fun k l => numInt k l with
    | bad e r =>
      rw [e2] at h2
      refine Gives.bind_eq (peek_er (y := y2) h2) ?_
      refine Gives.eneg (by simp) ?_
      exact Gives.of_some ⟨_, y2, rfl, h2⟩
    | ok k r =>
      rw [e2] at h2
      obtain ⟨f', p', rfl, hf', h'⟩ := h2
      simp only [PR.bind]
      refine Gives.bind_eq (peek_ok hs h' hf') ?_
      unfold numFrac
      refine Gives.eite (fun h1 => ?_) fun h1 => ?_
      · rw [if_pos h1]
        refine Gives.bind (step_go (i0 := i) hl h' hf' (by intro e; subst e; simp [hd] at h1)) fun y hy => ?_
        cases e3 : Js.step k r with
        | bad e r' =>
          rw [e3] at hy
          refine Gives.bind_eq (digits_bad (y := y) hy (by omega)) ?_
          exact Gives.of_some ⟨_, y, rfl, hy⟩
        | ok k' r' =>
          rw [e3] at hy
          obtain ⟨f', p', rfl, hf', h'⟩ := hy
          refine Gives.bind (digits_go (i0 := i) hs hl h' hf' (by have := h'.len; omega)) fun y hy => ?_
          simp only [PR.bind]
          refine Gives.of_some ⟨_, y, rfl, ?_⟩
          cases e4 : digits k' r' with
          | bad e r'' => rw [e4] at hy; exact hy
          | ok k'' r'' => rw [e4] at hy; exact ⟨rfl, hy⟩
      · rw [if_neg h1]
        exact Gives.of_some ⟨_, _, rfl, rfl, f', p', rfl, hf', h'⟩
  obtain ⟨w3, y3, rfl, h3⟩ := ho
  dsimp only
  clear h2
  have e3 : (((numSign l).bind fun k l => numInt k l).bind fun k l => numFrac k l).bind (fun q l => numExp q.1 q.2 l) = numText l := by
    unfold numText
    rw [bind_assoc, bind_assoc]
  -- the end: a value, or none
  have fin : ∀ (w : Bool) (y : RS), AftW s i (numText l) w y → Gives (if (!(decide (y.2.2.1 < 0))) = true then some ((0 : Int), (false, (([] : List Int), ((0 : Int), (false, (([] : List JV), (([] : List (List Int)), (y.1, (y.2.1, (y.2.2.1, y.2.2.2))))))))))
      else (if 0 ≤ (i : Int) ∧ (i : Int) ≤ y.2.1 ∧ y.2.1 ≤ (y.1.length : Int) then
        (Option.bind (numbered n ((y.1.drop (i : Int).toNat).take (y.2.1.toNat - (i : Int).toNat), w)) fun r104 =>
          some (r104.1, (r104.2.1, (r104.2.2.1, (r104.2.2.2.1, (r104.2.2.2.2.1, (r104.2.2.2.2.2.1, (r104.2.2.2.2.2.2, (y.1, (y.2.1, (y.2.2.1, y.2.2.2))))))))))) else none)) (AftJ s (Js.number l)) := by
    intro w y hy
    unfold Js.number
    cases hT : numText l with
    | bad e r =>
      rw [hT] at hy
      obtain ⟨a, f', p', rfl, hf', hp⟩ := hy
      exact Gives.pos (by simp; omega) (Gives.of_some ⟨a, f', p', rfl, hf', hp⟩)
    | ok q r =>
      obtain ⟨k, w'⟩ := q
      rw [hT] at hy
      obtain ⟨rfl, f', p', rfl, hf', h'⟩ := hy
      have hlen' := h'.len
      dsimp only at hlen' h' ⊢
      refine Gives.neg (by simpa using hf') (Gives.pos (by omega) ?_)
      rw [show ((i + k : Nat) : Int).toNat - (i : Int).toNat = k by omega, show (i : Int).toNat = i by omega, h.drop]
      obtain ⟨v, hv1, hv2⟩ := numbered_go (n := n) (t := l.take k) (w := w) (fun hw => by subst hw; exact numText_whole hT) (by rw [List.length_take]; omega) (by rw [List.length_take]; omega)
      refine Gives.bind_eq hv1 (Gives.of_some ⟨hv2, i + k, f', p', rfl, hf', h'⟩)
  refine Gives.bind (o := jPeek n (y3.1, (y3.2.1, (y3.2.2.1, y3.2.2.2)))) (P := fun q => q.2 = y3 ∧ (∀ k r, (((numSign l).bind fun k l => numInt k l).bind fun k l => numFrac k l) = .ok k r → q.1 = hd r) ∧ (∀ e r, (((numSign l).bind fun k l => numInt k l).bind fun k l => numFrac k l) = .bad e r → q.1 = -1)) ?_ fun q hq => ?_
  · cases e4 : (((numSign l).bind fun k l => numInt k l).bind fun k l => numFrac k l) with
    | bad e r =>
      rw [e4] at h3
      exact Gives.of_eq (peek_er (y := y3) h3) ⟨rfl, (fun _ _ h => by cases h), fun _ _ _ => rfl⟩
    | ok k r =>
      rw [e4] at h3
      obtain ⟨_, f', p', rfl, hf', h'⟩ := h3
      exact Gives.of_eq (peek_ok hs h' hf') ⟨rfl, (fun _ _ h => by injection h with _ h; rw [h]), fun _ _ h => by cases h⟩
  obtain ⟨c, y⟩ := q
  obtain ⟨rfl, hq1, hq2⟩ := hq
  dsimp only at hq1 hq2 ⊢
  refine Gives.bind (P := fun o => o = Out.go ((i : Int), w3, decide (c = 101 ∨ c = 69), y.1, y.2.1, y.2.2.1, 0, false, [], 0, false, y.2.2.2, [], [])) ?_ fun o ho => ?_
  · refine Gives.eite (fun hc => Gives.of_some ?_) fun hc => Gives.of_some ?_
    · rw [show decide (c = 101 ∨ c = 69) = true by simp [hc]]
    · rw [show decide (c = 101 ∨ c = 69) = (c == 69) by simp [hc]; rfl]
  subst ho
  dsimp only
  cases e4 : (((numSign l).bind fun k l => numInt k l).bind fun k l => numFrac k l) with
  | bad e r =>
    rw [e4] at h3 e3
    have hc := hq2 e r e4
    refine Gives.neg (by simp [hc]) (fin w3 y ?_)
    rw [← e3]
    exact h3
  | ok q r =>
    obtain ⟨k, w⟩ := q
    rw [e4] at h3 e3
    have hc := hq1 _ r e4
    have e9 : numExp k w r = numText l := e3
    clear e3
    by_cases hx : c = 101 ∨ c = 69
    · refine Gives.pos (by simpa using hx) ?_
      unfold numExp at e9
      rw [← hc, if_pos hx] at e9
      obtain ⟨rfl, f', p', rfl, hf', h'⟩ := h3
      refine Gives.bind (step_go (i0 := i) hl h' hf' (by intro e; subst e; simp [hd] at hc; omega)) fun y hy => ?_
      refine Gives.bind (P := fun o => ∃ y : RS, o = Out.go ((i : Int), false, y.1, y.2.1, y.2.2.1, 0, false, [], 0, false, [], [], y.2.2.2) ∧ AftN s i ((Js.step k r).bind fun k l => numExpSign k l) y) ?_ fun o ho => ?_
      · have hP : Gives (jPeek n (y.1, (y.2.1, (y.2.2.1, y.2.2.2)))) (fun q => q.2 = y ∧ (∀ k' r', Js.step k r = .ok k' r' → q.1 = hd r') ∧ (∀ e r', Js.step k r = .bad e r' → q.1 = -1)) := by
          cases e5 : Js.step k r with
          | bad e r' =>
            rw [e5] at hy
            exact Gives.of_eq (peek_er (y := y) hy) ⟨rfl, (fun _ _ h => by cases h), fun _ _ _ => rfl⟩
          | ok k' r' =>
            rw [e5] at hy
            obtain ⟨f', p', rfl, hf', h'⟩ := hy
            exact Gives.of_eq (peek_ok hs h' hf') ⟨rfl, (fun _ _ h => by injection h with _ h; rw [h]), fun _ _ h => by cases h⟩
        refine Gives.bind hP fun q hq => ?_
        obtain ⟨c2, y'⟩ := q
        obtain ⟨rfl, hq1, hq2⟩ := hq
        dsimp only at hq1 hq2 ⊢
        refine Gives.bind (P := fun o => o = Out.go ((i : Int), false, decide (c2 = 43 ∨ c2 = 45), y'.1, y'.2.1, y'.2.2.1, 0, false, [], 0, false, y'.2.2.2, [], [])) ?_ fun o ho => ?_
        · refine Gives.eite (fun hc => Gives.of_some ?_) fun hc => Gives.of_some ?_
          · rw [show decide (c2 = 43 ∨ c2 = 45) = true by simp [hc]]
          · rw [show decide (c2 = 43 ∨ c2 = 45) = (c2 == 45) by simp [hc]; rfl]
        subst ho
        dsimp only
        cases e5 : Js.step k r with
        | bad e r' =>
          rw [e5] at hy
          have := hq2 e r' e5
          exact Gives.neg (by simp [this]) (Gives.of_some ⟨y', rfl, hy⟩)
        | ok k' r' =>
          rw [e5] at hy
          have hc2 := hq1 k' r' e5
          obtain ⟨f', p', rfl, hf', h'⟩ := hy
          simp only [PR.bind]
          unfold numExpSign
          by_cases hx : c2 = 43 ∨ c2 = 45
          · refine Gives.pos (by simpa using hx) ?_
            rw [← hc2, if_pos hx]
            refine Gives.bind (step_go (i0 := i) hl h' hf' (by intro e; subst e; simp [hd] at hc2; omega)) fun y hy => ?_
            exact Gives.of_some ⟨y, rfl, hy⟩
          · rw [← hc2, if_neg hx]
            exact Gives.neg (by simpa using hx) (Gives.of_some ⟨_, rfl, f', p', rfl, hf', h'⟩)
      · obtain ⟨y5, rfl, h5⟩ := ho
        dsimp only
        refine Gives.bind (o := jDigits n _) (P := fun y => AftW s i (numText l) false y) ?_ fun y hy => fin false y hy
        rw [← e9]
        cases e6 : (Js.step k r).bind fun k l => numExpSign k l with
        | bad e r' =>
          rw [e6] at h5
          refine Gives.of_eq (digits_bad (y := y5) h5 (by omega)) ?_
          rw [← bind_assoc, e6]
          exact h5
        | ok k' r' =>
          rw [e6] at h5
          obtain ⟨f', p', rfl, hf', h'⟩ := h5
          refine (digits_go (i0 := i) hs hl h' hf' (by have := h'.len; omega)).mono fun y hy => ?_
          rw [← bind_assoc, e6]
          simp only [PR.bind]
          cases e7 : digits k' r' with
          | bad e r'' => rw [e7] at hy; exact hy
          | ok k'' r'' => rw [e7] at hy; exact ⟨rfl, hy⟩
    · refine Gives.neg (by simpa using hx) (fin w3 y ?_)
      unfold numExp at e9
      rw [← hc, if_neg hx] at e9
      rw [← e9]
      exact h3
end
end Go.Sx.YtmbakmdgmccgiaaDoor
/-! W06S: the program's reader: lists, objects, values. -/
namespace Go.Sx.YtmbakmdgmccgiaaDoor
open Go Go.Sx Go.Sx.Js
set_option autoImplicit false
set_option linter.unusedVariables false
set_option linter.unusedSimpArgs false
section
variable {n : Nat} {s : List Int}
theorem blanks_len : ∀ l : List Int, (blanks l).length ≤ l.length
  | [] => Nat.le_refl _
  | c :: r => by
    unfold blanks
    split
    · have := blanks_len r; simp; omega
    · exact Nat.le_refl _
/-- the same, of a truth: none where it has stopped. -/
def AftF (s : List Int) : PR Bool → Bool × RS → Prop
  | .ok x l => fun r => r.1 = x ∧ In s l r.2
  | .bad e l => fun r => r.1 = false ∧ Er s e l r.2
theorem next_go (hs : Byt s) (hl : s.length ≤ 4611686018427387904) {e : Int} (he : 0 ≤ e) {y : RS} {l : List Int} (h : In s l y) (hn : s.length < n) : Gives (jNext n (e, y)) (AftF s (Js.next e l)) := by
  have hll : l.length ≤ s.length := by
    obtain ⟨_, _, _, _, _, h⟩ := h
    have := h.len
    omega
  unfold jNext
  refine Gives.bind (blanks_go (n := n) hs hl h (by omega)) fun y1 h1 => ?_
  obtain ⟨i, f, p, rfl, hf, h1⟩ := h1
  dsimp only
  refine Gives.bind_eq (peek_ok hs h1 hf) ?_
  dsimp only
  unfold Js.next
  generalize blanks l = l1 at *
  cases l1 with
  | nil =>
    refine Gives.eneg (by simp [hd]) (Gives.eneg (by simp [hd]; omega) ?_)
    exact Gives.bind_eq (fails_ok hf) (Gives.of_some ⟨rfl, In.er h1⟩)
  | cons c r =>
    rw [show hd (c :: r) = c from rfl, tail_in (f := f) (p := p) hl h1]
    dsimp only
    refine Gives.eite (fun hc => ?_) fun hc => ?_
    · rw [if_pos hc]
      exact Gives.of_some ⟨rfl, i + 1, f, p, rfl, hf, h1.tail⟩
    · rw [if_neg hc]
      refine Gives.eite (fun hc => ?_) fun hc => ?_
      · rw [if_pos hc]
        exact Gives.of_some ⟨rfl, i + 1, f, p, rfl, hf, h1.tail⟩
      · rw [if_neg hc]
        exact Gives.bind_eq (fails_ok hf) (Gives.of_some ⟨rfl, In.er h1⟩)
/-- behind a first byte: is there nothing? -/
theorem empty_go (hs : Byt s) (hl : s.length ≤ 4611686018427387904) {e : Int} (he : 0 ≤ e) {i : Nat} {f : Int} {p : Pool} {c : Int} {l : List Int} (h : At s i (c :: l)) (hf : f < 0) (hn : s.length < n) :
    Gives (jEmpty n (e, s, (i : Int), f, p)) (fun q => q.1 = decide (hd (blanks l) = e) ∧ if hd (blanks l) = e then In s (blanks l).tail q.2 else In s (blanks l) q.2) := by
  have hlen := h.len
  simp only [List.length_cons] at hlen
  unfold jEmpty
  dsimp only
  rw [tail_in (f := f) (p := p) hl h]
  refine Gives.bind (blanks_go (n := n) hs hl (y := (s, ((i + 1 : Nat) : Int), f, p)) ⟨i + 1, f, p, rfl, hf, h.tail⟩ (by omega)) fun y1 h1 => ?_
  obtain ⟨i, f, p, rfl, hf, h1⟩ := h1
  dsimp only
  refine Gives.bind_eq (peek_ok hs h1 hf) ?_
  dsimp only
  generalize blanks l = l1 at *
  refine Gives.eite (fun hc => ?_) fun hc => ?_
  · cases l1 with
    | nil => simp only [hd] at hc; omega
    | cons c r =>
      rw [tail_in (f := f) (p := p) hl h1]
      refine Gives.of_some ⟨by simp [hc], ?_⟩
      rw [if_pos hc]
      exact ⟨i + 1, f, p, rfl, hf, h1.tail⟩
  · refine Gives.of_some ⟨by simp [hc], ?_⟩
    rw [if_neg hc]
    exact ⟨i, f, p, rfl, hf, h1⟩
end
end Go.Sx.YtmbakmdgmccgiaaDoor
/-! W06T: what a reading leaves is no longer. -/
namespace Go.Sx.YtmbakmdgmccgiaaDoor
open Go Go.Sx Go.Sx.Js
set_option autoImplicit false
set_option linter.unusedVariables false
set_option linter.unusedSimpArgs false
theorem text_len : ∀ {m : Nat} {l r b : List Int}, Js.text m l = .ok b r → r.length < l.length
  | 0, l, r, b, h => by cases h
  | m + 1, [], r, b, h => by cases h
  | m + 1, c :: l, r, b, h => by
    rw [text_cons] at h
    split at h
    · injection h with _ h
      subst h
      simp
    · split at h
      · obtain ⟨b1, r1, h1, h⟩ := bind_ok h
        obtain ⟨b2, h2, _⟩ := map_ok h
        have := text_len h2
        have := escape_len h1
        simp; omega
      · split at h
        · cases h
        · split at h
          · obtain ⟨b2, h2, _⟩ := map_ok h
            have := text_len h2
            simp; omega
          · obtain ⟨b1, r1, h1, h⟩ := bind_ok h
            obtain ⟨b2, h2, _⟩ := map_ok h
            have := text_len h2
            have := rune_len h1
            simp at this ⊢
            omega
theorem next_len {e : Int} {l r : List Int} {b : Bool} (h : Js.next e l = .ok b r) : r.length < l.length := by
  have := blanks_len l
  unfold Js.next at h
  generalize blanks l = l1 at *
  cases l1 with
  | nil => cases h
  | cons c l1 =>
    simp only [List.length_cons] at this
    dsimp only at h
    split at h
    · injection h with _ h
      subst h
      omega
    · split at h
      · injection h with _ h
        subst h
        omega
      · cases h
theorem numExp_len {k : Nat} {w : Bool} {l r : List Int} {q : Nat × Bool} (h : numExp k w l = .ok q r) : r.length ≤ l.length := by
  unfold numExp at h
  split at h
  · obtain ⟨k1, r1, h1, h⟩ := bind_ok h
    obtain ⟨k2, r2, h2, h⟩ := bind_ok h
    obtain ⟨k3, h3, _⟩ := map_ok h
    obtain ⟨_, e1⟩ := step_ok h1
    obtain ⟨d, e3, _⟩ := digits1_ok h3
    have e2 : r2.length ≤ r1.length := by
      unfold numExpSign at h2
      split at h2
      · obtain ⟨_, e⟩ := step_ok h2
        rw [e]; simp
      · injection h2 with _ e
        rw [e]; exact Nat.le_refl _
    have : r1.length ≤ l.length := by rw [e1]; simp
    rw [e3] at e2
    simp at e2
    omega
  · injection h with _ e
    rw [e]; exact Nat.le_refl _
theorem numText_len {l r : List Int} {q : Nat × Bool} (h : numText l = .ok q r) : r.length ≤ l.length := by
  unfold numText at h
  obtain ⟨k1, r1, h1, h⟩ := bind_ok h
  obtain ⟨k2, r2, h2, h⟩ := bind_ok h
  obtain ⟨k3, r3, h3, h⟩ := bind_ok h
  have e4 := numExp_len h
  obtain ⟨d, e2, _⟩ := numInt_ok h2
  have e1 : r1.length ≤ l.length := by
    rcases numSign_ok h1 with ⟨_, e, _⟩ | ⟨_, e⟩ <;> rw [e] <;> simp
  have e3 : r3.length ≤ r2.length := by
    unfold numFrac at h3
    split at h3
    · obtain ⟨k1, r1, h1, h⟩ := bind_ok h3
      obtain ⟨k3, h3, _⟩ := map_ok h
      obtain ⟨_, e1⟩ := step_ok h1
      obtain ⟨d, e3, _⟩ := digits1_ok h3
      have : r1.length ≤ r2.length := by rw [e1]; simp
      rw [e3] at this
      simp at this
      omega
    · injection h3 with _ e
      rw [e]; exact Nat.le_refl _
  rw [e2] at e1
  simp at e1
  omega
theorem number_len {l r : List Int} {v : JV} (h : Js.number l = .ok v r) : r.length ≤ l.length := by
  unfold Js.number at h
  obtain ⟨k1, r1, h1, h⟩ := bind_ok h
  injection h with _ h
  subst h
  exact numText_len h1
section
variable {pv : List Int → PR JV} (hp : ∀ l v r, pv l = .ok v r → r.length ≤ l.length)
include hp
theorem elems_len : ∀ {m : Nat} {acc x : List JV} {l r : List Int}, Js.elems pv m acc l = .ok x r → r.length ≤ l.length
  | 0, acc, x, l, r, h => by cases h
  | m + 1, acc, x, l, r, h => by
    unfold Js.elems at h
    obtain ⟨v, r1, h1, h⟩ := bind_ok h
    obtain ⟨b, r2, h2, h⟩ := bind_ok h
    have e1 := hp _ _ _ h1
    have e2 := next_len h2
    split at h
    · have := elems_len h
      omega
    · injection h with _ h
      subst h
      omega
omit hp in
theorem member_len {m : Nat} {ns : List (List Int)} {l r b : List Int} (h : member m ns l = .ok b r) : r.length < l.length := by
  have e0 := blanks_len l
  unfold member at h
  generalize blanks l = l1 at *
  cases l1 with
  | nil => cases h
  | cons c l1 =>
    dsimp only at h
    simp only [List.length_cons] at e0
    split at h
    · obtain ⟨s, r1, h1, h⟩ := bind_ok h
      have e1 := text_len h1
      split at h
      · cases h
      · obtain ⟨_, r2, h2, h⟩ := bind_ok h
        injection h with _ h
        subst h
        have e2 := word_len h2
        have e3 := blanks_len r1
        omega
    · cases h
theorem members_len {k : Nat} : ∀ {m : Nat} {ns : List (List Int)} {acc : List JV} {x : List (List Int) × List JV} {l r : List Int}, members pv k m ns acc l = .ok x r → r.length ≤ l.length
  | 0, ns, acc, x, l, r, h => by cases h
  | m + 1, ns, acc, x, l, r, h => by
    unfold members at h
    obtain ⟨s, r0, h0, h⟩ := bind_ok h
    obtain ⟨v, r1, h1, h⟩ := bind_ok h
    obtain ⟨b, r2, h2, h⟩ := bind_ok h
    have e0 := member_len h0
    have e1 := hp _ _ _ h1
    have e2 := next_len h2
    split at h
    · have := members_len h
      omega
    · injection h with _ h
      subst h
      omega
theorem listOf_len {k : Nat} {l r : List Int} {v : JV} (h : listOf pv k l = .ok v r) : r.length ≤ l.length := by
  unfold listOf at h
  split at h
  · injection h with _ h
    subst h
    have := blanks_len l
    simp; omega
  · obtain ⟨_, h, _⟩ := map_ok h
    exact Nat.le_trans (elems_len hp h) (blanks_len l)
theorem objOf_len {k : Nat} {l r : List Int} {v : JV} (h : objOf pv k l = .ok v r) : r.length ≤ l.length := by
  unfold objOf at h
  split at h
  · injection h with _ h
    subst h
    have := blanks_len l
    simp; omega
  · obtain ⟨_, h, _⟩ := map_ok h
    exact Nat.le_trans (members_len hp h) (blanks_len l)
end
theorem value_0 (k : Nat) (l : List Int) : Js.value k 0 l =
    (if hd (blanks l) = 110 then (word [110, 117, 108, 108] (blanks l)).map fun _ => vNull
    else if hd (blanks l) = 116 then (word [116, 114, 117, 101] (blanks l)).map fun _ => vBool true
    else if hd (blanks l) = 102 then (word [102, 97, 108, 115, 101] (blanks l)).map fun _ => vBool false
    else if hd (blanks l) = 34 then (Js.text k (blanks l).tail).map vText
    else if hd (blanks l) = 91 then .bad 5 (blanks l)
    else if hd (blanks l) = 123 then .bad 5 (blanks l)
    else Js.number (blanks l)) := rfl
theorem value_s (k d : Nat) (l : List Int) : Js.value k (d + 1) l =
    (if hd (blanks l) = 110 then (word [110, 117, 108, 108] (blanks l)).map fun _ => vNull
    else if hd (blanks l) = 116 then (word [116, 114, 117, 101] (blanks l)).map fun _ => vBool true
    else if hd (blanks l) = 102 then (word [102, 97, 108, 115, 101] (blanks l)).map fun _ => vBool false
    else if hd (blanks l) = 34 then (Js.text k (blanks l).tail).map vText
    else if hd (blanks l) = 91 then listOf (Js.value k d) k (blanks l).tail
    else if hd (blanks l) = 123 then objOf (Js.value k d) k (blanks l).tail
    else Js.number (blanks l)) := rfl
theorem value_len {k : Nat} : ∀ {d : Nat} {l r : List Int} {v : JV}, Js.value k d l = .ok v r → r.length ≤ l.length := by
  intro d
  induction d with
  | zero =>
    intro l r v h
    rw [value_0] at h
    have e0 := blanks_len l
    have et : (blanks l).tail.length ≤ (blanks l).length := by simp
    repeat' split at h
    · obtain ⟨_, h, _⟩ := map_ok h; have := word_len h; omega
    · obtain ⟨_, h, _⟩ := map_ok h; have := word_len h; omega
    · obtain ⟨_, h, _⟩ := map_ok h; have := word_len h; omega
    · obtain ⟨_, h, _⟩ := map_ok h; have := text_len h; omega
    · cases h
    · cases h
    · have := number_len h; omega
  | succ d ih =>
    intro l r v h
    rw [value_s] at h
    have e0 := blanks_len l
    have et : (blanks l).tail.length ≤ (blanks l).length := by simp
    repeat' split at h
    · obtain ⟨_, h, _⟩ := map_ok h; have := word_len h; omega
    · obtain ⟨_, h, _⟩ := map_ok h; have := word_len h; omega
    · obtain ⟨_, h, _⟩ := map_ok h; have := word_len h; omega
    · obtain ⟨_, h, _⟩ := map_ok h; have := text_len h; omega
    · have := listOf_len (fun _ _ _ h => ih h) h; omega
    · have := objOf_len (fun _ _ _ h => ih h) h; omega
    · have := number_len h; omega
end Go.Sx.YtmbakmdgmccgiaaDoor
/-! W06U: the program's reader: lists. -/
namespace Go.Sx.YtmbakmdgmccgiaaDoor
open Go Go.Sx Go.Sx.Js
set_option autoImplicit false
set_option linter.unusedVariables false
set_option linter.unusedSimpArgs false
section
variable {n : Nat} {s : List Int}
theorem elems_s (pv : List Int → PR JV) (m : Nat) (acc : List JV) (l : List Int) : Js.elems pv (m + 1) acc l = (pv l).bind fun x r => (Js.next 93 r).bind fun b r => if b then Js.elems pv m (acc ++ [x]) r else .ok (acc ++ [x]) r := rfl
theorem list_go (hs : Byt s) (hl : s.length ≤ 1048576) {pv : List Int → PR JV} (hp : ∀ l v r, pv l = .ok v r → r.length ≤ l.length) {sv : Int × RS → Option JT} {d : Int} (hd0 : 0 ≤ d ∧ d ≤ 1000)
    (hv : ∀ (y : RS) (l : List Int), In s l y → Gives (sv (d + 1, y)) (AftJ s (pv l))) {i k : Nat} {f : Int} {p : Pool} {c : Int} {l : List Int} (h : At s i (c :: l)) (hf : f < 0) (hk : l.length < k) (hn : s.length < n) :
    Gives (jList n sv (d, s, (i : Int), f, p)) (AftJ s (listOf pv k l)) := by
  unfold jList
  dsimp only
  refine Gives.bind (empty_go hs (by omega) (e := 93) (by omega) h hf hn) fun q hq => ?_
  obtain ⟨b, y⟩ := q
  obtain ⟨rfl, hy⟩ := hq
  unfold listOf
  refine Gives.dite (fun h0 => ?_) fun h0 => ?_
  · rw [if_pos h0] at hy ⊢
    exact Gives.of_some ⟨rfl, hy⟩
  · rw [if_neg h0] at hy ⊢
    have hbl := blanks_len l
    refine Gives.loop (fun z => ∃ (m : Nat) (acc : List JV) (l' : List Int) (y : RS), z = (d, y.1, y.2.1, y.2.2.1, 0, false, [], 0, false, 5, false, [], 0, false, y.2.2.2, [], [], acc, []) ∧ In s l' y ∧ l'.length < m ∧ acc.length + l'.length ≤ s.length ∧ Js.elems pv k [] (blanks l) = Js.elems pv m acc l') (fun z => s.length - z.2.2.1.toNat) (fun rec z hz hrec => ?_) n _ ⟨k, [], blanks l, y, rfl, hy, by omega, by have := h.len; simp at this; simp; omega, rfl⟩ (by dsimp only; omega)
    obtain ⟨m, acc, l', y, rfl, ⟨i', f', p', rfl, hf', h'⟩, hm, hacc, hE⟩ := hz
    dsimp only at hrec ⊢
    have hlen' := h'.len
    obtain ⟨m, rfl⟩ : ∃ q, m = q + 1 := ⟨m - 1, by omega⟩
    rw [elems_s] at hE
    rw [wrap64 (n := d + 1) (by omega) (by omega)]
    refine Gives.bind (hv _ l' ⟨i', f', p', rfl, hf', h'⟩) fun r hr => ?_
    refine Gives.pos (by omega) ?_
    cases hpv : pv l' with
    | bad e r' =>
      rw [hpv] at hr hE
      obtain ⟨x1, x2, x3, x4, x5, x6, x7, y⟩ := r
      obtain ⟨a, f2, p2, rfl, hf2, hp2⟩ := hr
      rw [hE]
      exact Gives.pos (by simp; omega) (Gives.of_some ⟨a, f2, p2, rfl, hf2, hp2⟩)
    | ok v r' =>
      rw [hpv] at hr hE
      have hpl := hp _ _ _ hpv
      obtain ⟨x1, x2, x3, x4, x5, x6, x7, y⟩ := r
      obtain ⟨hx, hr⟩ := hr
      have hx : JV.mk x1 x2 x3 x4 x5 x6 x7 = v := hx
      dsimp only
      rw [hx]
      simp only [PR.bind] at hE
      obtain ⟨i2, f2, p2, rfl, hf2, h2⟩ := hr
      refine Gives.neg (by simpa using hf2) ?_
      refine Gives.bind (next_go hs (by omega) (e := 93) (by omega) ⟨i2, f2, p2, rfl, hf2, h2⟩ hn) fun q hq => ?_
      obtain ⟨b, y⟩ := q
      cases hnx : Js.next 93 r' with
      | bad e r2 =>
        rw [hnx] at hq hE
        obtain ⟨hb, a, f3, p3, rfl, hf3, hp3⟩ := hq
        have hb : b = false := hb
        subst hb
        rw [hE]
        exact Gives.pos rfl (Gives.of_some ⟨a, f3, p3, rfl, hf3, hp3⟩)
      | ok b' r2 =>
        rw [hnx] at hq hE
        obtain ⟨rfl, i3, f3, p3, rfl, hf3, h3⟩ := hq
        have hnl := next_len hnx
        have hlen3 := h3.len
        cases b with
        | false =>
          simp only [PR.bind] at hE
          rw [hE]
          exact Gives.pos rfl (Gives.of_some ⟨rfl, i3, f3, p3, rfl, hf3, h3⟩)
        | true =>
          simp only [PR.bind, if_true] at hE
          refine Gives.neg (by simp) ?_
          refine hrec _ ⟨m, acc ++ [v], r2, (s, (i3 : Int), f3, p3), rfl, ⟨i3, f3, p3, rfl, hf3, h3⟩, by omega, by simp; omega, hE⟩ ?_
          dsimp only
          omega
end
end Go.Sx.YtmbakmdgmccgiaaDoor
/-! W06V: the program's reader: objects; a reader that has stopped. -/
namespace Go.Sx.YtmbakmdgmccgiaaDoor
open Go Go.Sx Go.Sx.Js
set_option autoImplicit false
set_option linter.unusedVariables false
set_option linter.unusedSimpArgs false
section
variable {n : Nat} {s : List Int}
theorem number_bad {y : RS} {e : Int} {l : List Int} (h : Er s e l y) (hn : 0 < n) : Gives (jNumber n y) (fun r => Er s e l r.2.2.2.2.2.2.2) := by
  have hdg := fun i0 => digits_bad (n := n) (i0 := i0) h hn
  have h0 := h
  obtain ⟨a, f, p, rfl, hf, hq⟩ := h
  have hp : jPeek n (s, a, f, p) = some (-1, s, a, f, p) := peek_bad hf
  unfold jNumber
  simp only
  refine Gives.bind_eq (r := Out.go (a, s, a, f, 0, false, [], 0, false, p, [], [])) (by rw [hp]; rfl) ?_
  dsimp only
  refine Gives.bind_eq (r := Out.go (a, s, a, f, 0, false, [], 0, false, p, [], [])) (by rw [hp]; simp only [Option.bind_some]; rw [if_neg (by decide), hdg]; rfl) ?_
  dsimp only
  refine Gives.bind_eq (r := Out.go (a, true, s, a, f, 0, false, [], 0, false, p, [], [])) (by rw [hp]; rfl) ?_
  dsimp only
  refine Gives.bind_eq hp ?_
  dsimp only
  refine Gives.bind_eq (r := Out.go (a, true, false, s, a, f, 0, false, [], 0, false, p, [], [])) (by rfl) ?_
  dsimp only
  refine Gives.neg (by simp) (Gives.pos (by simpa using hf) (Gives.of_some h0))
theorem mget_seen {q : List Int} : ∀ {l : List (List Int)}, mget (K.eqb .str) q (l.map fun x => (x, true)) = if l.any (· == q) = true then some true else none
  | [] => rfl
  | a :: l => by
    show (if (q == a) = true then some true else mget (K.eqb .str) q (l.map fun x => (x, true))) = _
    rw [mget_seen]
    by_cases h : q = a
    · subst h; simp
    · have h' : a ≠ q := fun e => h e.symm
      simp [h, h']
theorem mput_seen {q : List Int} : ∀ {l : List (List Int)}, l.any (· == q) = false → mput (K.eqb .str) q true (l.map fun x => (x, true)) = (l ++ [q]).map fun x => (x, true)
  | [], _ => rfl
  | a :: l, h => by
    show (if (q == a) = true then _ else (a, true) :: mput (K.eqb .str) q true (l.map fun x => (x, true))) = _
    simp only [List.any_cons, Bool.or_eq_false_iff] at h
    have h' : ¬ (q == a) = true := by
      have := h.1
      simp at this ⊢
      exact fun e => this e.symm
    rw [if_neg h', mput_seen h.2]
    rfl
theorem members_s (pv : List Int → PR JV) (k m : Nat) (ns : List (List Int)) (acc : List JV) (l : List Int) : Js.members pv k (m + 1) ns acc l = (member k ns l).bind fun s r => (pv r).bind fun x r => (Js.next 125 r).bind fun b r => if b then Js.members pv k m (ns ++ [s]) (acc ++ [x]) r else .ok (ns ++ [s], acc ++ [x]) r := rfl
theorem object_go (hs : Byt s) (hl : s.length ≤ 1048576) {pv : List Int → PR JV} (hp : ∀ l v r, pv l = .ok v r → r.length ≤ l.length) {sv : Int × RS → Option JT} {d : Int} (hd0 : 0 ≤ d ∧ d ≤ 1000)
    (hv : ∀ (y : RS) (l : List Int), In s l y → Gives (sv (d + 1, y)) (AftJ s (pv l))) (hvb : ∀ (y : RS) (e : Int) (l : List Int), Er s e l y → Gives (sv (d + 1, y)) (fun r => Er s e l r.2.2.2.2.2.2.2)) {i k : Nat} {f : Int} {p : Pool} {c : Int} {l : List Int} (h : At s i (c :: l)) (hf : f < 0) (hk : l.length < k) (hn : s.length + 8 < n) :
    Gives (jObject n sv (d, s, (i : Int), f, p)) (AftJ s (objOf pv k l)) := by
  have hlen0 := h.len
  simp only [List.length_cons] at hlen0
  unfold jObject
  dsimp only
  refine Gives.bind (empty_go hs (by omega) (e := 125) (by omega) h hf (by omega)) fun q hq => ?_
  obtain ⟨b, y⟩ := q
  obtain ⟨rfl, hy⟩ := hq
  unfold objOf
  refine Gives.dite (fun h0 => ?_) fun h0 => ?_
  · rw [if_pos h0] at hy ⊢
    exact Gives.of_some ⟨rfl, hy⟩
  · rw [if_neg h0] at hy ⊢
    have hbl := blanks_len l
    refine Gives.loop (fun z => ∃ (m : Nat) (ns : List (List Int)) (acc : List JV) (l' : List Int) (y : RS), z = (d, y.1, y.2.1, y.2.2.1, 0, false, [], 0, false, 6, false, [], 0, false, (ns.map fun x => (x, true)), y.2.2.2, [], [], acc, ns) ∧ In s l' y ∧ l'.length < m ∧ l'.length < k ∧ acc.length + l'.length ≤ s.length ∧ ns.length + l'.length ≤ s.length ∧ Js.members pv k k [] [] (blanks l) = Js.members pv k m ns acc l') (fun z => s.length - z.2.2.1.toNat) (fun rec z hz hrec => ?_) n _ ⟨k, [], [], blanks l, y, rfl, hy, by omega, by omega, by simp; omega, by simp; omega, rfl⟩ (by dsimp only; omega)
    obtain ⟨m, ns, acc, l', y, rfl, hIn, hm, hmk, hacc, hns, hE⟩ := hz
    have hl's : l'.length ≤ s.length := by omega
    dsimp only at hrec ⊢
    obtain ⟨m, rfl⟩ : ∃ q, m = q + 1 := ⟨m - 1, by omega⟩
    have hyat : y.2.1.toNat = s.length - l'.length := by
      obtain ⟨i', f', p', rfl, hf', h'⟩ := hIn
      have := h'.len
      dsimp only; omega
    rw [members_s] at hE
    refine Gives.bind (blanks_go (n := n) hs (by omega) hIn (by omega)) fun y1 h1 => ?_
    obtain ⟨i1, f1, p1, rfl, hf1, h1⟩ := h1
    dsimp only
    refine Gives.bind_eq (peek_ok hs h1 hf1) ?_
    dsimp only
    have hb' := blanks_len l'
    -- the end: a value behind a reader that may have stopped
    have fin : ∀ (R : PR (List Int)) (nm : List Int) (mp : List (List Int × Bool)) (y : RS), member k ns l' = R → (∀ x r, R = .ok x r → nm = x ∧ mp = ns.map fun x => (x, true)) → Aft s R y → (∀ x r, R = .ok x r → ns.any (· == x) = false) →
        Gives (if (ns.length + 1) * 16 ≤ 140737488355328 then
          (let u83 : Int := (IntKind.wrap .i64 (d + (1 : Int)))
          (Option.bind (sv (u83, (y.1, (y.2.1, (y.2.2.1, y.2.2.2))))) fun r84 =>
          (if (acc.length + 1) * 96 ≤ 140737488355328 then
          (let u85 : List JV := (acc ++ ([(JV.mk r84.1 r84.2.1 r84.2.2.1 r84.2.2.2.1 r84.2.2.2.2.1 r84.2.2.2.2.2.1 r84.2.2.2.2.2.2.1)] : List JV))
          (if (!(decide (r84.2.2.2.2.2.2.2.2.2.1 < 0))) = true then
          some ((6 : Int), (false, (([] : List Int), ((0 : Int), (false, (u85, ((ns ++ ([nm] : List (List Int))), (r84.2.2.2.2.2.2.2.1, (r84.2.2.2.2.2.2.2.2.1, (r84.2.2.2.2.2.2.2.2.2.1, r84.2.2.2.2.2.2.2.2.2.2))))))))))
          else
          (Option.bind (jNext n ((125 : Int), (r84.2.2.2.2.2.2.2.1, (r84.2.2.2.2.2.2.2.2.1, (r84.2.2.2.2.2.2.2.2.2.1, r84.2.2.2.2.2.2.2.2.2.2))))) fun r86 =>
          (if (!r86.1) = true then
          some ((6 : Int), (false, (([] : List Int), ((0 : Int), (false, (u85, ((ns ++ ([nm] : List (List Int))), (r86.2.1, (r86.2.2.1, (r86.2.2.2.1, r86.2.2.2.2))))))))))
          else
          rec (d, (r86.2.1, (r86.2.2.1, (r86.2.2.2.1, (0, (false, ([], (0, (false, (6, (false, ([], (0, (false, ((mput (K.eqb .str) nm true mp), (r86.2.2.2.2, ([], ([], (u85, (ns ++ ([nm] : List (List Int))))))))))))))))))))))))))
          else none)))
          else none) (AftJ s ((Js.members pv k k [] [] (blanks l)).map fun p => vObj p.1 p.2)) := by
      intro R nm mp y hR hnm hy hany
      have hmlen := fun x r (e : R = .ok x r) => member_len (hR.trans e)
      rw [hR] at hE
      refine Gives.pos (by omega) ?_
      dsimp only
      rw [wrap64 (n := d + 1) (by omega) (by omega)]
      cases R with
      | bad e r =>
        simp only [PR.bind] at hE
        rw [hE]
        refine Gives.bind (hvb y e r hy) fun q hq => ?_
        refine Gives.pos (by omega) ?_
        obtain ⟨x1, x2, x3, x4, x5, x6, x7, y⟩ := q
        obtain ⟨a, f2, p2, rfl, hf2, hp2⟩ := hq
        exact Gives.pos (by simp; omega) (Gives.of_some ⟨a, f2, p2, rfl, hf2, hp2⟩)
      | ok x r =>
        obtain ⟨rfl, rfl⟩ := hnm x r rfl
        have hany := hany _ r rfl
        have hml := hmlen _ r rfl
        simp only [PR.bind] at hE
        refine Gives.bind (hv y r hy) fun q hq => ?_
        refine Gives.pos (by omega) ?_
        cases hpv : pv r with
        | bad e r' =>
          rw [hpv] at hq hE
          obtain ⟨x1, x2, x3, x4, x5, x6, x7, y⟩ := q
          obtain ⟨a, f2, p2, rfl, hf2, hp2⟩ := hq
          rw [hE]
          exact Gives.pos (by simp; omega) (Gives.of_some ⟨a, f2, p2, rfl, hf2, hp2⟩)
        | ok v r' =>
          rw [hpv] at hq hE
          have hpl := hp _ _ _ hpv
          obtain ⟨x1, x2, x3, x4, x5, x6, x7, y⟩ := q
          obtain ⟨hx, hr⟩ := hq
          have hx : JV.mk x1 x2 x3 x4 x5 x6 x7 = v := hx
          dsimp only
          rw [hx]
          simp only [PR.bind] at hE
          obtain ⟨i2, f2, p2, rfl, hf2, h2⟩ := hr
          refine Gives.neg (by simpa using hf2) ?_
          refine Gives.bind (next_go hs (by omega) (e := 125) (by omega) ⟨i2, f2, p2, rfl, hf2, h2⟩ (by omega)) fun q hq => ?_
          obtain ⟨b, y⟩ := q
          cases hnx : Js.next 125 r' with
          | bad e r2 =>
            rw [hnx] at hq hE
            obtain ⟨hb, a, f3, p3, rfl, hf3, hp3⟩ := hq
            have hb : b = false := hb
            subst hb
            rw [hE]
            exact Gives.pos rfl (Gives.of_some ⟨a, f3, p3, rfl, hf3, hp3⟩)
          | ok b' r2 =>
            rw [hnx] at hq hE
            obtain ⟨rfl, i3, f3, p3, rfl, hf3, h3⟩ := hq
            have hnl := next_len hnx
            have hlen3 := h3.len
            cases b with
            | false =>
              simp only [PR.bind] at hE
              rw [hE]
              exact Gives.pos rfl (Gives.of_some ⟨rfl, i3, f3, p3, rfl, hf3, h3⟩)
            | true =>
              simp only [PR.bind, if_true] at hE
              refine Gives.neg (by simp) ?_
              rw [mput_seen hany]
              refine hrec _ ⟨m, ns ++ [nm], acc ++ [v], r2, (s, (i3 : Int), f3, p3), rfl, ⟨i3, f3, p3, rfl, hf3, h3⟩, by omega, by omega, by simp; omega, by simp; omega, hE⟩ ?_
              dsimp only
              omega
    have hmem : member k ns l' = match blanks l' with
      | [] => .bad 3 []
      | c :: r => if c = 34 then (Js.text k r).bind fun s r' => if ns.any (· == s) = true then .bad 6 (c :: r) else (word [58] (blanks r')).bind fun _ r => .ok s r else .bad 3 (c :: r) := rfl
    refine Gives.nite (fun hne => ?_) fun he => ?_
    · have : member k ns l' = .bad 3 (blanks l') := by
        rw [hmem]
        cases hbb : blanks l' with
        | nil => rfl
        | cons c r =>
          rw [hbb] at hne
          dsimp only
          rw [if_neg (show ¬ c = 34 from hne)]
      rw [this] at hE
      simp only [PR.bind] at hE
      rw [hE]
      exact Gives.bind_eq (fails_ok hf1) (Gives.of_some (In.er h1))
    · generalize blanks l' = lb at *
      cases lb with
      | nil => simp [hd] at he
      | cons c r =>
        have he : c = 34 := he
        subst he
        simp only [List.length_cons] at hb'
        dsimp only at hmem
        rw [if_pos rfl] at hmem
        refine Gives.bind (text_go (m := k) hs hl h1 hf1 (by omega) hn) fun q hq => ?_
        obtain ⟨nm, y2⟩ := q
        cases ht : Js.text k r with
        | bad e rt =>
          rw [ht] at hq hmem
          obtain ⟨rfl, hEr⟩ := hq
          have hEr := hEr
          obtain ⟨a2, f2, p2, rfl, hf2, hp2⟩ := hEr
          have hEr : Er s e rt (s, a2, f2, p2) := ⟨a2, f2, p2, rfl, hf2, hp2⟩
          dsimp only
          refine Gives.bind_eq (r := Out.go (d, [], s, a2, f2, 0, false, [], 0, false, [], [], 6, false, [], 0, false, acc, ns, (ns.map fun x => (x, true)), p2)) ?_ ?_
          · rw [if_neg (by simpa using hf2)]
            rfl
          dsimp only
          refine Gives.bind_eq (blanks_bad hEr (by omega)) ?_
          dsimp only
          refine Gives.bind_eq (word_bad (w := [58]) hEr (by simp) (by intro c hc; simp at hc; omega) (by omega)) ?_
          dsimp only
          exact fin _ [] _ (s, a2, f2, p2) hmem (fun x r e => by cases e) hEr (fun x r e => by cases e)
        | ok nm' rt =>
          rw [ht] at hq hmem
          obtain ⟨e1, i2, f2, p2, rfl, hf2, h2⟩ := hq
          have e1 : nm = nm' := e1
          subst e1
          simp only [PR.bind] at hmem
          dsimp only
          cases hany : ns.any (· == nm) with
          | true =>
            rw [hany, if_pos rfl] at hmem
            have hEr : Er s 6 (34 :: r) (s, (i2 : Int), (p2.length : Int), p2 ++ [((i1 : Int), (6, ()))]) := ⟨i2, p2.length, _, rfl, by omega, by rw [h1.place]; simp⟩
            refine Gives.bind_eq (r := Out.go (d, nm, s, (i2 : Int), (p2.length : Int), 0, false, [], 0, false, [], [], 6, false, [], 0, false, acc, ns, (ns.map fun x => (x, true)), p2 ++ [((i1 : Int), (6, ()))])) ?_ ?_
            · rw [if_pos (by simpa using hf2), mget_seen, hany]
              simp only [if_true, Option.getD_some, Option.bind_some]
              rw [fails_ok hf2]
              rfl
            dsimp only
            refine Gives.bind_eq (blanks_bad hEr (by omega)) ?_
            dsimp only
            refine Gives.bind_eq (word_bad (w := [58]) hEr (by simp) (by intro c hc; simp at hc; omega) (by omega)) ?_
            dsimp only
            exact fin _ nm _ (s, (i2 : Int), (p2.length : Int), p2 ++ [((i1 : Int), (6, ()))]) hmem (fun x r e => by cases e) hEr (fun x r e => by cases e)
          | false =>
            rw [hany, if_neg (by simp)] at hmem
            refine Gives.bind_eq (r := Out.go (d, nm, s, (i2 : Int), f2, 0, false, [], 0, false, [], [], 6, false, [], 0, false, acc, ns, (ns.map fun x => (x, true)), p2)) ?_ ?_
            · rw [if_pos (by simpa using hf2), mget_seen, hany]
              rfl
            dsimp only
            have hrt := h2.len
            refine Gives.bind (blanks_go (n := n) hs (by omega) ⟨i2, f2, p2, rfl, hf2, h2⟩ (by omega)) fun y3 h3 => ?_
            refine Gives.bind (word_go (w := [58]) hs (by omega) (by intro c hc; simp at hc; omega) h3 (by simp; omega) (by simp)) fun y4 h4 => ?_
            refine fin _ nm _ y4 hmem (fun x r' e => ?_) ?_ (fun x r' e => ?_)
            · obtain ⟨_, _, _, e⟩ := bind_ok e
              injection e with e _
              exact ⟨e, rfl⟩
            · cases hw : word [58] (blanks rt) with
              | bad e r' => rw [hw] at h4; exact h4
              | ok u r' => rw [hw] at h4; exact h4
            · obtain ⟨_, _, _, e⟩ := bind_ok e
              injection e with e _
              rw [← e]; exact hany
end
end Go.Sx.YtmbakmdgmccgiaaDoor
/-! W06W: the program's reader: values, texts. -/
namespace Go.Sx.YtmbakmdgmccgiaaDoor
open Go Go.Sx Go.Sx.Js
set_option autoImplicit false
set_option linter.unusedVariables false
set_option linter.unusedSimpArgs false
section
variable {n : Nat} {s : List Int}
theorem valueStep_bad {sv : Int × RS → Option JT} {d : Int} {y : RS} {e : Int} {l : List Int} (h : Er s e l y) (hn : 0 < n) : Gives (jValueStep n sv (d, y)) (fun r => Er s e l r.2.2.2.2.2.2.2) := by
  have hb := blanks_bad (n := n) h hn
  have hnum := number_bad h hn
  have h0 := h
  obtain ⟨a, f, p, rfl, hf, hq⟩ := h
  have hp : jPeek n (s, a, f, p) = some (-1, s, a, f, p) := peek_bad hf
  unfold jValueStep
  simp only
  refine Gives.bind_eq hb ?_
  dsimp only
  refine Gives.bind_eq hp ?_
  dsimp only
  refine Gives.neg (by decide) (Gives.neg (by decide) (Gives.neg (by decide) (Gives.neg (by decide) ?_)))
  refine Gives.bind_eq (r := Out.go (d, -1, false, s, a, f, 0, false, [], 0, false, p, [], [])) rfl ?_
  dsimp only
  refine Gives.neg (by simp) ?_
  exact Gives.bind hnum fun r hr => Gives.of_some hr
/-- one word. -/
theorem word_val (hs : Byt s) (hl : s.length ≤ 4611686018427387904) {w : List Int} (hw : Byt w) (hw2 : w.length ≤ 7) {y : RS} {l : List Int} (h : In s l y) (hn : 8 < n) (v : RS → JT) (x : JV) (hv : ∀ y, JT.val (v y) = x ∧ (v y).2.2.2.2.2.2.2 = y) : Gives (Option.bind (jWord n (w, y)) fun r => some (v r)) (AftJ s ((word w l).map fun _ => x)) := by
  refine Gives.bind (word_go hs hl hw h (by omega) (by omega)) fun y hy => Gives.of_some ?_
  cases hw : word w l with
  | ok _ r => rw [hw] at hy; exact ⟨(hv y).1, by rw [(hv y).2]; exact hy⟩
  | bad e r => rw [hw] at hy; show Er s e r _; rw [(hv y).2]; exact hy
theorem valueStep_go (hs : Byt s) (hl : s.length ≤ 1048576) {k d : Nat} (hd' : d ≤ 32) {sv : Int × RS → Option JT}
    (hv : ∀ d', d = d' + 1 → ∀ (y : RS) (l : List Int), In s l y → Gives (sv (33 - (d : Int) + 1, y)) (AftJ s (Js.value k d' l))) (hvb : ∀ (y : RS) (e : Int) (l : List Int), Er s e l y → Gives (sv (33 - (d : Int) + 1, y)) (fun r => Er s e l r.2.2.2.2.2.2.2))
    {y : RS} {l : List Int} (h : In s l y) (hk : s.length < k) (hn : s.length + 8 < n) : Gives (jValueStep n sv (33 - (d : Int), y)) (AftJ s (Js.value k d l)) := by
  have hll : l.length ≤ s.length := by
    obtain ⟨_, _, _, _, _, h⟩ := h
    have := h.len
    omega
  have hbl := blanks_len l
  unfold jValueStep
  simp only
  refine Gives.bind (blanks_go (n := n) hs (by omega) h (by omega)) fun y1 h1 => ?_
  obtain ⟨i, f, p, rfl, hf, h1⟩ := h1
  dsimp only
  refine Gives.bind_eq (peek_ok hs h1 hf) ?_
  dsimp only
  have hIn : In s (blanks l) (s, (i : Int), f, p) := ⟨i, f, p, rfl, hf, h1⟩
  have hval : Js.value k d l =
    (if hd (blanks l) = 110 then (word [110, 117, 108, 108] (blanks l)).map fun _ => vNull
    else if hd (blanks l) = 116 then (word [116, 114, 117, 101] (blanks l)).map fun _ => vBool true
    else if hd (blanks l) = 102 then (word [102, 97, 108, 115, 101] (blanks l)).map fun _ => vBool false
    else if hd (blanks l) = 34 then (Js.text k (blanks l).tail).map vText
    else if hd (blanks l) = 91 then (match d with
      | 0 => .bad 5 (blanks l)
      | d + 1 => listOf (Js.value k d) k (blanks l).tail)
    else if hd (blanks l) = 123 then (match d with
      | 0 => .bad 5 (blanks l)
      | d + 1 => objOf (Js.value k d) k (blanks l).tail)
    else Js.number (blanks l)) := by cases d <;> rfl
  refine Gives.eite (fun hc => ?_) fun c1 => ?_
  · rw [hval, if_pos hc]
    exact word_val (w := [110, 117, 108, 108]) hs (by omega) (by intro c hc; simp at hc; omega) (by simp) hIn (by omega) (fun r8 => ((1 : Int), (false, (([] : List Int), ((0 : Int), (false, (([] : List JV), (([] : List (List Int)), (r8.1, (r8.2.1, (r8.2.2.1, r8.2.2.2))))))))))) vNull (fun y => ⟨rfl, rfl⟩)
  rw [if_neg c1] at hval
  refine Gives.eite (fun hc => ?_) fun c2 => ?_
  · rw [hval, if_pos hc]
    exact word_val (w := [116, 114, 117, 101]) hs (by omega) (by intro c hc; simp at hc; omega) (by simp) hIn (by omega) (fun r9 => ((2 : Int), (true, (([] : List Int), ((0 : Int), (false, (([] : List JV), (([] : List (List Int)), (r9.1, (r9.2.1, (r9.2.2.1, r9.2.2.2))))))))))) (vBool true) (fun y => ⟨rfl, rfl⟩)
  rw [if_neg c2] at hval
  refine Gives.eite (fun hc => ?_) fun c3 => ?_
  · rw [hval, if_pos hc]
    exact word_val (w := [102, 97, 108, 115, 101]) hs (by omega) (by intro c hc; simp at hc; omega) (by simp) hIn (by omega) (fun r9 => ((2 : Int), (false, (([] : List Int), ((0 : Int), (false, (([] : List JV), (([] : List (List Int)), (r9.1, (r9.2.1, (r9.2.2.1, r9.2.2.2))))))))))) (vBool false) (fun y => ⟨rfl, rfl⟩)
  rw [if_neg c3] at hval
  refine Gives.eite (fun hc => ?_) fun c4 => ?_
  · rw [hval, if_pos hc]
    generalize blanks l = lb at *
    cases lb with
    | nil => simp [hd] at hc
    | cons c r =>
      simp only [List.length_cons] at hbl
      refine Gives.bind (text_go (m := k) hs hl h1 hf (by omega) hn) fun q hq => Gives.of_some ?_
      show AftJ s ((Js.text k r).map vText) _
      cases ht : Js.text k r with
      | ok x r' =>
        rw [ht] at hq
        obtain ⟨e, hy⟩ := hq
        exact ⟨by rw [← e]; rfl, hy⟩
      | bad e r' => rw [ht] at hq; exact hq.2
  rw [if_neg c4] at hval
  refine Gives.bind (P := fun o => o = Out.go (33 - (d : Int), hd (blanks l), decide (hd (blanks l) = 91 ∨ hd (blanks l) = 123), s, (i : Int), f, 0, false, [], 0, false, p, [], [])) ?_ fun o ho => ?_
  · refine Gives.eite (fun hc => Gives.of_some ?_) fun hc => Gives.of_some ?_
    · simp [hc]
    · simp only [hc, false_or]; rfl
  subst ho
  dsimp only
  refine Gives.dite (fun hc => ?_) fun hc => ?_
  · generalize hlb : blanks l = lb at *
    cases lb with
    | nil => simp [hd] at hc
    | cons c r =>
      simp only [List.length_cons] at hbl
      cases d with
      | zero =>
        refine Gives.dpos (by omega) ?_
        refine Gives.bind_eq (fails_ok hf) (Gives.of_some ?_)
        have : Js.value k 0 l = .bad 5 (c :: r) := by
          rw [hval]
          by_cases h91 : hd (c :: r) = 91
          · rw [if_pos h91]
          · rw [if_neg h91, if_pos (by omega)]
        rw [this]
        exact In.er h1
      | succ d =>
        refine Gives.dneg (by omega) ?_
        dsimp only at hval
        simp only [List.tail_cons] at hval
        refine Gives.eite (fun h91 => ?_) fun h91 => ?_
        · rw [hval, if_pos h91]
          refine Gives.bind (list_go (k := k) hs hl (fun _ _ _ => value_len) (by omega) (hv d rfl) h1 hf (by omega) (by omega)) fun q hq => Gives.of_some hq
        · rw [hval, if_neg h91, if_pos (by omega)]
          refine Gives.bind (object_go (k := k) hs hl (fun _ _ _ => value_len) (by omega) (hv d rfl) hvb h1 hf (by omega) (by omega)) fun q hq => Gives.of_some hq
  · have : Js.value k d l = Js.number (blanks l) := by
      rw [hval, if_neg (by omega), if_neg (by omega)]
    rw [this]
    refine Gives.bind (number_go hs (by omega) h1 hf (by omega)) fun q hq => Gives.of_some hq
theorem valueL_bad {m : Nat} (hm : 0 < m) {d : Int} {y : RS} {e : Int} {l : List Int} (h : Er s e l y) (hn : 0 < n) : Gives (loopF (jValueStep n) m (d, y)) (fun r => Er s e l r.2.2.2.2.2.2.2) := by
  obtain ⟨m, rfl⟩ : ∃ q, m = q + 1 := ⟨m - 1, by omega⟩
  exact valueStep_bad h hn
theorem valueL_go (hs : Byt s) (hl : s.length ≤ 1048576) {k : Nat} (hk : s.length < k) (hn : s.length + 8 < n) : ∀ (d : Nat), d ≤ 32 → ∀ (m : Nat), d + 1 < m → ∀ {y : RS} {l : List Int}, In s l y → Gives (loopF (jValueStep n) m (33 - (d : Int), y)) (AftJ s (Js.value k d l)) := by
  intro d
  induction d with
  | zero =>
    intro hd m hm y l h
    obtain ⟨m, rfl⟩ : ∃ q, m = q + 1 := ⟨m - 1, by omega⟩
    exact valueStep_go hs hl hd (fun d' e => by omega) (fun y e l h => valueL_bad (by omega) h (by omega)) h hk hn
  | succ d ih =>
    intro hd m hm y l h
    obtain ⟨m, rfl⟩ : ∃ q, m = q + 1 := ⟨m - 1, by omega⟩
    refine valueStep_go hs hl hd (fun d' e y l h => ?_) (fun y e l h => valueL_bad (by omega) h (by omega)) h hk hn
    obtain rfl : d = d' := by omega
    have := ih (by omega) m (by omega) h
    rw [show 33 - ((d + 1 : Nat) : Int) + 1 = 33 - (d : Int) by omega]
    exact this
abbrev JP := Int × Bool × (List Int) × Int × Bool × (List JV) × (List (List Int)) × Int × Int
def JP.val (r : JP) : JV × Int × Int := (JV.mk r.1 r.2.1 r.2.2.1 r.2.2.2.1 r.2.2.2.2.1 r.2.2.2.2.2.1 r.2.2.2.2.2.2.1, r.2.2.2.2.2.2.2)
/-! an error is one. -/
def Nz {α : Type} : PR α → Prop
  | .ok _ _ => True
  | .bad e _ => e ≠ 0
theorem Nz.bind {α β : Type} {r : PR α} {f : α → List Int → PR β} (h : Nz r) (hf : ∀ x l, Nz (f x l)) : Nz (r.bind f) := by
  cases r with
  | ok x l => exact hf x l
  | bad e l => exact h
theorem Nz.map {α β : Type} {r : PR α} {f : α → β} (h : Nz r) : Nz (r.map f) := by
  cases r with
  | ok x l => trivial
  | bad e l => exact h
theorem nz3 {α : Type} {l : List Int} : Nz (PR.bad (α := α) 3 l) := show (3 : Int) ≠ 0 by decide
theorem nz5 {α : Type} {l : List Int} : Nz (PR.bad (α := α) 5 l) := show (5 : Int) ≠ 0 by decide
theorem nz6 {α : Type} {l : List Int} : Nz (PR.bad (α := α) 6 l) := show (6 : Int) ≠ 0 by decide
theorem Nz.ite {α : Type} {c : Prop} [Decidable c] {a b : PR α} (ha : Nz a) (hb : Nz b) : Nz (if c then a else b) := by split <;> assumption
theorem nz_word : ∀ (w l : List Int), Nz (word w l)
  | [], l => trivial
  | c :: w, [] => nz3
  | c :: w, d :: l => Nz.ite (nz_word w l) nz3
theorem nz_step (k : Nat) (l : List Int) : Nz (Js.step k l) := Nz.ite nz3 trivial
theorem nz_digits1 : ∀ (k : Nat) (any : Bool) (l : List Int), Nz (digits1 k any l)
  | k, any, [] => Nz.ite trivial nz3
  | k, any, c :: r => Nz.ite (Nz.ite nz3 (nz_digits1 _ _ _)) (Nz.ite trivial nz3)
theorem nz_numText (l : List Int) : Nz (numText l) :=
  Nz.bind (Nz.ite (nz_step _ _) trivial) fun _ _ => Nz.bind (Nz.ite (nz_step _ _) (nz_digits1 _ _ _)) fun _ _ => Nz.bind (Nz.ite (Nz.bind (nz_step _ _) fun _ _ => Nz.map (nz_digits1 _ _ _)) trivial) fun _ _ => Nz.ite (Nz.bind (nz_step _ _) fun _ _ => Nz.bind (Nz.ite (nz_step _ _) trivial) fun _ _ => Nz.map (nz_digits1 _ _ _)) trivial
theorem nz_number (l : List Int) : Nz (Js.number l) := Nz.bind (nz_numText l) fun _ _ => trivial
theorem nz_conts : ∀ (m : Nat) (lo hi : Int) (l : List Int), Nz (conts m lo hi l)
  | 0, _, _, _ => trivial
  | m + 1, _, _, [] => nz3
  | m + 1, _, _, c :: r => Nz.ite nz3 (Nz.map (nz_conts _ _ _ _))
theorem nz_rune : ∀ (l : List Int), Nz (Js.rune l)
  | [] => nz3
  | c :: r => Nz.ite nz3 (Nz.map (nz_conts _ _ _ _))
theorem nz_hex : ∀ (l : List Int), Nz (Js.hex l)
  | [] => nz3
  | c :: r => Nz.ite nz3 trivial
theorem nz_pairHex (ok : Int → Bool) (l : List Int) : Nz (pairHex ok l) := Nz.bind (nz_hex l) fun _ _ => Nz.ite trivial nz3
theorem nz_pair (x : Int) (l : List Int) : Nz (Js.pair x l) :=
  Nz.bind (nz_word _ _) fun _ _ => Nz.bind (nz_pairHex _ _) fun _ _ => Nz.bind (nz_pairHex _ _) fun _ _ => Nz.bind (nz_hex _) fun _ _ => Nz.bind (nz_hex _) fun _ _ => trivial
theorem nz_unicode (l : List Int) : Nz (Js.unicode l) :=
  Nz.bind (nz_hex _) fun _ _ => Nz.bind (nz_hex _) fun _ _ => Nz.bind (nz_hex _) fun _ _ => Nz.bind (nz_hex _) fun _ _ => Nz.ite nz3 (Nz.ite (nz_pair _ _) trivial)
theorem nz_escape : ∀ (l : List Int), Nz (Js.escape l)
  | [] => nz3
  | c :: r => Nz.ite (nz_unicode _) (Nz.ite nz3 trivial)
theorem nz_text : ∀ (m : Nat) (l : List Int), Nz (Js.text m l)
  | 0, _ => nz3
  | m + 1, [] => nz3
  | m + 1, c :: r => Nz.ite trivial (Nz.ite (Nz.bind (nz_escape _) fun _ _ => Nz.map (nz_text _ _)) (Nz.ite nz3 (Nz.ite (Nz.map (nz_text _ _)) (Nz.bind (nz_rune _) fun _ _ => Nz.map (nz_text _ _)))))
theorem nz_next (e : Int) (l : List Int) : Nz (Js.next e l) := by
  unfold Js.next
  cases blanks l with
  | nil => exact nz3
  | cons c r => exact Nz.ite trivial (Nz.ite trivial nz3)
theorem nz_elems {pv : List Int → PR JV} (hp : ∀ l, Nz (pv l)) : ∀ (m : Nat) (acc : List JV) (l : List Int), Nz (Js.elems pv m acc l)
  | 0, _, _ => nz3
  | m + 1, _, _ => Nz.bind (hp _) fun _ _ => Nz.bind (nz_next _ _) fun _ _ => Nz.ite (nz_elems hp _ _ _) trivial
theorem nz_member (k : Nat) (ns : List (List Int)) (l : List Int) : Nz (member k ns l) := by
  unfold member
  cases blanks l with
  | nil => exact nz3
  | cons c r => exact Nz.ite (Nz.bind (nz_text _ _) fun _ _ => Nz.ite nz6 (Nz.bind (nz_word _ _) fun _ _ => trivial)) nz3
theorem nz_members {pv : List Int → PR JV} (hp : ∀ l, Nz (pv l)) (k : Nat) : ∀ (m : Nat) (ns : List (List Int)) (acc : List JV) (l : List Int), Nz (Js.members pv k m ns acc l)
  | 0, _, _, _ => nz3
  | m + 1, _, _, _ => Nz.bind (nz_member _ _ _) fun _ _ => Nz.bind (hp _) fun _ _ => Nz.bind (nz_next _ _) fun _ _ => Nz.ite (nz_members hp _ _ _ _ _) trivial
theorem nz_value (k : Nat) : ∀ (d : Nat) (l : List Int), Nz (Js.value k d l) := by
  intro d
  induction d with
  | zero =>
    intro l
    rw [value_0]
    exact Nz.ite (Nz.map (nz_word _ _)) (Nz.ite (Nz.map (nz_word _ _)) (Nz.ite (Nz.map (nz_word _ _)) (Nz.ite (Nz.map (nz_text _ _)) (Nz.ite nz5 (Nz.ite nz5 (nz_number _))))))
  | succ d ih =>
    intro l
    rw [value_s]
    refine Nz.ite (Nz.map (nz_word _ _)) (Nz.ite (Nz.map (nz_word _ _)) (Nz.ite (Nz.map (nz_word _ _)) (Nz.ite (Nz.map (nz_text _ _)) (Nz.ite ?_ (Nz.ite ?_ (nz_number _))))))
    · exact Nz.ite trivial (Nz.map (nz_elems ih _ _ _))
    · exact Nz.ite trivial (Nz.map (nz_members ih _ _ _ _ _))
theorem parse_nz {k : Nat} {d : Nat} {l : List Int} {e : Int} {r : List Int} (h : Js.value k d l = .bad e r) : e ≠ 0 := by
  have := nz_value k d l
  rw [h] at this
  exact this
theorem parse_go (hs : Byt s) (hn : s.length + 100 < n) : Gives (jParse n s) (fun r => JP.val r = Js.parse s) := by
  unfold jParse z_jParse jParseP
  simp only
  unfold Js.parse
  refine Gives.dite (fun h => ?_) fun h => ?_
  · rw [if_pos (by omega)]
    exact Gives.of_some rfl
  rw [if_neg (by omega)]
  have hl : s.length ≤ 1048576 := by omega
  refine Gives.bind (o := jValue n _) (valueL_go (s := s) hs hl (k := s.length + 1) (by omega) (by omega) 32 (by omega) n (by omega) (y := (s, 0, -1, [])) (l := s) ⟨0, -1, [], rfl, by omega, At.zero s⟩) fun q hq => ?_
  obtain ⟨x1, x2, x3, x4, x5, x6, x7, y⟩ := q
  cases hv : Js.value (s.length + 1) 32 s with
  | bad e r =>
    rw [hv] at hq
    have hq : Er s e r y := hq
    dsimp only
    refine Gives.bind_eq (blanks_bad (n := n) (y := y) hq (by omega)) ?_
    have hz := parse_nz hv
    have fin : ∀ y : RS, Er s e r y → Gives (if (!decide (y.2.2.1 < 0)) = true then
      if y.2.2.1 < 0 then none
      else
        Option.bind y.2.2.2[y.2.2.1.toNat]? fun d6 =>
          if y.2.2.1 < 0 then none
          else Option.bind y.2.2.2[y.2.2.1.toNat]? fun d7 => if d7.2.1 = 0 then none else some ((0 : Int), (false, (([] : List Int), ((0 : Int), (false, (([] : List JV), (([] : List (List Int)), (d6.1, d7.2.1)))))))) 
      else some (x1, (x2, (x3, (x4, (x5, (x6, (x7, ((s.length : Int), (0 : Int)))))))))) (fun r' => JP.val r' = (JV.zero, (s.length : Int) - r.length, e)) := by
      rintro y ⟨a, f, p, rfl, hf, hp⟩
      refine Gives.pos (by simpa using hf) (Gives.neg (by simp; omega) (Gives.bind_eq hp (Gives.neg (by simp; omega) (Gives.bind_eq hp (Gives.neg (by simpa using hz) (Gives.of_some rfl))))))
    refine Gives.dite (fun h => ?_) fun h => ?_
    · refine Gives.bind (P := Er s e r) ?_ fun y hy => fin y hy
      have hq0 := hq
      obtain ⟨a, f, p, rfl, hf, hp⟩ := hq
      exact Gives.of_eq (fails_bad hf) hq0
    · exact fin y hq
  | ok v r =>
    rw [hv] at hq
    obtain ⟨hx, hy⟩ := hq
    have hx : JV.mk x1 x2 x3 x4 x5 x6 x7 = v := hx
    have hvl := value_len hv
    dsimp only
    refine Gives.bind (blanks_go (n := n) hs (by omega) hy (by omega)) fun y1 h1 => ?_
    obtain ⟨i, f, p, rfl, hf, h1⟩ := h1
    have hlen := h1.len
    dsimp only
    cases hb : blanks r with
    | nil =>
      rw [hb] at hlen
      simp only [List.length_nil] at hlen
      refine Gives.dneg (by omega) (Gives.neg (by simpa using hf) (Gives.of_some ?_))
      unfold JP.val
      rw [← hx]
    | cons c r' =>
      rw [hb] at hlen h1
      simp only [List.length_cons] at hlen
      refine Gives.dpos (by omega) ?_
      refine Gives.bind_eq (fails_ok hf) ?_
      dsimp only
      refine Gives.pos (by simp) (Gives.neg (by omega) ?_)
      have hp : (p ++ [((i : Int), ((3 : Int), ()))])[((p.length : Int)).toNat]? = some ((i : Int), (3, ())) := by simp
      refine Gives.bind_eq hp (Gives.neg (by omega) (Gives.bind_eq hp (Gives.neg (by simp) (Gives.of_some ?_))))
      show (JV.zero, (i : Int), (3 : Int)) = _
      rw [show (i : Int) = (s.length : Int) - (r'.length + 1) by omega]
end
end Go.Sx.YtmbakmdgmccgiaaDoor
