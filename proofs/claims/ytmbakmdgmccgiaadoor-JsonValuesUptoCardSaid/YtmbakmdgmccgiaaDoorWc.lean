/- Part of a proof by a small interpreter on plain values; no condition. -/
import Derived.Test.YtmbakmdgmccgiaaDoorWb
/-! W06Q: the program's reader: numbers. -/
namespace Go.Sx.YtmbakmdgmccgiaaDoor
open Go Go.Sx Go.Sx.Js
set_option autoImplicit false
set_option linter.unusedVariables false
set_option linter.unusedSimpArgs false
section
variable {n : Nat}
theorem liteHas (t : List Int) : stringsliteHasPrefix n (t, [45]) = some (decide (hd t = 45)) := by
  unfold stringsliteHasPrefix
  cases t with
  | nil => rfl
  | cons c r =>
    simp only
    rw [if_pos (by simp; omega), if_pos (by simp; omega)]
    simp [hd]
    rfl
theorem has_v (t : List Int) : hasPrefix n (t, [45]) = some (decide (hd t = 45)) := by
  unfold hasPrefix
  simp only
  rw [liteHas]
  rfl
theorem trim_v (t : List Int) : trimPrefix n (t, [45]) = some (if hd t = 45 then t.tail else t) := by
  unfold trimPrefix stringsliteTrimPrefix
  simp only
  rw [liteHas]
  simp only [Option.bind_some]
  by_cases h : hd t = 45
  · cases t with
    | nil => simp [hd] at h
    | cons c r =>
      rw [if_pos (by simpa using h), if_pos (by simp; omega), if_pos h]
      simp
  · rw [if_neg (by simpa using h), if_neg h]
    rfl
theorem intLoop_cons (c : Int) (r : List Int) (n : Int) : intLoop (c :: r) n = if n < Int.tdiv (-9223372036854775808 + (c - 48)) 10 then none else intLoop r (10 * n - (c - 48)) := rfl
theorem integer_go {t : List Int} (hd' : ∀ c ∈ (if hd t = 45 then t.tail else t), 48 ≤ c ∧ c ≤ 57) (hl : t.length ≤ 4611686018427387904) (hn : t.length < n) : integer n t = some (integerOf t) := by
  unfold integer
  rw [has_v, trim_v]
  simp only [Option.bind_some]
  generalize hu : (if hd t = 45 then t.tail else t) = u at *
  have hul : u.length ≤ t.length := by
    rw [← hu]; split
    · simp
    · exact Nat.le_refl _
  have key : ∀ v, (v = match intLoop u 0 with
      | some n => if hd t = 45 then (n, true) else if n = -9223372036854775808 then (0, false) else (-n, true)
      | none => (0, false)) → v = integerOf t := by
    intro v hv
    rw [hv]
    unfold integerOf
    by_cases h : hd t = 45
    · rw [if_pos h] at hu ⊢
      rw [hu]
      cases intLoop u 0 with
      | none => rfl
      | some q => simp only [if_pos h]
    · rw [if_neg h] at hu ⊢
      subst hu
      cases intLoop t 0 with
      | none => rfl
      | some q => simp only [if_neg h]
  refine Gives.eq (Gives.mono (Q := fun v => v = match intLoop u 0 with
      | some n => if hd t = 45 then (n, true) else if n = -9223372036854775808 then (0, false) else (-n, true)
      | none => (0, false)) ?_ key)
  refine Gives.loop (fun z => ∃ (k : Nat) (q : Int), z = (decide (hd t = 45), q, (u.length : Int), (k : Int), u) ∧ k ≤ u.length ∧ (-9223372036854775808 ≤ q ∧ q ≤ 0) ∧ intLoop (u.drop k) q = intLoop u 0) (fun z => u.length - z.2.2.2.1.toNat) (fun rec z hz hrec => ?_) n _ ⟨0, 0, rfl, by omega, by omega, rfl⟩ (by simp; omega)
  obtain ⟨k, q, rfl, hk, hq, hI⟩ := hz
  dsimp only at hrec ⊢
  refine Gives.dite (fun hlt => ?_) fun hge => ?_
  · have hku : k < u.length := by omega
    have hdr : u.drop k = u[k] :: u.drop (k + 1) := List.drop_eq_getElem_cons hku
    have hc := hd' _ (List.getElem_mem hku)
    refine Gives.pos (by omega) ?_
    rw [show u.getD (k : Int).toNat 0 = u[k] by simp [hku]]
    rw [hdr] at hI
    rw [intLoop_cons] at hI
    rw [wrap_u8 (n := u[k] - 48) (by omega) (by omega), wrap64 (n := u[k] - 48) (by omega) (by omega), wrap64 (n := -9223372036854775808 + (u[k] - 48)) (by omega) (by omega)]
    have hdv : Int.tdiv (-9223372036854775808 + (u[k] - 48)) 10 = -((9223372036854775808 - (u[k] - 48)) / 10) := by
      rw [show -9223372036854775808 + (u[k] - 48) = -(9223372036854775808 - (u[k] - 48)) by omega, Int.neg_tdiv, Int.tdiv_eq_ediv_of_nonneg (by omega)]
    rw [wrap64 (n := Int.tdiv _ 10) (by rw [hdv]; omega) (by rw [hdv]; omega)]
    refine Gives.dite (fun h1 => ?_) fun h1 => ?_
    · rw [if_pos h1] at hI
      rw [← hI]
      exact Gives.of_some rfl
    · rw [if_neg h1] at hI
      rw [hdv] at h1
      rw [wrap64 (n := 10 * q) (by omega) (by omega), wrap64 (n := 10 * q - (u[k] - 48)) (by omega) (by omega), wrap64 (n := (k : Int) + 1) (by omega) (by omega)]
      exact hrec _ ⟨k + 1, _, rfl, by omega, by omega, hI⟩ (by dsimp only; omega)
  · obtain rfl : k = u.length := by omega
    rw [List.drop_length] at hI
    have hI : some q = intLoop u 0 := hI
    rw [← hI]
    dsimp only
    by_cases h : hd t = 45
    · rw [if_pos h]
      exact Gives.dpos h (Gives.of_some rfl)
    · rw [if_neg h]
      refine Gives.dneg h ?_
      refine Gives.eite (fun h2 => ?_) fun h2 => ?_
      · rw [if_pos h2]
        exact Gives.of_some rfl
      · rw [if_neg h2, wrap64 (by omega) (by omega)]
        exact Gives.of_some (by rw [Int.zero_sub])
end
end Go.Sx.YtmbakmdgmccgiaaDoor
/-! W06R: the program's reader: numbers, put together. -/
namespace Go.Sx.YtmbakmdgmccgiaaDoor
open Go Go.Sx Go.Sx.Js
set_option autoImplicit false
set_option linter.unusedVariables false
set_option linter.unusedSimpArgs false
section
variable {n : Nat} {s : List Int}
/-- what a number's reading gives: its kind's cells, and the reader. -/
abbrev JT := Int × Bool × (List Int) × Int × Bool × (List JV) × (List (List Int)) × RS
def JT.val (r : JT) : JV := JV.mk r.1 r.2.1 r.2.2.1 r.2.2.2.1 r.2.2.2.2.1 r.2.2.2.2.2.1 r.2.2.2.2.2.2.1
def AftJ (s : List Int) : PR JV → JT → Prop
  | .ok x l => fun r => JT.val r = x ∧ In s l r.2.2.2.2.2.2.2
  | .bad e l => fun r => Er s e l r.2.2.2.2.2.2.2
def AftW (s : List Int) (i0 : Nat) : PR (Nat × Bool) → Bool → RS → Prop
  | .ok q l => fun w y => w = q.2 ∧ ∃ (f : Int) (p : Pool), y = (s, ((i0 + q.1 : Nat) : Int), f, p) ∧ f < 0 ∧ At s (i0 + q.1) l
  | .bad e l => fun _ => Er s e l
theorem peek_er {y : RS} {e : Int} {l : List Int} (h : Er s e l y) : jPeek n y = some (-1, y) := by
  obtain ⟨a, f, p, rfl, hf, hp⟩ := h
  exact peek_bad hf
theorem bind_assoc {α β γ : Type} (r : PR α) (f : α → List Int → PR β) (g : β → List Int → PR γ) : (r.bind f).bind g = r.bind fun x l => (f x l).bind g := by cases r <;> rfl
theorem step_ok {k k' : Nat} {l r : List Int} (h : Js.step k l = .ok k' r) : k' = k + 1 ∧ r = l.tail := by
  unfold Js.step at h
  split at h
  · cases h
  · injection h with h1 h2
    exact ⟨h1.symm, h2.symm⟩
theorem digits1_ok : ∀ {k k' : Nat} {any : Bool} {l r : List Int}, digits1 k any l = .ok k' r → ∃ d, l = d ++ r ∧ k' = k + d.length ∧ ∀ c ∈ d, 48 ≤ c ∧ c ≤ 57
  | k, k', any, [], r, h => by
    unfold digits1 at h
    split at h
    · injection h with h1 h2
      subst h1 h2
      exact ⟨[], rfl, rfl, by simp⟩
    · cases h
  | k, k', any, c :: l, r, h => by
    unfold digits1 at h
    split at h
    · rename_i hc
      split at h
      · cases h
      · obtain ⟨d, rfl, rfl, h3⟩ := digits1_ok h
        have hc' : 48 ≤ c ∧ c ≤ 57 := by simpa [isDigit] using hc
        exact ⟨c :: d, rfl, by simp; omega, fun x hx => by
          rcases List.mem_cons.1 hx with rfl | hx
          · exact hc'
          · exact h3 x hx⟩
    · split at h
      · injection h with h1 h2
        subst h1 h2
        exact ⟨[], rfl, rfl, by simp⟩
      · cases h
theorem numSign_ok {k : Nat} {l r : List Int} (h : numSign l = .ok k r) : (k = 0 ∧ l = r ∧ hd l ≠ 45) ∨ (k = 1 ∧ l = 45 :: r) := by
  unfold numSign at h
  split at h
  · rename_i h1
    obtain ⟨e1, e2⟩ := step_ok h
    cases l with
    | nil => simp [hd] at h1
    | cons c l => exact .inr ⟨e1, by rw [e2]; simp only [List.tail_cons]; rw [show c = 45 from h1]⟩
  · injection h with h1 h2
    exact .inl ⟨h1.symm, h2, by assumption⟩
theorem numInt_ok {k k' : Nat} {l r : List Int} (h : numInt k l = .ok k' r) : ∃ d, l = d ++ r ∧ k' = k + d.length ∧ ∀ c ∈ d, 48 ≤ c ∧ c ≤ 57 := by
  unfold numInt at h
  split at h
  · rename_i h1
    obtain ⟨e1, e2⟩ := step_ok h
    cases l with
    | nil => simp [hd] at h1
    | cons c l =>
      have h1 : c = 48 := h1
      subst h1
      exact ⟨[48], by rw [e2]; rfl, by rw [e1]; rfl, by simp⟩
  · exact digits1_ok h
/-- a whole number's text: digits, behind a sign. -/
theorem numText_whole {k : Nat} {l r : List Int} (h : numText l = .ok (k, true) r) : ∀ c ∈ (if hd (l.take k) = 45 then (l.take k).tail else l.take k), 48 ≤ c ∧ c ≤ 57 := by
  unfold numText at h
  obtain ⟨k1, r1, h1, h⟩ := bind_ok h
  obtain ⟨k2, r2, h2, h⟩ := bind_ok h
  obtain ⟨⟨k3, w3⟩, r3, h3, h⟩ := bind_ok h
  have h34 : k3 = k2 ∧ r3 = r2 ∧ w3 = true → k = k2 := by
    rintro ⟨rfl, rfl, rfl⟩
    unfold numExp at h
    split at h
    · obtain ⟨_, _, _, h⟩ := bind_ok h
      obtain ⟨_, _, _, h⟩ := bind_ok h
      obtain ⟨_, _, e⟩ := map_ok h
      injection e with _ e
      cases e
    · injection h with h _
      injection h with h _
      exact h.symm
  have hw3 : w3 = true := by
    unfold numExp at h
    split at h
    · obtain ⟨_, _, _, h⟩ := bind_ok h
      obtain ⟨_, _, _, h⟩ := bind_ok h
      obtain ⟨_, _, e⟩ := map_ok h
      injection e with _ e
      cases e
    · injection h with h _
      injection h with _ h
  have h33 : k3 = k2 ∧ r3 = r2 := by
    unfold numFrac at h3
    split at h3
    · obtain ⟨_, _, _, h3⟩ := bind_ok h3
      obtain ⟨_, _, e⟩ := map_ok h3
      injection e with _ e
      rw [hw3] at e
      cases e
    · injection h3 with e1 e2
      injection e1 with e1 _
      exact ⟨e1.symm, e2.symm⟩
  obtain rfl := h34 ⟨h33.1, h33.2, hw3⟩
  obtain ⟨d, rfl, rfl, hd'⟩ := numInt_ok h2
  rcases numSign_ok h1 with ⟨rfl, rfl, hne⟩ | ⟨rfl, rfl⟩
  · rw [Nat.zero_add, List.take_left']
    · by_cases hdd : hd d = 45
      · rw [if_pos hdd]
        exact fun c hc => hd' c (List.mem_of_mem_tail hc)
      · rw [if_neg hdd]
        exact hd'
    · rfl
  · rw [Nat.add_comm 1, List.take_succ_cons, List.take_left' rfl]
    rw [if_pos (show hd (45 :: d) = 45 from rfl)]
    exact hd'
theorem numbered_go {t : List Int} {w : Bool} (hw : w = true → ∀ c ∈ (if hd t = 45 then t.tail else t), 48 ≤ c ∧ c ≤ 57) (hl : t.length ≤ 4611686018427387904) (hn : t.length < n) : ∃ r, numbered n (t, w) = some r ∧ JV.mk r.1 r.2.1 r.2.2.1 r.2.2.2.1 r.2.2.2.2.1 r.2.2.2.2.2.1 r.2.2.2.2.2.2 = numVal t w := by
  unfold numbered
  cases w with
  | false => exact ⟨_, rfl, rfl⟩
  | true =>
    simp only [if_true]
    rw [integer_go (hw rfl) hl hn]
    exact ⟨_, rfl, rfl⟩
theorem number_go (hs : Byt s) (hl : s.length ≤ 4611686018427387904) {i : Nat} {f : Int} {p : Pool} {l : List Int} (h : At s i l) (hf : f < 0) (hn : s.length < n) : Gives (jNumber n (s, (i : Int), f, p)) (AftJ s (Js.number l)) := by
  have hlen := h.len
  unfold jNumber
  simp only
  refine Gives.bind (P := fun o => ∃ y : RS, o = Out.go ((i : Int), y.1, y.2.1, y.2.2.1, 0, false, [], 0, false, y.2.2.2, [], []) ∧ AftN s i (numSign l) y) ?_ fun o ho => ?_
  · refine Gives.bind_eq (peek_ok hs h hf) ?_
    unfold numSign
    refine Gives.eite (fun h1 => ?_) fun h1 => ?_
    · rw [if_pos h1]
      refine Gives.bind (step_go (i0 := i) (k := 0) hl h hf (by intro e; subst e; simp [hd] at h1)) fun y hy => ?_
      exact Gives.of_some ⟨y, rfl, hy⟩
    · rw [if_neg h1]
      exact Gives.of_some ⟨(s, (i : Int), f, p), rfl, f, p, rfl, hf, h⟩
  obtain ⟨y1, rfl, h1⟩ := ho
  dsimp only
  refine Gives.bind (P := fun o => ∃ y : RS, o = Out.go ((i : Int), y.1, y.2.1, y.2.2.1, 0, false, [], 0, false, y.2.2.2, [], []) ∧ AftN s i ((numSign l).bind fun k l => numInt k l) y) ?_ fun o ho => ?_
  · cases e1 : numSign l with
    | bad e r =>
      rw [e1] at h1
      refine Gives.bind_eq (peek_er (y := y1) h1) ?_
      refine Gives.eneg (by simp) ?_
      refine Gives.bind_eq (digits_bad (y := y1) h1 (by omega)) ?_
      exact Gives.of_some ⟨y1, rfl, h1⟩
    | ok k r =>
      rw [e1] at h1
      obtain ⟨f', p', rfl, hf', h'⟩ := h1
      simp only [PR.bind]
      refine Gives.bind_eq (peek_ok hs h' hf') ?_
      unfold numInt
      refine Gives.eite (fun h1 => ?_) fun h1 => ?_
      · rw [if_pos h1]
        refine Gives.bind (step_go (i0 := i) hl h' hf' (by intro e; subst e; simp [hd] at h1)) fun y hy => ?_
        exact Gives.of_some ⟨y, rfl, hy⟩
      · rw [if_neg h1]
        refine Gives.bind (digits_go (i0 := i) hs hl h' hf' (by have := h'.len; omega)) fun y hy => ?_
        exact Gives.of_some ⟨y, rfl, hy⟩
  obtain ⟨y2, rfl, h2⟩ := ho
  dsimp only
  clear h1
  refine Gives.bind (P := fun o => ∃ (w : Bool) (y : RS), o = Out.go ((i : Int), w, y.1, y.2.1, y.2.2.1, 0, false, [], 0, false, y.2.2.2, [], []) ∧ AftW s i (((numSign l).bind fun k l => numInt k l).bind fun k l => numFrac k l) w y) ?_ fun o ho => ?_
  · cases e2 : (numSign l).bind fun k l => numInt k l with
    | bad e r =>
      rw [e2] at h2
      refine Gives.bind_eq (peek_er (y := y2) h2) ?_
      refine Gives.eneg (by simp) ?_
      exact Gives.of_some ⟨_, y2, rfl, h2⟩
    | ok k r =>
      rw [e2] at h2
      obtain ⟨f', p', rfl, hf', h'⟩ := h2
      simp only [PR.bind]
      refine Gives.bind_eq (peek_ok hs h' hf') ?_
      unfold numFrac
      refine Gives.eite (fun h1 => ?_) fun h1 => ?_
      · rw [if_pos h1]
        refine Gives.bind (step_go (i0 := i) hl h' hf' (by intro e; subst e; simp [hd] at h1)) fun y hy => ?_
        cases e3 : Js.step k r with
        | bad e r' =>
          rw [e3] at hy
          refine Gives.bind_eq (digits_bad (y := y) hy (by omega)) ?_
          exact Gives.of_some ⟨_, y, rfl, hy⟩
        | ok k' r' =>
          rw [e3] at hy
          obtain ⟨f', p', rfl, hf', h'⟩ := hy
          refine Gives.bind (digits_go (i0 := i) hs hl h' hf' (by have := h'.len; omega)) fun y hy => ?_
          simp only [PR.bind]
          refine Gives.of_some ⟨_, y, rfl, ?_⟩
          cases e4 : digits k' r' with
          | bad e r'' => rw [e4] at hy; exact hy
          | ok k'' r'' => rw [e4] at hy; exact ⟨rfl, hy⟩
      · rw [if_neg h1]
        exact Gives.of_some ⟨_, _, rfl, rfl, f', p', rfl, hf', h'⟩
  obtain ⟨w3, y3, rfl, h3⟩ := ho
  dsimp only
  clear h2
  have e3 : (((numSign l).bind fun k l => numInt k l).bind fun k l => numFrac k l).bind (fun q l => numExp q.1 q.2 l) = numText l := by
    unfold numText
    rw [bind_assoc, bind_assoc]
  -- the end: a value, or none
  have fin : ∀ (w : Bool) (y : RS), AftW s i (numText l) w y → Gives (if (!(decide (y.2.2.1 < 0))) = true then some ((0 : Int), (false, (([] : List Int), ((0 : Int), (false, (([] : List JV), (([] : List (List Int)), (y.1, (y.2.1, (y.2.2.1, y.2.2.2))))))))))
      else (if 0 ≤ (i : Int) ∧ (i : Int) ≤ y.2.1 ∧ y.2.1 ≤ (y.1.length : Int) then
        (Option.bind (numbered n ((y.1.drop (i : Int).toNat).take (y.2.1.toNat - (i : Int).toNat), w)) fun r104 =>
          some (r104.1, (r104.2.1, (r104.2.2.1, (r104.2.2.2.1, (r104.2.2.2.2.1, (r104.2.2.2.2.2.1, (r104.2.2.2.2.2.2, (y.1, (y.2.1, (y.2.2.1, y.2.2.2))))))))))) else none)) (AftJ s (Js.number l)) := by
    intro w y hy
    unfold Js.number
    cases hT : numText l with
    | bad e r =>
      rw [hT] at hy
      obtain ⟨a, f', p', rfl, hf', hp⟩ := hy
      exact Gives.pos (by simp; omega) (Gives.of_some ⟨a, f', p', rfl, hf', hp⟩)
    | ok q r =>
      obtain ⟨k, w'⟩ := q
      rw [hT] at hy
      obtain ⟨rfl, f', p', rfl, hf', h'⟩ := hy
      have hlen' := h'.len
      dsimp only at hlen' h' ⊢
      refine Gives.neg (by simpa using hf') (Gives.pos (by omega) ?_)
      rw [show ((i + k : Nat) : Int).toNat - (i : Int).toNat = k by omega, show (i : Int).toNat = i by omega, h.drop]
      obtain ⟨v, hv1, hv2⟩ := numbered_go (n := n) (t := l.take k) (w := w) (fun hw => by subst hw; exact numText_whole hT) (by rw [List.length_take]; omega) (by rw [List.length_take]; omega)
      refine Gives.bind_eq hv1 (Gives.of_some ⟨hv2, i + k, f', p', rfl, hf', h'⟩)
  refine Gives.bind (o := jPeek n (y3.1, (y3.2.1, (y3.2.2.1, y3.2.2.2)))) (P := fun q => q.2 = y3 ∧ (∀ k r, (((numSign l).bind fun k l => numInt k l).bind fun k l => numFrac k l) = .ok k r → q.1 = hd r) ∧ (∀ e r, (((numSign l).bind fun k l => numInt k l).bind fun k l => numFrac k l) = .bad e r → q.1 = -1)) ?_ fun q hq => ?_
  · cases e4 : (((numSign l).bind fun k l => numInt k l).bind fun k l => numFrac k l) with
    | bad e r =>
      rw [e4] at h3
      exact Gives.of_eq (peek_er (y := y3) h3) ⟨rfl, (fun _ _ h => by cases h), fun _ _ _ => rfl⟩
    | ok k r =>
      rw [e4] at h3
      obtain ⟨_, f', p', rfl, hf', h'⟩ := h3
      exact Gives.of_eq (peek_ok hs h' hf') ⟨rfl, (fun _ _ h => by injection h with _ h; rw [h]), fun _ _ h => by cases h⟩
  obtain ⟨c, y⟩ := q
  obtain ⟨rfl, hq1, hq2⟩ := hq
  dsimp only at hq1 hq2 ⊢
  refine Gives.bind (P := fun o => o = Out.go ((i : Int), w3, decide (c = 101 ∨ c = 69), y.1, y.2.1, y.2.2.1, 0, false, [], 0, false, y.2.2.2, [], [])) ?_ fun o ho => ?_
  · refine Gives.eite (fun hc => Gives.of_some ?_) fun hc => Gives.of_some ?_
    · rw [show decide (c = 101 ∨ c = 69) = true by simp [hc]]
    · rw [show decide (c = 101 ∨ c = 69) = (c == 69) by simp [hc]; rfl]
  subst ho
  dsimp only
  cases e4 : (((numSign l).bind fun k l => numInt k l).bind fun k l => numFrac k l) with
  | bad e r =>
    rw [e4] at h3 e3
    have hc := hq2 e r e4
    refine Gives.neg (by simp [hc]) (fin w3 y ?_)
    rw [← e3]
    exact h3
  | ok q r =>
    obtain ⟨k, w⟩ := q
    rw [e4] at h3 e3
    have hc := hq1 _ r e4
    have e9 : numExp k w r = numText l := e3
    clear e3
    by_cases hx : c = 101 ∨ c = 69
    · refine Gives.pos (by simpa using hx) ?_
      unfold numExp at e9
      rw [← hc, if_pos hx] at e9
      obtain ⟨rfl, f', p', rfl, hf', h'⟩ := h3
      refine Gives.bind (step_go (i0 := i) hl h' hf' (by intro e; subst e; simp [hd] at hc; omega)) fun y hy => ?_
      refine Gives.bind (P := fun o => ∃ y : RS, o = Out.go ((i : Int), false, y.1, y.2.1, y.2.2.1, 0, false, [], 0, false, [], [], y.2.2.2) ∧ AftN s i ((Js.step k r).bind fun k l => numExpSign k l) y) ?_ fun o ho => ?_
      · have hP : Gives (jPeek n (y.1, (y.2.1, (y.2.2.1, y.2.2.2)))) (fun q => q.2 = y ∧ (∀ k' r', Js.step k r = .ok k' r' → q.1 = hd r') ∧ (∀ e r', Js.step k r = .bad e r' → q.1 = -1)) := by
          cases e5 : Js.step k r with
          | bad e r' =>
            rw [e5] at hy
            exact Gives.of_eq (peek_er (y := y) hy) ⟨rfl, (fun _ _ h => by cases h), fun _ _ _ => rfl⟩
          | ok k' r' =>
            rw [e5] at hy
            obtain ⟨f', p', rfl, hf', h'⟩ := hy
            exact Gives.of_eq (peek_ok hs h' hf') ⟨rfl, (fun _ _ h => by injection h with _ h; rw [h]), fun _ _ h => by cases h⟩
        refine Gives.bind hP fun q hq => ?_
        obtain ⟨c2, y'⟩ := q
        obtain ⟨rfl, hq1, hq2⟩ := hq
        dsimp only at hq1 hq2 ⊢
        refine Gives.bind (P := fun o => o = Out.go ((i : Int), false, decide (c2 = 43 ∨ c2 = 45), y'.1, y'.2.1, y'.2.2.1, 0, false, [], 0, false, y'.2.2.2, [], [])) ?_ fun o ho => ?_
        · refine Gives.eite (fun hc => Gives.of_some ?_) fun hc => Gives.of_some ?_
          · rw [show decide (c2 = 43 ∨ c2 = 45) = true by simp [hc]]
          · rw [show decide (c2 = 43 ∨ c2 = 45) = (c2 == 45) by simp [hc]; rfl]
        subst ho
        dsimp only
        cases e5 : Js.step k r with
        | bad e r' =>
          rw [e5] at hy
          have := hq2 e r' e5
          exact Gives.neg (by simp [this]) (Gives.of_some ⟨y', rfl, hy⟩)
        | ok k' r' =>
          rw [e5] at hy
          have hc2 := hq1 k' r' e5
          obtain ⟨f', p', rfl, hf', h'⟩ := hy
          simp only [PR.bind]
          unfold numExpSign
          by_cases hx : c2 = 43 ∨ c2 = 45
          · refine Gives.pos (by simpa using hx) ?_
            rw [← hc2, if_pos hx]
            refine Gives.bind (step_go (i0 := i) hl h' hf' (by intro e; subst e; simp [hd] at hc2; omega)) fun y hy => ?_
            exact Gives.of_some ⟨y, rfl, hy⟩
          · rw [← hc2, if_neg hx]
            exact Gives.neg (by simpa using hx) (Gives.of_some ⟨_, rfl, f', p', rfl, hf', h'⟩)
      · obtain ⟨y5, rfl, h5⟩ := ho
        dsimp only
        refine Gives.bind (o := jDigits n _) (P := fun y => AftW s i (numText l) false y) ?_ fun y hy => fin false y hy
        rw [← e9]
        cases e6 : (Js.step k r).bind fun k l => numExpSign k l with
        | bad e r' =>
          rw [e6] at h5
          refine Gives.of_eq (digits_bad (y := y5) h5 (by omega)) ?_
          rw [← bind_assoc, e6]
          exact h5
        | ok k' r' =>
          rw [e6] at h5
          obtain ⟨f', p', rfl, hf', h'⟩ := h5
          refine (digits_go (i0 := i) hs hl h' hf' (by have := h'.len; omega)).mono fun y hy => ?_
          rw [← bind_assoc, e6]
          simp only [PR.bind]
          cases e7 : digits k' r' with
          | bad e r'' => rw [e7] at hy; exact hy
          | ok k'' r'' => rw [e7] at hy; exact ⟨rfl, hy⟩
    · refine Gives.neg (by simpa using hx) (fin w3 y ?_)
      unfold numExp at e9
      rw [← hc, if_neg hx] at e9
      rw [← e9]
      exact h3
end
end Go.Sx.YtmbakmdgmccgiaaDoor
/-! W06S: the program's reader: lists, objects, values. -/
namespace Go.Sx.YtmbakmdgmccgiaaDoor
open Go Go.Sx Go.Sx.Js
set_option autoImplicit false
set_option linter.unusedVariables false
set_option linter.unusedSimpArgs false
section
variable {n : Nat} {s : List Int}
end
end Go.Sx.YtmbakmdgmccgiaaDoor
/-! W06T: what a reading leaves is no longer. -/
namespace Go.Sx.YtmbakmdgmccgiaaDoor
open Go Go.Sx Go.Sx.Js
set_option autoImplicit false
set_option linter.unusedVariables false
set_option linter.unusedSimpArgs false
section
variable {pv : List Int → PR JV} (hp : ∀ l v r, pv l = .ok v r → r.length ≤ l.length)
include hp
end
end Go.Sx.YtmbakmdgmccgiaaDoor
/-! W06U: the program's reader: lists. -/
namespace Go.Sx.YtmbakmdgmccgiaaDoor
open Go Go.Sx Go.Sx.Js
set_option autoImplicit false
set_option linter.unusedVariables false
set_option linter.unusedSimpArgs false
section
variable {n : Nat} {s : List Int}
end
end Go.Sx.YtmbakmdgmccgiaaDoor
/-! W06V: the program's reader: objects; a reader that has stopped. -/
namespace Go.Sx.YtmbakmdgmccgiaaDoor
open Go Go.Sx Go.Sx.Js
set_option autoImplicit false
set_option linter.unusedVariables false
set_option linter.unusedSimpArgs false
section
variable {n : Nat} {s : List Int}
theorem mget_seen {q : List Int} : ∀ {l : List (List Int)}, mget (K.eqb .str) q (l.map fun x => (x, true)) = if l.any (· == q) = true then some true else none
  | [] => rfl
  | a :: l => by
    show (if (q == a) = true then some true else mget (K.eqb .str) q (l.map fun x => (x, true))) = _
    rw [mget_seen]
    by_cases h : q = a
    · subst h; simp
    · have h' : a ≠ q := fun e => h e.symm
      simp [h, h']
theorem mput_seen {q : List Int} : ∀ {l : List (List Int)}, l.any (· == q) = false → mput (K.eqb .str) q true (l.map fun x => (x, true)) = (l ++ [q]).map fun x => (x, true)
  | [], _ => rfl
  | a :: l, h => by
    show (if (q == a) = true then _ else (a, true) :: mput (K.eqb .str) q true (l.map fun x => (x, true))) = _
    simp only [List.any_cons, Bool.or_eq_false_iff] at h
    have h' : ¬ (q == a) = true := by
      have := h.1
      simp at this ⊢
      exact fun e => this e.symm
    rw [if_neg h', mput_seen h.2]
    rfl
end
end Go.Sx.YtmbakmdgmccgiaaDoor
/-! W06W: the program's reader: values, texts. -/
namespace Go.Sx.YtmbakmdgmccgiaaDoor
open Go Go.Sx Go.Sx.Js
set_option autoImplicit false
set_option linter.unusedVariables false
set_option linter.unusedSimpArgs false
section
variable {n : Nat} {s : List Int}
abbrev JP := Int × Bool × (List Int) × Int × Bool × (List JV) × (List (List Int)) × Int × Int
def JP.val (r : JP) : JV × Int × Int := (JV.mk r.1 r.2.1 r.2.2.1 r.2.2.2.1 r.2.2.2.2.1 r.2.2.2.2.2.1 r.2.2.2.2.2.2.1, r.2.2.2.2.2.2.2)
/-! an error is one. -/
def Nz {α : Type} : PR α → Prop
  | .ok _ _ => True
  | .bad e _ => e ≠ 0
theorem Nz.bind {α β : Type} {r : PR α} {f : α → List Int → PR β} (h : Nz r) (hf : ∀ x l, Nz (f x l)) : Nz (r.bind f) := by
  cases r with
  | ok x l => exact hf x l
  | bad e l => exact h
theorem Nz.map {α β : Type} {r : PR α} {f : α → β} (h : Nz r) : Nz (r.map f) := by
  cases r with
  | ok x l => trivial
  | bad e l => exact h
theorem nz3 {α : Type} {l : List Int} : Nz (PR.bad (α := α) 3 l) := show (3 : Int) ≠ 0 by decide
theorem Nz.ite {α : Type} {c : Prop} [Decidable c] {a b : PR α} (ha : Nz a) (hb : Nz b) : Nz (if c then a else b) := by split <;> assumption
theorem nz_step (k : Nat) (l : List Int) : Nz (Js.step k l) := Nz.ite nz3 trivial
theorem nz_digits1 : ∀ (k : Nat) (any : Bool) (l : List Int), Nz (digits1 k any l)
  | k, any, [] => Nz.ite trivial nz3
  | k, any, c :: r => Nz.ite (Nz.ite nz3 (nz_digits1 _ _ _)) (Nz.ite trivial nz3)
theorem nz_numText (l : List Int) : Nz (numText l) :=
  Nz.bind (Nz.ite (nz_step _ _) trivial) fun _ _ => Nz.bind (Nz.ite (nz_step _ _) (nz_digits1 _ _ _)) fun _ _ => Nz.bind (Nz.ite (Nz.bind (nz_step _ _) fun _ _ => Nz.map (nz_digits1 _ _ _)) trivial) fun _ _ => Nz.ite (Nz.bind (nz_step _ _) fun _ _ => Nz.bind (Nz.ite (nz_step _ _) trivial) fun _ _ => Nz.map (nz_digits1 _ _ _)) trivial
theorem nz_number (l : List Int) : Nz (Js.number l) := Nz.bind (nz_numText l) fun _ _ => trivial
end
end Go.Sx.YtmbakmdgmccgiaaDoor
