/- Part of a proof by a small interpreter on plain values; no condition. -/
import Derived.Test.YtmbakmdgmccgiaaDoorWk
/-! W06AJ: texts, numbers: what is printed is read as it. -/
namespace Go.Sx.YtmbakmdgmccgiaaDoor
open Go Go.Sx Go.Sx.Js
set_option autoImplicit false
set_option linter.unusedVariables false
set_option linter.unusedSimpArgs false
/-- nothing that goes on a number. -/
def Stp (r : List Int) : Prop := r = [] ∨ ∃ c t, r = c :: t ∧ (isBlank c = true ∨ c = 44 ∨ c = 93 ∨ c = 125)
theorem Stp.trans {r : List Int} (h : Stp r) {st : Nat} (hs : st ≤ 8) : trans st (nx r) < 0 := by
  rcases h with rfl | ⟨c, t, rfl, h⟩
  · have : st = 0 ∨ st = 1 ∨ st = 2 ∨ st = 3 ∨ st = 4 ∨ st = 5 ∨ st = 6 ∨ st = 7 ∨ st = 8 := by omega
    rcases this with rfl | rfl | rfl | rfl | rfl | rfl | rfl | rfl | rfl <;> decide
  · show YtmbakmdgmccgiaaDoor.trans st c < 0
    have hc : c = 32 ∨ c = 9 ∨ c = 10 ∨ c = 13 ∨ c = 44 ∨ c = 93 ∨ c = 125 := by
      rcases h with h | h | h | h
      · simp [isBlank] at h; omega
      · omega
      · omega
      · omega
    have : st = 0 ∨ st = 1 ∨ st = 2 ∨ st = 3 ∨ st = 4 ∨ st = 5 ∨ st = 6 ∨ st = 7 ∨ st = 8 := by omega
    rcases hc with rfl | rfl | rfl | rfl | rfl | rfl | rfl <;> rcases this with rfl | rfl | rfl | rfl | rfl | rfl | rfl | rfl | rfl <;> decide
theorem nRest_stop {st k : Nat} {l : List Int} (hs : st ≤ 8) (h : trans st (nx l) < 0) : nRest st k l = nStop st k l := by
  rcases nRest_at (k := k) (l := l) hs with ⟨_, e⟩ | ⟨t, c, r, h1, _⟩
  · exact e
  · omega
theorem nRest_more : ∀ (t : List Int) {st k q : Nat} {w : Bool} {rest : List Int}, st ≤ 8 → nRest st k t = .ok (q, w) [] → Stp rest → nRest st k (t ++ rest) = .ok (q, w) rest := by
  intro t
  induction t with
  | nil =>
    intro st k q w rest hst h hr
    rw [nRest_nil hst] at h
    rw [List.nil_append, nRest_stop hst (hr.trans hst)]
    unfold nStop at h ⊢
    split at h
    · cases h
    · rename_i hn
      rw [if_neg hn]
      injection h with h1 _
      rw [h1]
  | cons c t ih =>
    intro st k q w rest hst h hr
    rcases nRest_cons (k := k) (c := c) (r := t) hst with ⟨_, e⟩ | ⟨h0, h8, e⟩
    · rw [e] at h
      unfold nStop at h
      split at h
      · cases h
      · injection h with _ h; cases h
    · rw [e] at h
      rcases nRest_cons (k := k) (c := c) (r := t ++ rest) hst with ⟨h0', _⟩ | ⟨_, _, e'⟩
      · omega
      · rw [List.cons_append, e']
        split at h
        · cases h
        · rename_i hk
          rw [if_neg hk]
          exact ih (by omega) h hr
theorem number_ok {t : List Int} {i : Int} {w : Bool} (h : numOk t i w = true) : ∃ w', numText t = .ok (t.length, w') [] ∧ numVal t w' = .mk 3 false t i w [] [] := by
  unfold numOk at h
  cases hN : Js.number t with
  | bad e r => rw [hN] at h; cases h
  | ok v r =>
    rw [hN] at h
    cases r with
    | cons c r => cases h
    | nil =>
      simp only [Bool.and_eq_true, decide_eq_true_eq, beq_iff_eq] at h
      unfold Js.number at hN
      obtain ⟨⟨q, w'⟩, r1, h1, hN⟩ := bind_ok hN
      injection hN with h2 h3
      subst h3
      have h1' := h1
      rw [← nRest_0] at h1'
      obtain ⟨d, hd', hq⟩ := nRest_split t (by omega) h1'
      rw [List.append_nil] at hd'
      subst hd'
      have hq : q = t.length := by omega
      subst hq
      refine ⟨w', h1, ?_⟩
      rw [List.take_length] at h2
      have hv := h2
      unfold numVal at h2 ⊢
      split at h2
      · rename_i hw
        rw [if_pos hw]
        rw [← h2] at h
        have e1 : (integerOf t).1 = i := h.1
        have e2 : (integerOf t).2 = w := h.2
        rw [e1, e2]
      · rename_i hw
        rw [if_neg hw]
        rw [← h2] at h
        have e1 : (0 : Int) = i := h.1
        have e2 : false = w := h.2
        rw [e1, e2]
theorem number_back {t rest : List Int} {i : Int} {w : Bool} (h : numOk t i w = true) (hr : Stp rest) : Js.number (t ++ rest) = .ok (.mk 3 false t i w [] []) rest := by
  obtain ⟨w', h1, h2⟩ := number_ok h
  unfold Js.number
  rw [← nRest_0] at h1
  rw [← nRest_0, nRest_more t (by omega) h1 hr]
  show PR.ok _ _ = _
  rw [List.take_left, h2]
/-- a number's first byte. -/
theorem number_hd {t : List Int} {i : Int} {w : Bool} (h : numOk t i w = true) : ∃ c r, t = c :: r ∧ (c = 45 ∨ (48 ≤ c ∧ c ≤ 57)) := by
  obtain ⟨w', h1, _⟩ := number_ok h
  rw [← nRest_0] at h1
  cases t with
  | nil => cases h1
  | cons c r =>
    refine ⟨c, r, rfl, ?_⟩
    rcases nRest_cons (st := 0) (k := 0) (c := c) (r := r) (by omega) with ⟨_, e⟩ | ⟨h0, _⟩
    · rw [e] at h1
      cases h1
    · change 0 ≤ (if (c == 45) = true then (1 : Int) else if (c == 48) = true then 2 else if isDigit c = true then 3 else -1) at h0
      split at h0
      · rename_i hc; exact .inl (by simpa using hc)
      · split at h0
        · rename_i hc; have : c = 48 := by simpa using hc
          omega
        · split at h0
          · rename_i hc; right; simpa [isDigit] using hc
          · omega
/-! texts. -/
theorem conts_more : ∀ {m : Nat} {lo hi : Int} {r b : List Int} (t : List Int), conts m lo hi (b ++ r) = .ok b r → conts m lo hi (b ++ t) = .ok b t
  | 0, lo, hi, r, b, t, h => by
    injection h with h1 h2
    subst h1
    rfl
  | m + 1, lo, hi, r, [], t, h => by
    exfalso
    have := conts_len h
    cases r with
    | nil => cases h
    | cons c r =>
      rw [List.nil_append, conts_c] at h
      split at h
      · cases h
      · obtain ⟨b', _, e⟩ := map_ok h
        cases e
  | m + 1, lo, hi, r, c :: b, t, h => by
    rw [List.cons_append, conts_c] at h ⊢
    split at h
    · cases h
    · rename_i hc
      rw [if_neg hc]
      obtain ⟨b', h1, e⟩ := map_ok h
      injection e with _ e
      subst e
      rw [conts_more t h1]
      rfl
theorem rune_more {r b : List Int} (t : List Int) (h : Js.rune (b ++ r) = .ok b r) (hb : b ≠ []) : Js.rune (b ++ t) = .ok b t := by
  cases b with
  | nil => exact absurd rfl hb
  | cons c b =>
    rw [List.cons_append, rune_cons] at h ⊢
    split at h
    · cases h
    · rename_i hc
      rw [if_neg hc]
      obtain ⟨b', h1, e⟩ := map_ok h
      injection e with _ e
      subst e
      rw [conts_more t h1]
      rfl
theorem conts_big : ∀ {m : Nat} {lo hi : Int} {l b r : List Int}, 128 ≤ lo → conts m lo hi l = .ok b r → ∀ c ∈ b, 128 ≤ c
  | 0, lo, hi, l, b, r, _, h => by injection h with h1 _; subst h1; simp
  | m + 1, lo, hi, [], b, r, _, h => by cases h
  | m + 1, lo, hi, c :: l, b, r, hlo, h => by
    rw [conts_c] at h
    split at h
    · cases h
    · obtain ⟨b', h1, rfl⟩ := map_ok h
      have := conts_big (by omega) h1
      intro x hx
      rcases List.mem_cons.1 hx with rfl | hx
      · omega
      · exact this x hx
theorem bounds_lo {c : Int} (h : (bounds c).1 ≠ 0) : 128 ≤ (bounds c).2.1 ∧ 128 ≤ c := by
  unfold bounds at h ⊢
  repeat' split
  all_goals simp_all
  all_goals omega
theorem rune_big {l b r : List Int} (h : Js.rune l = .ok b r) : (∀ c ∈ b, 128 ≤ c) ∧ b ≠ [] := by
  cases l with
  | nil => cases h
  | cons c l =>
    rw [rune_cons] at h
    split at h
    · cases h
    · rename_i hc
      obtain ⟨b', h1, rfl⟩ := map_ok h
      have hlo := bounds_lo hc
      refine ⟨fun x hx => ?_, by simp⟩
      rcases List.mem_cons.1 hx with rfl | hx
      · exact hlo.2
      · exact conts_big hlo.1 h1 x hx
theorem esc_big {c : Int} (h : 128 ≤ c) : esc c = [c] := by
  unfold esc
  rw [if_neg (by omega), if_neg (by omega), if_neg (by omega), if_neg (by omega), if_neg (by omega)]
theorem escs_big : ∀ {b : List Int}, (∀ c ∈ b, 128 ≤ c) → escs b = b
  | [], _ => rfl
  | c :: b, h => by
    rw [escs, esc_big (h c (by simp)), escs_big (fun x hx => h x (by simp [hx]))]
    rfl
theorem hexD_hex {x : Int} (h0 : 0 ≤ x) (h1 : x ≤ 15) : hexOf (hexD x) = x := by
  unfold hexD hexOf
  by_cases h : x < 10
  · rw [if_pos h, if_pos (by omega)]; omega
  · rw [if_neg h, if_neg (by omega), if_pos (by omega)]; omega
theorem hex_back {x : Int} (h0 : 0 ≤ x) (h1 : x ≤ 15) (r : List Int) : Js.hex (hexD x :: r) = .ok x r := by
  rw [hex_cons, hexD_hex h0 h1, if_neg (by omega)]
theorem esc_back {c : Int} (h0 : 0 ≤ c) (h1 : c < 128) (m : Nat) (rest : List Int) : Js.text (m + 1) (esc c ++ rest) = (Js.text m rest).map (c :: ·) := by
  unfold esc
  have one : ∀ (a : Int) (b : List Int), Js.escape (a :: rest) = .ok [c] rest → Js.text (m + 1) ([92, a] ++ rest) = (Js.text m rest).map (c :: ·) := by
    intro a b h
    rw [show [92, a] ++ rest = 92 :: a :: rest from rfl, text_cons, if_neg (by omega), if_pos rfl, h]
    rfl
  by_cases a1 : c = 34 ∨ c = 92
  · rw [if_pos a1]
    rcases a1 with rfl | rfl
    · exact one 34 [] rfl
    · exact one 92 [] rfl
  rw [if_neg a1]
  by_cases a2 : c = 10
  · rw [if_pos a2]; subst a2; exact one 110 [] rfl
  rw [if_neg a2]
  by_cases a3 : c = 13
  · rw [if_pos a3]; subst a3; exact one 114 [] rfl
  rw [if_neg a3]
  by_cases a4 : c = 9
  · rw [if_pos a4]; subst a4; exact one 116 [] rfl
  rw [if_neg a4]
  by_cases a5 : c < 32
  · rw [if_pos a5]
    rw [show [92, 117, 48, 48, hexD (c / 16), hexD (c % 16)] ++ rest = 92 :: 117 :: 48 :: 48 :: hexD (c / 16) :: hexD (c % 16) :: rest from rfl, text_cons, if_neg (by omega), if_pos rfl, escape_cons, if_pos rfl]
    have hu : Js.unicode (48 :: 48 :: hexD (c / 16) :: hexD (c % 16) :: rest) = .ok [c] rest := by
      unfold Js.unicode
      rw [show Js.hex (48 :: 48 :: hexD (c / 16) :: hexD (c % 16) :: rest) = .ok 0 (48 :: hexD (c / 16) :: hexD (c % 16) :: rest) from rfl]
      simp only [PR.bind]
      rw [show Js.hex (48 :: hexD (c / 16) :: hexD (c % 16) :: rest) = .ok 0 (hexD (c / 16) :: hexD (c % 16) :: rest) from rfl]
      simp only
      rw [hex_back (by omega) (by omega)]
      simp only
      rw [hex_back (by omega) (by omega)]
      simp only
      rw [show ((0 * 16 + 0) * 16 + c / 16) * 16 + c % 16 = c by omega, if_neg (by omega), if_neg (by omega)]
      unfold enc
      rw [if_pos h1]
    rw [hu]
    rfl
  · rw [if_neg a5]
    show Js.text (m + 1) (c :: rest) = _
    rw [text_cons, if_neg (by omega), if_neg (by omega), if_neg a5, if_pos h1]
theorem text_back : ∀ (mm : Nat) (s : List Int), Byt s → s.length ≤ mm → utf8 mm s = true → ∀ (m : Nat) (rest : List Int), (escs s).length < m → Js.text m (escs s ++ 34 :: rest) = .ok s rest
  | 0, s, _, hl, _, m, rest, hm => by
    obtain ⟨m, rfl⟩ : ∃ q, m = q + 1 := ⟨m - 1, by omega⟩
    cases s with
    | nil => rfl
    | cons c r => simp at hl
  | mm + 1, [], _, _, _, m, rest, hm => by
    obtain ⟨m, rfl⟩ : ∃ q, m = q + 1 := ⟨m - 1, by omega⟩
    rfl
  | mm + 1, c :: r, hb, hl, hu, m, rest, hm => by
    obtain ⟨m, rfl⟩ : ∃ q, m = q + 1 := ⟨m - 1, by omega⟩
    have hc := hb c (by simp)
    simp only [List.length_cons] at hl
    rw [utf8_s] at hu
    by_cases h1 : c < 128
    · rw [if_pos h1] at hu
      have hel := esc_len c
      simp only [escs, List.length_append] at hm
      rw [escs, List.append_assoc, esc_back hc.1 h1, text_back mm r (fun x hx => hb x (by simp [hx])) (by omega) hu m rest (by omega)]
      rfl
    · rw [if_neg h1] at hu
      cases hR : Js.rune (c :: r) with
      | bad e r' => rw [hR] at hu; cases hu
      | ok b r' =>
        rw [hR] at hu
        have hsp := rune_split hR
        obtain ⟨hbig, hne⟩ := rune_big hR
        have hlb := rune_len hR
        simp only [List.length_cons] at hlb
        rw [hsp] at hm ⊢
        rw [escs_app, escs_big hbig] at hm ⊢
        simp only [List.length_append] at hm
        have hb' : Byt r' := fun x hx => hb x (by rw [hsp]; simp [hx])
        have ih := text_back mm r' hb' (by omega) hu m rest (by omega)
        have hrm := rune_more (escs r' ++ 34 :: rest) (hsp ▸ hR) hne
        obtain ⟨c0, b0, rfl⟩ := List.exists_cons_of_ne_nil hne
        have hc0 := hbig c0 (by simp)
        rw [List.append_assoc, List.cons_append, text_cons, if_neg (by omega), if_neg (by omega), if_neg (by omega), if_neg (by omega)]
        rw [List.cons_append] at hrm
        rw [hrm]
        simp only [PR.bind]
        rw [ih]
        rfl
end Go.Sx.YtmbakmdgmccgiaaDoor
/-! W06AK: what is printed, with blanks, is read as it. -/
namespace Go.Sx.YtmbakmdgmccgiaaDoor
open Go Go.Sx Go.Sx.Js
set_option autoImplicit false
set_option linter.unusedVariables false
set_option linter.unusedSimpArgs false
def Bl (a : List Int) : Prop := ∀ c ∈ a, isBlank c = true
mutual
/-- a value's text, blanks around its parts. -/
def Txt : JV → List Int → Prop
  | .mk k b t n w l ns, u => if k = 5 ∨ k = 6 then ∃ a body d, Bl a ∧ Bl d ∧ u = a ++ (if k = 6 then 123 else 91) :: (body ++ (if k = 6 then 125 else 93) :: d) ∧ TxtL (decide (k = 6)) true l ns body else u = pr (.mk k b t n w l ns)
def TxtL (o : Bool) : Bool → List JV → List (List Int) → List Int → Prop
  | _, [], _, u => Bl u
  | f, x :: r, ns, u => ∃ a b c d wx u', Bl a ∧ Bl b ∧ (Bl c ∧ Bl d) ∧ Txt x wx ∧ TxtL o false r ns.tail u' ∧ u = a ++ ((if f = true then [] else [44]) ++ (b ++ ((if o = true then qv (ns.headD []) ++ (c ++ 58 :: d) else []) ++ (wx ++ u'))))
end
theorem Bl.nil : Bl [] := by intro c hc; cases hc
mutual
theorem Txt_pr : ∀ (v : JV), well v = true → Txt v (pr v)
  | .mk k b t n w l ns, h => by
    rw [Txt]
    split
    · rename_i hk
      refine ⟨[], prL (decide (k = 6)) true l ns, [], Bl.nil, Bl.nil, ?_, TxtL_pr _ true l ns ?_⟩
      · rw [pr, if_neg (by omega), if_neg (by omega), if_neg (by omega), if_neg (by omega)]; rfl
      · rw [well_mk, if_neg (by omega), if_neg (by omega), if_neg (by omega), if_neg (by omega)] at h
        rcases hk with rfl | rfl
        · rw [if_neg (by omega), if_pos rfl] at h
          simp only [Bool.and_eq_true] at h
          exact h.1
        · rw [if_pos rfl] at h
          simp only [Bool.and_eq_true] at h
          exact h.2.1
    · rfl
theorem TxtL_pr (o : Bool) : ∀ (f : Bool) (l : List JV) (ns : List (List Int)), l.all well = true → TxtL o f l ns (prL o f l ns)
  | f, [], ns, _ => by rw [TxtL, prL]; exact Bl.nil
  | f, x :: r, ns, h => by
    rw [List.all_cons, Bool.and_eq_true] at h
    rw [TxtL, prL]
    refine ⟨[], [], [], [], pr x, prL o false r ns.tail, Bl.nil, Bl.nil, ⟨Bl.nil, Bl.nil⟩, Txt_pr x h.1, TxtL_pr o false r ns.tail h.2, ?_⟩
    simp
end
theorem blanks_app : ∀ {a : List Int} (l : List Int), Bl a → blanks (a ++ l) = blanks l
  | [], l, _ => rfl
  | c :: a, l, h => by
    rw [List.cons_append, blanks_cons, if_pos (h c (by simp))]
    exact blanks_app l fun x hx => h x (by simp [hx])
theorem blanks_stop {c : Int} (r : List Int) (h : isBlank c = false) : blanks (c :: r) = c :: r := by
  rw [blanks_cons, if_neg (by simp [h])]
theorem Stp_app {a : List Int} (l : List Int) (ha : Bl a) (hl : Stp l) : Stp (a ++ l) := by
  cases a with
  | nil => exact hl
  | cons c a => exact .inr ⟨c, a ++ l, rfl, .inl (ha c (by simp))⟩
/-- a reader of values that reads what is printed. -/
def Reads (K : Nat) (pv : List Int → PR JV) (x : JV) : Prop := ∀ u, Txt x u → ∀ a, Bl a → ∀ rest, Stp rest → (a ++ (u ++ rest)).length < K → ∃ r', pv (a ++ (u ++ rest)) = .ok x r' ∧ blanks r' = blanks rest
theorem elems_txt {K : Nat} {pv : List Int → PR JV} : ∀ (r : List JV) (x : JV) (acc : List JV) (m : Nat) (ns : List (List Int)) (b wx u' rest : List Int), (∀ y ∈ x :: r, Reads K pv y) → Bl b → Txt x wx → TxtL false false r ns u' → r.length < m → (b ++ (wx ++ (u' ++ 93 :: rest))).length < K →
    Js.elems pv m acc (b ++ (wx ++ (u' ++ 93 :: rest))) = .ok (acc ++ x :: r) rest
  | [], x, acc, m, ns, b, wx, u', rest, hp, hb, hx, hl, hm, hK => by
    obtain ⟨m, rfl⟩ : ∃ q, m = q + 1 := ⟨m - 1, by omega⟩
    rw [TxtL] at hl
    obtain ⟨r', h1, h2⟩ := hp x (by simp) wx hx b hb (u' ++ 93 :: rest) (Stp_app _ hl (.inr ⟨93, rest, rfl, .inr (.inr (.inl rfl))⟩)) hK
    rw [elems_s, h1]
    simp only [PR.bind]
    have hn : Js.next 93 r' = .ok false rest := by
      unfold Js.next
      rw [h2, blanks_app _ hl, blanks_stop _ (by rfl)]
      rfl
    rw [hn]
    rfl
  | y :: r, x, acc, m, ns, b, wx, u', rest, hp, hb, hx, hl, hm, hK => by
    obtain ⟨m, rfl⟩ : ∃ q, m = q + 1 := ⟨m - 1, by omega⟩
    rw [TxtL] at hl
    obtain ⟨a, b2, c, d, wy, u2, ha, hb2, _, hy, hl2, rfl⟩ := hl
    simp only [Bool.false_eq_true, if_false, List.nil_append, List.append_assoc, List.cons_append] at hK ⊢
    obtain ⟨r', h1, h2⟩ := hp x (by simp) wx hx b hb _ (Stp_app _ ha (.inr ⟨44, _, rfl, .inr (.inl rfl)⟩)) hK
    rw [elems_s, h1]
    simp only [PR.bind]
    have hn : Js.next 93 r' = .ok true (b2 ++ (wy ++ (u2 ++ 93 :: rest))) := by
      unfold Js.next
      rw [h2, blanks_app _ ha, blanks_stop _ (by rfl)]
      rfl
    rw [hn]
    simp only [if_true]
    rw [elems_txt r y (acc ++ [x]) m ns.tail b2 wy u2 rest (fun z hz => hp z (List.mem_cons_of_mem _ hz)) hb2 hy hl2 (by simpa using hm) (by simp only [List.length_append, List.length_cons] at hK ⊢; omega)]
    simp
theorem qv_ok {s : List Int} (h : uOk s = true) : qv s = 34 :: (escs s ++ [34]) := by
  unfold qv quoteOr
  unfold uOk at h
  rw [if_pos h]
  rfl
theorem member_txt {K : Nat} {ns : List (List Int)} {s b c d t : List Int} (hb : Bl b) (hc : Bl c) (hd : Bl d) (hs : Byt s) (hu : uOk s = true) (hn : ns.any (· == s) = false) (hK : (b ++ (qv s ++ (c ++ 58 :: d) ++ t)).length < K) :
    member K ns (b ++ (qv s ++ (c ++ 58 :: d) ++ t)) = .ok s (d ++ t) := by
  unfold member
  rw [qv_ok hu] at hK ⊢
  simp only [List.cons_append, List.append_assoc, List.nil_append] at hK ⊢
  simp only [List.length_append, List.length_cons] at hK
  rw [blanks_app _ hb, blanks_stop _ (by rfl)]
  simp only [if_true]
  rw [text_back s.length s hs (Nat.le_refl _) hu K _ (by omega)]
  simp only [PR.bind]
  rw [if_neg (by rw [hn]; simp), blanks_app _ hc, blanks_stop _ (by rfl)]
  have : word [58] (58 :: (d ++ t)) = .ok () (d ++ t) := by simp [word]
  rw [this]
theorem members_txt {K : Nat} {pv : List Int → PR JV} : ∀ (r : List JV) (x : JV) (acc : List JV) (m : Nat) (done : List (List Int)) (nm : List Int) (ns : List (List Int)) (b c d wx u' rest : List Int), (∀ y ∈ x :: r, Reads K pv y) → Bl b → Bl c → Bl d → Txt x wx → TxtL true false r ns u' → r.length < m → ns.length = r.length → (done ++ nm :: ns).Nodup → (∀ s ∈ nm :: ns, Byt s ∧ uOk s = true) →
    (b ++ (qv nm ++ (c ++ 58 :: d) ++ (wx ++ (u' ++ 125 :: rest)))).length < K →
    Js.members pv K m done acc (b ++ (qv nm ++ (c ++ 58 :: d) ++ (wx ++ (u' ++ 125 :: rest)))) = .ok (done ++ nm :: ns, acc ++ x :: r) rest
  | [], x, acc, m, done, nm, ns, b, c, d, wx, u', rest, hp, hb, hc, hd, hx, hl, hm, hns, hnd, hu, hK => by
    obtain ⟨m, rfl⟩ : ∃ q, m = q + 1 := ⟨m - 1, by omega⟩
    rw [TxtL] at hl
    obtain rfl : ns = [] := List.length_eq_zero_iff.1 hns
    have hany : done.any (· == nm) = false := by
      rw [List.any_eq_false]
      intro y hy e
      rw [List.nodup_append] at hnd
      exact hnd.2.2 y hy nm (by simp) (by simpa using e)
    obtain ⟨u1, u2⟩ := hu nm (by simp)
    rw [members_s, member_txt hb hc hd u1 u2 hany hK]
    simp only [PR.bind]
    obtain ⟨r', h1, h2⟩ := hp x (by simp) wx hx d hd (u' ++ 125 :: rest) (Stp_app _ hl (.inr ⟨125, rest, rfl, .inr (.inr (.inr rfl))⟩)) (by simp only [List.length_append, List.length_cons] at hK ⊢; omega)
    rw [h1]
    simp only
    have hn : Js.next 125 r' = .ok false rest := by
      unfold Js.next
      rw [h2, blanks_app _ hl, blanks_stop _ (by rfl)]
      rfl
    rw [hn]
    rfl
  | y :: r, x, acc, m, done, nm, ns, b, c, d, wx, u', rest, hp, hb, hc, hd, hx, hl, hm, hns, hnd, hu, hK => by
    obtain ⟨m, rfl⟩ : ∃ q, m = q + 1 := ⟨m - 1, by omega⟩
    rw [TxtL] at hl
    obtain ⟨nm2, ns, rfl⟩ : ∃ n2 n3, ns = n2 :: n3 := List.exists_cons_of_ne_nil (by rintro rfl; simp at hns)
    obtain ⟨a, b2, c2, d2, wy, u2, ha, hb2, ⟨hc2, hd2⟩, hy, hl2, rfl⟩ := hl
    have hany : done.any (· == nm) = false := by
      rw [List.any_eq_false]
      intro y hy e
      rw [List.nodup_append] at hnd
      exact hnd.2.2 y hy nm (by simp) (by simpa using e)
    obtain ⟨q1, q2⟩ := hu nm (by simp)
    rw [members_s, member_txt hb hc hd q1 q2 hany hK]
    simp only [Bool.false_eq_true, if_false, if_true, List.headD_cons, List.tail_cons] at hl2 hK ⊢
    simp only [PR.bind]
    obtain ⟨r', h1, h2⟩ := hp x (by simp) wx hx d hd (a ++ ([44] ++ (b2 ++ (qv nm2 ++ (c2 ++ 58 :: d2) ++ (wy ++ u2)))) ++ 125 :: rest) (by rw [List.append_assoc]; exact Stp_app _ ha (.inr ⟨44, _, rfl, .inr (.inl rfl)⟩)) (by simp only [List.length_append, List.length_cons] at hK ⊢; omega)
    rw [h1]
    simp only
    have hn : Js.next 125 r' = .ok true (b2 ++ (qv nm2 ++ (c2 ++ 58 :: d2) ++ (wy ++ (u2 ++ 125 :: rest)))) := by
      unfold Js.next
      rw [h2, List.append_assoc, blanks_app _ ha]
      rw [show [44] ++ (b2 ++ (qv nm2 ++ (c2 ++ 58 :: d2) ++ (wy ++ u2))) ++ 125 :: rest = 44 :: (b2 ++ (qv nm2 ++ (c2 ++ 58 :: d2) ++ (wy ++ (u2 ++ 125 :: rest)))) by simp, blanks_stop _ (by rfl)]
      rfl
    rw [hn]
    simp only [if_true]
    rw [members_txt r y (acc ++ [x]) m (done ++ [nm]) nm2 ns b2 c2 d2 wy u2 rest (fun z hz => hp z (List.mem_cons_of_mem _ hz)) hb2 hc2 hd2 hy hl2 (by simpa using hm) (by simpa using hns) (by simpa using hnd) (fun s hs => hu s (List.mem_cons_of_mem _ hs)) (by simp only [List.length_append, List.length_cons, List.length_nil] at hK ⊢; omega)]
    simp
end Go.Sx.YtmbakmdgmccgiaaDoor
/-! W06AL: what is printed is read as it. -/
namespace Go.Sx.YtmbakmdgmccgiaaDoor
open Go Go.Sx Go.Sx.Js
set_option autoImplicit false
set_option linter.unusedVariables false
set_option linter.unusedSimpArgs false
theorem value_at (k d : Nat) (l : List Int) : Js.value k d l =
    (if hd (blanks l) = 110 then (word [110, 117, 108, 108] (blanks l)).map fun _ => vNull
    else if hd (blanks l) = 116 then (word [116, 114, 117, 101] (blanks l)).map fun _ => vBool true
    else if hd (blanks l) = 102 then (word [102, 97, 108, 115, 101] (blanks l)).map fun _ => vBool false
    else if hd (blanks l) = 34 then (Js.text k (blanks l).tail).map vText
    else if hd (blanks l) = 91 then (match d with
      | 0 => .bad 5 (blanks l)
      | d + 1 => listOf (Js.value k d) k (blanks l).tail)
    else if hd (blanks l) = 123 then (match d with
      | 0 => .bad 5 (blanks l)
      | d + 1 => objOf (Js.value k d) k (blanks l).tail)
    else Js.number (blanks l)) := by cases d <;> rfl
theorem word_self : ∀ (w rest : List Int), word w (w ++ rest) = .ok () rest
  | [], rest => rfl
  | c :: w, rest => by
    show (if c = c then word w (w ++ rest) else _) = _
    rw [if_pos rfl, word_self w rest]
/-- the first byte of a value's text ends nothing. -/
theorem Txt_hd {v : JV} {u : List Int} (hw : well v = true) (h : Txt v u) (rest : List Int) : ∃ c t, blanks (u ++ rest) = c :: t ∧ c ≠ 93 ∧ c ≠ 125 := by
  obtain ⟨k, b, t, n, w, l, ns⟩ := v
  rw [Txt] at h
  split at h
  · obtain ⟨a, body, d, ha, hd, rfl, _⟩ := h
    rw [List.append_assoc, blanks_app _ ha]
    split
    · exact ⟨123, _, blanks_stop _ (by rfl), by omega, by omega⟩
    · exact ⟨91, _, blanks_stop _ (by rfl), by omega, by omega⟩
  · rename_i hk
    subst h
    rw [pr]
    rw [well_mk] at hw
    by_cases k1 : k = 1
    · rw [if_pos k1]; exact ⟨110, _, blanks_stop _ (by rfl), by omega, by omega⟩
    rw [if_neg k1] at hw ⊢
    by_cases k2 : k = 2
    · rw [if_pos k2]
      split
      · exact ⟨116, _, blanks_stop _ (by rfl), by omega, by omega⟩
      · exact ⟨102, _, blanks_stop _ (by rfl), by omega, by omega⟩
    rw [if_neg k2] at hw ⊢
    by_cases k3 : k = 3
    · rw [if_neg (show ¬ k = 4 by omega), if_pos k3, Bool.and_eq_true] at hw
      rw [if_pos k3]
      obtain ⟨c, r, rfl, hc⟩ := number_hd hw.1
      exact ⟨c, _, blanks_stop _ (by simp [isBlank]; omega), by omega, by omega⟩
    rw [if_neg k3]
    by_cases k4 : k = 4
    · rw [if_pos k4, Bool.and_eq_true] at hw
      rw [if_pos k4, qv_ok hw.1]
      exact ⟨34, _, blanks_stop _ (by rfl), by omega, by omega⟩
    · rw [if_neg k4, if_neg k3, if_neg (by omega), if_neg (by omega)] at hw
      cases hw
theorem TxtL_few {o : Bool} : ∀ {l : List JV} {f : Bool} {ns : List (List Int)} {u : List Int}, TxtL o f l ns u → (f = false → l.length ≤ u.length) ∧ (f = true → l.length ≤ u.length + 1)
  | [], f, ns, u, _ => by simp
  | x :: r, f, ns, u, h => by
    rw [TxtL] at h
    obtain ⟨a, b, c, d, wx, u', _, _, _, _, h2, rfl⟩ := h
    have := (TxtL_few h2).1 rfl
    cases f <;> simp only [List.length_append, List.length_cons, List.length_nil, if_true, Bool.false_eq_true, if_false] <;> constructor <;> intro <;> first | omega | contradiction
theorem gdL_mem : ∀ {l : List JV} {x : JV}, x ∈ l → gd x ≤ gdL l
  | y :: r, x, h => by
    rw [gdL]
    rcases List.mem_cons.1 h with rfl | h
    · omega
    · have := gdL_mem h; omega
theorem reads_value {K B : Nat} : ∀ (D : Nat) (v : JV), dep v ≤ D → well v = true → tw v = false → Bt B v → ∀ (d : Nat), gd v ≤ d → Reads K (Js.value K d) v := by
  intro D
  induction D with
  | zero =>
    intro v h
    cases v
    rw [dep] at h
    omega
  | succ D ih =>
    intro v hdp hw ht hB d hg u hu a ha rest hr hK
    obtain ⟨k, b, t, i, w, l, ns⟩ := v
    have hhd := Txt_hd hw hu rest
    rw [dep] at hdp
    rw [well_mk] at hw
    rw [tw, Bool.or_eq_false_iff] at ht
    rw [Bt] at hB
    rw [gd] at hg
    rw [Txt] at hu
    rw [value_at, blanks_app _ ha]
    split at hu
    · rename_i hk
      obtain ⟨a2, body, d2, ha2, hd2, rfl, hT⟩ := hu
      rw [if_pos hk] at hg
      obtain ⟨d, rfl⟩ : ∃ q, d = q + 1 := ⟨d - 1, by omega⟩
      dsimp only
      rw [if_neg (show ¬ k = 1 by omega), if_neg (show ¬ k = 2 by omega), if_neg (show ¬ k = 4 by omega), if_neg (show ¬ k = 3 by omega)] at hw
      have hrd : l.all well = true → ∀ y ∈ l, Reads K (Js.value K d) y := fun hwl y hy => ih y (by have := depL_mem hy; omega) (List.all_eq_true.1 hwl y hy) (by
        have := ht.2
        rw [twL_any, List.any_eq_false] at this
        simpa using this y hy) (BtL_iff.1 hB.2.2.2 y hy) d (by
          have := gdL_mem hy
          omega)
      refine ⟨d2 ++ rest, ?_, blanks_app _ hd2⟩
      rw [List.append_assoc, blanks_app _ ha2]
      by_cases k6 : k = 6
      · rw [if_pos k6] at hw
        simp only [if_pos k6, List.append_assoc, List.cons_append] at hK ⊢
        rw [decide_eq_true k6] at hT
        simp only [Bool.and_eq_true, decide_eq_true_eq, Bool.not_eq_true'] at hw
        obtain ⟨⟨hnl, hnu⟩, hwl, ⟨⟨hb, htt⟩, hi⟩, hww⟩ := hw
        have htt : t = [] := List.isEmpty_iff.1 htt
        subst hb htt hi hww k6
        rw [blanks_stop _ (by rfl)]
        rw [show hd (123 :: (body ++ 125 :: (d2 ++ rest))) = 123 from rfl, if_neg (by omega), if_neg (by omega), if_neg (by omega), if_neg (by omega), if_neg (by omega), if_pos rfl, List.tail_cons]
        unfold objOf
        cases l with
        | nil =>
          obtain rfl : ns = [] := List.length_eq_zero_iff.1 hnl
          rw [TxtL] at hT
          rw [blanks_app _ hT, blanks_stop _ (by rfl), if_pos (show hd (125 :: (d2 ++ rest)) = 125 from rfl)]
          rfl
        | cons x r =>
          obtain ⟨nm, ns, rfl⟩ : ∃ n2 n3, ns = n2 :: n3 := List.exists_cons_of_ne_nil (by rintro rfl; simp at hnl)
          rw [TxtL] at hT
          obtain ⟨a3, b3, c3, d3, wx, u', ha3, hb3, ⟨hc3, hd3⟩, hx, hT2, rfl⟩ := hT
          simp only [if_true, List.headD_cons, List.tail_cons, List.nil_append] at hT2 hK ⊢
          have hqu := List.all_eq_true.1 hnu nm (by simp)
          have hbl : blanks (a3 ++ (b3 ++ (qv nm ++ (c3 ++ 58 :: d3) ++ (wx ++ u'))) ++ 125 :: (d2 ++ rest)) = qv nm ++ (c3 ++ 58 :: d3) ++ (wx ++ (u' ++ 125 :: (d2 ++ rest))) := by
            rw [List.append_assoc, blanks_app _ ha3, List.append_assoc, blanks_app _ hb3, qv_ok hqu]
            simp only [List.cons_append, List.append_assoc]
            exact blanks_stop _ (by rfl)
          rw [hbl]
          have hq : hd (qv nm ++ (c3 ++ 58 :: d3) ++ (wx ++ (u' ++ 125 :: (d2 ++ rest)))) = 34 := by rw [qv_ok hqu]; rfl
          rw [hq, if_neg (by omega)]
          have hfew := (TxtL_few hT2).1 rfl
          simp only [List.length_append, List.length_cons] at hK
          have hM := members_txt (K := K) (pv := Js.value K d) r x [] K [] nm ns [] c3 d3 wx u' (d2 ++ rest) (hrd hwl) Bl.nil hc3 hd3 hx hT2 (by omega) (by simpa using hnl) (by simpa using ht.1) (fun s hs => ⟨(hB.2.1 s hs).1, List.all_eq_true.1 hnu s hs⟩) (by simp only [List.length_append, List.length_cons, List.length_nil]; omega)
          rw [List.nil_append] at hM
          rw [hM]
          rfl
      · have k5 : k = 5 := by omega
        rw [if_neg k6, if_pos k5] at hw
        simp only [if_neg k6, List.append_assoc, List.cons_append] at hK ⊢
        rw [decide_eq_false k6] at hT
        simp only [Bool.and_eq_true, decide_eq_true_eq, Bool.not_eq_true'] at hw
        obtain ⟨hwl, ⟨⟨⟨hb, htt⟩, hi⟩, hww⟩, hne⟩ := hw
        have htt : t = [] := List.isEmpty_iff.1 htt
        have hne : ns = [] := List.isEmpty_iff.1 hne
        subst hb htt hi hww k5 hne
        rw [blanks_stop _ (by rfl)]
        rw [show hd (91 :: (body ++ 93 :: (d2 ++ rest))) = 91 from rfl, if_neg (by omega), if_neg (by omega), if_neg (by omega), if_neg (by omega), if_pos rfl, List.tail_cons]
        unfold listOf
        cases l with
        | nil =>
          rw [TxtL] at hT
          rw [blanks_app _ hT, blanks_stop _ (by rfl), if_pos (show hd (93 :: (d2 ++ rest)) = 93 from rfl)]
          rfl
        | cons x r =>
          rw [TxtL] at hT
          obtain ⟨a3, b3, c3, d3, wx, u', ha3, hb3, ⟨hc3, hd3⟩, hx, hT2, rfl⟩ := hT
          simp only [if_true, Bool.false_eq_true, if_false, List.tail_nil, List.nil_append] at hT2 hK ⊢
          obtain ⟨c, tl, hbc, hc1, hc2⟩ := Txt_hd (List.all_eq_true.1 hwl x (by simp)) hx (u' ++ 93 :: (d2 ++ rest))
          have hbl : blanks (a3 ++ (b3 ++ (wx ++ u')) ++ 93 :: (d2 ++ rest)) = blanks (wx ++ (u' ++ 93 :: (d2 ++ rest))) := by
            rw [List.append_assoc, blanks_app _ ha3, List.append_assoc, blanks_app _ hb3, List.append_assoc]
          rw [hbl]
          have hq : hd (blanks (wx ++ (u' ++ 93 :: (d2 ++ rest)))) = c := by rw [hbc]; rfl
          rw [hq, if_neg (by omega)]
          have hfew := (TxtL_few hT2).1 rfl
          simp only [List.length_append, List.length_cons] at hK
          have hM := elems_txt (K := K) (pv := Js.value K d) r x [] K [] [] wx u' (d2 ++ rest) (hrd hwl) Bl.nil hx hT2 (by omega) (by simp only [List.length_append, List.length_cons, List.length_nil]; omega)
          rw [List.nil_append] at hM
          obtain ⟨K', rfl⟩ : ∃ q, K = q + 1 := ⟨K - 1, by omega⟩
          rw [elems_s, value_blanks, ← elems_s, hM]
          rfl
    · rename_i hk
      subst hu
      rw [pr] at hK ⊢
      by_cases k1 : k = 1
      · rw [if_pos k1] at hw
        simp only [if_pos k1]
        simp only [Bool.and_eq_true, decide_eq_true_eq, Bool.not_eq_true', List.isEmpty_iff] at hw
        obtain ⟨⟨⟨⟨⟨hb, htt⟩, hi⟩, hww⟩, hl⟩, hn⟩ := hw
        subst hb htt hi hww hl hn k1
        refine ⟨rest, ?_, rfl⟩
        rw [show blanks (nullT ++ rest) = nullT ++ rest from blanks_stop _ (by rfl), show hd (nullT ++ rest) = 110 from rfl, if_pos rfl]
        rw [show word [110, 117, 108, 108] (nullT ++ rest) = .ok () rest from word_self _ _]
        rfl
      rw [if_neg k1] at hw hK ⊢
      by_cases k2 : k = 2
      · rw [if_pos k2] at hw
        simp only [if_pos k2]
        simp only [Bool.and_eq_true, decide_eq_true_eq, Bool.not_eq_true', List.isEmpty_iff] at hw
        obtain ⟨⟨⟨⟨htt, hi⟩, hww⟩, hl⟩, hn⟩ := hw
        subst htt hi hww hl hn k2
        refine ⟨rest, ?_, rfl⟩
        cases b with
        | true =>
          rw [show (if true = true then trueT else falseT) = trueT from rfl, show blanks (trueT ++ rest) = trueT ++ rest from blanks_stop _ (by rfl), show hd (trueT ++ rest) = 116 from rfl, if_neg (by omega), if_pos rfl]
          rw [show word [116, 114, 117, 101] (trueT ++ rest) = .ok () rest from word_self _ _]
          rfl
        | false =>
          rw [show (if false = true then trueT else falseT) = falseT from rfl, show blanks (falseT ++ rest) = falseT ++ rest from blanks_stop _ (by rfl), show hd (falseT ++ rest) = 102 from rfl, if_neg (by omega), if_neg (by omega), if_pos rfl]
          rw [show word [102, 97, 108, 115, 101] (falseT ++ rest) = .ok () rest from word_self _ _]
          rfl
      rw [if_neg k2] at hw hK ⊢
      by_cases k3 : k = 3
      · rw [if_neg (show ¬ k = 4 by omega), if_pos k3] at hw
        simp only [if_pos k3]
        simp only [Bool.and_eq_true, Bool.not_eq_true', List.isEmpty_iff] at hw
        obtain ⟨hnum, ⟨hb, hl⟩, hn⟩ := hw
        subst hb hl hn k3
        refine ⟨rest, ?_, rfl⟩
        obtain ⟨c, r, rfl, hc⟩ := number_hd hnum
        have hbs : blanks (c :: r ++ rest) = c :: r ++ rest := blanks_stop _ (by simp [isBlank]; omega)
        rw [hbs, show hd (c :: r ++ rest) = c from rfl, if_neg (by omega), if_neg (by omega), if_neg (by omega), if_neg (by omega), if_neg (by omega), if_neg (by omega)]
        exact number_back hnum hr
      rw [if_neg k3] at hw hK ⊢
      by_cases k4 : k = 4
      · rw [if_pos k4] at hw
        simp only [if_pos k4] at hK ⊢
        simp only [Bool.and_eq_true, decide_eq_true_eq, Bool.not_eq_true', List.isEmpty_iff] at hw
        obtain ⟨hut, ⟨⟨⟨hb, hi⟩, hww⟩, hl⟩, hn⟩ := hw
        subst hb hi hww hl hn k4
        refine ⟨rest, ?_, rfl⟩
        rw [qv_ok hut] at hK ⊢
        simp only [List.cons_append, List.append_assoc, List.nil_append, List.length_append, List.length_cons] at hK ⊢
        rw [blanks_stop _ (by rfl), show hd (34 :: (escs t ++ 34 :: rest)) = 34 from rfl, if_neg (by omega), if_neg (by omega), if_neg (by omega), if_pos rfl, List.tail_cons, text_back t.length t hB.1.1 (Nat.le_refl _) hut K rest (by omega)]
        rfl
      · rw [if_neg k4, if_neg (by omega), if_neg (by omega)] at hw
        cases hw
/-- a value's text, with blanks, is read as it. -/
theorem parse_txt {B : Nat} {v : JV} {u : List Int} (hw : valid v = 0) (hB : Bt B v) (hu : Txt v u) (hl : u.length ≤ 1048576) : Js.parse u = (v, (u.length : Int), 0) := by
  obtain ⟨h1, h2, h3⟩ := valid_well hw
  obtain ⟨r', e1, e2⟩ := reads_value (K := u.length + 1) (B := B) (dep v) v (Nat.le_refl _) h1 h2 hB 32 h3 u hu [] Bl.nil [] (.inl rfl) (by simp)
  rw [List.nil_append, List.append_nil] at e1
  unfold Js.parse
  rw [if_neg (by omega), e1]
  simp only
  rw [e2]
  rfl
theorem parse_pr {B : Nat} {v : JV} (hw : valid v = 0) (hB : Bt B v) (hl : (pr v).length ≤ 1048576) : Js.parse (pr v) = (v, ((pr v).length : Int), 0) :=
  parse_txt hw hB (Txt_pr v (valid_well hw).1) hl
end Go.Sx.YtmbakmdgmccgiaaDoor
/-! W06AM: the law JsonPrints. -/
namespace Go.Sx.YtmbakmdgmccgiaaDoor
open Go Go.Sx Go.Sx.Js
set_option autoImplicit false
set_option linter.unusedVariables false
set_option linter.unusedSimpArgs false
theorem byt_app {a b : List Int} (ha : Byt a) (hb : Byt b) : Byt (a ++ b) := fun c hc => by
  rcases List.mem_append.1 hc with h | h
  · exact ha c h
  · exact hb c h
theorem byt_nil : Byt [] := by intro c hc; cases hc
theorem byt_cons {c : Int} {a : List Int} (hc : 0 ≤ c ∧ c ≤ 255) (ha : Byt a) : Byt (c :: a) := fun x hx => by
  rcases List.mem_cons.1 hx with rfl | h
  · exact hc
  · exact ha x h
theorem esc_byt {c : Int} (h : 0 ≤ c ∧ c ≤ 255) : Byt (esc c) := by
  have hx : ∀ x : Int, 0 ≤ x → x ≤ 15 → 0 ≤ hexD x ∧ hexD x ≤ 255 := by
    intro x h0 h1
    unfold hexD
    split <;> omega
  unfold esc
  repeat' split
  · exact byt_cons (by omega) (byt_cons h byt_nil)
  · exact byt_cons (by omega) (byt_cons (by omega) byt_nil)
  · exact byt_cons (by omega) (byt_cons (by omega) byt_nil)
  · exact byt_cons (by omega) (byt_cons (by omega) byt_nil)
  · exact byt_cons (by omega) (byt_cons (by omega) (byt_cons (by omega) (byt_cons (by omega) (byt_cons (hx _ (by omega) (by omega)) (byt_cons (hx _ (by omega) (by omega)) byt_nil)))))
  · exact byt_cons h byt_nil
theorem escs_byt : ∀ {s : List Int}, Byt s → Byt (escs s)
  | [], _ => byt_nil
  | c :: r, h => by
    rw [escs]
    exact byt_app (esc_byt (h c (by simp))) (escs_byt fun x hx => h x (by simp [hx]))
theorem qv_byt {s : List Int} (h : Byt s) : Byt (qv s) := by
  unfold qv quoteOr
  split
  · exact byt_cons (by omega) (byt_app (escs_byt h) (byt_cons (by omega) byt_nil))
  · exact byt_nil
mutual
theorem pr_byt {B : Nat} : ∀ (v : JV), Bt B v → Byt (pr v)
  | .mk k b t n w l ns, h => by
    rw [Bt] at h
    rw [pr]
    have hl := prL_byt (B := B) (decide (k = 6)) true l ns h.2.2.2 (fun s hs => (h.2.1 s hs).1)
    split
    · intro c hc; simp [nullT] at hc; omega
    split
    · split
      · intro c hc; simp [trueT] at hc; omega
      · intro c hc; simp [falseT] at hc; omega
    split
    · exact h.1.1
    split
    · exact qv_byt h.1.1
    · exact byt_cons (by split <;> omega) (byt_app hl (byt_cons (by split <;> omega) byt_nil))
theorem prL_byt {B : Nat} (o : Bool) : ∀ (f : Bool) (l : List JV) (ns : List (List Int)), BtL B l → (∀ s ∈ ns, Byt s) → Byt (prL o f l ns)
  | f, [], ns, _, _ => by rw [prL]; exact byt_nil
  | f, x :: r, ns, h, hn => by
    rw [BtL] at h
    rw [prL]
    have hh : Byt (ns.headD []) := by
      cases ns with
      | nil => exact byt_nil
      | cons s ns => exact hn s (by simp)
    refine byt_app ?_ (byt_app ?_ (byt_app (pr_byt x h.1) (prL_byt o false r ns.tail h.2 fun s hs => hn s (List.mem_of_mem_tail hs))))
    · split
      · exact byt_nil
      · exact byt_cons (by omega) byt_nil
    · split
      · exact byt_app (qv_byt hh) (byt_cons (by omega) byt_nil)
      · exact byt_nil
end
theorem pr_small {v : JV} (h : ¬ 1048576 < (put v []).length) : (pr v).length ≤ 1048576 := by
  rw [← printed_put h]
  omega
end Go.Sx.YtmbakmdgmccgiaaDoor
