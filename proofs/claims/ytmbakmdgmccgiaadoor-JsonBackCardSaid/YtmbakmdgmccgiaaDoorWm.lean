/- Part of a proof by a small interpreter on plain values; no condition. -/
import Derived.Test.YtmbakmdgmccgiaaDoorWl
/-! W06AN: what is read of a text: its texts are UTF-8, it leaves an end of it, and is no longer than three times what was taken. -/
namespace Go.Sx.YtmbakmdgmccgiaaDoor
open Go Go.Sx Go.Sx.Js
set_option autoImplicit false
set_option linter.unusedVariables false
set_option linter.unusedSimpArgs false
def Suf (r l : List Int) : Prop := ∃ d, l = d ++ r
theorem Suf.rfl' (l : List Int) : Suf l l := ⟨[], rfl⟩
theorem Suf.trans {a b c : List Int} (h1 : Suf a b) (h2 : Suf b c) : Suf a c := by
  obtain ⟨d, rfl⟩ := h1
  obtain ⟨e, rfl⟩ := h2
  exact ⟨e ++ d, by simp⟩
theorem Suf.cons {c : Int} {r l : List Int} (h : Suf r l) : Suf r (c :: l) := by
  obtain ⟨d, rfl⟩ := h
  exact ⟨c :: d, rfl⟩
theorem Suf.byt {r l : List Int} (h : Suf r l) (hb : Byt l) : Byt r := by
  obtain ⟨d, rfl⟩ := h
  exact fun c hc => hb c (by simp [hc])
theorem blanks_suf : ∀ l, Suf (blanks l) l
  | [] => Suf.rfl' _
  | c :: r => by
    rw [blanks_cons]
    split
    · exact (blanks_suf r).cons
    · exact Suf.rfl' _
theorem word_suf : ∀ {w l r : List Int}, word w l = .ok () r → Suf r l
  | [], l, r, h => by injection h with _ h; subst h; exact Suf.rfl' _
  | c :: w, [], r, h => by cases h
  | c :: w, d :: l, r, h => by
    unfold word at h
    split at h
    · exact (word_suf h).cons
    · cases h
theorem hex_suf {l r : List Int} {d : Int} (h : Js.hex l = .ok d r) : Suf r l := by
  cases l with
  | nil => cases h
  | cons c l =>
    rw [hex_cons] at h
    split at h
    · cases h
    · injection h with _ h; subst h; exact (Suf.rfl' _).cons
theorem next_suf {e : Int} {l r : List Int} {b : Bool} (h : Js.next e l = .ok b r) : Suf r l := by
  unfold Js.next at h
  refine Suf.trans ?_ (blanks_suf l)
  cases hb : blanks l with
  | nil => rw [hb] at h; cases h
  | cons c l1 =>
    rw [hb] at h
    dsimp only at h
    split at h
    · injection h with _ h; subst h; exact (Suf.rfl' _).cons
    · split at h
      · injection h with _ h; subst h; exact (Suf.rfl' _).cons
      · cases h
/-! UTF-8, without fuel. -/
theorem utf8_fuel : ∀ (m m' : Nat) (l : List Int), l.length ≤ m → l.length ≤ m' → utf8 m l = utf8 m' l
  | 0, m', l, h, h' => by
    obtain rfl : l = [] := List.length_eq_zero_iff.1 (by omega)
    rw [utf8_nil, utf8_nil]
  | m + 1, 0, l, h, h' => by
    obtain rfl : l = [] := List.length_eq_zero_iff.1 (by omega)
    rw [utf8_nil, utf8_nil]
  | m + 1, m' + 1, [], h, h' => rfl
  | m + 1, m' + 1, c :: r, h, h' => by
    simp only [List.length_cons] at h h'
    rw [utf8_s, utf8_s, utf8_fuel m m' r (by omega) (by omega)]
    cases hR : Js.rune (c :: r) with
    | bad e r' => rfl
    | ok b r' =>
      have := rune_len hR
      simp only [List.length_cons] at this
      simp only
      rw [utf8_fuel m m' r' (by omega) (by omega)]
theorem u_plain {c : Int} {s : List Int} (h : c < 128) (hs : uOk s = true) : uOk (c :: s) = true := by
  unfold uOk at hs ⊢
  rw [List.length_cons, utf8_s, if_pos h, hs]
theorem u_rune {b r s : List Int} (h : Js.rune (b ++ r) = .ok b r) (hs : uOk s = true) : uOk (b ++ s) = true := by
  obtain ⟨hbig, hne⟩ := rune_big h
  have h2 := rune_more s h hne
  obtain ⟨c, b, rfl⟩ := List.exists_cons_of_ne_nil hne
  have hc := hbig c (by simp)
  unfold uOk at hs ⊢
  rw [List.cons_append] at h2 ⊢
  rw [List.length_cons, utf8_s, if_neg (by omega), h2]
  simp only
  rw [utf8_fuel _ s.length s (by simp) (Nat.le_refl _), hs]
theorem rune_enc {x : Int} (h0 : 128 ≤ x) (h1 : x ≤ 1114111) (h2 : ¬ (55296 ≤ x ∧ x ≤ 57343)) (t : List Int) : Js.rune (enc x ++ t) = .ok (enc x) t := by
  unfold enc
  rw [if_neg (by omega)]
  by_cases a2 : x < 2048
  · rw [if_pos a2]
    have hb : bounds (192 + x / 64) = (1, 128, 191) := by unfold bounds; rw [if_pos (by omega)]
    rw [show [192 + x / 64, 128 + x % 64] ++ t = (192 + x / 64) :: (128 + x % 64) :: t from rfl, rune_cons, hb, if_neg (show ¬ (1 = 0) by omega)]
    dsimp only
    rw [conts_1, if_neg (by omega)]
    rfl
  rw [if_neg a2]
  by_cases a3 : x < 65536
  · rw [if_pos a3]
    rw [show [224 + x / 4096, 128 + x / 64 % 64, 128 + x % 64] ++ t = (224 + x / 4096) :: (128 + x / 64 % 64) :: (128 + x % 64) :: t from rfl, rune_cons]
    have hb : ∃ lo hi, bounds (224 + x / 4096) = (2, lo, hi) ∧ lo ≤ 128 + x / 64 % 64 ∧ 128 + x / 64 % 64 ≤ hi := by
      unfold bounds
      rw [if_neg (by omega)]
      by_cases c1 : 224 + x / 4096 = 224
      · rw [if_pos c1]; exact ⟨160, 191, rfl, by omega, by omega⟩
      rw [if_neg c1]
      by_cases c2 : 224 + x / 4096 = 237
      · rw [if_pos c2]; exact ⟨128, 159, rfl, by omega, by omega⟩
      rw [if_neg c2, if_pos (by omega)]
      exact ⟨128, 191, rfl, by omega, by omega⟩
    obtain ⟨lo, hi, hb, g1, g2⟩ := hb
    rw [hb, if_neg (show ¬ (2 = 0) by omega)]
    dsimp only
    rw [conts_2, if_neg (by omega), if_neg (by omega)]
    rfl
  · rw [if_neg a3]
    rw [show [240 + x / 262144, 128 + x / 4096 % 64, 128 + x / 64 % 64, 128 + x % 64] ++ t = (240 + x / 262144) :: (128 + x / 4096 % 64) :: (128 + x / 64 % 64) :: (128 + x % 64) :: t from rfl, rune_cons]
    have hb : ∃ lo hi, bounds (240 + x / 262144) = (3, lo, hi) ∧ lo ≤ 128 + x / 4096 % 64 ∧ 128 + x / 4096 % 64 ≤ hi := by
      unfold bounds
      rw [if_neg (by omega), if_neg (by omega), if_neg (by omega), if_neg (by omega)]
      by_cases c1 : 240 + x / 262144 = 240
      · rw [if_pos c1]; exact ⟨144, 191, rfl, by omega, by omega⟩
      rw [if_neg c1]
      by_cases c2 : 241 ≤ 240 + x / 262144 ∧ 240 + x / 262144 ≤ 243
      · rw [if_pos c2]; exact ⟨128, 191, rfl, by omega, by omega⟩
      rw [if_neg c2, if_pos (by omega)]
      exact ⟨128, 143, rfl, by omega, by omega⟩
    obtain ⟨lo, hi, hb, g1, g2⟩ := hb
    rw [hb, if_neg (show ¬ (3 = 0) by omega)]
    dsimp only
    rw [conts_3, if_neg (by omega), if_neg (by omega), if_neg (by omega)]
    rfl
/-- a number's bytes: UTF-8; few when printed. -/
theorem enc_good {x : Int} (h0 : 0 ≤ x) (h1 : x ≤ 1114111) (h2 : ¬ (55296 ≤ x ∧ x ≤ 57343)) : (∀ s, uOk s = true → uOk (enc x ++ s) = true) ∧ Byt (enc x) ∧ (escs (enc x)).length ≤ 6 := by
  by_cases h : x < 128
  · have he : enc x = [x] := by unfold enc; rw [if_pos h]
    rw [he]
    refine ⟨fun s hs => u_plain h hs, byt_cons (by omega) byt_nil, ?_⟩
    have := esc_len x
    simp only [escs, List.append_nil]
    omega
  · have hr := rune_enc (by omega) h1 h2
    refine ⟨fun s hs => u_rune (hr []) hs, ?_, ?_⟩
    · unfold enc
      rw [if_neg h]
      split
      · exact byt_cons (by omega) (byt_cons (by omega) byt_nil)
      · split
        · exact byt_cons (by omega) (byt_cons (by omega) (byt_cons (by omega) byt_nil))
        · exact byt_cons (by omega) (byt_cons (by omega) (byt_cons (by omega) (byt_cons (by omega) byt_nil)))
    · have hb := (rune_big (hr [])).1
      rw [escs_big hb]
      have := enc_len x
      omega
/-- what an escape is good for. -/
def EscQ (b : List Int) : Prop := (∀ s, uOk s = true → uOk (b ++ s) = true) ∧ Byt b ∧ (escs b).length ≤ 6
theorem pair_good {x : Int} {l b r : List Int} (hx : 55296 ≤ x ∧ x ≤ 56319) (h : Js.pair x l = .ok b r) : EscQ b ∧ Suf r l ∧ r.length + 4 ≤ l.length := by
  rw [pair_eq] at h
  obtain ⟨y, h1, rfl⟩ := map_ok h
  have hr := pairR_rng (by omega) h1
  refine ⟨enc_good (by omega) (by omega) (by omega), ?_⟩
  rw [pairR_four] at h1
  obtain ⟨_, l1, h2, h3⟩ := bind_ok h1
  have e2 := word_len h2
  simp only [List.length_cons, List.length_nil] at e2
  have hf : ∀ {k : Nat} {a : Int} {l r : List Int}, fourR pairOk l k = .ok a r → Suf r l ∧ r.length + k = l.length := by
    intro k
    induction k with
    | zero => intro a l r h; injection h with _ h; subst h; exact ⟨Suf.rfl' _, rfl⟩
    | succ k ih =>
      intro a l r h
      obtain ⟨a', r', h1, h2⟩ := bind_ok h
      obtain ⟨d, h3, _⟩ := map_ok h2
      obtain ⟨h4, _⟩ := pairHex_ok h3
      obtain ⟨i1, i2⟩ := ih h1
      have := hex_len h4
      exact ⟨(hex_suf h4).trans i1, by omega⟩
  obtain ⟨f1, f2⟩ := hf h3
  exact ⟨f1.trans (word_suf h2), by omega⟩
theorem unicode_good {l b r : List Int} (h : Js.unicode l = .ok b r) : EscQ b ∧ Suf r l ∧ r.length + 4 ≤ l.length := by
  rw [unicode_four] at h
  cases hR : fourR okT l 4 with
  | bad e r' => rw [hR] at h; cases h
  | ok x r' =>
    rw [hR] at h
    obtain ⟨g1, g2, g3, _, _, _, _, g4⟩ := fourT_ok (by omega) hR
    have g4 := g4 rfl
    have hs : Suf r' l := ⟨l.take 4, by rw [g1, List.take_append_drop]⟩
    have hlen : r'.length + 4 = l.length := by rw [g1, List.length_drop]; omega
    dsimp only at h
    split at h
    · cases h
    · split at h
      · rename_i hx
        obtain ⟨p1, p2, p3⟩ := pair_good hx h
        exact ⟨p1, p2.trans hs, by omega⟩
      · injection h with h1 h2
        subst h1 h2
        exact ⟨enc_good g3 (by omega) (by omega), hs, by omega⟩
theorem escOf_good {c : Int} (h : ¬ escOf c < 0) : escOf c < 128 ∧ 0 ≤ escOf c := by
  unfold escOf at h ⊢
  repeat' split
  all_goals simp_all
theorem escape_good {l b r : List Int} (h : Js.escape l = .ok b r) : EscQ b ∧ Suf r l ∧ r.length + 1 ≤ l.length := by
  cases l with
  | nil => cases h
  | cons c l =>
    rw [escape_cons] at h
    split at h
    · obtain ⟨u1, u2, u3⟩ := unicode_good h
      exact ⟨u1, u2.cons, by simp; omega⟩
    · split at h
      · cases h
      · rename_i hc
        injection h with h1 h2
        subst h1 h2
        obtain ⟨g1, g2⟩ := escOf_good hc
        refine ⟨⟨fun s hs => u_plain g1 hs, byt_cons (by omega) byt_nil, ?_⟩, (Suf.rfl' _).cons, by simp⟩
        have := esc_len (escOf c)
        simp only [escs, List.append_nil]
        omega
theorem text_good : ∀ {m : Nat} {l s r : List Int}, Byt l → Js.text m l = .ok s r → (uOk s = true ∧ Byt s) ∧ Suf r l ∧ (escs s).length + 3 * r.length + 3 ≤ 3 * l.length
  | 0, l, s, r, _, h => by cases h
  | m + 1, [], s, r, _, h => by cases h
  | m + 1, c :: l, s, r, hb, h => by
    have hc := hb c (by simp)
    have hb' : Byt l := fun x hx => hb x (by simp [hx])
    rw [text_cons] at h
    split at h
    · injection h with h1 h2
      subst h1 h2
      exact ⟨⟨rfl, byt_nil⟩, (Suf.rfl' _).cons, by simp [escs]; omega⟩
    · split at h
      · obtain ⟨b, l1, h1, h⟩ := bind_ok h
        obtain ⟨s', h2, rfl⟩ := map_ok h
        obtain ⟨⟨q1, q2, q3⟩, q4, q5⟩ := escape_good h1
        obtain ⟨⟨i1, i2⟩, i3, i4⟩ := text_good (q4.byt hb') h2
        refine ⟨⟨q1 _ i1, byt_app q2 i2⟩, (i3.trans q4).cons, ?_⟩
        rw [escs_app]
        simp only [List.length_append, List.length_cons]
        omega
      · split at h
        · cases h
        · rename_i n1 n2 n3
          split at h
          · rename_i h128
            obtain ⟨s', h2, rfl⟩ := map_ok h
            obtain ⟨⟨i1, i2⟩, i3, i4⟩ := text_good hb' h2
            refine ⟨⟨u_plain h128 i1, byt_cons hc i2⟩, i3.cons, ?_⟩
            have : esc c = [c] := by
              unfold esc
              rw [if_neg (by omega), if_neg (by omega), if_neg (by omega), if_neg (by omega), if_neg (by omega)]
            rw [escs, this]
            simp only [List.length_append, List.length_cons, List.length_nil]
            omega
          · obtain ⟨b, l1, h1, h⟩ := bind_ok h
            obtain ⟨s', h2, rfl⟩ := map_ok h
            have hsp := rune_split h1
            have hlb := rune_len h1
            obtain ⟨hbig, hne⟩ := rune_big h1
            have hs1 : Suf l1 (c :: l) := ⟨b, hsp⟩
            obtain ⟨⟨i1, i2⟩, i3, i4⟩ := text_good (hs1.byt hb) h2
            rw [hsp] at h1
            refine ⟨⟨u_rune h1 i1, byt_app (fun x hx => hb x (by rw [hsp]; simp [hx])) i2⟩, i3.trans hs1, ?_⟩
            rw [escs_app, escs_big hbig]
            simp only [List.length_append, List.length_cons] at hlb ⊢
            omega
/-! numbers. -/
theorem nRest_less : ∀ (d : List Int) {st k : Nat} {w : Bool} {r : List Int}, st ≤ 8 → nRest st k (d ++ r) = .ok (k + d.length, w) r → nRest st k d = .ok (k + d.length, w) [] := by
  intro d
  induction d with
  | nil =>
    intro st k w r hst h
    rw [List.nil_append] at h
    rw [nRest_nil hst]
    have hcut : ∀ l, nStop st k l = .ok (k + 0, w) l → nStop st k [] = .ok (k + 0, w) [] := by
      intro l h
      unfold nStop at h ⊢
      split at h
      · cases h
      · rename_i hn
        rw [if_neg hn]
        injection h with h1 _
        rw [h1]
    cases r with
    | nil => rw [nRest_nil hst] at h; exact h
    | cons c r =>
      rcases nRest_cons (k := k) (c := c) (r := r) hst with ⟨_, e⟩ | ⟨h0, h8, e⟩
      · rw [e] at h; exact hcut _ h
      · rw [e] at h
        split at h
        · cases h
        · obtain ⟨d', _, hq⟩ := nRest_split r (by omega) h
          simp only [List.length_nil] at hq
          omega
  | cons c d ih =>
    intro st k w r hst h
    rw [List.cons_append] at h
    rcases nRest_cons (k := k) (c := c) (r := d ++ r) hst with ⟨_, e⟩ | ⟨h0, h8, e⟩
    · rw [e] at h
      unfold nStop at h
      split at h
      · cases h
      · injection h with h1 h2
        injection h1 with h1 _
        simp only [List.length_cons] at h1
        omega
    · rcases nRest_cons (k := k) (c := c) (r := d) hst with ⟨h0', _⟩ | ⟨_, _, e'⟩
      · omega
      · rw [e] at h
        rw [e']
        split at h
        · cases h
        · rename_i hk
          rw [if_neg hk]
          have : k + (c :: d).length = k + 1 + d.length := by simp; omega
          rw [this] at h ⊢
          exact ih (by omega) h
theorem number_good {l r : List Int} {v : JV} (h : Js.number l = .ok v r) : ∃ (t : List Int) (i : Int) (w : Bool), l = t ++ r ∧ v = .mk 3 false t i w [] [] ∧ numOk t i w = true := by
  unfold Js.number at h
  obtain ⟨⟨q, w⟩, r1, h1, h⟩ := bind_ok h
  injection h with h2 h3
  subst h3
  rw [← nRest_0] at h1
  obtain ⟨d, hd', hq⟩ := nRest_split l (by omega) h1
  subst hd' hq
  have h4 := nRest_less d (by omega) h1
  rw [show (d ++ r1).take (0 + d.length) = d by rw [Nat.zero_add, List.take_left]] at h2
  refine ⟨d, v.n, v.whole, rfl, ?_, ?_⟩
  · obtain ⟨p1, p2, p3, p4, p5⟩ := numVal_parts d w
    have := JV.eta v
    rw [h2] at p1 p2 p3 p4 p5
    rw [p1, p2, p3, p4, p5] at this
    exact this.symm
  · have h5 : Js.number d = .ok v [] := by
      unfold Js.number
      rw [← nRest_0, h4]
      show PR.ok _ _ = _
      rw [Nat.zero_add, List.take_length, h2]
    rw [numOk_nil h5]
    simp
end Go.Sx.YtmbakmdgmccgiaaDoor
/-! W06AO: what is read may be; the law JsonBack. -/
namespace Go.Sx.YtmbakmdgmccgiaaDoor
open Go Go.Sx Go.Sx.Js
set_option autoImplicit false
set_option linter.unusedVariables false
set_option linter.unusedSimpArgs false
/-- what is read may be, and is as a text no longer than three times what was taken. -/
structure Good (B d : Nat) (v : JV) : Prop where
  well : well v = true
  once : tw v = false
  deep : gd v ≤ d
  byt : Bt B v
def GoodV (B : Nat) (pv : List Int → PR JV) (d : Nat) : Prop := ∀ l v r, Byt l → 3 * l.length ≤ B → pv l = .ok v r → Good B d v ∧ Suf r l ∧ (pr v).length + 3 * r.length ≤ 3 * l.length
theorem prL_first (o : Bool) : ∀ (l : List JV) (ns : List (List Int)), (prL o true l ns).length ≤ (prL o false l ns).length
  | [], ns => by rw [prL, prL]; exact Nat.le_refl _
  | x :: r, ns => by rw [prL, prL]; simp
theorem elems_good {B d : Nat} {pv : List Int → PR JV} (hp : GoodV B pv d) : ∀ {m : Nat} {acc x : List JV} {l r : List Int}, Byt l → 3 * l.length ≤ B → Js.elems pv m acc l = .ok x r →
    ∃ y, x = acc ++ y ∧ (∀ z ∈ y, Good B d z) ∧ Suf r l ∧ (prL false false y []).length + 3 * r.length + 2 ≤ 3 * l.length ∧ y.length ≤ l.length
  | 0, acc, x, l, r, _, _, h => by cases h
  | m + 1, acc, x, l, r, hb, hB, h => by
    rw [elems_s] at h
    obtain ⟨v, r1, h1, h⟩ := bind_ok h
    obtain ⟨b, r2, h2, h⟩ := bind_ok h
    obtain ⟨g1, g2, g3⟩ := hp l v r1 hb hB h1
    have e2 := next_len h2
    have s2 := (next_suf h2).trans g2
    have hb2 := s2.byt hb
    obtain ⟨dd, hdd⟩ := g2
    have hl1 : r1.length ≤ l.length := by rw [hdd]; simp
    split at h
    · obtain ⟨y, rfl, hy, hs, hl, hyl⟩ := elems_good hp hb2 (by omega) h
      refine ⟨v :: y, by simp, fun z hz => ?_, hs.trans s2, ?_, by simp; omega⟩
      · rcases List.mem_cons.1 hz with rfl | hz
        · exact g1
        · exact hy z hz
      · rw [prL]
        simp only [Bool.false_eq_true, if_false, List.length_append, List.length_cons, List.length_nil, List.tail_nil]
        omega
    · injection h with h3 h4
      subst h3 h4
      refine ⟨[v], rfl, fun z hz => ?_, s2, ?_, by simp; omega⟩
      · obtain rfl := List.mem_singleton.1 hz
        exact g1
      · rw [prL, prL]
        simp only [Bool.false_eq_true, if_false, List.length_append, List.length_cons, List.length_nil]
        omega
theorem qv_len_ok {s : List Int} (h : uOk s = true) : (qv s).length = (escs s).length + 2 := by
  rw [qv_ok h]; simp
theorem escs_ge : ∀ (s : List Int), s.length ≤ (escs s).length
  | [] => by simp
  | c :: r => by
    have := esc_len c
    have := escs_ge r
    simp only [escs, List.length_append, List.length_cons]
    omega
theorem member_good {k : Nat} {ns : List (List Int)} {l s r : List Int} (hb : Byt l) (h : member k ns l = .ok s r) : (uOk s = true ∧ Byt s) ∧ s ∉ ns ∧ Suf r l ∧ (qv s).length + 1 + 3 * r.length ≤ 3 * l.length := by
  have hbl := blanks_len l
  have hbs := blanks_suf l
  unfold member at h
  cases hl : blanks l with
  | nil => rw [hl] at h; cases h
  | cons c l1 =>
    rw [hl] at h hbl hbs
    simp only [List.length_cons] at hbl
    dsimp only at h
    split at h
    · obtain ⟨s', r1, h1, h⟩ := bind_ok h
      have hb1 : Byt l1 := fun x hx => (hbs.byt hb) x (by simp [hx])
      obtain ⟨t1, t2, t3⟩ := text_good hb1 h1
      split at h
      · cases h
      · rename_i hn
        obtain ⟨_, r2, h2, h⟩ := bind_ok h
        injection h with h3 h4
        subst h3 h4
        have e2 := word_len h2
        have e3 := blanks_len r1
        have s2 : Suf r2 l1 := (word_suf h2).trans ((blanks_suf r1).trans t2)
        simp only [List.length_cons, List.length_nil] at e2
        refine ⟨t1, fun hm => hn ?_, (s2.cons).trans hbs, ?_⟩
        · exact List.any_eq_true.2 ⟨s', hm, by simp⟩
        · rw [qv_len_ok t1.1]
          omega
    · cases h
theorem members_good {B d K : Nat} {pv : List Int → PR JV} (hp : GoodV B pv d) : ∀ {m : Nat} {ns : List (List Int)} {acc : List JV} {x : List (List Int) × List JV} {l r : List Int}, Byt l → 3 * l.length ≤ B → ns.Nodup → Js.members pv K m ns acc l = .ok x r →
    ∃ nm y, x = (ns ++ nm, acc ++ y) ∧ (∀ z ∈ y, Good B d z) ∧ (∀ s ∈ nm, uOk s = true ∧ Byt s ∧ s.length ≤ B) ∧ nm.length = y.length ∧ (ns ++ nm).Nodup ∧ Suf r l ∧ (prL true false y nm).length + 3 * r.length + 2 ≤ 3 * l.length ∧ y.length ≤ l.length
  | 0, ns, acc, x, l, r, _, _, _, h => by cases h
  | m + 1, ns, acc, x, l, r, hb, hB, hnd, h => by
    rw [members_s] at h
    obtain ⟨s, r0, h0, h⟩ := bind_ok h
    obtain ⟨v, r1, h1, h⟩ := bind_ok h
    obtain ⟨b, r2, h2, h⟩ := bind_ok h
    obtain ⟨m1, m2, m3, m4⟩ := member_good hb h0
    have hq := qv_len_ok m1.1
    have hge := escs_ge s
    have hb0 := m3.byt hb
    have hl0 : r0.length ≤ l.length := by obtain ⟨dd, hdd⟩ := m3; rw [hdd]; simp
    obtain ⟨g1, g2, g3⟩ := hp r0 v r1 hb0 (by omega) h1
    have e2 := next_len h2
    have s2 := ((next_suf h2).trans g2).trans m3
    have hb2 := s2.byt hb
    have hl1 : r1.length ≤ r0.length := by obtain ⟨dd, hdd⟩ := g2; rw [hdd]; simp
    have hnd' : (ns ++ [s]).Nodup := by
      rw [List.nodup_append]
      exact ⟨hnd, by simp, fun a ha b hb e => by
        obtain rfl := List.mem_singleton.1 hb
        exact m2 (e ▸ ha)⟩
    have hsB : uOk s = true ∧ Byt s ∧ s.length ≤ B := ⟨m1.1, m1.2, by omega⟩
    split at h
    · obtain ⟨nm, y, rfl, hy, hnm, hlen, hnn, hs, hl, hyl⟩ := members_good hp hb2 (by omega) hnd' h
      refine ⟨s :: nm, v :: y, by simp, fun z hz => ?_, fun z hz => ?_, by simp; omega, by simpa using hnn, hs.trans s2, ?_, by simp; omega⟩
      · rcases List.mem_cons.1 hz with rfl | hz
        · exact g1
        · exact hy z hz
      · rcases List.mem_cons.1 hz with rfl | hz
        · exact hsB
        · exact hnm z hz
      · rw [prL]
        simp only [Bool.false_eq_true, if_false, if_true, List.length_append, List.length_cons, List.length_nil, List.tail_cons, List.headD_cons]
        omega
    · injection h with h3 h4
      subst h3 h4
      refine ⟨[s], [v], rfl, fun z hz => ?_, fun z hz => ?_, rfl, hnd', s2, ?_, by simp; omega⟩
      · obtain rfl := List.mem_singleton.1 hz
        exact g1
      · obtain rfl := List.mem_singleton.1 hz
        exact hsB
      · rw [prL, prL]
        simp only [Bool.false_eq_true, if_false, if_true, List.length_append, List.length_cons, List.length_nil, List.headD_cons]
        omega
theorem gdL_le {D : Nat} : ∀ {l : List JV}, (∀ x ∈ l, gd x ≤ D) → gdL l ≤ D
  | [], _ => by rw [gdL]; omega
  | x :: r, h => by
    rw [gdL]
    have := h x (by simp)
    have := gdL_le (l := r) (D := D) (fun y hy => h y (by simp [hy]))
    omega
theorem flat_good {B d : Nat} {k : Int} {b : Bool} {t : List Int} {i : Int} {w : Bool} (hk : k ≠ 5 ∧ k ≠ 6) (hw : well (.mk k b t i w [] []) = true) (ht : Byt t ∧ t.length ≤ B) : Good B d (.mk k b t i w [] []) where
  well := hw
  once := flat_tw k b t i w
  deep := by rw [gd, if_neg (by omega)]; omega
  byt := by rw [Bt, BtL]; simp [ht.1, ht.2]
theorem list_good {B d : Nat} {l : List JV} (h : ∀ z ∈ l, Good B d z) (hl : l.length ≤ B) : Good B (d + 1) (vList l) where
  well := by
    unfold vList
    rw [well_mk, if_neg (by omega), if_neg (by omega), if_neg (by omega), if_neg (by omega), if_neg (by omega), if_pos rfl, List.all_eq_true.2 fun z hz => (h z hz).well]
    rfl
  once := by
    unfold vList
    rw [tw, twL_any]
    have : l.any tw = false := by
      rw [List.any_eq_false]
      intro z hz
      simp [(h z hz).once]
    rw [this]; rfl
  deep := by
    unfold vList
    rw [gd, if_pos (by omega)]
    have := gdL_le (D := d) (fun z hz => (h z hz).deep)
    omega
  byt := by
    unfold vList
    rw [Bt]
    exact ⟨⟨byt_nil, by simp⟩, by simp, ⟨hl, by simp⟩, BtL_iff.2 fun z hz => (h z hz).byt⟩
theorem obj_good {B d : Nat} {l : List JV} {ns : List (List Int)} (h : ∀ z ∈ l, Good B d z) (hl : l.length ≤ B) (hn : ∀ s ∈ ns, uOk s = true ∧ Byt s ∧ s.length ≤ B) (hnl : ns.length = l.length) (hnd : ns.Nodup) : Good B (d + 1) (vObj ns l) where
  well := by
    unfold vObj
    rw [well_mk, if_neg (by omega), if_neg (by omega), if_neg (by omega), if_neg (by omega), if_pos rfl, List.all_eq_true.2 fun z hz => (h z hz).well, List.all_eq_true.2 fun s hs => (hn s hs).1, decide_eq_true hnl]
    rfl
  once := by
    unfold vObj
    rw [tw, twL_any, decide_eq_true hnd]
    have : l.any tw = false := by
      rw [List.any_eq_false]
      intro z hz
      simp [(h z hz).once]
    rw [this]; rfl
  deep := by
    unfold vObj
    rw [gd, if_pos (by omega)]
    have := gdL_le (D := d) (fun z hz => (h z hz).deep)
    omega
  byt := by
    unfold vObj
    rw [Bt]
    exact ⟨⟨byt_nil, by simp⟩, fun s hs => (hn s hs).2, ⟨hl, by omega⟩, BtL_iff.2 fun z hz => (h z hz).byt⟩
theorem value_good0 {B K : Nat} (d : Nat) (ih : ∀ d', d = d' + 1 → GoodV B (Js.value K d') d') : GoodV B (Js.value K d) d := by
  intro l v r hb hB h
  rw [value_at] at h
  have e0 := blanks_len l
  have s0 := blanks_suf l
  have hb0 := s0.byt hb
  split at h
  · obtain ⟨_, h', rfl⟩ := map_ok h
    have e := word_len h'
    simp only [List.length_cons, List.length_nil] at e
    exact ⟨flat_good (by omega) (by rfl) ⟨byt_nil, by simp⟩, (word_suf h').trans s0, by show nullT.length + _ ≤ _; simp only [nullT, List.length_cons, List.length_nil]; omega⟩
  split at h
  · obtain ⟨_, h', rfl⟩ := map_ok h
    have e := word_len h'
    simp only [List.length_cons, List.length_nil] at e
    exact ⟨flat_good (by omega) (by rfl) ⟨byt_nil, by simp⟩, (word_suf h').trans s0, by show trueT.length + _ ≤ _; simp only [trueT, List.length_cons, List.length_nil]; omega⟩
  split at h
  · obtain ⟨_, h', rfl⟩ := map_ok h
    have e := word_len h'
    simp only [List.length_cons, List.length_nil] at e
    exact ⟨flat_good (by omega) (by rfl) ⟨byt_nil, by simp⟩, (word_suf h').trans s0, by show falseT.length + _ ≤ _; simp only [falseT, List.length_cons, List.length_nil]; omega⟩
  split at h
  · rename_i h34
    obtain ⟨c, t, hlb⟩ : ∃ c t, blanks l = c :: t := List.exists_cons_of_ne_nil (by intro e; rw [e] at h34; simp [hd] at h34)
    rw [hlb] at h e0 s0 hb0
    rw [List.tail_cons] at h
    obtain ⟨s, h', rfl⟩ := map_ok h
    obtain ⟨t1, t2, t3⟩ := text_good (fun x hx => hb0 x (by simp [hx])) h'
    have hge := escs_ge s
    simp only [List.length_cons] at e0
    refine ⟨flat_good (by omega) ?_ ⟨t1.2, by omega⟩, (t2.cons).trans s0, ?_⟩
    · show well (.mk 4 false s 0 false [] []) = true
      rw [well_mk, if_neg (by omega), if_neg (by omega), if_pos rfl, t1.1]
      rfl
    · show (pr (.mk 4 false s 0 false [] [])).length + _ ≤ _
      rw [pr, if_neg (by omega), if_neg (by omega), if_neg (by omega), if_pos rfl, qv_len_ok t1.1]
      omega
  split at h
  · rename_i h91
    obtain ⟨c, t, hlb⟩ : ∃ c t, blanks l = c :: t := List.exists_cons_of_ne_nil (by intro e; rw [e] at h91; simp [hd] at h91)
    rw [hlb] at h e0 s0 hb0
    rw [List.tail_cons] at h
    simp only [List.length_cons] at e0
    have hbt : Byt t := fun x hx => hb0 x (by simp [hx])
    cases d with
    | zero => cases h
    | succ d =>
      dsimp only at h
      unfold listOf at h
      have e1 := blanks_len t
      have s1 := blanks_suf t
      have hb1 := s1.byt hbt
      split at h
      · rename_i h93
        injection h with h1 h2
        subst h1 h2
        obtain ⟨c2, t2, hlb2⟩ : ∃ c t', blanks t = c :: t' := List.exists_cons_of_ne_nil (by intro e; rw [e] at h93; simp [hd] at h93)
        rw [hlb2] at e1 s1 ⊢
        simp only [List.length_cons, List.tail_cons] at e1 ⊢
        refine ⟨list_good (by simp) (by simp), ?_, ?_⟩
        · exact ((Suf.cons (Suf.rfl' t2)).trans s1 |>.cons).trans s0
        · unfold vList
          rw [pr, prL]
          simp
          omega
      · obtain ⟨x, hx, rfl⟩ := map_ok h
        obtain ⟨y, hxy, hy, hs, hl, hyl⟩ := elems_good (ih d rfl) hb1 (by omega) hx
        rw [List.nil_append] at hxy
        subst hxy
        refine ⟨list_good hy (by omega), ((hs.trans s1).cons).trans s0, ?_⟩
        unfold vList
        have hf := prL_first false x []
        rw [pr, if_neg (by omega), if_neg (by omega), if_neg (by omega), if_neg (by omega)]
        simp only [List.length_cons, List.length_append, List.length_nil, show decide ((5 : Int) = 6) = false from rfl]
        omega
  split at h
  · rename_i h123
    obtain ⟨c, t, hlb⟩ : ∃ c t, blanks l = c :: t := List.exists_cons_of_ne_nil (by intro e; rw [e] at h123; simp [hd] at h123)
    rw [hlb] at h e0 s0 hb0
    rw [List.tail_cons] at h
    simp only [List.length_cons] at e0
    have hbt : Byt t := fun x hx => hb0 x (by simp [hx])
    cases d with
    | zero => cases h
    | succ d =>
      dsimp only at h
      unfold objOf at h
      have e1 := blanks_len t
      have s1 := blanks_suf t
      have hb1 := s1.byt hbt
      split at h
      · rename_i h93
        injection h with h1 h2
        subst h1 h2
        obtain ⟨c2, t2, hlb2⟩ : ∃ c t', blanks t = c :: t' := List.exists_cons_of_ne_nil (by intro e; rw [e] at h93; simp [hd] at h93)
        rw [hlb2] at e1 s1 ⊢
        simp only [List.length_cons, List.tail_cons] at e1 ⊢
        refine ⟨obj_good (by simp) (by simp) (by simp) rfl (by simp), ?_, ?_⟩
        · exact ((Suf.cons (Suf.rfl' t2)).trans s1 |>.cons).trans s0
        · unfold vObj
          rw [pr, prL]
          simp
          omega
      · obtain ⟨x, hx, rfl⟩ := map_ok h
        obtain ⟨nm, y, hxy, hy, hnm, hlen, hnd, hs, hl, hyl⟩ := members_good (ih d rfl) hb1 (by omega) (by simp) hx
        simp only [List.nil_append] at hnd hxy
        subst hxy
        dsimp only
        refine ⟨obj_good hy (by omega) hnm hlen hnd, ((hs.trans s1).cons).trans s0, ?_⟩
        unfold vObj
        have hf := prL_first true y nm
        rw [pr, if_neg (by omega), if_neg (by omega), if_neg (by omega), if_neg (by omega), show decide ((6 : Int) = 6) = true from rfl]
        simp only [List.length_cons, List.length_append, List.length_nil]
        omega
  · obtain ⟨t, i, w, h1, rfl, h3⟩ := number_good h
    have hlt := congrArg List.length h1
    simp only [List.length_append] at hlt
    have hbt : Byt t := fun x hx => hb0 x (by rw [h1]; simp [hx])
    refine ⟨flat_good (by omega) ?_ ⟨hbt, by omega⟩, Suf.trans ⟨t, h1⟩ s0, ?_⟩
    · rw [well_mk, if_neg (by omega), if_neg (by omega), if_neg (by omega), if_pos rfl, h3]
      rfl
    · rw [pr, if_neg (by omega), if_neg (by omega), if_pos rfl]
      omega
theorem value_good {B K : Nat} : ∀ (d : Nat), GoodV B (Js.value K d) d := by
  intro d
  induction d with
  | zero =>
    intro l v r hb hB h
    exact value_good0 0 (fun _ e => by omega) l v r hb hB h
  | succ d ih =>
    intro l v r hb hB h
    exact value_good0 (d + 1) (fun d' e => by obtain rfl : d = d' := by omega
                                              exact ih) l v r hb hB h
end Go.Sx.YtmbakmdgmccgiaaDoor
/-! W06AP: the law JsonBack. -/
namespace Go.Sx.YtmbakmdgmccgiaaDoor
open Go Go.Sx Go.Sx.Js
set_option autoImplicit false
set_option linter.unusedVariables false
set_option linter.unusedSimpArgs false
/-! what is left is no longer. -/
def Le {α : Type} (n : Nat) : PR α → Prop
  | .ok _ l => l.length ≤ n
  | .bad _ l => l.length ≤ n
theorem Le.bind {α β : Type} {n : Nat} {r : PR α} {f : α → List Int → PR β} (h : Le n r) (hf : ∀ x l, l.length ≤ n → Le n (f x l)) : Le n (r.bind f) := by
  cases r with
  | ok x l => exact hf x l h
  | bad e l => exact h
theorem Le.map {α β : Type} {n : Nat} {r : PR α} {f : α → β} (h : Le n r) : Le n (r.map f) := by
  cases r with
  | ok x l => exact h
  | bad e l => exact h
theorem Le.ite {α : Type} {n : Nat} {c : Prop} [Decidable c] {a b : PR α} (ha : Le n a) (hb : Le n b) : Le n (if c then a else b) := by split <;> assumption
theorem Le.mono {α : Type} {n m : Nat} {r : PR α} (h : Le n r) (hm : n ≤ m) : Le m r := by
  cases r with
  | ok x l => exact Nat.le_trans h hm
  | bad e l => exact Nat.le_trans h hm
theorem le_bad {α : Type} {n : Nat} {e : Int} {l : List Int} (h : l.length ≤ n) : Le n (PR.bad (α := α) e l) := h
theorem le_ok {α : Type} {n : Nat} {x : α} {l : List Int} (h : l.length ≤ n) : Le n (PR.ok x l) := h
theorem le_word {n : Nat} : ∀ (w l : List Int), l.length ≤ n → Le n (word w l)
  | [], l, h => h
  | c :: w, [], h => by exact le_bad (by simp)
  | c :: w, d :: l, h => Le.ite (le_word w l (by simp at h; omega)) h
theorem le_step {n k : Nat} {l : List Int} (h : l.length ≤ n) : Le n (Js.step k l) := Le.ite h (le_ok (by simp; omega))
theorem le_digits1 {n : Nat} : ∀ (k : Nat) (any : Bool) (l : List Int), l.length ≤ n → Le n (digits1 k any l)
  | k, any, [], h => Le.ite h h
  | k, any, c :: r, h => Le.ite (Le.ite h (le_digits1 _ _ _ (by simp at h; omega))) (Le.ite h h)
theorem le_numText {n : Nat} {l : List Int} (h : l.length ≤ n) : Le n (numText l) :=
  Le.bind (Le.ite (le_step h) h) fun _ _ h => Le.bind (Le.ite (le_step h) (le_digits1 _ _ _ h)) fun _ _ h => Le.bind (Le.ite (Le.bind (le_step h) fun _ _ h => Le.map (le_digits1 _ _ _ h)) h) fun _ _ h => Le.ite (Le.bind (le_step h) fun _ _ h => Le.bind (Le.ite (le_step h) h) fun _ _ h => Le.map (le_digits1 _ _ _ h)) h
theorem le_number {n : Nat} {l : List Int} (h : l.length ≤ n) : Le n (Js.number l) := Le.bind (le_numText h) fun _ _ h => h
theorem le_conts {n : Nat} : ∀ (m : Nat) (lo hi : Int) (l : List Int), l.length ≤ n → Le n (conts m lo hi l)
  | 0, _, _, _, h => h
  | m + 1, _, _, [], h => le_bad (by simp)
  | m + 1, _, _, c :: r, h => Le.ite h (Le.map (le_conts _ _ _ _ (by simp at h; omega)))
theorem le_rune {n : Nat} : ∀ (l : List Int), l.length ≤ n → Le n (Js.rune l)
  | [], h => le_bad (by simp)
  | c :: r, h => Le.ite h (Le.map (le_conts _ _ _ _ (by simp at h; omega)))
theorem le_hex {n : Nat} : ∀ (l : List Int), l.length ≤ n → Le n (Js.hex l)
  | [], h => le_bad (by simp)
  | c :: r, h => Le.ite h (le_ok (by simp at h; omega))
theorem le_pairHex {n : Nat} (ok : Int → Bool) (l : List Int) (h : l.length ≤ n) : Le n (pairHex ok l) := Le.bind (le_hex l h) fun _ _ h' => Le.ite h' h
theorem le_pair {n : Nat} (x : Int) (l : List Int) (h : l.length ≤ n) : Le n (Js.pair x l) :=
  Le.bind (le_word _ _ h) fun _ _ h => Le.bind (le_pairHex _ _ h) fun _ _ h => Le.bind (le_pairHex _ _ h) fun _ _ h => Le.bind (le_hex _ h) fun _ _ h => Le.bind (le_hex _ h) fun _ _ h => h
theorem le_unicode {n : Nat} (l : List Int) (h : l.length ≤ n) : Le n (Js.unicode l) :=
  Le.bind (le_hex _ h) fun _ _ h => Le.bind (le_hex _ h) fun _ _ h => Le.bind (le_hex _ h) fun _ _ h => Le.bind (le_hex _ h) fun _ _ h' => Le.ite h (Le.ite (le_pair _ _ h') h')
theorem le_escape {n : Nat} : ∀ (l : List Int), l.length ≤ n → Le n (Js.escape l)
  | [], h => le_bad (by simp)
  | c :: r, h => Le.ite (le_unicode _ (by simp at h; omega)) (Le.ite h (le_ok (by simp at h; omega)))
theorem le_text {n : Nat} : ∀ (m : Nat) (l : List Int), l.length ≤ n → Le n (Js.text m l)
  | 0, _, h => h
  | m + 1, [], h => le_bad (by simp)
  | m + 1, c :: r, h =>
    have h' : r.length ≤ n := by simp at h; omega
    Le.ite h' (Le.ite (Le.bind (le_escape _ h') fun _ _ h => Le.map (le_text _ _ h)) (Le.ite h (Le.ite (Le.map (le_text _ _ h')) (Le.bind (le_rune _ h) fun _ _ h => Le.map (le_text _ _ h)))))
theorem le_next {n : Nat} (e : Int) (l : List Int) (h : l.length ≤ n) : Le n (Js.next e l) := by
  have := blanks_len l
  unfold Js.next
  cases hb : blanks l with
  | nil => exact le_bad (by simp)
  | cons c r =>
    rw [hb] at this
    simp only [List.length_cons] at this
    exact Le.ite (le_ok (by omega)) (Le.ite (le_ok (by omega)) (le_bad (by simp; omega)))
theorem le_elems {n : Nat} {pv : List Int → PR JV} (hp : ∀ l, l.length ≤ n → Le n (pv l)) : ∀ (m : Nat) (acc : List JV) (l : List Int), l.length ≤ n → Le n (Js.elems pv m acc l)
  | 0, _, _, h => h
  | m + 1, _, _, h => Le.bind (hp _ h) fun _ _ h => Le.bind (le_next _ _ h) fun _ _ h => Le.ite (le_elems hp _ _ _ h) h
theorem le_member {n : Nat} (k : Nat) (ns : List (List Int)) (l : List Int) (h : l.length ≤ n) : Le n (member k ns l) := by
  have := blanks_len l
  unfold member
  cases hb : blanks l with
  | nil => exact le_bad (by simp)
  | cons c r =>
    rw [hb] at this
    have h1 : (c :: r).length ≤ n := by omega
    have h2 : r.length ≤ n := by simp at h1; omega
    exact Le.ite (Le.bind (le_text _ _ h2) fun _ l h => Le.ite h1 (Le.bind (le_word _ _ (Nat.le_trans (blanks_len l) h)) fun _ _ h => h)) h1
theorem le_members {n : Nat} {pv : List Int → PR JV} (hp : ∀ l, l.length ≤ n → Le n (pv l)) (k : Nat) : ∀ (m : Nat) (ns : List (List Int)) (acc : List JV) (l : List Int), l.length ≤ n → Le n (Js.members pv k m ns acc l)
  | 0, _, _, _, h => h
  | m + 1, _, _, _, h => Le.bind (le_member _ _ _ h) fun _ _ h => Le.bind (hp _ h) fun _ _ h => Le.bind (le_next _ _ h) fun _ _ h => Le.ite (le_members hp _ _ _ _ _ h) h
theorem le_value {n : Nat} (k : Nat) : ∀ (d : Nat) (l : List Int), l.length ≤ n → Le n (Js.value k d l) := by
  intro d
  induction d with
  | zero =>
    intro l h
    have hb : (blanks l).length ≤ n := Nat.le_trans (blanks_len l) h
    have ht : (blanks l).tail.length ≤ n := by simp; omega
    rw [value_0]
    exact Le.ite (Le.map (le_word _ _ hb)) (Le.ite (Le.map (le_word _ _ hb)) (Le.ite (Le.map (le_word _ _ hb)) (Le.ite (Le.map (le_text _ _ ht)) (Le.ite hb (Le.ite hb (le_number hb))))))
  | succ d ih =>
    intro l h
    have hb : (blanks l).length ≤ n := Nat.le_trans (blanks_len l) h
    have ht : (blanks l).tail.length ≤ n := by simp; omega
    have hbt : (blanks (blanks l).tail).length ≤ n := Nat.le_trans (blanks_len _) ht
    have htt : (blanks (blanks l).tail).tail.length ≤ n := by simp; omega
    rw [value_s]
    refine Le.ite (Le.map (le_word _ _ hb)) (Le.ite (Le.map (le_word _ _ hb)) (Le.ite (Le.map (le_word _ _ hb)) (Le.ite (Le.map (le_text _ _ ht)) (Le.ite ?_ (Le.ite ?_ (le_number hb))))))
    · exact Le.ite htt (Le.map (le_elems ih _ _ _ hbt))
    · exact Le.ite htt (Le.map (le_members ih _ _ _ _ _ hbt))
theorem value_bad_len {s r : List Int} {e : Int} (h : Js.value (s.length + 1) 32 s = .bad e r) : r.length ≤ s.length := by
  have := le_value (n := s.length) (s.length + 1) 32 s (Nat.le_refl _)
  rw [h] at this
  exact this
/-- what a text's reading comes to. -/
theorem parse_cases {s : List Int} (hs : Byt s) (hl0 : s.length ≤ 140737488355328) : (∃ n e : Int, Js.parse s = (JV.zero, n, e) ∧ e ≠ 0 ∧ 0 ≤ n ∧ n ≤ (s.length : Int)) ∨ (∃ v, Js.parse s = (v, (s.length : Int), 0) ∧ s.length ≤ 1048576 ∧ Good 3145728 32 v ∧ (pr v).length ≤ 3 * s.length) := by
  unfold Js.parse
  by_cases h : 1048576 < s.length
  · rw [if_pos h]
    exact .inl ⟨0, 2, rfl, by omega, by omega, by omega⟩
  rw [if_neg h]
  cases hv : Js.value (s.length + 1) 32 s with
  | bad e r =>
    have := value_bad_len hv
    exact .inl ⟨(s.length : Int) - r.length, e, rfl, parse_nz hv, by omega, by omega⟩
  | ok v r =>
    obtain ⟨g, _, hp⟩ := value_good (B := 3145728) 32 s v r hs (by omega) hv
    have hvl := value_len hv
    have hbl := blanks_len r
    simp only
    cases hb : blanks r with
    | nil => exact .inr ⟨v, rfl, by omega, g, by omega⟩
    | cons c r' =>
      rw [hb] at hbl
      simp only [List.length_cons] at hbl
      exact .inl ⟨(s.length : Int) - (r'.length + 1), 3, rfl, by omega, by omega, by omega⟩
theorem Good.valid {B : Nat} {v : JV} (g : Good B 32 v) : valid v = 0 := by
  have := g.deep
  unfold YtmbakmdgmccgiaaDoor.valid
  rw [if_neg (by omega), if_neg (by rw [g.well]; simp), if_neg (by rw [g.once]; simp)]
theorem jsonBack_true (s : List Int) (hs : Byt s) (hl : s.length ≤ 140737488355328) : jsonBack 9223372036854776000 s = some true := by
  have hlim : lim = 9223372036854775807 := rfl
  have hsm := parse_sm s
  refine Gives.eq ?_
  unfold jsonBack
  refine Gives.bind (parse_go hs (by omega)) fun r hr => ?_
  obtain ⟨q1, q2, q3, q4, q5, q6, q7, q8, q9⟩ := r
  unfold JP.val at hr
  rcases parse_cases hs hl with ⟨n, e, hp, he, hn0, hn1⟩ | ⟨v, hp, hsl, g, hpl⟩
  · rw [hp] at hr
    simp only [Prod.mk.injEq] at hr
    obtain ⟨hq1, hq2, hq3⟩ := hr
    injection hq1 with a1 a2 a3 a4 a5 a6 a7
    subst a1 a2 a3 a4 a5 a6 a7 hq2 hq3
    refine Gives.mpos he (Gives.dpos hn0 (Gives.dpos hn1 ?_))
    have hz := zero_sm
    refine Gives.bind (jSame_go (n := 9223372036854776000) (by omega) 33 JV.zero JV.zero hz.1 hz.2 _ (by omega)) fun r3 h3 => ?_
    exact Gives.pos (h3.2 rfl) (Gives.bind_eq works_true (Gives.of_some rfl))
  · rw [hp] at hr hsm
    simp only [Prod.mk.injEq] at hr
    obtain ⟨hq1, hq2, hq3⟩ := hr
    subst hq1 hq2 hq3
    have hd : dep (JV.mk q1 q2 q3 q4 q5 q6 q7) ≤ 200 := by
      have := hsm.1
      simp only at this
      omega
    have hval := g.valid
    refine Gives.mneg rfl ?_
    refine Gives.bind (jValid_go (n := 9223372036854776000) (B := 3145728) (by omega) (by omega) hd g.byt) fun r hr => ?_
    subst hr
    rw [hval]
    refine Gives.mneg rfl (Gives.nneg rfl ?_)
    refine Gives.bind (jPrint_go (n := 9223372036854776000) (B := 3145728) (by omega) (by omega) hd g.byt (fun _ => by omega)) fun r hr => ?_
    subst hr
    unfold printed
    rw [if_pos hval]
    by_cases hx : 1048576 < (put (JV.mk q1 q2 q3 q4 q5 q6 q7) []).length
    · rw [if_pos hx]
      have hpu := put_len (JV.mk q1 q2 q3 q4 q5 q6 q7) []
      simp only [List.length_nil] at hpu
      refine Gives.mpos (by simp) (Gives.bind_eq (num_v _) (Gives.epos rfl (Gives.dpos (by omega) (Gives.bind_eq works_true (Gives.of_some rfl)))))
    · rw [if_neg hx]
      have hsmall := pr_small hx
      refine Gives.mneg rfl ?_
      refine Gives.bind (parse_go (s := pr (JV.mk q1 q2 q3 q4 q5 q6 q7)) (pr_byt _ g.byt) (by omega)) fun q hq => ?_
      rw [parse_pr hval g.byt hsmall] at hq
      obtain ⟨p1, p2, p3, p4, p5, p6, p7, p8, p9⟩ := q
      unfold JP.val at hq
      simp only [Prod.mk.injEq] at hq
      obtain ⟨hq1, hq2, hq3⟩ := hq
      injection hq1 with a1 a2 a3 a4 a5 a6 a7
      subst a1 a2 a3 a4 a5 a6 a7 hq2 hq3
      refine Gives.bind (jPrint_go (n := 9223372036854776000) (B := 3145728) (by omega) (by omega) hd g.byt (fun _ => by omega)) fun r hr => ?_
      subst hr
      unfold printed
      rw [if_pos hval, if_neg hx]
      refine Gives.epos rfl ?_
      refine Gives.bind (jSame_go (n := 9223372036854776000) (by omega) 33 (JV.mk p1 p2 p3 p4 p5 p6 p7) (JV.mk p1 p2 p3 p4 p5 p6 p7) hsm.1 hsm.2 9223372036854776000 (by omega)) fun r3 h3 => ?_
      exact Gives.pos (h3.2 rfl) (Gives.epos rfl (Gives.pos (by simp) (Gives.bind_eq works_true (Gives.of_some rfl))))
end Go.Sx.YtmbakmdgmccgiaaDoor
