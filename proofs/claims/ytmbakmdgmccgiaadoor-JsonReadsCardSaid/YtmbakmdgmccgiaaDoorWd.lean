/- Part of a proof by a small interpreter on plain values; no condition. -/
import Derived.Test.YtmbakmdgmccgiaaDoorWc
/-! W06A: the document's reader: bytes, words, blanks, digits. -/
namespace Go.Sx.YtmbakmdgmccgiaaDoor
open Go Go.Sx Go.Sx.Js
set_option autoImplicit false
set_option linter.unusedVariables false
set_option linter.unusedSimpArgs false
abbrev DS := (List Int) × Int × Int
/-- the document's reader stands ahead of 'l'; 'e': its error. -/
def Da (s : List Int) (e : Int) (l : List Int) (y : DS) : Prop := ∃ i : Nat, y = (s, (i : Int), e) ∧ At s i l
def Dft {α : Type} (s : List Int) : PR α → DS → Prop
  | .ok _ l => Da s 0 l
  | .bad e l => Da s e l
/-- the next byte; 0: there is none. -/
def nx : List Int → Int
  | [] => 0
  | c :: _ => c
theorem nx_hd {l : List Int} {c : Int} (h : 0 < c) : nx l = c ↔ hd l = c := by
  cases l with
  | nil => simp [nx, hd]; omega
  | cons d r => rfl
section
variable {n : Nat} {s : List Int}
theorem rnext_ok {i : Nat} {l : List Int} {e : Int} (h : At s i l) : rReadingnext n (s, (i : Int), e) = some (nx l) := by
  have hlen := h.len
  unfold rReadingnext
  simp only
  cases l with
  | nil =>
    simp only [List.length_nil] at hlen
    rw [if_neg (by simp; omega)]
    rfl
  | cons c r =>
    simp only [List.length_cons] at hlen
    rw [if_pos (by simp; omega), idx_at h]
    rfl
theorem rfail_ok {a t e : Int} : rReadingfail n (s, a, 0, t, e) = some (s, t, e) := rfl
theorem rblanks_go (hl : s.length ≤ 4611686018427387904) {e : Int} {y : DS} {l : List Int} (h : Da s e l y) (hn : l.length < n) : Gives (rReadingblanks n y) (Da s e (blanks l)) := by
  obtain ⟨i, rfl, h⟩ := h
  unfold rReadingblanks
  simp only
  refine Gives.loop (fun z => ∃ (i : Nat) (l' : List Int), z = (s, (i : Int), e, [], 0, 0) ∧ At s i l' ∧ blanks l' = blanks l) (fun z => s.length - z.2.1.toNat) (fun rec z hz hrec => ?_) n _ ⟨i, l, rfl, h, rfl⟩ (by have := h.len; simp; omega)
  obtain ⟨i, l', rfl, h, hb⟩ := hz
  dsimp only at hrec ⊢
  have go : (hd l' = 32 ∨ hd l' = 9 ∨ hd l' = 10 ∨ hd l' = 13) → Gives (rec (s, ((IntKind.wrap .i64 ((i : Int) + (1 : Int))), (e, (([] : List Int), ((0 : Int), (0 : Int))))))) (Da s e (blanks l)) := by
    intro hc
    obtain ⟨c, r, rfl, hbl⟩ := hd_blank.1 hc
    have hlen := h.len
    simp only [List.length_cons] at hlen
    rw [wrap64 (by omega) (by omega)]
    refine hrec _ ⟨i + 1, r, rfl, h.tail, ?_⟩ ?_
    · rw [← hb]; simp [blanks, hbl]
    · simp; omega
  refine Gives.bind_eq (rnext_ok h) (Gives.eite (fun hc => go (.inl ((nx_hd (by omega)).1 hc))) fun h1 => ?_)
  refine Gives.bind_eq (rnext_ok h) (Gives.eite (fun hc => go (.inr (.inl ((nx_hd (by omega)).1 hc)))) fun h2 => ?_)
  refine Gives.bind_eq (rnext_ok h) (Gives.eite (fun hc => go (.inr (.inr (.inl ((nx_hd (by omega)).1 hc))))) fun h3 => ?_)
  refine Gives.bind_eq (rnext_ok h) (Gives.eite (fun hc => go (.inr (.inr (.inr ((nx_hd (by omega)).1 hc))))) fun h4 => Gives.of_some ?_)
  have hb' : blanks l' = l' := blanks_not (by
    rintro (h | h | h | h)
    · exact h1 ((nx_hd (by omega)).2 h)
    · exact h2 ((nx_hd (by omega)).2 h)
    · exact h3 ((nx_hd (by omega)).2 h)
    · exact h4 ((nx_hd (by omega)).2 h))
  exact ⟨i, rfl, by rw [← hb, hb']; exact h⟩
theorem rtail_in {i : Nat} {c : Int} {r : List Int} (hl : s.length ≤ 4611686018427387904) (h : At s i (c :: r)) : IntKind.wrap .i64 ((i : Int) + 1) = ((i + 1 : Nat) : Int) := by
  have hlen := h.len
  simp only [List.length_cons] at hlen
  rw [wrap64 (by omega) (by omega)]
  omega
theorem rword_go (hl : s.length ≤ 4611686018427387904) {w : List Int} (hw : ∀ c ∈ w, 0 < c) {y : DS} {l : List Int} (h : Da s 0 l y) (hn : w.length < n) (hw2 : w.length ≤ 1000) : Gives (rReadingword n (y.1, y.2.1, y.2.2, w)) (Dft s (word w l)) := by
  obtain ⟨i, rfl, h⟩ := h
  unfold rReadingword
  simp only
  refine Gives.loop (fun z => ∃ (k i : Nat) (l' : List Int), z = (w, (k : Int), s, (i : Int), 0, [], 0, 0) ∧ k ≤ w.length ∧ At s i l' ∧ word (w.drop k) l' = word w l) (fun z => w.length - z.2.1.toNat) (fun rec z hz hrec => ?_) n _ ⟨0, i, l, rfl, by omega, h, rfl⟩ (by simp; omega)
  obtain ⟨k, i, l', rfl, hk, h, hb⟩ := hz
  dsimp only at hrec ⊢
  refine Gives.dite (fun hlt => ?_) fun hge => ?_
  · have hkl : k < w.length := by omega
    have hdr : w.drop k = w[k] :: w.drop (k + 1) := List.drop_eq_getElem_cons hkl
    have hwk := hw _ (List.getElem_mem hkl)
    refine Gives.bind_eq (rnext_ok h) ?_
    refine Gives.bind_eq (r := w[k]) (by unfold idx; rw [if_pos (by omega)]; simp [hkl]) ?_
    refine Gives.nite (fun hne => ?_) fun he => ?_
    · refine Gives.bind_eq rfail_ok (Gives.of_some ?_)
      have : word w l = .bad 3 l' := by
        rw [← hb, hdr]
        cases l' with
        | nil => rfl
        | cons d l' => unfold word; rw [if_neg (show ¬ d = w[k] from hne)]
      rw [this]
      exact ⟨i, rfl, h⟩
    · cases l' with
      | nil => simp only [nx] at he; omega
      | cons d l' =>
        have he : d = w[k] := he
        rw [rtail_in hl h, wrap64 (by omega) (by omega)]
        refine hrec _ ⟨k + 1, i + 1, l', ?_, by omega, h.tail, ?_⟩ ?_
        · rfl
        · rw [← hb, hdr]; conv => rhs; unfold word
          rw [if_pos he]
        · dsimp only; omega
  · have : k = w.length := by omega
    subst this
    refine Gives.of_some ?_
    rw [← hb, List.drop_length]
    exact ⟨i, rfl, h⟩
theorem rDigit_v {c : Int} : rDigit n c = some (isDigit c) := by
  unfold rDigit isDigit
  by_cases h : c ≥ 48
  · rw [if_pos (decide_eq_true h), decide_eq_true (show 48 ≤ c from h)]; rfl
  · rw [if_neg (by simpa using h), decide_eq_false (show ¬ 48 ≤ c from h)]; rfl
theorem rhex_tab : (List.range 256).all (fun k => rHex n (k : Int) == some (hexOf (k : Int))) = true := by kernel_rfl
theorem rHex_v {c : Int} (h : 0 ≤ c ∧ c ≤ 255) : rHex n c = some (hexOf c) := by
  obtain ⟨k, rfl⟩ := Int.eq_ofNat_of_zero_le h.1
  have := List.all_eq_true.1 (rhex_tab (n := n)) k (List.mem_range.2 (by omega))
  simpa using this
theorem rtail_tab : (List.range 256).all (fun k => rTail n (k : Int) == some ((bounds (k : Int)).2.1, (bounds (k : Int)).2.2, ((bounds (k : Int)).1 : Int))) = true := by kernel_rfl
theorem rTail_v {c : Int} (h : 0 ≤ c ∧ c ≤ 255) : rTail n c = some ((bounds c).2.1, (bounds c).2.2, ((bounds c).1 : Int)) := by
  obtain ⟨k, rfl⟩ := Int.eq_ofNat_of_zero_le h.1
  have := List.all_eq_true.1 (rtail_tab (n := n)) k (List.mem_range.2 (by omega))
  simpa using this
theorem nx_byt {l : List Int} (h : Byt l) : 0 ≤ nx l ∧ nx l ≤ 255 := by
  cases l with
  | nil => simp [nx]
  | cons c r => exact h c (by simp)
theorem nx_hex {l : List Int} : hexOf (nx l) < 0 ↔ ∃ e, Js.hex l = .bad e l := by
  cases l with
  | nil => exact ⟨fun _ => ⟨3, rfl⟩, fun _ => by decide⟩
  | cons c r =>
    rw [hex_cons]
    show hexOf c < 0 ↔ _
    constructor
    · intro h; exact ⟨3, by rw [if_pos h]⟩
    · rintro ⟨e, h⟩
      split at h
      · assumption
      · cases h
/-- four digits, each as asked. -/
def fourR (ok : Nat → Int → Bool) (l : List Int) : Nat → PR Int
  | 0 => .ok 0 l
  | k + 1 => (fourR ok l k).bind fun a r => (pairHex (ok k) r).map fun d => a * 16 + d
def DftV {α : Type} (s : List Int) : PR α → (DS × α) → Prop
  | .ok x l => fun q => q.2 = x ∧ Da s 0 l q.1
  | .bad e l => fun q => Da s e l q.1
end
end Go.Sx.YtmbakmdgmccgiaaDoor
/-! W06B: the document's reader: numbers. -/
namespace Go.Sx.YtmbakmdgmccgiaaDoor
open Go Go.Sx Go.Sx.Js
set_option autoImplicit false
set_option linter.unusedVariables false
set_option linter.unusedSimpArgs false
/-- where a byte leads: its class as truths. -/
def toB (st : Nat) (b45 b48 bD b46 b101 b69 b43 : Bool) : Int :=
  match st with
  | 0 => if b45 then 1 else if b48 then 2 else if bD then 3 else -1
  | 1 => if b48 then 2 else if bD then 3 else -1
  | 2 => if b46 then 4 else if b101 || b69 then 6 else -1
  | 3 => if bD then 3 else if b46 then 4 else if b101 || b69 then 6 else -1
  | 4 => if bD then 5 else -1
  | 5 => if bD then 5 else if b101 || b69 then 6 else -1
  | 6 => if b43 || b45 then 7 else if bD then 8 else -1
  | _ => if bD then 8 else -1
def trans (st : Nat) (c : Int) : Int := toB st (c == 45) (c == 48) (isDigit c) (c == 46) (c == 101) (c == 69) (c == 43)
def nFrac (k : Nat) (l : List Int) : PR (Nat × Bool) := (numFrac k l).bind fun p l => numExp p.1 p.2 l
/-- what is to come in a state. -/
def nRest (st k : Nat) (l : List Int) : PR (Nat × Bool) :=
  match st with
  | 0 => (if hd l = 45 then Js.step k l else .ok k l).bind fun k l => (numInt k l).bind nFrac
  | 1 => (numInt k l).bind nFrac
  | 2 => nFrac k l
  | 3 => (digits1 k true l).bind nFrac
  | 4 => ((digits1 k false l).map fun k => (k, false)).bind fun p l => numExp p.1 p.2 l
  | 5 => ((digits1 k true l).map fun k => (k, false)).bind fun p l => numExp p.1 p.2 l
  | 6 => (numExpSign k l).bind fun k l => (digits k l).map fun k => (k, false)
  | 7 => (digits1 k false l).map fun k => (k, false)
  | _ => (digits1 k true l).map fun k => (k, false)
theorem nRest_0 (l : List Int) : nRest 0 0 l = numText l := by
  unfold numText
  show (numSign l).bind _ = (numSign l).bind _
  rfl
def nStop (st k : Nat) (l : List Int) : PR (Nat × Bool) := if st < 2 ∨ st = 4 ∨ st = 6 ∨ st = 7 then .bad 3 l else .ok (k, decide (st < 5)) l
theorem nRest_nil {st k : Nat} (h : st ≤ 8) : nRest st k [] = nStop st k [] := by
  have : st = 0 ∨ st = 1 ∨ st = 2 ∨ st = 3 ∨ st = 4 ∨ st = 5 ∨ st = 6 ∨ st = 7 ∨ st = 8 := by omega
  rcases this with rfl | rfl | rfl | rfl | rfl | rfl | rfl | rfl | rfl <;> rfl
theorem nRest_cons {st k : Nat} {c : Int} {r : List Int} (h : st ≤ 8) : (trans st c < 0 ∧ nRest st k (c :: r) = nStop st k (c :: r)) ∨ (0 ≤ trans st c ∧ trans st c ≤ 8 ∧ nRest st k (c :: r) = if 64 ≤ k then .bad 3 (c :: r) else nRest (trans st c).toNat (k + 1) r) := by
  have hs : Js.step k (c :: r) = if 64 ≤ k then .bad 3 (c :: r) else .ok (k + 1) r := rfl
  have hdg : ∀ any, digits1 k any (c :: r) = if isDigit c = true then (if 64 ≤ k then .bad 3 (c :: r) else digits1 (k + 1) true r) else if any = true then .ok k (c :: r) else .bad 3 (c :: r) := fun _ => rfl
  have hc : hd (c :: r) = c := rfl
  have cls : c = 45 ∨ c = 48 ∨ c = 46 ∨ c = 101 ∨ c = 69 ∨ c = 43 ∨ (c ≠ 45 ∧ c ≠ 48 ∧ c ≠ 46 ∧ c ≠ 101 ∧ c ≠ 69 ∧ c ≠ 43 ∧ isDigit c = true) ∨ (c ≠ 45 ∧ c ≠ 48 ∧ c ≠ 46 ∧ c ≠ 101 ∧ c ≠ 69 ∧ c ≠ 43 ∧ isDigit c = false) := by
    cases isDigit c <;> simp <;> omega
  have d1 : isDigit 45 = false := rfl
  have d2 : isDigit 48 = true := rfl
  have d3 : isDigit 46 = false := rfl
  have d4 : isDigit 101 = false := rfl
  have d5 : isDigit 69 = false := rfl
  have d6 : isDigit 43 = false := rfl
  have this : st = 0 ∨ st = 1 ∨ st = 2 ∨ st = 3 ∨ st = 4 ∨ st = 5 ∨ st = 6 ∨ st = 7 ∨ st = 8 := by omega
  by_cases hk : 64 ≤ k
  · simp only [if_pos hk] at hs hdg ⊢
    rcases cls with rfl | rfl | rfl | rfl | rfl | rfl | ⟨e1, e2, e3, e4, e5, e6, e7⟩ | ⟨e1, e2, e3, e4, e5, e6, e7⟩
    all_goals rcases this with rfl | rfl | rfl | rfl | rfl | rfl | rfl | rfl | rfl <;> simp [nRest, trans, toB, nStop, numInt, digits, nFrac, numFrac, numExp, numExpSign, PR.bind, PR.map, *]
  · simp only [if_neg hk] at hs hdg ⊢
    rcases cls with rfl | rfl | rfl | rfl | rfl | rfl | ⟨e1, e2, e3, e4, e5, e6, e7⟩ | ⟨e1, e2, e3, e4, e5, e6, e7⟩
    all_goals rcases this with rfl | rfl | rfl | rfl | rfl | rfl | rfl | rfl | rfl <;> simp [nRest, trans, toB, nStop, numInt, digits, nFrac, numFrac, numExp, numExpSign, PR.bind, PR.map, *]
theorem nRest_at {st k : Nat} {l : List Int} (h : st ≤ 8) : (trans st (nx l) < 0 ∧ nRest st k l = nStop st k l) ∨ ∃ (t : Nat) (c : Int) (r : List Int), trans st (nx l) = (t : Int) ∧ t ≤ 8 ∧ l = c :: r ∧ nRest st k l = if 64 ≤ k then .bad 3 l else nRest t (k + 1) r := by
  cases l with
  | nil =>
    refine .inl ⟨?_, nRest_nil h⟩
    have : st = 0 ∨ st = 1 ∨ st = 2 ∨ st = 3 ∨ st = 4 ∨ st = 5 ∨ st = 6 ∨ st = 7 ∨ st = 8 := by omega
    rcases this with rfl | rfl | rfl | rfl | rfl | rfl | rfl | rfl | rfl <;> decide
  | cons c r =>
    rcases nRest_cons (k := k) (c := c) (r := r) h with h | ⟨h1, h2, h3⟩
    · exact .inl h
    · exact .inr ⟨(trans st c).toNat, c, r, by show trans st c = _; omega, by omega, rfl, h3⟩
end Go.Sx.YtmbakmdgmccgiaaDoor
/-! W06C: the document's reader: numbers, the walk. -/
namespace Go.Sx.YtmbakmdgmccgiaaDoor
open Go Go.Sx Go.Sx.Js
set_option autoImplicit false
set_option linter.unusedVariables false
set_option linter.unusedSimpArgs false
abbrev DV := Int × Bool × (List Int) × Int × Bool × (List JV) × List (List Int)
def DV.val (r : DV) : JV := JV.mk r.1 r.2.1 r.2.2.1 r.2.2.2.1 r.2.2.2.2.1 r.2.2.2.2.2.1 r.2.2.2.2.2.2
/-- of a value's reading. -/
def DftJ (s : List Int) : PR JV → ((List Int) × Int × Int × DV) → Prop
  | .ok x l => fun q => DV.val q.2.2.2 = x ∧ Da s 0 l (q.1, q.2.1, q.2.2.1)
  | .bad e l => fun q => Da s e l (q.1, q.2.1, q.2.2.1)
def bodyOf (t : List Int) : List Int := if hd t = 45 then t.tail else t
section
variable {n : Nat}
theorem rNumber_go {t : List Int} {w : Bool} (hne : t ≠ []) (hb : ∀ c ∈ t, 0 ≤ c ∧ c ≤ 255) (hw : (w = true ∧ ∀ c ∈ bodyOf t, 48 ≤ c ∧ c ≤ 57) ∨ (w = false ∧ ∃ c ∈ bodyOf t, isDigit c = false)) (hl : t.length ≤ 4611686018427387904) (hn : t.length < n) : Gives (rNumber n t) (fun r => DV.val r = numVal t w) := by
  unfold rNumber
  have hat : ∃ at0 : Nat, at0 = (if hd t = 45 then 1 else 0) ∧ t.drop at0 = bodyOf t := ⟨_, rfl, by
    unfold bodyOf
    split
    · simp
    · rfl⟩
  obtain ⟨at0, hat, hdr0⟩ := hat
  have hblen : at0 + (bodyOf t).length = t.length := by
    rw [← hdr0, List.length_drop]
    have : 0 < t.length := List.length_pos_iff.2 hne
    have : at0 ≤ 1 := by rw [hat]; split <;> omega
    omega
  refine Gives.bind_eq (r := Out.go (t, (at0 : Int), 0, false, [], 0, false, 3, false, t, 0, false, [], [], [], [])) ?_ ?_
  · cases t with
    | nil => exact absurd rfl hne
    | cons c r =>
      rw [show idx (c :: r) 0 = some c from rfl]
      simp only [Option.bind_some]
      rw [hat, show hd (c :: r) = c from rfl]
      by_cases h : c = 45
      · rw [if_pos (by simpa using h), if_pos h]; rfl
      · rw [if_neg (by simpa using h), if_neg h]; rfl
  dsimp only
  generalize hu : bodyOf t = u at *
  refine Gives.loop (fun z => ∃ (k : Nat) (q : Int), z = (t, (at0 : Int), q, ((at0 + k : Nat) : Int), 0, false, [], 0, false, 3, false, t, 0, false, [], [], [], []) ∧ k ≤ u.length ∧ (-9223372036854775808 ≤ q ∧ q ≤ 0) ∧ ((w = true ∧ (∀ c ∈ u, 48 ≤ c ∧ c ≤ 57) ∧ intLoop (u.drop k) q = intLoop u 0) ∨ (w = false ∧ ∃ c ∈ u.drop k, isDigit c = false))) (fun z => t.length - z.2.2.2.1.toNat) (fun rec z hz hrec => ?_) n _ ⟨0, 0, rfl, by omega, by omega, ?_⟩ (by dsimp only; omega)
  · obtain ⟨k, q, rfl, hk, hq, hI⟩ := hz
    dsimp only at hrec ⊢
    have hfalse : w = false → DV.val (3, false, t, 0, false, [], []) = numVal t w := by rintro rfl; rfl
    have htrue : w = true → (∀ i v, integerOf t = (i, v) → DV.val (3, false, t, i, v, [], []) = numVal t w) := by
      rintro rfl i v h
      show _ = JV.mk 3 false t (integerOf t).1 (integerOf t).2 [] []
      rw [h]; rfl
    have hio : integerOf t = match intLoop u 0 with
      | some n => if hd t = 45 then (n, true) else if n = -9223372036854775808 then (0, false) else (-n, true)
      | none => (0, false) := by
      unfold integerOf
      unfold bodyOf at hu
      by_cases h : hd t = 45
      · rw [if_pos h] at hu ⊢
        rw [hu]
        cases intLoop u 0 with
        | none => rfl
        | some q => simp only [if_pos h]
      · rw [if_neg h] at hu ⊢
        subst hu
        cases intLoop t 0 with
        | none => rfl
        | some q => simp only [if_neg h]
    refine Gives.dite (fun hlt => ?_) fun hge => ?_
    · have hku : k < u.length := by omega
      have hdr : u.drop k = u[k] :: u.drop (k + 1) := List.drop_eq_getElem_cons hku
      have hix : idx t ((at0 + k : Nat) : Int) = some u[k] := by
        unfold idx
        rw [if_pos (by omega)]
        have e : t[at0 + k]? = some u[k] := by
          rw [← List.getElem?_drop, hdr0]
          simp [hku]
        rw [show ((at0 + k : Nat) : Int).toNat = at0 + k by omega]
        exact e
      have hcb : 0 ≤ u[k] ∧ u[k] ≤ 255 := hb _ (by
        have : ∀ c ∈ u, c ∈ t := fun c hc => by
          rw [← hdr0] at hc
          exact List.mem_of_mem_drop hc
        exact this _ (List.getElem_mem hku))
      refine Gives.bind_eq hix (Gives.bind_eq rDigit_v ?_)
      cases hdg : isDigit u[k] with
      | false =>
        refine Gives.pos rfl (Gives.of_some ?_)
        rcases hI with ⟨rfl, hall, _⟩ | ⟨hw, _⟩
        · have := hall _ (List.getElem_mem hku)
          simp [isDigit] at hdg
          omega
        · exact hfalse hw
      | true =>
        refine Gives.neg (by simp) (Gives.bind_eq hix ?_)
        have hc : 48 ≤ u[k] ∧ u[k] ≤ 57 := by simpa [isDigit] using hdg
        rw [hdr] at hI
        rw [intLoop_cons] at hI
        rw [wrap_u8 (n := u[k] - 48) (by omega) (by omega), wrap64 (n := u[k] - 48) (by omega) (by omega), wrap64 (n := -9223372036854775808 + (u[k] - 48)) (by omega) (by omega)]
        have hdv : Int.tdiv (-9223372036854775808 + (u[k] - 48)) 10 = -((9223372036854775808 - (u[k] - 48)) / 10) := by
          rw [show -9223372036854775808 + (u[k] - 48) = -(9223372036854775808 - (u[k] - 48)) by omega, Int.neg_tdiv, Int.tdiv_eq_ediv_of_nonneg (by omega)]
        rw [wrap64 (n := Int.tdiv _ 10) (by rw [hdv]; omega) (by rw [hdv]; omega)]
        refine Gives.dite (fun h1 => ?_) fun h1 => ?_
        · rw [if_pos h1] at hI
          refine Gives.of_some ?_
          rcases hI with ⟨hw, _, hI⟩ | ⟨hw, _⟩
          · refine htrue hw 0 false ?_
            rw [hio, ← hI]
          · exact hfalse hw
        · rw [if_neg h1] at hI
          rw [hdv] at h1
          rw [wrap64 (n := q * 10) (by omega) (by omega), wrap64 (n := q * 10 - (u[k] - 48)) (by omega) (by omega), wrap64 (n := ((at0 + k : Nat) : Int) + 1) (by omega) (by omega)]
          refine hrec _ ⟨k + 1, _, rfl, by omega, by omega, ?_⟩ (by dsimp only; omega)
          rcases hI with ⟨hw, hall, hI⟩ | ⟨hw, hx⟩
          · exact .inl ⟨hw, hall, by rw [Int.mul_comm q 10]; exact hI⟩
          · refine .inr ⟨hw, ?_⟩
            obtain ⟨c, hc1, hc2⟩ := hx
            rcases List.mem_cons.1 hc1 with rfl | hc1
            · rw [hdg] at hc2; cases hc2
            · exact ⟨c, hc1, hc2⟩
    · obtain rfl : k = u.length := by omega
      rw [List.drop_length] at hI
      rcases hI with ⟨hw, hall, hI⟩ | ⟨hw, c, hc, _⟩
      · have hI : some q = intLoop u 0 := hI
        rw [← hI] at hio
        dsimp only at hio
        refine Gives.eite (fun h0 => ?_) fun h0 => ?_
        · have hne45 : ¬ hd t = 45 := by
            intro h
            rw [if_pos h] at hat
            omega
          rw [if_neg hne45] at hio
          refine Gives.eite (fun h2 => ?_) fun h2 => ?_
          · rw [if_pos h2] at hio
            exact Gives.of_some (htrue hw _ _ hio)
          · rw [if_neg h2] at hio
            rw [wrap64 (by omega) (by omega), Int.zero_sub]
            exact Gives.of_some (htrue hw _ _ hio)
        · have h45 : hd t = 45 := by
            apply Classical.byContradiction
            intro h
            rw [if_neg h] at hat
            omega
          rw [if_pos h45] at hio
          exact Gives.of_some (htrue hw _ _ hio)
      · cases hc
  · rcases hw with ⟨hw, h⟩ | ⟨hw, h⟩
    · exact .inl ⟨hw, h, rfl⟩
    · exact .inr ⟨hw, h⟩
end
end Go.Sx.YtmbakmdgmccgiaaDoor
/-! W06X: the document's reader: numbers, put together. -/
namespace Go.Sx.YtmbakmdgmccgiaaDoor
open Go Go.Sx Go.Sx.Js
set_option autoImplicit false
set_option linter.unusedVariables false
set_option linter.unusedSimpArgs false
theorem body_old {x : List Int} {c d : Int} (h : d ∈ bodyOf x) : d ∈ bodyOf (x ++ [c]) := by
  cases x with
  | nil => simp [bodyOf] at h
  | cons a x =>
    unfold bodyOf at h ⊢
    rw [show hd (a :: x ++ [c]) = hd (a :: x) from rfl]
    split
    · rename_i h1
      rw [if_pos h1] at h
      simp at h ⊢
      exact .inl h
    · rename_i h1
      rw [if_neg h1] at h
      simp at h ⊢
      rcases h with h | h
      · exact .inl h
      · exact .inr (.inl h)
theorem body_new {x : List Int} {c : Int} (h : c ≠ 45) : c ∈ bodyOf (x ++ [c]) := by
  cases x with
  | nil => simp [bodyOf, hd, h]
  | cons a x =>
    unfold bodyOf
    split <;> simp
theorem trans_far {st t : Nat} {c : Int} (h : trans st c = (t : Int)) (ht : 4 ≤ t) : 4 ≤ st ∨ isDigit c = false ∧ c ≠ 45 := by
  by_cases hs : 4 ≤ st
  · exact .inl hs
  · refine .inr ?_
    have h4 : st = 0 ∨ st = 1 ∨ st = 2 ∨ st = 3 := by omega
    have hc : c = 46 ∨ c = 101 ∨ c = 69 := by
      rcases h4 with rfl | rfl | rfl | rfl <;> simp only [trans, toB] at h
      · split at h
        · omega
        · split at h
          · omega
          · split at h <;> omega
      · split at h
        · omega
        · split at h <;> omega
      · split at h
        · rename_i h1; simp at h1; exact .inl h1
        · split at h
          · rename_i h1; simp at h1; exact .inr h1
          · omega
      · split at h
        · omega
        · split at h
          · rename_i h1; simp at h1; exact .inl h1
          · split at h
            · rename_i h1; simp at h1; exact .inr h1
            · omega
    rcases hc with rfl | rfl | rfl <;> exact ⟨rfl, by omega⟩
section
variable {n : Nat} {s : List Int}
theorem rnumber_go (hs : Byt s) (hl : s.length ≤ 4611686018427387904) {i0 : Nat} {l0 : List Int} (h0 : At s i0 l0) (hn : s.length < n) : Gives (rReadingnumber n (s, (i0 : Int), 0)) (DftJ s (Js.number l0)) := by
  unfold rReadingnumber
  simp only
  refine Gives.loop (fun z => ∃ (st k : Nat) (l : List Int), z = ((i0 : Int), (st : Int), s, ((i0 + k : Nat) : Int), 0, [], 0, 0, 0, false, [], 0, false, [], []) ∧ st ≤ 8 ∧ k ≤ 64 ∧ At s (i0 + k) l ∧ (0 < st → 0 < k) ∧ (4 ≤ st → ∃ c ∈ bodyOf (l0.take k), isDigit c = false) ∧ nRest st k l = numText l0) (fun z => s.length - z.2.2.2.1.toNat) (fun rec z hz hrec => ?_) n _ ⟨0, 0, l0, rfl, by omega, by omega, h0, by omega, by omega, nRest_0 l0⟩ (by dsimp only; omega)
  obtain ⟨st, k, l, rfl, hst, hk, h, hpos, hfar, hR⟩ := hz
  have hlen := h.len
  have hlen0 := h0.len
  dsimp only at hrec ⊢
  refine Gives.bind_eq (rnext_ok h) ?_
  refine Gives.bind_eq (r := Out.go ((i0 : Int), (st : Int), trans st (nx l), s, ((i0 + k : Nat) : Int), 0, [], 0, 0, 0, false, [], 0, false, [], [])) ?_ ?_
  · simp only [rDigit_v]
    generalize nx l = c
    have this : st = 0 ∨ st = 1 ∨ st = 2 ∨ st = 3 ∨ st = 4 ∨ st = 5 ∨ st = 6 ∨ st = 7 ∨ st = 8 := by omega
    clear hrec hR hfar hpos h hst hlen hlen0 h0 hk hl hn hs
    have cls : c = 45 ∨ c = 48 ∨ c = 46 ∨ c = 101 ∨ c = 69 ∨ c = 43 ∨ (c ≠ 45 ∧ c ≠ 48 ∧ c ≠ 46 ∧ c ≠ 101 ∧ c ≠ 69 ∧ c ≠ 43 ∧ isDigit c = true) ∨ (c ≠ 45 ∧ c ≠ 48 ∧ c ≠ 46 ∧ c ≠ 101 ∧ c ≠ 69 ∧ c ≠ 43 ∧ isDigit c = false) := by
      cases isDigit c <;> simp <;> omega
    rcases cls with rfl | rfl | rfl | rfl | rfl | rfl | ⟨e1, e2, e3, e4, e5, e6, e7⟩ | ⟨e1, e2, e3, e4, e5, e6, e7⟩
    · rcases this with rfl | rfl | rfl | rfl | rfl | rfl | rfl | rfl | rfl <;> rfl
    · rcases this with rfl | rfl | rfl | rfl | rfl | rfl | rfl | rfl | rfl <;> rfl
    · rcases this with rfl | rfl | rfl | rfl | rfl | rfl | rfl | rfl | rfl <;> rfl
    · rcases this with rfl | rfl | rfl | rfl | rfl | rfl | rfl | rfl | rfl <;> rfl
    · rcases this with rfl | rfl | rfl | rfl | rfl | rfl | rfl | rfl | rfl <;> rfl
    · rcases this with rfl | rfl | rfl | rfl | rfl | rfl | rfl | rfl | rfl <;> rfl
    · rcases this with rfl | rfl | rfl | rfl | rfl | rfl | rfl | rfl | rfl <;> simp [trans, toB, e1, e2, e3, e4, e5, e6, e7]
    · rcases this with rfl | rfl | rfl | rfl | rfl | rfl | rfl | rfl | rfl <;> simp [trans, toB, e1, e2, e3, e4, e5, e6, e7]
  dsimp only
  rcases nRest_at (k := k) (l := l) hst with ⟨ht, hE⟩ | ⟨t, c, r, ht, ht8, rfl, hE⟩
  · refine Gives.dpos ht ?_
    rw [hR] at hE
    unfold nStop at hE
    refine Gives.bind (P := fun o => o = Out.go ((i0 : Int), decide (st < 2 ∨ st = 4 ∨ st = 6 ∨ st = 7), s, ((i0 + k : Nat) : Int), 0, [], 0, 0, 0, false, [], 0, false, [], [])) ?_ fun o ho => ?_
    · have this : st = 0 ∨ st = 1 ∨ st = 2 ∨ st = 3 ∨ st = 4 ∨ st = 5 ∨ st = 6 ∨ st = 7 ∨ st = 8 := by omega
      clear hrec hR hfar hpos h hst hlen hE ht
      rcases this with rfl | rfl | rfl | rfl | rfl | rfl | rfl | rfl | rfl <;> exact Gives.of_some rfl
    · subst ho
      dsimp only
      refine Gives.dite (fun hb => ?_) fun hb => ?_
      · rw [if_pos hb] at hE
        refine Gives.bind_eq rfail_ok (Gives.of_some ?_)
        unfold Js.number
        rw [hE]
        exact ⟨i0 + k, rfl, h⟩
      · rw [if_neg hb] at hE
        refine Gives.pos (by omega) ?_
        rw [show ((i0 + k : Nat) : Int).toNat - (i0 : Int).toNat = k by omega, show (i0 : Int).toNat = i0 by omega, h0.drop]
        have hk0 : 0 < k := hpos (by omega)
        refine Gives.bind (rNumber_go (n := n) (t := l0.take k) (w := decide (st < 5)) ?_ (fun c hc => h0.byt hs c (List.mem_of_mem_take hc)) ?_ (by rw [List.length_take]; omega) (by rw [List.length_take]; omega)) fun r hr => Gives.of_some ?_
        · intro e
          have := congrArg List.length e
          rw [List.length_take, List.length_nil] at this
          omega
        · by_cases h5 : st < 5
          · rw [decide_eq_true h5] at hE ⊢
            exact .inl ⟨rfl, numText_whole hE⟩
          · rw [decide_eq_false h5]
            exact .inr ⟨rfl, hfar (by omega)⟩
        · unfold Js.number
          rw [hE]
          exact ⟨hr, i0 + k, rfl, h⟩
  · simp only [List.length_cons] at hlen
    rw [hR] at hE
    refine Gives.dneg (by rw [ht]; omega) ?_
    rw [wrap64 (by omega) (by omega)]
    refine Gives.eite (fun h64 => ?_) fun h64 => ?_
    · rw [if_pos (by omega)] at hE
      refine Gives.bind_eq rfail_ok (Gives.of_some ?_)
      unfold Js.number
      rw [hE]
      exact ⟨i0 + k, rfl, h⟩
    · rw [if_neg (by omega)] at hE
      rw [rtail_in hl h, ht]
      refine hrec _ ⟨t, k + 1, r, rfl, ht8, by omega, h.tail, by omega, fun h4 => ?_, hE.symm⟩ (by dsimp only; omega)
      have hdl : l0.drop k = c :: r := by
        have e := h.drop
        rw [← List.drop_drop, h0.drop] at e
        exact e
      have htk : l0.take (k + 1) = l0.take k ++ [c] := by
        have e4 : (l0.drop k)[0]? = some c := by rw [hdl]; rfl
        rw [List.getElem?_drop] at e4
        rw [List.take_add_one]
        simp only [Nat.add_zero] at e4
        rw [e4]
        rfl
      rw [htk]
      rcases trans_far (c := c) ht h4 with h5 | ⟨h5, h6⟩
      · obtain ⟨d, hd1, hd2⟩ := hfar h5
        exact ⟨d, body_old hd1, hd2⟩
      · exact ⟨c, body_new h6, h5⟩
end
end Go.Sx.YtmbakmdgmccgiaaDoor
/-! W06Y: the document's reader: runes, codes, escapes. -/
namespace Go.Sx.YtmbakmdgmccgiaaDoor
open Go Go.Sx Go.Sx.Js
set_option autoImplicit false
set_option linter.unusedVariables false
set_option linter.unusedSimpArgs false
theorem At.dropN {s : List Int} {i : Nat} {l : List Int} (h : At s i l) (k : Nat) (hk : k ≤ l.length) : At s (i + k) (l.drop k) :=
  ⟨by have := h.len; rw [List.length_drop]; omega, by rw [← List.drop_drop, h.drop]⟩
/-- what a rune's reading tells. -/
def RnQ (s : List Int) (i : Nat) : PR (List Int) → (Int × Int) → Prop
  | .ok b l => fun q => q = ((b.length : Int), 0) ∧ At s (i + b.length) l
  | .bad e l => fun q => e = 3 ∧ ∃ j : Nat, q = (0, (j : Int)) ∧ At s j l
section
variable {n : Nat} {s : List Int}
theorem rRune_small {i : Nat} {c : Int} {r : List Int} (h : At s i (c :: r)) (hc : c < 128) : rRune n (s, (i : Int)) = some (1, 0) := by
  unfold rRune
  simp only
  rw [idx_at h]
  simp only [Option.bind_some]
  rw [if_pos (by simpa using hc)]
theorem rRune_go (hs : Byt s) (hl : s.length ≤ 4611686018427387904) {i : Nat} {c : Int} {r : List Int} (h : At s i (c :: r)) (hc : ¬ c < 128) (hn : 5 < n) : Gives (rRune n (s, (i : Int))) (RnQ s i (Js.rune (c :: r))) := by
  have hcb := hs c h.mem
  have hlen := h.len
  simp only [List.length_cons] at hlen
  unfold rRune
  simp only
  refine Gives.bind_eq (idx_at h) ?_
  refine Gives.dneg hc ?_
  refine Gives.bind_eq (idx_at h) ?_
  refine Gives.bind_eq (rTail_v hcb) ?_
  dsimp only
  obtain ⟨b1, b2, b3, b4, b5⟩ := bounds_rng c
  have hr : Js.rune (c :: r) = if (bounds c).1 = 0 then .bad 3 (c :: r) else (conts (bounds c).1 (bounds c).2.1 (bounds c).2.2 r).map (c :: ·) := rfl
  generalize (bounds c).1 = m at *
  generalize (bounds c).2.1 = lo at *
  generalize (bounds c).2.2 = hi at *
  rw [hr]
  refine Gives.eite (fun h0 => ?_) fun h0 => ?_
  · rw [if_pos (by omega)]
    exact Gives.of_some ⟨rfl, i, rfl, h⟩
  · rw [if_neg (by omega)]
    refine Gives.loop (fun z => ∃ (k : Nat) (lo' hi' : Int) (l' : List Int), z = (s, (i : Int), lo', hi', (m : Int), ((k + 1 : Nat) : Int)) ∧ k ≤ m ∧ At s (i + 1 + k) l' ∧ ∃ pre : List Int, pre.length = k ∧ conts m lo hi r = (conts (m - k) lo' hi' l').map (pre ++ ·)) (fun z => m + 1 - z.2.2.2.2.2.toNat) (fun rec z hz hrec => ?_) n _ ⟨0, lo, hi, r, rfl, by omega, h.tail, [], rfl, ?_⟩ (by dsimp only; omega)
    · obtain ⟨k, lo', hi', l', rfl, hk, h', pre, hpre, hco⟩ := hz
      dsimp only at hrec ⊢
      have hlen' := h'.len
      refine Gives.dite (fun hle => ?_) fun hgt => ?_
      · obtain ⟨q, hq⟩ : ∃ q, m - k = q + 1 := ⟨m - k - 1, by omega⟩
        rw [hq] at hco
        rw [wrap64 (by omega) (by omega), show (i : Int) + ((k + 1 : Nat) : Int) = ((i + 1 + k : Nat) : Int) by omega]
        cases l' with
        | nil =>
          simp only [List.length_nil] at hlen'
          refine Gives.dpos (by omega) (Gives.of_some ?_)
          rw [hco]
          exact ⟨rfl, i + 1 + k, rfl, h'⟩
        | cons d r' =>
          simp only [List.length_cons] at hlen'
          have hcs : conts (q + 1) lo' hi' (d :: r') = if d < lo' ∨ d > hi' then .bad 3 (d :: r') else (conts q 128 191 r').map (d :: ·) := rfl
          rw [hcs] at hco
          refine Gives.dneg (by omega) ?_
          refine Gives.bind_eq (idx_at h') ?_
          refine Gives.dite (fun h1 => Gives.of_some ?_) fun h1 => ?_
          · rw [if_pos (.inl h1)] at hco
            rw [hco]
            exact ⟨rfl, i + 1 + k, rfl, h'⟩
          · refine Gives.bind_eq (idx_at h') ?_
            refine Gives.dite (fun h2 => Gives.of_some ?_) fun h2 => ?_
            · rw [if_pos (.inr h2)] at hco
              rw [hco]
              exact ⟨rfl, i + 1 + k, rfl, h'⟩
            · rw [if_neg (by omega)] at hco
              rw [wrap64 (n := ((k + 1 : Nat) : Int) + 1) (by omega) (by omega)]
              refine hrec _ ⟨k + 1, 128, 191, r', rfl, by omega, h'.tail, pre ++ [d], by simp [hpre], ?_⟩ (by dsimp only; omega)
              rw [hco, show m - (k + 1) = q by omega, map_map]
              simp only [List.append_assoc, List.cons_append, List.nil_append]
      · obtain rfl : k = m := by omega
        rw [Nat.sub_self] at hco
        rw [wrap64 (by omega) (by omega)]
        refine Gives.of_some ?_
        rw [hco]
        refine ⟨?_, ?_⟩
        · simp only [List.length_cons, List.length_append, List.length_nil, hpre]
          rw [show ((k + 0 + 1 : Nat) : Int) = (k : Int) + 1 by omega]
        · simp only [List.length_cons, List.length_append, List.length_nil, hpre]
          rw [show i + (k + 0 + 1) = i + 1 + k by omega]
          exact h'
    · show conts m lo hi r = _
      cases conts m lo hi r <;> rfl
theorem rUtf8_v {x : Int} (h0 : 0 ≤ x) (h1 : x ≤ 1114111) : rUtf8 n x = some (enc x) := by
  have ha : ∀ y : Int, 0 ≤ y → y ≤ 1114111 → bits .and .i64 y 63 = y % 64 := fun y a b => and_low (m := 63) (.inr rfl) 6 rfl (by omega) a (by omega)
  unfold rUtf8 enc
  by_cases a1 : x < 128
  · rw [if_pos (by simpa using a1), if_pos a1, wrap_u8 h0 (by omega)]
  · rw [if_neg (by simpa using a1), if_neg a1]
    by_cases a2 : x < 2048
    · rw [if_pos (by simpa using a2), if_pos a2]
      dsimp only
      rw [fdiv_pos (by omega), ha x h0 h1, wrap64 (by omega) (by omega), wrap64 (by omega) (by omega), wrap_u8 (by omega) (by omega), wrap_u8 (by omega) (by omega)]
    · rw [if_neg (by simpa using a2), if_neg a2]
      by_cases a3 : x < 65536
      · rw [if_pos (by simpa using a3), if_pos a3]
        dsimp only
        rw [fdiv_pos (by omega), fdiv_pos (by omega), ha x h0 h1, ha (x / 64) (by omega) (by omega), wrap64 (by omega) (by omega), wrap64 (by omega) (by omega), wrap64 (by omega) (by omega), wrap_u8 (by omega) (by omega), wrap_u8 (by omega) (by omega), wrap_u8 (by omega) (by omega)]
      · rw [if_neg (by simpa using a3), if_neg a3]
        dsimp only
        rw [fdiv_pos (by omega), fdiv_pos (by omega), fdiv_pos (by omega), ha x h0 h1, ha (x / 64) (by omega) (by omega), ha (x / 4096) (by omega) (by omega), wrap64 (by omega) (by omega), wrap64 (by omega) (by omega), wrap64 (by omega) (by omega), wrap64 (by omega) (by omega), wrap_u8 (by omega) (by omega), wrap_u8 (by omega) (by omega), wrap_u8 (by omega) (by omega), wrap_u8 (by omega) (by omega)]
def mK (k : Nat) : Int := if k = 0 then 4096 else if k = 1 then 256 else if k = 2 then 16 else 1
theorem four_go (hs : Byt s) (hl : s.length ≤ 4611686018427387904) {ok : Nat → Int → Bool} {lo hi : Int} {y : DS} {l : List Int} (h : Da s 0 l y)
    (hok : ∀ k a r d, k < 4 → fourR ok l k = .ok a r → 0 ≤ d ∧ d ≤ 15 → (0 ≤ a ∧ a ≤ 4095) ∧ (ok k d = false ↔ (a * 16 + d) * mK k + mK k - 1 < lo ∨ (a * 16 + d) * mK k > hi)) (hr : ∀ k a r, k < 4 → fourR ok l k = .ok a r → (k = 0 → a = 0) ∧ (k = 1 → a ≤ 15) ∧ (k = 2 → a ≤ 255)) (hn : 4 < n) :
    Gives (rReadingfour n (y.1, y.2.1, y.2.2, lo, hi)) (fun q => DftV s (fourR ok l 4) ((q.1, q.2.1, q.2.2.1), q.2.2.2)) := by
  obtain ⟨i, rfl, h⟩ := h
  unfold rReadingfour
  simp only
  refine Gives.loop (fun z => ∃ (k : Nat) (a : Int) (r : List Int), z = (lo, hi, a, 3 - (k : Int), s, ((i + k : Nat) : Int), 0, [], 0, 0) ∧ k ≤ 4 ∧ At s (i + k) r ∧ fourR ok l k = .ok a r) (fun z => (z.2.2.2.1 + 1).toNat) (fun rec z hz hrec => ?_) n _ ⟨0, 0, l, rfl, by omega, h, rfl⟩ (by dsimp only; omega)
  obtain ⟨k, a, r, rfl, hk, h', hR⟩ := hz
  dsimp only at hrec ⊢
  refine Gives.dite (fun hge => ?_) fun hlt => ?_
  · have hk4 : k < 4 := by omega
    refine Gives.bind_eq (rnext_ok h') ?_
    refine Gives.bind_eq (rHex_v (nx_byt (h'.byt hs))) ?_
    have hbad : ∀ k e r', fourR ok l k = .bad e r' → ∀ j, fourR ok l (k + j) = .bad e r' := by
      intro k e r' hb j
      induction j with
      | zero => exact hb
      | succ j ih => show (fourR ok l (k + j)).bind _ = _; rw [ih]; rfl
    have hstep : fourR ok l (k + 1) = (pairHex (ok k) r).map fun d => a * 16 + d := by
      show (fourR ok l k).bind _ = _
      rw [hR]; rfl
    have fail : fourR ok l (k + 1) = .bad 3 r → Gives (Option.bind (rReadingfail n (s, (((i + k : Nat) : Int), (0, (((i + k : Nat) : Int), (3 : Int)))))) fun r20 => some (r20.1, (r20.2.1, (r20.2.2, (0 : Int))))) (fun q => DftV s (fourR ok l 4) ((q.1, q.2.1, q.2.2.1), q.2.2.2)) := by
      intro hb
      refine Gives.bind_eq rfail_ok (Gives.of_some ?_)
      have := hbad _ _ _ hb (3 - k)
      rw [show k + 1 + (3 - k) = 4 by omega] at this
      rw [this]
      exact ⟨i + k, rfl, h'⟩
    refine Gives.dite (fun hneg => ?_) fun hneg => ?_
    · obtain ⟨e, he⟩ := nx_hex.1 hneg
      have he3 : e = 3 := by
        cases r with
        | nil => injection he with he _; exact he.symm
        | cons c r =>
          rw [hex_cons] at he
          split at he
          · injection he with he _; exact he.symm
          · cases he
      subst he3
      refine fail ?_
      rw [hstep]
      unfold pairHex
      rw [he]
      rfl
    · cases r with
      | nil => exact absurd (by decide) hneg
      | cons c r =>
        have hneg : ¬ hexOf c < 0 := hneg
        have hrng := hexOf_range (c := c)
        have hhex : Js.hex (c :: r) = .ok (hexOf c) r := by rw [hex_cons, if_neg hneg]
        obtain ⟨⟨ha0, ha1⟩, hiff⟩ := hok k a _ (hexOf c) hk4 hR (by omega)
        obtain ⟨r0, r1, r2⟩ := hr k a _ hk4 hR
        show Gives (if IntKind.wrap IntKind.u64 (IntKind.wrap IntKind.i64 (4 * (3 - (k : Int)))) < 0 then none else _) _
        rw [show nx (c :: r) = c from rfl]
        have hlen' := h'.len
        simp only [List.length_cons] at hlen'
        have hsh : IntKind.wrap .u64 (IntKind.wrap .i64 (4 * (3 - (k : Int)))) = 4 * (3 - (k : Int)) := by
          rw [wrap64 (by omega) (by omega), wrap_u64_in (by omega) (by omega)]
        have hmk : (2 : Int) ^ (min (4 * (3 - (k : Int))).toNat 64) = mK k := by
          have : k = 0 ∨ k = 1 ∨ k = 2 ∨ k = 3 := by omega
          rcases this with rfl | rfl | rfl | rfl <;> rfl
        have hmk1 : 1 ≤ mK k ∧ mK k ≤ 4096 := by unfold mK; split; omega; split; omega; split <;> omega
        rw [hsh, hmk]
        refine Gives.neg (by omega) (Gives.neg (by omega) (Gives.neg (by omega) ?_))
        have hb1 : 0 ≤ (a * 16 + hexOf c) * mK k ∧ (a * 16 + hexOf c) * mK k ≤ 65535 * 4096 := mul_between (by omega) (by omega) (by omega) (by omega)
        rw [wrap64 (n := a * 16) (by omega) (by omega), wrap64 (n := a * 16 + hexOf c) (by omega) (by omega), wrap64 (n := (a * 16 + hexOf c) * mK k) (by omega) (by omega), wrap64 (n := 1 * mK k) (by omega) (by omega), Int.one_mul]
        rw [wrap64 (n := (a * 16 + hexOf c) * mK k + mK k) (by omega) (by omega), wrap64 (n := (a * 16 + hexOf c) * mK k + mK k - 1) (by omega) (by omega)]
        have hpx : ok k (hexOf c) = false → fourR ok l (k + 1) = .bad 3 (c :: r) := by
          intro e
          rw [hstep]
          unfold pairHex
          rw [hhex]
          simp only [PR.bind, e]
          rfl
        refine Gives.dite (fun h1 => fail (hpx (hiff.2 (.inl h1)))) fun h1 => ?_
        refine Gives.dite (fun h2 => fail (hpx (hiff.2 (.inr h2)))) fun h2 => ?_
        rw [rtail_in hl h', wrap64 (n := 3 - (k : Int) - 1) (by omega) (by omega)]
        refine hrec _ ⟨k + 1, a * 16 + hexOf c, r, ?_, by omega, h'.tail, ?_⟩ (by dsimp only; omega)
        · rw [show 3 - (k : Int) - 1 = 3 - ((k + 1 : Nat) : Int) by omega]; rfl
        · have hokt : ok k (hexOf c) = true := by
            cases ho : ok k (hexOf c) with
            | true => rfl
            | false => rcases hiff.1 ho with h | h <;> omega
          rw [hstep]
          unfold pairHex
          rw [hhex]
          simp only [PR.bind, hokt, if_true]
          rfl
  · obtain rfl : k = 4 := by omega
    refine Gives.of_some ?_
    rw [hR]
    exact ⟨rfl, i + 4, rfl, h'⟩
end
end Go.Sx.YtmbakmdgmccgiaaDoor
