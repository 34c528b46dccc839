/- Part of a proof by a small interpreter on plain values; no condition. -/
import Derived.Test.YtmbakmdgmccgiaaDoorWc
/-! W06A: the document's reader: bytes, words, blanks, digits. -/
namespace Go.Sx.YtmbakmdgmccgiaaDoor
open Go Go.Sx Go.Sx.Js
set_option autoImplicit false
set_option linter.unusedVariables false
set_option linter.unusedSimpArgs false
abbrev DS := (List Int) × Int × Int
/-- the document's reader stands ahead of 'l'; 'e': its error. -/
def Da (s : List Int) (e : Int) (l : List Int) (y : DS) : Prop := ∃ i : Nat, y = (s, (i : Int), e) ∧ At s i l
/-- the next byte; 0: there is none. -/
def nx : List Int → Int
  | [] => 0
  | c :: _ => c
section
variable {n : Nat} {s : List Int}
theorem rnext_ok {i : Nat} {l : List Int} {e : Int} (h : At s i l) : rReadingnext n (s, (i : Int), e) = some (nx l) := by
  have hlen := h.len
  unfold rReadingnext
  simp only
  cases l with
  | nil =>
    simp only [List.length_nil] at hlen
    rw [if_neg (by simp; omega)]
    rfl
  | cons c r =>
    simp only [List.length_cons] at hlen
    rw [if_pos (by simp; omega), idx_at h]
    rfl
theorem rfail_ok {a t e : Int} : rReadingfail n (s, a, 0, t, e) = some (s, t, e) := rfl
theorem rtail_in {i : Nat} {c : Int} {r : List Int} (hl : s.length ≤ 4611686018427387904) (h : At s i (c :: r)) : IntKind.wrap .i64 ((i : Int) + 1) = ((i + 1 : Nat) : Int) := by
  have hlen := h.len
  simp only [List.length_cons] at hlen
  rw [wrap64 (by omega) (by omega)]
  omega
theorem rDigit_v {c : Int} : rDigit n c = some (isDigit c) := by
  unfold rDigit isDigit
  by_cases h : c ≥ 48
  · rw [if_pos (decide_eq_true h), decide_eq_true (show 48 ≤ c from h)]; rfl
  · rw [if_neg (by simpa using h), decide_eq_false (show ¬ 48 ≤ c from h)]; rfl
theorem rtail_tab : (List.range 256).all (fun k => rTail n (k : Int) == some ((bounds (k : Int)).2.1, (bounds (k : Int)).2.2, ((bounds (k : Int)).1 : Int))) = true := by kernel_rfl
theorem rTail_v {c : Int} (h : 0 ≤ c ∧ c ≤ 255) : rTail n c = some ((bounds c).2.1, (bounds c).2.2, ((bounds c).1 : Int)) := by
  obtain ⟨k, rfl⟩ := Int.eq_ofNat_of_zero_le h.1
  have := List.all_eq_true.1 (rtail_tab (n := n)) k (List.mem_range.2 (by omega))
  simpa using this
end
end Go.Sx.YtmbakmdgmccgiaaDoor
/-! W06B: the document's reader: numbers. -/
namespace Go.Sx.YtmbakmdgmccgiaaDoor
open Go Go.Sx Go.Sx.Js
set_option autoImplicit false
set_option linter.unusedVariables false
set_option linter.unusedSimpArgs false
/-- where a byte leads: its class as truths. -/
def toB (st : Nat) (b45 b48 bD b46 b101 b69 b43 : Bool) : Int :=
  match st with
  | 0 => if b45 then 1 else if b48 then 2 else if bD then 3 else -1
  | 1 => if b48 then 2 else if bD then 3 else -1
  | 2 => if b46 then 4 else if b101 || b69 then 6 else -1
  | 3 => if bD then 3 else if b46 then 4 else if b101 || b69 then 6 else -1
  | 4 => if bD then 5 else -1
  | 5 => if bD then 5 else if b101 || b69 then 6 else -1
  | 6 => if b43 || b45 then 7 else if bD then 8 else -1
  | _ => if bD then 8 else -1
def trans (st : Nat) (c : Int) : Int := toB st (c == 45) (c == 48) (isDigit c) (c == 46) (c == 101) (c == 69) (c == 43)
def nFrac (k : Nat) (l : List Int) : PR (Nat × Bool) := (numFrac k l).bind fun p l => numExp p.1 p.2 l
/-- what is to come in a state. -/
def nRest (st k : Nat) (l : List Int) : PR (Nat × Bool) :=
  match st with
  | 0 => (if hd l = 45 then Js.step k l else .ok k l).bind fun k l => (numInt k l).bind nFrac
  | 1 => (numInt k l).bind nFrac
  | 2 => nFrac k l
  | 3 => (digits1 k true l).bind nFrac
  | 4 => ((digits1 k false l).map fun k => (k, false)).bind fun p l => numExp p.1 p.2 l
  | 5 => ((digits1 k true l).map fun k => (k, false)).bind fun p l => numExp p.1 p.2 l
  | 6 => (numExpSign k l).bind fun k l => (digits k l).map fun k => (k, false)
  | 7 => (digits1 k false l).map fun k => (k, false)
  | _ => (digits1 k true l).map fun k => (k, false)
theorem nRest_0 (l : List Int) : nRest 0 0 l = numText l := by
  unfold numText
  show (numSign l).bind _ = (numSign l).bind _
  rfl
def nStop (st k : Nat) (l : List Int) : PR (Nat × Bool) := if st < 2 ∨ st = 4 ∨ st = 6 ∨ st = 7 then .bad 3 l else .ok (k, decide (st < 5)) l
theorem nRest_nil {st k : Nat} (h : st ≤ 8) : nRest st k [] = nStop st k [] := by
  have : st = 0 ∨ st = 1 ∨ st = 2 ∨ st = 3 ∨ st = 4 ∨ st = 5 ∨ st = 6 ∨ st = 7 ∨ st = 8 := by omega
  rcases this with rfl | rfl | rfl | rfl | rfl | rfl | rfl | rfl | rfl <;> rfl
theorem nRest_cons {st k : Nat} {c : Int} {r : List Int} (h : st ≤ 8) : (trans st c < 0 ∧ nRest st k (c :: r) = nStop st k (c :: r)) ∨ (0 ≤ trans st c ∧ trans st c ≤ 8 ∧ nRest st k (c :: r) = if 64 ≤ k then .bad 3 (c :: r) else nRest (trans st c).toNat (k + 1) r) := by
  have hs : Js.step k (c :: r) = if 64 ≤ k then .bad 3 (c :: r) else .ok (k + 1) r := rfl
  have hdg : ∀ any, digits1 k any (c :: r) = if isDigit c = true then (if 64 ≤ k then .bad 3 (c :: r) else digits1 (k + 1) true r) else if any = true then .ok k (c :: r) else .bad 3 (c :: r) := fun _ => rfl
  have hc : hd (c :: r) = c := rfl
  have cls : c = 45 ∨ c = 48 ∨ c = 46 ∨ c = 101 ∨ c = 69 ∨ c = 43 ∨ (c ≠ 45 ∧ c ≠ 48 ∧ c ≠ 46 ∧ c ≠ 101 ∧ c ≠ 69 ∧ c ≠ 43 ∧ isDigit c = true) ∨ (c ≠ 45 ∧ c ≠ 48 ∧ c ≠ 46 ∧ c ≠ 101 ∧ c ≠ 69 ∧ c ≠ 43 ∧ isDigit c = false) := by
    cases isDigit c <;> simp <;> omega
  have d1 : isDigit 45 = false := rfl
  have d2 : isDigit 48 = true := rfl
  have d3 : isDigit 46 = false := rfl
  have d4 : isDigit 101 = false := rfl
  have d5 : isDigit 69 = false := rfl
  have d6 : isDigit 43 = false := rfl
  have this : st = 0 ∨ st = 1 ∨ st = 2 ∨ st = 3 ∨ st = 4 ∨ st = 5 ∨ st = 6 ∨ st = 7 ∨ st = 8 := by omega
  by_cases hk : 64 ≤ k
  · simp only [if_pos hk] at hs hdg ⊢
    rcases cls with rfl | rfl | rfl | rfl | rfl | rfl | ⟨e1, e2, e3, e4, e5, e6, e7⟩ | ⟨e1, e2, e3, e4, e5, e6, e7⟩
    all_goals rcases this with rfl | rfl | rfl | rfl | rfl | rfl | rfl | rfl | rfl <;> simp [nRest, trans, toB, nStop, numInt, digits, nFrac, numFrac, numExp, numExpSign, PR.bind, PR.map, *]
  · simp only [if_neg hk] at hs hdg ⊢
    rcases cls with rfl | rfl | rfl | rfl | rfl | rfl | ⟨e1, e2, e3, e4, e5, e6, e7⟩ | ⟨e1, e2, e3, e4, e5, e6, e7⟩
    all_goals rcases this with rfl | rfl | rfl | rfl | rfl | rfl | rfl | rfl | rfl <;> simp [nRest, trans, toB, nStop, numInt, digits, nFrac, numFrac, numExp, numExpSign, PR.bind, PR.map, *]
theorem nRest_at {st k : Nat} {l : List Int} (h : st ≤ 8) : (trans st (nx l) < 0 ∧ nRest st k l = nStop st k l) ∨ ∃ (t : Nat) (c : Int) (r : List Int), trans st (nx l) = (t : Int) ∧ t ≤ 8 ∧ l = c :: r ∧ nRest st k l = if 64 ≤ k then .bad 3 l else nRest t (k + 1) r := by
  cases l with
  | nil =>
    refine .inl ⟨?_, nRest_nil h⟩
    have : st = 0 ∨ st = 1 ∨ st = 2 ∨ st = 3 ∨ st = 4 ∨ st = 5 ∨ st = 6 ∨ st = 7 ∨ st = 8 := by omega
    rcases this with rfl | rfl | rfl | rfl | rfl | rfl | rfl | rfl | rfl <;> decide
  | cons c r =>
    rcases nRest_cons (k := k) (c := c) (r := r) h with h | ⟨h1, h2, h3⟩
    · exact .inl h
    · exact .inr ⟨(trans st c).toNat, c, r, by show trans st c = _; omega, by omega, rfl, h3⟩
end Go.Sx.YtmbakmdgmccgiaaDoor
/-! W06C: the document's reader: numbers, the walk. -/
namespace Go.Sx.YtmbakmdgmccgiaaDoor
open Go Go.Sx Go.Sx.Js
set_option autoImplicit false
set_option linter.unusedVariables false
set_option linter.unusedSimpArgs false
abbrev DV := Int × Bool × (List Int) × Int × Bool × (List JV) × List (List Int)
def DV.val (r : DV) : JV := JV.mk r.1 r.2.1 r.2.2.1 r.2.2.2.1 r.2.2.2.2.1 r.2.2.2.2.2.1 r.2.2.2.2.2.2
/-- of a value's reading. -/
def DftJ (s : List Int) : PR JV → ((List Int) × Int × Int × DV) → Prop
  | .ok x l => fun q => DV.val q.2.2.2 = x ∧ Da s 0 l (q.1, q.2.1, q.2.2.1)
  | .bad e l => fun q => Da s e l (q.1, q.2.1, q.2.2.1)
def bodyOf (t : List Int) : List Int := if hd t = 45 then t.tail else t
section
variable {n : Nat}
theorem rNumber_go {t : List Int} {w : Bool} (hne : t ≠ []) (hb : ∀ c ∈ t, 0 ≤ c ∧ c ≤ 255) (hw : (w = true ∧ ∀ c ∈ bodyOf t, 48 ≤ c ∧ c ≤ 57) ∨ (w = false ∧ ∃ c ∈ bodyOf t, isDigit c = false)) (hl : t.length ≤ 4611686018427387904) (hn : t.length < n) : Gives (rNumber n t) (fun r => DV.val r = numVal t w) := by
  unfold rNumber
  have hat : ∃ at0 : Nat, at0 = (if hd t = 45 then 1 else 0) ∧ t.drop at0 = bodyOf t := ⟨_, rfl, by
    unfold bodyOf
    split
    · simp
    · rfl⟩
  obtain ⟨at0, hat, hdr0⟩ := hat
  have hblen : at0 + (bodyOf t).length = t.length := by
    rw [← hdr0, List.length_drop]
    have : 0 < t.length := List.length_pos_iff.2 hne
    have : at0 ≤ 1 := by rw [hat]; split <;> omega
    omega
  refine Gives.bind_eq (r := Out.go (t, (at0 : Int), 0, false, [], 0, false, 3, false, t, 0, false, [], [], [], [])) ?_ ?_
  · cases t with
    | nil => exact absurd rfl hne
    | cons c r =>
      rw [show idx (c :: r) 0 = some c from rfl]
      simp only [Option.bind_some]
      rw [hat, show hd (c :: r) = c from rfl]
      by_cases h : c = 45
      · rw [if_pos (by simpa using h), if_pos h]; rfl
      · rw [if_neg (by simpa using h), if_neg h]; rfl
  dsimp only
  generalize hu : bodyOf t = u at *
  refine Gives.loop (fun z => ∃ (k : Nat) (q : Int), z = (t, (at0 : Int), q, ((at0 + k : Nat) : Int), 0, false, [], 0, false, 3, false, t, 0, false, [], [], [], []) ∧ k ≤ u.length ∧ (-9223372036854775808 ≤ q ∧ q ≤ 0) ∧ ((w = true ∧ (∀ c ∈ u, 48 ≤ c ∧ c ≤ 57) ∧ intLoop (u.drop k) q = intLoop u 0) ∨ (w = false ∧ ∃ c ∈ u.drop k, isDigit c = false))) (fun z => t.length - z.2.2.2.1.toNat) (fun rec z hz hrec => ?_) n _ ⟨0, 0, rfl, by omega, by omega, ?_⟩ (by dsimp only; omega)
  · obtain ⟨k, q, rfl, hk, hq, hI⟩ := hz
    dsimp only at hrec ⊢
    have hfalse : w = false → DV.val (3, false, t, 0, false, [], []) = numVal t w := by rintro rfl; rfl
    have htrue : w = true → (∀ i v, integerOf t = (i, v) → DV.val (3, false, t, i, v, [], []) = numVal t w) := by
      rintro rfl i v h
      show _ = JV.mk 3 false t (integerOf t).1 (integerOf t).2 [] []
      rw [h]; rfl
    have hio : integerOf t = match intLoop u 0 with
      | some n => if hd t = 45 then (n, true) else if n = -9223372036854775808 then (0, false) else (-n, true)
      | none => (0, false) := by
      unfold integerOf
      unfold bodyOf at hu
      by_cases h : hd t = 45
      · rw [if_pos h] at hu ⊢
        rw [hu]
        cases intLoop u 0 with
        | none => rfl
        | some q => simp only [if_pos h]
      · rw [if_neg h] at hu ⊢
        subst hu
        cases intLoop t 0 with
        | none => rfl
        | some q => simp only [if_neg h]
    refine Gives.dite (fun hlt => ?_) fun hge => ?_
    · have hku : k < u.length := by omega
      have hdr : u.drop k = u[k] :: u.drop (k + 1) := List.drop_eq_getElem_cons hku
      have hix : idx t ((at0 + k : Nat) : Int) = some u[k] := by
        unfold idx
        rw [if_pos (by omega)]
        have e : t[at0 + k]? = some u[k] := by
          rw [← List.getElem?_drop, hdr0]
          simp [hku]
        rw [show ((at0 + k : Nat) : Int).toNat = at0 + k by omega]
        exact e
      have hcb : 0 ≤ u[k] ∧ u[k] ≤ 255 := hb _ (by
        have : ∀ c ∈ u, c ∈ t := fun c hc => by
          rw [← hdr0] at hc
          exact List.mem_of_mem_drop hc
        exact this _ (List.getElem_mem hku))
      refine Gives.bind_eq hix (Gives.bind_eq rDigit_v ?_)
      cases hdg : isDigit u[k] with
      | false =>
        refine Gives.pos rfl (Gives.of_some ?_)
        rcases hI with ⟨rfl, hall, _⟩ | ⟨hw, _⟩
        · have := hall _ (List.getElem_mem hku)
          simp [isDigit] at hdg
          omega
        · exact hfalse hw
      | true =>
        refine Gives.neg (by simp) (Gives.bind_eq hix ?_)
        have hc : 48 ≤ u[k] ∧ u[k] ≤ 57 := by simpa [isDigit] using hdg
        rw [hdr] at hI
        rw [intLoop_cons] at hI
        rw [wrap_u8 (n := u[k] - 48) (by omega) (by omega), wrap64 (n := u[k] - 48) (by omega) (by omega), wrap64 (n := -9223372036854775808 + (u[k] - 48)) (by omega) (by omega)]
        have hdv : Int.tdiv (-9223372036854775808 + (u[k] - 48)) 10 = -((9223372036854775808 - (u[k] - 48)) / 10) := by
          rw [show -9223372036854775808 + (u[k] - 48) = -(9223372036854775808 - (u[k] - 48)) by omega, Int.neg_tdiv, Int.tdiv_eq_ediv_of_nonneg (by omega)]
        rw [wrap64 (n := Int.tdiv _ 10) (by rw [hdv]; omega) (by rw [hdv]; omega)]
        refine Gives.dite (fun h1 => ?_) fun h1 => ?_
        · rw [if_pos h1] at hI
          refine Gives.of_some ?_
          rcases hI with ⟨hw, _, hI⟩ | ⟨hw, _⟩
          · refine htrue hw 0 false ?_
            rw [hio, ← hI]
          · exact hfalse hw
        · rw [if_neg h1] at hI
          rw [hdv] at h1
          rw [wrap64 (n := q * 10) (by omega) (by omega), wrap64 (n := q * 10 - (u[k] - 48)) (by omega) (by omega), wrap64 (n := ((at0 + k : Nat) : Int) + 1) (by omega) (by omega)]
          refine hrec _ ⟨k + 1, _, rfl, by omega, by omega, ?_⟩ (by dsimp only; omega)
          rcases hI with ⟨hw, hall, hI⟩ | ⟨hw, hx⟩
          · exact .inl ⟨hw, hall, by rw [Int.mul_comm q 10]; exact hI⟩
          · refine .inr ⟨hw, ?_⟩
            obtain ⟨c, hc1, hc2⟩ := hx
            rcases List.mem_cons.1 hc1 with rfl | hc1
            · rw [hdg] at hc2; cases hc2
            · exact ⟨c, hc1, hc2⟩
    · obtain rfl : k = u.length := by omega
      rw [List.drop_length] at hI
      rcases hI with ⟨hw, hall, hI⟩ | ⟨hw, c, hc, _⟩
      · have hI : some q = intLoop u 0 := hI
        rw [← hI] at hio
        dsimp only at hio
        refine Gives.eite (fun h0 => ?_) fun h0 => ?_
        · have hne45 : ¬ hd t = 45 := by
            intro h
            rw [if_pos h] at hat
            omega
          rw [if_neg hne45] at hio
          refine Gives.eite (fun h2 => ?_) fun h2 => ?_
          · rw [if_pos h2] at hio
            exact Gives.of_some (htrue hw _ _ hio)
          · rw [if_neg h2] at hio
            rw [wrap64 (by omega) (by omega), Int.zero_sub]
            exact Gives.of_some (htrue hw _ _ hio)
        · have h45 : hd t = 45 := by
            apply Classical.byContradiction
            intro h
            rw [if_neg h] at hat
            omega
          rw [if_pos h45] at hio
          exact Gives.of_some (htrue hw _ _ hio)
      · cases hc
  · rcases hw with ⟨hw, h⟩ | ⟨hw, h⟩
    · exact .inl ⟨hw, h, rfl⟩
    · exact .inr ⟨hw, h⟩
end
end Go.Sx.YtmbakmdgmccgiaaDoor
/-! W06X: the document's reader: numbers, put together. -/
namespace Go.Sx.YtmbakmdgmccgiaaDoor
open Go Go.Sx Go.Sx.Js
set_option autoImplicit false
set_option linter.unusedVariables false
set_option linter.unusedSimpArgs false
theorem body_old {x : List Int} {c d : Int} (h : d ∈ bodyOf x) : d ∈ bodyOf (x ++ [c]) := by
  cases x with
  | nil => simp [bodyOf] at h
  | cons a x =>
    unfold bodyOf at h ⊢
    rw [show hd (a :: x ++ [c]) = hd (a :: x) from rfl]
    split
    · rename_i h1
      rw [if_pos h1] at h
      simp at h ⊢
      exact .inl h
    · rename_i h1
      rw [if_neg h1] at h
      simp at h ⊢
      rcases h with h | h
      · exact .inl h
      · exact .inr (.inl h)
theorem body_new {x : List Int} {c : Int} (h : c ≠ 45) : c ∈ bodyOf (x ++ [c]) := by
  cases x with
  | nil => simp [bodyOf, hd, h]
  | cons a x =>
    unfold bodyOf
    split <;> simp
theorem trans_far {st t : Nat} {c : Int} (h : trans st c = (t : Int)) (ht : 4 ≤ t) : 4 ≤ st ∨ isDigit c = false ∧ c ≠ 45 := by
  by_cases hs : 4 ≤ st
  · exact .inl hs
  · refine .inr ?_
    have h4 : st = 0 ∨ st = 1 ∨ st = 2 ∨ st = 3 := by omega
    have hc : c = 46 ∨ c = 101 ∨ c = 69 := by
      rcases h4 with rfl | rfl | rfl | rfl <;> simp only [trans, toB] at h
      · split at h
        · omega
        · split at h
          · omega
          · split at h <;> omega
      · split at h
        · omega
        · split at h <;> omega
      · split at h
        · rename_i h1; simp at h1; exact .inl h1
        · split at h
          · rename_i h1; simp at h1; exact .inr h1
          · omega
      · split at h
        · omega
        · split at h
          · rename_i h1; simp at h1; exact .inl h1
          · split at h
            · rename_i h1; simp at h1; exact .inr h1
            · omega
    rcases hc with rfl | rfl | rfl <;> exact ⟨rfl, by omega⟩
section
variable {n : Nat} {s : List Int}
theorem rnumber_go (hs : Byt s) (hl : s.length ≤ 4611686018427387904) {i0 : Nat} {l0 : List Int} (h0 : At s i0 l0) (hn : s.length < n) : Gives (rReadingnumber n (s, (i0 : Int), 0)) (DftJ s (Js.number l0)) := by
  unfold rReadingnumber
  simp only
  refine Gives.loop (fun z => ∃ (st k : Nat) (l : List Int), z = ((i0 : Int), (st : Int), s, ((i0 + k : Nat) : Int), 0, [], 0, 0, 0, false, [], 0, false, [], []) ∧ st ≤ 8 ∧ k ≤ 64 ∧ At s (i0 + k) l ∧ (0 < st → 0 < k) ∧ (4 ≤ st → ∃ c ∈ bodyOf (l0.take k), isDigit c = false) ∧ nRest st k l = numText l0) (fun z => s.length - z.2.2.2.1.toNat) (fun rec z hz hrec => ?_) n _ ⟨0, 0, l0, rfl, by omega, by omega, h0, by omega, by omega, nRest_0 l0⟩ (by dsimp only; omega)
  obtain ⟨st, k, l, rfl, hst, hk, h, hpos, hfar, hR⟩ := hz
  have hlen := h.len
  have hlen0 := h0.len
  dsimp only at hrec ⊢
  refine Gives.bind_eq (rnext_ok h) ?_
  refine Gives.bind_eq (r := Out.go ((i0 : Int), (st : Int), trans st (nx l), s, ((i0 + k : Nat) : Int), 0, [], 0, 0, 0, false, [], 0, false, [], [])) ?_ ?_
  · simp only [rDigit_v]
    generalize nx l = c
    have this : st = 0 ∨ st = 1 ∨ st = 2 ∨ st = 3 ∨ st = 4 ∨ st = 5 ∨ st = 6 ∨ st = 7 ∨ st = 8 := by omega
    clear hrec hR hfar hpos h hst hlen hlen0 h0 hk hl hn hs
    have cls : c = 45 ∨ c = 48 ∨ c = 46 ∨ c = 101 ∨ c = 69 ∨ c = 43 ∨ (c ≠ 45 ∧ c ≠ 48 ∧ c ≠ 46 ∧ c ≠ 101 ∧ c ≠ 69 ∧ c ≠ 43 ∧ isDigit c = true) ∨ (c ≠ 45 ∧ c ≠ 48 ∧ c ≠ 46 ∧ c ≠ 101 ∧ c ≠ 69 ∧ c ≠ 43 ∧ isDigit c = false) := by
      cases isDigit c <;> simp <;> omega
    rcases cls with rfl | rfl | rfl | rfl | rfl | rfl | ⟨e1, e2, e3, e4, e5, e6, e7⟩ | ⟨e1, e2, e3, e4, e5, e6, e7⟩
    · rcases this with rfl | rfl | rfl | rfl | rfl | rfl | rfl | rfl | rfl <;> rfl
    · rcases this with rfl | rfl | rfl | rfl | rfl | rfl | rfl | rfl | rfl <;> rfl
    · rcases this with rfl | rfl | rfl | rfl | rfl | rfl | rfl | rfl | rfl <;> rfl
    · rcases this with rfl | rfl | rfl | rfl | rfl | rfl | rfl | rfl | rfl <;> rfl
    · rcases this with rfl | rfl | rfl | rfl | rfl | rfl | rfl | rfl | rfl <;> rfl
    · rcases this with rfl | rfl | rfl | rfl | rfl | rfl | rfl | rfl | rfl <;> rfl
    · rcases this with rfl | rfl | rfl | rfl | rfl | rfl | rfl | rfl | rfl <;> simp [trans, toB, e1, e2, e3, e4, e5, e6, e7]
    · rcases this with rfl | rfl | rfl | rfl | rfl | rfl | rfl | rfl | rfl <;> simp [trans, toB, e1, e2, e3, e4, e5, e6, e7]
  dsimp only
  rcases nRest_at (k := k) (l := l) hst with ⟨ht, hE⟩ | ⟨t, c, r, ht, ht8, rfl, hE⟩
  · refine Gives.dpos ht ?_
    rw [hR] at hE
    unfold nStop at hE
    refine Gives.bind (P := fun o => o = Out.go ((i0 : Int), decide (st < 2 ∨ st = 4 ∨ st = 6 ∨ st = 7), s, ((i0 + k : Nat) : Int), 0, [], 0, 0, 0, false, [], 0, false, [], [])) ?_ fun o ho => ?_
    · have this : st = 0 ∨ st = 1 ∨ st = 2 ∨ st = 3 ∨ st = 4 ∨ st = 5 ∨ st = 6 ∨ st = 7 ∨ st = 8 := by omega
      clear hrec hR hfar hpos h hst hlen hE ht
      rcases this with rfl | rfl | rfl | rfl | rfl | rfl | rfl | rfl | rfl <;> exact Gives.of_some rfl
    · subst ho
      dsimp only
      refine Gives.dite (fun hb => ?_) fun hb => ?_
      · rw [if_pos hb] at hE
        refine Gives.bind_eq rfail_ok (Gives.of_some ?_)
        unfold Js.number
        rw [hE]
        exact ⟨i0 + k, rfl, h⟩
      · rw [if_neg hb] at hE
        refine Gives.pos (by omega) ?_
        rw [show ((i0 + k : Nat) : Int).toNat - (i0 : Int).toNat = k by omega, show (i0 : Int).toNat = i0 by omega, h0.drop]
        have hk0 : 0 < k := hpos (by omega)
        refine Gives.bind (rNumber_go (n := n) (t := l0.take k) (w := decide (st < 5)) ?_ (fun c hc => h0.byt hs c (List.mem_of_mem_take hc)) ?_ (by rw [List.length_take]; omega) (by rw [List.length_take]; omega)) fun r hr => Gives.of_some ?_
        · intro e
          have := congrArg List.length e
          rw [List.length_take, List.length_nil] at this
          omega
        · by_cases h5 : st < 5
          · rw [decide_eq_true h5] at hE ⊢
            exact .inl ⟨rfl, numText_whole hE⟩
          · rw [decide_eq_false h5]
            exact .inr ⟨rfl, hfar (by omega)⟩
        · unfold Js.number
          rw [hE]
          exact ⟨hr, i0 + k, rfl, h⟩
  · simp only [List.length_cons] at hlen
    rw [hR] at hE
    refine Gives.dneg (by rw [ht]; omega) ?_
    rw [wrap64 (by omega) (by omega)]
    refine Gives.eite (fun h64 => ?_) fun h64 => ?_
    · rw [if_pos (by omega)] at hE
      refine Gives.bind_eq rfail_ok (Gives.of_some ?_)
      unfold Js.number
      rw [hE]
      exact ⟨i0 + k, rfl, h⟩
    · rw [if_neg (by omega)] at hE
      rw [rtail_in hl h, ht]
      refine hrec _ ⟨t, k + 1, r, rfl, ht8, by omega, h.tail, by omega, fun h4 => ?_, hE.symm⟩ (by dsimp only; omega)
      have hdl : l0.drop k = c :: r := by
        have e := h.drop
        rw [← List.drop_drop, h0.drop] at e
        exact e
      have htk : l0.take (k + 1) = l0.take k ++ [c] := by
        have e4 : (l0.drop k)[0]? = some c := by rw [hdl]; rfl
        rw [List.getElem?_drop] at e4
        rw [List.take_add_one]
        simp only [Nat.add_zero] at e4
        rw [e4]
        rfl
      rw [htk]
      rcases trans_far (c := c) ht h4 with h5 | ⟨h5, h6⟩
      · obtain ⟨d, hd1, hd2⟩ := hfar h5
        exact ⟨d, body_old hd1, hd2⟩
      · exact ⟨c, body_new h6, h5⟩
end
end Go.Sx.YtmbakmdgmccgiaaDoor
/-! W06Y: the document's reader: runes, codes, escapes. -/
namespace Go.Sx.YtmbakmdgmccgiaaDoor
open Go Go.Sx Go.Sx.Js
set_option autoImplicit false
set_option linter.unusedVariables false
set_option linter.unusedSimpArgs false
/-- what a rune's reading tells. -/
def RnQ (s : List Int) (i : Nat) : PR (List Int) → (Int × Int) → Prop
  | .ok b l => fun q => q = ((b.length : Int), 0) ∧ At s (i + b.length) l
  | .bad e l => fun q => e = 3 ∧ ∃ j : Nat, q = (0, (j : Int)) ∧ At s j l
section
variable {n : Nat} {s : List Int}
theorem rRune_small {i : Nat} {c : Int} {r : List Int} (h : At s i (c :: r)) (hc : c < 128) : rRune n (s, (i : Int)) = some (1, 0) := by
  unfold rRune
  simp only
  rw [idx_at h]
  simp only [Option.bind_some]
  rw [if_pos (by simpa using hc)]
theorem rRune_go (hs : Byt s) (hl : s.length ≤ 4611686018427387904) {i : Nat} {c : Int} {r : List Int} (h : At s i (c :: r)) (hc : ¬ c < 128) (hn : 5 < n) : Gives (rRune n (s, (i : Int))) (RnQ s i (Js.rune (c :: r))) := by
  have hcb := hs c h.mem
  have hlen := h.len
  simp only [List.length_cons] at hlen
  unfold rRune
  simp only
  refine Gives.bind_eq (idx_at h) ?_
  refine Gives.dneg hc ?_
  refine Gives.bind_eq (idx_at h) ?_
  refine Gives.bind_eq (rTail_v hcb) ?_
  dsimp only
  obtain ⟨b1, b2, b3, b4, b5⟩ := bounds_rng c
  have hr : Js.rune (c :: r) = if (bounds c).1 = 0 then .bad 3 (c :: r) else (conts (bounds c).1 (bounds c).2.1 (bounds c).2.2 r).map (c :: ·) := rfl
  generalize (bounds c).1 = m at *
  generalize (bounds c).2.1 = lo at *
  generalize (bounds c).2.2 = hi at *
  rw [hr]
  refine Gives.eite (fun h0 => ?_) fun h0 => ?_
  · rw [if_pos (by omega)]
    exact Gives.of_some ⟨rfl, i, rfl, h⟩
  · rw [if_neg (by omega)]
    refine Gives.loop (fun z => ∃ (k : Nat) (lo' hi' : Int) (l' : List Int), z = (s, (i : Int), lo', hi', (m : Int), ((k + 1 : Nat) : Int)) ∧ k ≤ m ∧ At s (i + 1 + k) l' ∧ ∃ pre : List Int, pre.length = k ∧ conts m lo hi r = (conts (m - k) lo' hi' l').map (pre ++ ·)) (fun z => m + 1 - z.2.2.2.2.2.toNat) (fun rec z hz hrec => ?_) n _ ⟨0, lo, hi, r, rfl, by omega, h.tail, [], rfl, ?_⟩ (by dsimp only; omega)
    · obtain ⟨k, lo', hi', l', rfl, hk, h', pre, hpre, hco⟩ := hz
      dsimp only at hrec ⊢
      have hlen' := h'.len
      refine Gives.dite (fun hle => ?_) fun hgt => ?_
      · obtain ⟨q, hq⟩ : ∃ q, m - k = q + 1 := ⟨m - k - 1, by omega⟩
        rw [hq] at hco
        rw [wrap64 (by omega) (by omega), show (i : Int) + ((k + 1 : Nat) : Int) = ((i + 1 + k : Nat) : Int) by omega]
        cases l' with
        | nil =>
          simp only [List.length_nil] at hlen'
          refine Gives.dpos (by omega) (Gives.of_some ?_)
          rw [hco]
          exact ⟨rfl, i + 1 + k, rfl, h'⟩
        | cons d r' =>
          simp only [List.length_cons] at hlen'
          have hcs : conts (q + 1) lo' hi' (d :: r') = if d < lo' ∨ d > hi' then .bad 3 (d :: r') else (conts q 128 191 r').map (d :: ·) := rfl
          rw [hcs] at hco
          refine Gives.dneg (by omega) ?_
          refine Gives.bind_eq (idx_at h') ?_
          refine Gives.dite (fun h1 => Gives.of_some ?_) fun h1 => ?_
          · rw [if_pos (.inl h1)] at hco
            rw [hco]
            exact ⟨rfl, i + 1 + k, rfl, h'⟩
          · refine Gives.bind_eq (idx_at h') ?_
            refine Gives.dite (fun h2 => Gives.of_some ?_) fun h2 => ?_
            · rw [if_pos (.inr h2)] at hco
              rw [hco]
              exact ⟨rfl, i + 1 + k, rfl, h'⟩
            · rw [if_neg (by omega)] at hco
              rw [wrap64 (n := ((k + 1 : Nat) : Int) + 1) (by omega) (by omega)]
              refine hrec _ ⟨k + 1, 128, 191, r', rfl, by omega, h'.tail, pre ++ [d], by simp [hpre], ?_⟩ (by dsimp only; omega)
              rw [hco, show m - (k + 1) = q by omega, map_map]
              simp only [List.append_assoc, List.cons_append, List.nil_append]
      · obtain rfl : k = m := by omega
        rw [Nat.sub_self] at hco
        rw [wrap64 (by omega) (by omega)]
        refine Gives.of_some ?_
        rw [hco]
        refine ⟨?_, ?_⟩
        · simp only [List.length_cons, List.length_append, List.length_nil, hpre]
          rw [show ((k + 0 + 1 : Nat) : Int) = (k : Int) + 1 by omega]
        · simp only [List.length_cons, List.length_append, List.length_nil, hpre]
          rw [show i + (k + 0 + 1) = i + 1 + k by omega]
          exact h'
    · show conts m lo hi r = _
      cases conts m lo hi r <;> rfl
end
end Go.Sx.YtmbakmdgmccgiaaDoor
