/- Part of a proof by a small interpreter on plain values; no condition. -/
import Derived.Test.YtppiiahjnglcnaaWk
import Derived.Test.YtppiiahjnglcnaaWb
/-! W22L: the document's table: a list of entries. -/
namespace Go.Sx.Ytppiiahjnglcnaa
open Go Go.Sx
set_option autoImplicit false
set_option maxRecDepth 100000
set_option linter.unusedVariables false
set_option linter.unusedSimpArgs false
def pos (w : Wh) : List REnt → Option Nat
  | [] => none
  | e :: r => if eqW w e.1 = true then some 0 else (pos w r).map (· + 1)
theorem pos_none {w : Wh} : ∀ {L : List REnt}, pos w L = none → ∀ e ∈ L, e.1 ≠ w
  | [], _, e, he => by cases he
  | d :: r, h, e, he => by
    unfold pos at h
    split at h
    · cases h
    · rename_i hn
      rw [Option.map_eq_none_iff] at h
      rcases List.mem_cons.1 he with rfl | he
      · exact fun q => hn ((eqW_iff _ _).2 q.symm)
      · exact pos_none h e he
theorem pos_some {w : Wh} : ∀ {L : List REnt} {j : Nat}, pos w L = some j → ∃ e, L[j]? = some e ∧ e.1 = w
  | [], j, h => by cases h
  | d :: r, j, h => by
    unfold pos at h
    split at h
    · rename_i he
      injection h with h
      subst h
      exact ⟨d, rfl, ((eqW_iff _ _).1 he).symm⟩
    · rw [Option.map_eq_some_iff] at h
      obtain ⟨k, hk, rfl⟩ := h
      obtain ⟨e, h1, h2⟩ := pos_some hk
      exact ⟨e, by simpa using h1, h2⟩
theorem pos_app {w : Wh} {b : List REnt} : ∀ {a : List REnt}, (∀ e ∈ a, e.1 ≠ w) → pos w (a ++ b) = (pos w b).map (a.length + ·)
  | [], _ => by simp
  | d :: a, h => by
    have hd : ¬ eqW w d.1 = true := fun q => h d (by simp) ((eqW_iff _ _).1 q).symm
    have e1 : pos w (d :: (a ++ b)) = (pos w (a ++ b)).map (· + 1) := by simp only [pos, if_neg hd]
    rw [List.cons_append, e1, pos_app fun e he => h e (by simp [he])]
    cases pos w b with
    | none => rfl
    | some k => simp only [Option.map_some, List.length_cons]; congr 1; omega
theorem pos_lt {w : Wh} {L : List REnt} {j : Nat} (h : pos w L = some j) : j < L.length := by
  obtain ⟨e, h1, _⟩ := pos_some h
  exact (List.getElem?_eq_some_iff.1 h1).1
def posI (w : Wh) (L : List REnt) : Int := match pos w L with
  | some j => (j : Int)
  | none => -1
theorem weq (a b : Wh) : ((a.1 == b.1) && ((a.2.1 == b.2.1) && ((a.2.2.1 == b.2.2.1) && true))) = true ↔ a = b := by
  obtain ⟨a1, a2, a3, _⟩ := a
  obtain ⟨b1, b2, b3, _⟩ := b
  simp
def dR : REnt := ((0, 0, [], ()), (0, 0, ()), ())
theorem place_v (r : Int) (L : List REnt) (w1 w2 : Int) (w3 : List Int) (hL : L.length ≤ 1024) : rPlace 5000 (r, L, w1, w2, w3) = some (posI (w1, w2, w3, ()) L) := by
  apply Gives.eq
  unfold rPlace
  dsimp only
  refine Gives.loop (X := Int × Int × (List REnt) × Int × Int × List Int)
    (fun y => ∃ a b, L = a ++ b ∧ y = ((a.length : Int), r, L, w1, w2, w3) ∧ ∀ e ∈ a, e.1 ≠ (w1, w2, w3, ())) (fun y => (1024 - y.1).toNat) ?_ 5000 _ ⟨[], L, rfl, rfl, by simp⟩ (by simp)
  rintro rec y ⟨a, b, hab, rfl, hno⟩ hr
  dsimp only
  have hlen : L.length = a.length + b.length := by rw [hab]; simp
  refine Gives.dite (fun h => ?_) (fun h => ?_)
  · refine Gives.idx dR (by omega) h ?_
    cases b with
    | nil => simp at hlen; omega
    | cons e b =>
      have hg : L.getD ((a.length : Nat) : Int).toNat dR = e := by
        rw [hab, Int.toNat_natCast, List.getD_eq_getElem?_getD, List.getElem?_append_right (Nat.le_refl _)]
        simp
      rw [hg]
      refine Gives.ite (fun hc => Gives.of_some ?_) (fun hc => ?_)
      · have he := (weq e.1 (w1, w2, w3, ())).1 hc
        unfold posI
        rw [hab, pos_app hno]
        unfold pos
        rw [if_pos ((eqW_iff _ _).2 he.symm)]
        simp
      · have hne : e.1 ≠ (w1, w2, w3, ()) := fun q => hc ((weq e.1 (w1, w2, w3, ())).2 q)
        rw [wrap64 (by omega) (by omega)]
        refine hr _ ⟨a ++ [e], b, by rw [hab]; simp, by simp, fun d hd => ?_⟩ ?_
        · rcases List.mem_append.1 hd with hd | hd
          · exact hno d hd
          · simp at hd; rw [hd]; exact hne
        · dsimp only; simp at hlen; omega
  · refine Gives.of_some ?_
    have : b = [] := List.eq_nil_of_length_eq_zero (by omega)
    subst this
    unfold posI
    rw [hab, pos_app hno]
    rfl
/-! ### somebody's bucket -/
def bvL (L : List REnt) (w : Wh) (R P B t : Int) : Int × Int × Int :=
  if Lim R P B then (if 0 ≤ t ∧ t ≤ 1099511627776 then (match pos w L with
    | some j => ((L.getD j dR).2.1.1, (L.getD j dR).2.1.2.1, 0)
    | none => (B * P, t, 0)) else (0, 0, 1)) else (0, 0, 4)
theorem rBucket_v (r : Int) (L : List REnt) (w1 w2 : Int) (w3 : List Int) (b R P B t : Int) (hr : 1 ≤ r) (hL : L.length ≤ 1024) : rBucket 5000 (r, L, w1, w2, w3, b, R, P, B, t) = some (bvL L (w1, w2, w3, ()) R P B t) := by
  unfold rBucket bvL
  dsimp only
  rw [rValid_v]
  simp only [Option.bind_some, vV]
  by_cases hl : Lim R P B
  · simp only [if_pos hl]
    rw [if_neg (by simp)]
    by_cases h1 : t < 0
    · simp [h1, show ¬ 0 ≤ t by omega]
    · by_cases h2 : t > 1099511627776
      · simp [h1, h2, show ¬ t ≤ 1099511627776 by omega]
      · rw [if_neg (by simpa using h1), if_neg (by simpa using h2), if_neg (by simp; omega), if_pos (by omega)]
        rw [place_v r L w1 w2 w3 hL]
        simp only [Option.bind_some]
        unfold posI
        cases hp : pos (w1, w2, w3, ()) L with
        | none =>
          simp only
          rw [if_neg (by decide), rFull_v]
          simp only [Option.bind_some, if_pos hl, if_pos (show 0 ≤ t ∧ t ≤ 1099511627776 by omega)]
        | some j =>
          simp only
          have hj := pos_lt hp
          rw [if_pos (by simp), idx_eq dR (by omega) (by omega)]
          simp
  · simp [hl]
/-! ### a take -/
def tkV (q : Int × Int × Int) (b R P B t : Int) : Int × Int × Bool × Int := (rTake 5000 (q.1, q.2.1, b, R, P, B, t)).getD (0, 0, false, 0)
theorem rTake_v (p a b R P B t e : Int) : rTake 5000 (p, a, b, R, P, B, t) = some (tkV (p, a, e) b R P B t) := by
  obtain ⟨_, r, h⟩ := take_v p a b R P B t
  unfold tkV
  rw [h]
  rfl
def putL (r : Int) (L : List REnt) (w : Wh) (k : Bk) : List REnt :=
  (match pos w L with
    | some j => L.eraseIdx j
    | none => if (L.length : Int) < r then L else L.drop 1) ++ [(w, k, ())]
def takeL (r : Int) (L : List REnt) (w : Wh) (b R P B t : Int) : List REnt × Bool × Int :=
  if (bvL L w R P B t).2.2 ≠ 0 then (L, false, (bvL L w R P B t).2.2)
  else if (tkV (bvL L w R P B t) b R P B t).2.2.2 ≠ 0 then (L, false, (tkV (bvL L w R P B t) b R P B t).2.2.2)
  else (putL r L w ((tkV (bvL L w R P B t) b R P B t).1, (tkV (bvL L w R P B t) b R P B t).2.1, ()), (tkV (bvL L w R P B t) b R P B t).2.2.1, 0)
theorem take_step {L : List REnt} {i : Nat} (h : i < L.length) : L.take (i + 1) = L.take i ++ [L.getD i dR] := by
  rw [List.take_add_one, List.getD_eq_getElem?_getD, List.getElem?_eq_getElem h]
  rfl
theorem keep_loop (ok : Bool) (at_ r : Int) (L : List REnt) (w1 w2 : Int) (w3 : List Int) (z p a : Int) (u : List REnt) (hL : L.length ≤ 1024) (g : Nat → List REnt) (h0 : g 0 = [])
    (hs : ∀ i, i < L.length → g (i + 1) = if (i : Int) ≠ at_ ∧ (at_ ≥ 0 ∨ (L.length : Int) < r ∨ 0 < i) then g i ++ [L.getD i dR] else g i) (hg : ∀ i, (g i).length ≤ i)
    {body : (Bool × Int × Int × Int × (List REnt) × Int × Int × (List Int) × Int × Int × Int × (List REnt) × List REnt → Option (Int × (List REnt) × Bool × Int)) → Bool × Int × Int × Int × (List REnt) × Int × Int × (List Int) × Int × Int × Int × (List REnt) × List REnt → Option (Int × (List REnt) × Bool × Int)}
    (hb : ∀ rec i out u', body rec (ok, at_, i, r, L, w1, w2, w3, z, p, a, out, u') =
      if decide (i < (L.length : Int)) = true then
        (if (i : Int) ≠ at_ ∧ (at_ ≥ 0 ∨ (L.length : Int) < r ∨ 0 < i) then (Option.bind (idx L i) fun v => if (out.length + 1) * 48 ≤ 140737488355328 then rec (ok, at_, IntKind.wrap .i64 (i + 1), r, L, w1, w2, w3, z, p, a, out ++ [v], u') else none)
        else rec (ok, at_, IntKind.wrap .i64 (i + 1), r, L, w1, w2, w3, z, p, a, out, u'))
      else if (out.length + 1) * 48 ≤ 140737488355328 then some (r, out ++ [((w1, w2, w3, ()), (p, a, ()), ())], ok, 0) else none) :
    loopF body 5000 (ok, at_, 0, r, L, w1, w2, w3, z, p, a, [], u) = some (r, g L.length ++ [((w1, w2, w3, ()), (p, a, ()), ())], ok, 0) := by
  apply Gives.eq
  refine Gives.loop (fun y => ∃ i : Nat, i ≤ L.length ∧ y = (ok, at_, (i : Int), r, L, w1, w2, w3, z, p, a, g i, u)) (fun y => (1024 - y.2.2.1).toNat) ?_ 5000 _ ⟨0, by omega, by rw [h0]; rfl⟩ (by simp)
  rintro rec y ⟨i, hi, rfl⟩ hr
  rw [hb]
  have hgi := hg i
  refine Gives.dite (fun h => ?_) (fun h => ?_)
  · have hlt : i < L.length := by omega
    have hst := hs i hlt
    refine Gives.ite (fun hc => ?_) (fun hc => ?_)
    · refine Gives.idx dR (by omega) h (Gives.pos (by omega) ?_)
      rw [wrap64 (by omega) (by omega), Int.toNat_natCast]
      refine hr _ ⟨i + 1, by omega, ?_⟩ (by dsimp only; omega)
      rw [hst, if_pos ⟨hc.1, by have := hc.2; omega⟩]
      simp
    · rw [wrap64 (by omega) (by omega)]
      refine hr _ ⟨i + 1, by omega, ?_⟩ (by dsimp only; omega)
      rw [hst, if_neg (fun q => hc ⟨q.1, by have := q.2; omega⟩)]
      simp
  · have : i = L.length := by omega
    subst this
    exact Gives.pos (by omega) (Gives.of_some rfl)
theorem rTake22_v (r : Int) (L : List REnt) (w1 w2 : Int) (w3 : List Int) (b R P B t : Int) (hr : 1 ≤ r) (hL : L.length ≤ 1024) :
    turnstileref22RTake 5000 (r, L, w1, w2, w3, b, R, P, B, t) = some (r, takeL r L (w1, w2, w3, ()) b R P B t) := by
  unfold turnstileref22RTake takeL
  dsimp only
  rw [rBucket_v r L w1 w2 w3 b R P B t hr hL]
  simp only [Option.bind_some]
  generalize bvL L (w1, w2, w3, ()) R P B t = q
  by_cases hq : q.2.2 = 0
  · rw [if_neg (by simpa using hq), if_neg (by simpa using hq), rTake_v q.1 q.2.1 b R P B t q.2.2]
    simp only [Option.bind_some]
    generalize tkV q b R P B t = k
    by_cases hk : k.2.2.2 = 0
    · rw [if_neg (by simpa using hk), if_neg (by simpa using hk), place_v r L w1 w2 w3 hL]
      simp only [Option.bind_some]
      refine (keep_loop k.2.2.1 (posI (w1, w2, w3, ()) L) r L w1 w2 w3 0 k.1 k.2.1 [] hL
        (fun i => match pos (w1, w2, w3, ()) L with
          | some j => (L.take i).eraseIdx j
          | none => if (L.length : Int) < r then L.take i else (L.take i).drop 1) ?_ (fun i hi => ?_) (fun i => ?_) (fun rec i out u' => ?_)).trans ?_
      · cases pos (w1, w2, w3, ()) L with
        | none => simp
        | some j => simp
      · unfold posI
        cases hp : pos (w1, w2, w3, ()) L with
        | none =>
          simp only
          by_cases hlr : (L.length : Int) < r
          · rw [if_pos hlr, if_pos hlr, if_pos ⟨by omega, .inr (.inl hlr)⟩]
            exact take_step hi
          · rw [if_neg hlr, if_neg hlr, take_step hi]
            by_cases h0 : 0 < i
            · rw [if_pos ⟨by omega, .inr (.inr h0)⟩, List.drop_append_of_le_length (by rw [List.length_take]; omega)]
            · have : i = 0 := by omega
              subst this
              rw [if_neg (by omega)]
              rfl
        | some j =>
          simp only
          rw [take_step hi]
          by_cases hij : i = j
          · subst hij
            rw [if_neg (by simp), List.eraseIdx_append_of_length_le (by rw [List.length_take]; omega), List.length_take]
            rw [show i - min i L.length = 0 from by omega]
            simp
            rw [List.eraseIdx_of_length_le (by rw [List.length_take]; omega)]
          · rw [if_pos ⟨by omega, .inl (by omega)⟩]
            by_cases hlt : j < i
            · rw [List.eraseIdx_append_of_lt_length (by rw [List.length_take]; omega)]
            · rw [List.eraseIdx_of_length_le (by simp [List.length_take]; omega), List.eraseIdx_of_length_le (by simp [List.length_take]; omega)]
      · cases pos (w1, w2, w3, ()) L with
        | none =>
          simp only
          split <;> simp <;> omega
        | some j =>
          simp only
          have := List.length_eraseIdx_le (L.take i) j
          rw [List.length_take] at this
          omega
      · dsimp only
        generalize posI (w1, w2, w3, ()) L = at_
        by_cases h1 : i < (L.length : Int)
        · rw [if_pos (show decide (i < (L.length : Int)) = true by simpa using h1), if_pos (show decide (i < (L.length : Int)) = true by simpa using h1)]
          by_cases h2 : i = at_
          · rw [if_neg (show ¬ (i != at_) = true by simpa using h2), if_neg (show ¬ (i ≠ at_ ∧ (at_ ≥ 0 ∨ (L.length : Int) < r ∨ 0 < i)) from fun q => q.1 h2)]
            rfl
          · rw [if_pos (show (i != at_) = true by simpa using h2)]
            by_cases h3 : at_ ≥ 0
            · rw [if_pos (show decide (at_ ≥ 0) = true by simpa using h3), if_pos (show i ≠ at_ ∧ (at_ ≥ 0 ∨ (L.length : Int) < r ∨ 0 < i) from ⟨h2, .inl h3⟩)]
              rfl
            · rw [if_neg (show ¬ decide (at_ ≥ 0) = true by simpa using h3)]
              by_cases h4 : (L.length : Int) < r
              · rw [if_pos (show decide ((L.length : Int) < r) = true by simpa using h4), if_pos (show i ≠ at_ ∧ (at_ ≥ 0 ∨ (L.length : Int) < r ∨ 0 < i) from ⟨h2, .inr (.inl h4)⟩)]
                rfl
              · rw [if_neg (show ¬ decide ((L.length : Int) < r) = true by simpa using h4)]
                by_cases h5 : 0 < i
                · rw [if_pos (show i ≠ at_ ∧ (at_ ≥ 0 ∨ (L.length : Int) < r ∨ 0 < i) from ⟨h2, .inr (.inr h5)⟩)]
                  have : decide (i > 0) = true := by simpa using h5
                  rw [this]
                  rfl
                · rw [if_neg (show ¬ (i ≠ at_ ∧ (at_ ≥ 0 ∨ (L.length : Int) < r ∨ 0 < i)) from fun q => by have := q.2; omega)]
                  have : decide (i > 0) = false := by simpa using h5
                  rw [this]
                  rfl
        · rw [if_neg (show ¬ decide (i < (L.length : Int)) = true by simpa using h1), if_neg (show ¬ decide (i < (L.length : Int)) = true by simpa using h1)]
      · unfold putL
        cases pos (w1, w2, w3, ()) L with
        | none =>
          simp only
          rw [List.take_length]
        | some j =>
          simp only
          rw [List.take_length]
    · rw [if_pos (by simpa using hk), if_pos (by simpa using hk)]
  · rw [if_pos (by simpa using hq), if_pos (by simpa using hq)]
/-! ### dropping -/
theorem rDrop_v (r : Int) (L : List REnt) (route : Int) (hL : L.length ≤ 1024) :
    rDrop 5000 (r, L, route) = some (r, L.filter (fun e => e.1.1 != route), (L.length : Int) - ((L.filter (fun e => e.1.1 != route)).length : Int)) := by
  apply Gives.eq
  unfold rDrop
  dsimp only
  refine Gives.loop (X := Int × Int × Int × (List REnt) × Int × (List REnt) × List REnt)
    (fun y => ∃ a b, L = a ++ b ∧ y = (route, (a.length : Int), r, L, 0, a.filter (fun e => e.1.1 != route), [])) (fun y => (1024 - y.2.1).toNat) ?_ 5000 _ ⟨[], L, rfl, rfl⟩ (by simp)
  rintro rec y ⟨a, b, hab, rfl⟩ hr
  dsimp only
  have hlen : L.length = a.length + b.length := by rw [hab]; simp
  have hfl := List.length_filter_le (fun e : REnt => e.1.1 != route) a
  refine Gives.dite (fun h => ?_) (fun h => ?_)
  · cases b with
    | nil => simp at hlen; omega
    | cons e b =>
      have hg : L.getD ((a.length : Nat) : Int).toNat dR = e := by
        rw [hab, Int.toNat_natCast, List.getD_eq_getElem?_getD, List.getElem?_append_right (Nat.le_refl _)]
        simp
      refine Gives.idx dR (by omega) h ?_
      rw [hg]
      simp at hlen
      refine Gives.ite (fun hc => ?_) (fun hc => ?_)
      · refine Gives.idx dR (by omega) h ?_
        rw [hg]
        refine Gives.pos (by omega) ?_
        rw [wrap64 (by omega) (by omega)]
        refine hr _ ⟨a ++ [e], b, by rw [hab]; simp, ?_⟩ (by dsimp only; omega)
        have hf : [e].filter (fun e : REnt => e.1.1 != route) = [e] := by simp only [List.filter_cons, hc, if_true, List.filter_nil]
        rw [List.filter_append, hf]
        simp
      · rw [wrap64 (by omega) (by omega)]
        refine hr _ ⟨a ++ [e], b, by rw [hab]; simp, ?_⟩ (by dsimp only; omega)
        have hf : [e].filter (fun e : REnt => e.1.1 != route) = [] := by simp only [List.filter_cons, hc, List.filter_nil]; rfl
        rw [List.filter_append, hf]
        simp
  · have : b = [] := List.eq_nil_of_length_eq_zero (by omega)
    subst this
    rw [List.append_nil] at hab
    subst hab
    refine Gives.of_some ?_
    rw [wrap64 (by omega) (by omega)]
end Go.Sx.Ytppiiahjnglcnaa
