/- Part of a proof by a small interpreter on plain values; no condition. -/
import Derived.Test.YtmbakmdgmccgiaaDoorWc
/-! W06A: the document's reader: bytes, words, blanks, digits. -/
namespace Go.Sx.YtmbakmdgmccgiaaDoor
open Go Go.Sx Go.Sx.Js
set_option autoImplicit false
set_option linter.unusedVariables false
set_option linter.unusedSimpArgs false
/-- the next byte; 0: there is none. -/
def nx : List Int → Int
  | [] => 0
  | c :: _ => c
section
variable {n : Nat} {s : List Int}
theorem rtail_in {i : Nat} {c : Int} {r : List Int} (hl : s.length ≤ 4611686018427387904) (h : At s i (c :: r)) : IntKind.wrap .i64 ((i : Int) + 1) = ((i + 1 : Nat) : Int) := by
  have hlen := h.len
  simp only [List.length_cons] at hlen
  rw [wrap64 (by omega) (by omega)]
  omega
theorem rtail_tab : (List.range 256).all (fun k => rTail n (k : Int) == some ((bounds (k : Int)).2.1, (bounds (k : Int)).2.2, ((bounds (k : Int)).1 : Int))) = true := by kernel_rfl
theorem rTail_v {c : Int} (h : 0 ≤ c ∧ c ≤ 255) : rTail n c = some ((bounds c).2.1, (bounds c).2.2, ((bounds c).1 : Int)) := by
  obtain ⟨k, rfl⟩ := Int.eq_ofNat_of_zero_le h.1
  have := List.all_eq_true.1 (rtail_tab (n := n)) k (List.mem_range.2 (by omega))
  simpa using this
end
end Go.Sx.YtmbakmdgmccgiaaDoor
/-! W06B: the document's reader: numbers. -/
namespace Go.Sx.YtmbakmdgmccgiaaDoor
open Go Go.Sx Go.Sx.Js
set_option autoImplicit false
set_option linter.unusedVariables false
set_option linter.unusedSimpArgs false
/-- where a byte leads: its class as truths. -/
def toB (st : Nat) (b45 b48 bD b46 b101 b69 b43 : Bool) : Int :=
  match st with
  | 0 => if b45 then 1 else if b48 then 2 else if bD then 3 else -1
  | 1 => if b48 then 2 else if bD then 3 else -1
  | 2 => if b46 then 4 else if b101 || b69 then 6 else -1
  | 3 => if bD then 3 else if b46 then 4 else if b101 || b69 then 6 else -1
  | 4 => if bD then 5 else -1
  | 5 => if bD then 5 else if b101 || b69 then 6 else -1
  | 6 => if b43 || b45 then 7 else if bD then 8 else -1
  | _ => if bD then 8 else -1
def trans (st : Nat) (c : Int) : Int := toB st (c == 45) (c == 48) (isDigit c) (c == 46) (c == 101) (c == 69) (c == 43)
end Go.Sx.YtmbakmdgmccgiaaDoor
/-! W06C: the document's reader: numbers, the walk. -/
namespace Go.Sx.YtmbakmdgmccgiaaDoor
open Go Go.Sx Go.Sx.Js
set_option autoImplicit false
set_option linter.unusedVariables false
set_option linter.unusedSimpArgs false
abbrev DV := Int × Bool × (List Int) × Int × Bool × (List JV) × List (List Int)
section
variable {n : Nat}
end
end Go.Sx.YtmbakmdgmccgiaaDoor
/-! W06X: the document's reader: numbers, put together. -/
namespace Go.Sx.YtmbakmdgmccgiaaDoor
open Go Go.Sx Go.Sx.Js
set_option autoImplicit false
set_option linter.unusedVariables false
set_option linter.unusedSimpArgs false
section
variable {n : Nat} {s : List Int}
end
end Go.Sx.YtmbakmdgmccgiaaDoor
/-! W06Y: the document's reader: runes, codes, escapes. -/
namespace Go.Sx.YtmbakmdgmccgiaaDoor
open Go Go.Sx Go.Sx.Js
set_option autoImplicit false
set_option linter.unusedVariables false
set_option linter.unusedSimpArgs false
/-- what a rune's reading tells. -/
def RnQ (s : List Int) (i : Nat) : PR (List Int) → (Int × Int) → Prop
  | .ok b l => fun q => q = ((b.length : Int), 0) ∧ At s (i + b.length) l
  | .bad e l => fun q => e = 3 ∧ ∃ j : Nat, q = (0, (j : Int)) ∧ At s j l
section
variable {n : Nat} {s : List Int}
theorem rRune_small {i : Nat} {c : Int} {r : List Int} (h : At s i (c :: r)) (hc : c < 128) : rRune n (s, (i : Int)) = some (1, 0) := by
  unfold rRune
  simp only
  rw [idx_at h]
  simp only [Option.bind_some]
  rw [if_pos (by simpa using hc)]
theorem rRune_go (hs : Byt s) (hl : s.length ≤ 4611686018427387904) {i : Nat} {c : Int} {r : List Int} (h : At s i (c :: r)) (hc : ¬ c < 128) (hn : 5 < n) : Gives (rRune n (s, (i : Int))) (RnQ s i (Js.rune (c :: r))) := by
  have hcb := hs c h.mem
  have hlen := h.len
  simp only [List.length_cons] at hlen
  unfold rRune
  simp only
  refine Gives.bind_eq (idx_at h) ?_
  refine Gives.dneg hc ?_
  refine Gives.bind_eq (idx_at h) ?_
  refine Gives.bind_eq (rTail_v hcb) ?_
  dsimp only
  obtain ⟨b1, b2, b3, b4, b5⟩ := bounds_rng c
  have hr : Js.rune (c :: r) = if (bounds c).1 = 0 then .bad 3 (c :: r) else (conts (bounds c).1 (bounds c).2.1 (bounds c).2.2 r).map (c :: ·) := rfl
  generalize (bounds c).1 = m at *
  generalize (bounds c).2.1 = lo at *
  generalize (bounds c).2.2 = hi at *
  rw [hr]
  refine Gives.eite (fun h0 => ?_) fun h0 => ?_
  · rw [if_pos (by omega)]
    exact Gives.of_some ⟨rfl, i, rfl, h⟩
  · rw [if_neg (by omega)]
    refine Gives.loop (fun z => ∃ (k : Nat) (lo' hi' : Int) (l' : List Int), z = (s, (i : Int), lo', hi', (m : Int), ((k + 1 : Nat) : Int)) ∧ k ≤ m ∧ At s (i + 1 + k) l' ∧ ∃ pre : List Int, pre.length = k ∧ conts m lo hi r = (conts (m - k) lo' hi' l').map (pre ++ ·)) (fun z => m + 1 - z.2.2.2.2.2.toNat) (fun rec z hz hrec => ?_) n _ ⟨0, lo, hi, r, rfl, by omega, h.tail, [], rfl, ?_⟩ (by dsimp only; omega)
    · obtain ⟨k, lo', hi', l', rfl, hk, h', pre, hpre, hco⟩ := hz
      dsimp only at hrec ⊢
      have hlen' := h'.len
      refine Gives.dite (fun hle => ?_) fun hgt => ?_
      · obtain ⟨q, hq⟩ : ∃ q, m - k = q + 1 := ⟨m - k - 1, by omega⟩
        rw [hq] at hco
        rw [wrap64 (by omega) (by omega), show (i : Int) + ((k + 1 : Nat) : Int) = ((i + 1 + k : Nat) : Int) by omega]
        cases l' with
        | nil =>
          simp only [List.length_nil] at hlen'
          refine Gives.dpos (by omega) (Gives.of_some ?_)
          rw [hco]
          exact ⟨rfl, i + 1 + k, rfl, h'⟩
        | cons d r' =>
          simp only [List.length_cons] at hlen'
          have hcs : conts (q + 1) lo' hi' (d :: r') = if d < lo' ∨ d > hi' then .bad 3 (d :: r') else (conts q 128 191 r').map (d :: ·) := rfl
          rw [hcs] at hco
          refine Gives.dneg (by omega) ?_
          refine Gives.bind_eq (idx_at h') ?_
          refine Gives.dite (fun h1 => Gives.of_some ?_) fun h1 => ?_
          · rw [if_pos (.inl h1)] at hco
            rw [hco]
            exact ⟨rfl, i + 1 + k, rfl, h'⟩
          · refine Gives.bind_eq (idx_at h') ?_
            refine Gives.dite (fun h2 => Gives.of_some ?_) fun h2 => ?_
            · rw [if_pos (.inr h2)] at hco
              rw [hco]
              exact ⟨rfl, i + 1 + k, rfl, h'⟩
            · rw [if_neg (by omega)] at hco
              rw [wrap64 (n := ((k + 1 : Nat) : Int) + 1) (by omega) (by omega)]
              refine hrec _ ⟨k + 1, 128, 191, r', rfl, by omega, h'.tail, pre ++ [d], by simp [hpre], ?_⟩ (by dsimp only; omega)
              rw [hco, show m - (k + 1) = q by omega, map_map]
              simp only [List.append_assoc, List.cons_append, List.nil_append]
      · obtain rfl : k = m := by omega
        rw [Nat.sub_self] at hco
        rw [wrap64 (by omega) (by omega)]
        refine Gives.of_some ?_
        rw [hco]
        refine ⟨?_, ?_⟩
        · simp only [List.length_cons, List.length_append, List.length_nil, hpre]
          rw [show ((k + 0 + 1 : Nat) : Int) = (k : Int) + 1 by omega]
        · simp only [List.length_cons, List.length_append, List.length_nil, hpre]
          rw [show i + (k + 0 + 1) = i + 1 + k by omega]
          exact h'
    · show conts m lo hi r = _
      cases conts m lo hi r <;> rfl
end
end Go.Sx.YtmbakmdgmccgiaaDoor
