/- Part of a proof by a small interpreter on plain values; no condition. -/
import Derived.Test.YtmbakmdgmccgiaaDoorSx37
import Derived.Test.YtmbakmdgmccgiaaDoorWa
import Derived.Test.YtmbakmdgmccgiaaDoorSx20
import Derived.Test.YtmbakmdgmccgiaaDoorSx24
/-! W06J: JSON texts, plainly: a reader over lists of bytes. -/
namespace Go.Sx.Js
open Go Go.Sx
set_option autoImplicit false
set_option linter.unusedVariables false
set_option linter.unusedSimpArgs false
/-- what a reading comes to: a value and the rest; or an error, and the rest from its place on. -/
inductive PR (α : Type) where
  | ok (x : α) (rest : List Int)
  | bad (e : Int) (rest : List Int)
def PR.bind {α β : Type} : PR α → (α → List Int → PR β) → PR β
  | .ok x l, f => f x l
  | .bad e l, _ => .bad e l
def PR.map {α β : Type} (f : α → β) : PR α → PR β
  | .ok x l => .ok (f x) l
  | .bad e l => .bad e l
/-- the next byte; -1: there is none. -/
def hd : List Int → Int
  | [] => -1
  | c :: _ => c
def isBlank (c : Int) : Bool := c == 32 || c == 9 || c == 10 || c == 13
def blanks : List Int → List Int
  | [] => []
  | c :: r => if isBlank c = true then blanks r else c :: r
def word : List Int → List Int → PR Unit
  | [], l => .ok () l
  | c :: w, d :: l => if d = c then word w l else .bad 3 (d :: l)
  | _ :: _, [] => .bad 3 []
def isDigit (c : Int) : Bool := decide (48 ≤ c) && decide (c ≤ 57)
/-! numbers: 'k' bytes have been taken -/
def step (k : Nat) (l : List Int) : PR Nat := if 64 ≤ k then .bad 3 l else .ok (k + 1) l.tail
def digits1 : Nat → Bool → List Int → PR Nat
  | k, any, [] => if any then .ok k [] else .bad 3 []
  | k, any, c :: r => if isDigit c = true then (if 64 ≤ k then .bad 3 (c :: r) else digits1 (k + 1) true r) else if any then .ok k (c :: r) else .bad 3 (c :: r)
def digits (k : Nat) (l : List Int) : PR Nat := digits1 k false l
def numSign (l : List Int) : PR Nat := if hd l = 45 then step 0 l else .ok 0 l
def numInt (k : Nat) (l : List Int) : PR Nat := if hd l = 48 then step k l else digits k l
def numFrac (k : Nat) (l : List Int) : PR (Nat × Bool) := if hd l = 46 then (step k l).bind fun k l => (digits k l).map fun k => (k, false) else .ok (k, true) l
def numExpSign (k : Nat) (l : List Int) : PR Nat := if hd l = 43 ∨ hd l = 45 then step k l else .ok k l
def numExp (k : Nat) (w : Bool) (l : List Int) : PR (Nat × Bool) := if hd l = 101 ∨ hd l = 69 then (step k l).bind fun k l => (numExpSign k l).bind fun k l => (digits k l).map fun k => (k, false) else .ok (k, w) l
/-- a number's text: how many bytes; is it whole? -/
def numText (l : List Int) : PR (Nat × Bool) := (numSign l).bind fun k l => (numInt k l).bind fun k l => (numFrac k l).bind fun p l => numExp p.1 p.2 l
/-- a whole number, below 0 gone through. -/
def intLoop : List Int → Int → Option Int
  | [], n => some n
  | c :: r, n => if n < Int.tdiv (-9223372036854775808 + (c - 48)) 10 then none else intLoop r (10 * n - (c - 48))
def integerOf (t : List Int) : Int × Bool :=
  if hd t = 45 then (match intLoop t.tail 0 with
    | some n => (n, true)
    | none => (0, false))
  else match intLoop t 0 with
    | some n => if n = -9223372036854775808 then (0, false) else (-n, true)
    | none => (0, false)
def numVal (t : List Int) (w : Bool) : JV := if w then .mk 3 false t (integerOf t).1 (integerOf t).2 [] [] else .mk 3 false t 0 false [] []
def number (l : List Int) : PR JV := (numText l).bind fun p r => .ok (numVal (l.take p.1) p.2) r
/-! texts -/
/-- the bounds of a second byte, and how many more come. -/
def bounds (c : Int) : Nat × Int × Int :=
  if 194 ≤ c ∧ c ≤ 223 then (1, 128, 191) else if c = 224 then (2, 160, 191) else if c = 237 then (2, 128, 159) else if 225 ≤ c ∧ c ≤ 239 then (2, 128, 191)
  else if c = 240 then (3, 144, 191) else if 241 ≤ c ∧ c ≤ 243 then (3, 128, 191) else if c = 244 then (3, 128, 143) else (0, 0, 0)
/-- 'm' bytes more, the first within bounds. -/
def conts : Nat → Int → Int → List Int → PR (List Int)
  | 0, _, _, l => .ok [] l
  | m + 1, lo, hi, [] => .bad 3 []
  | m + 1, lo, hi, c :: r => if c < lo ∨ c > hi then .bad 3 (c :: r) else (conts m 128 191 r).map (c :: ·)
/-- the bytes of a rune that is not plain. -/
def rune : List Int → PR (List Int)
  | [] => .bad 3 []
  | c :: r => if (bounds c).1 = 0 then .bad 3 (c :: r) else (conts (bounds c).1 (bounds c).2.1 (bounds c).2.2 r).map (c :: ·)
def hexOf (c : Int) : Int := if 48 ≤ c ∧ c ≤ 57 then c - 48 else if 97 ≤ c ∧ c ≤ 102 then c - 87 else if 65 ≤ c ∧ c ≤ 70 then c - 55 else -1
def hex : List Int → PR Int
  | [] => .bad 3 []
  | c :: r => if hexOf c < 0 then .bad 3 (c :: r) else .ok (hexOf c) r
/-- a number as UTF-8. -/
def enc (n : Int) : List Int :=
  if n < 128 then [n] else if n < 2048 then [192 + n / 64, 128 + n % 64] else if n < 65536 then [224 + n / 4096, 128 + n / 64 % 64, 128 + n % 64]
  else [240 + n / 262144, 128 + n / 4096 % 64, 128 + n / 64 % 64, 128 + n % 64]
/-- four digits, each one as asked. -/
def pairHex (ok : Int → Bool) (l : List Int) : PR Int := (hex l).bind fun d r => if ok d then .ok d r else .bad 3 l
def pair (x : Int) (l : List Int) : PR (List Int) :=
  (word [92, 117] l).bind fun _ l => (pairHex (· == 13) l).bind fun a l => (pairHex (fun d => decide (12 ≤ d)) l).bind fun b l => (hex l).bind fun c l => (hex l).bind fun d l =>
    .ok (enc ((x - 55296) * 1024 + (((a * 16 + b) * 16 + c) * 16 + d - 56320) + 65536)) l
def unicode (l : List Int) : PR (List Int) :=
  (hex l).bind fun a l => (hex l).bind fun b l => (hex l).bind fun c last => (hex last).bind fun d l =>
    let x := ((a * 16 + b) * 16 + c) * 16 + d
    if 56320 ≤ x ∧ x ≤ 57343 then .bad 3 last else if 55296 ≤ x ∧ x ≤ 56319 then pair x l else .ok (enc x) l
def escOf (c : Int) : Int := if c = 34 then 34 else if c = 92 then 92 else if c = 47 then 47 else if c = 98 then 8 else if c = 102 then 12 else if c = 110 then 10 else if c = 114 then 13 else if c = 116 then 9 else -1
def escape : List Int → PR (List Int)
  | [] => .bad 3 []
  | c :: r => if c = 117 then unicode r else if escOf c < 0 then .bad 3 (c :: r) else .ok [escOf c] r
/-- a text, behind its quote. -/
def text : Nat → List Int → PR (List Int)
  | 0, l => .bad 3 l
  | _ + 1, [] => .bad 3 []
  | m + 1, c :: r =>
    if c = 34 then .ok [] r
    else if c = 92 then (escape r).bind fun b r => (text m r).map (b ++ ·)
    else if c < 32 then .bad 3 (c :: r)
    else if c < 128 then (text m r).map (c :: ·)
    else (rune (c :: r)).bind fun b r => (text m r).map (b ++ ·)
/-! values -/
/-- does another part come? -/
def next (e : Int) (l : List Int) : PR Bool :=
  match blanks l with
  | [] => .bad 3 []
  | c :: r => if c = 44 then .ok true r else if c = e then .ok false r else .bad 3 (c :: r)
def elems (pv : List Int → PR JV) : Nat → List JV → List Int → PR (List JV)
  | 0, _, l => .bad 3 l
  | m + 1, acc, l => (pv l).bind fun x r => (next 93 r).bind fun b r => if b then elems pv m (acc ++ [x]) r else .ok (acc ++ [x]) r
def member (m : Nat) (names : List (List Int)) (l : List Int) : PR (List Int) :=
  match blanks l with
  | [] => .bad 3 []
  | c :: r => if c = 34 then (text m r).bind fun s r' => if names.any (· == s) = true then .bad 6 (c :: r) else (word [58] (blanks r')).bind fun _ r => .ok s r else .bad 3 (c :: r)
def members (pv : List Int → PR JV) (k : Nat) : Nat → List (List Int) → List JV → List Int → PR (List (List Int) × List JV)
  | 0, _, _, l => .bad 3 l
  | m + 1, ns, acc, l => (member k ns l).bind fun s r => (pv r).bind fun x r => (next 125 r).bind fun b r => if b then members pv k m (ns ++ [s]) (acc ++ [x]) r else .ok (ns ++ [s], acc ++ [x]) r
def vNull : JV := .mk 1 false [] 0 false [] []
def vBool (b : Bool) : JV := .mk 2 b [] 0 false [] []
def vText (s : List Int) : JV := .mk 4 false s 0 false [] []
def vList (l : List JV) : JV := .mk 5 false [] 0 false l []
def vObj (ns : List (List Int)) (l : List JV) : JV := .mk 6 false [] 0 false l ns
def listOf (pv : List Int → PR JV) (k : Nat) (l : List Int) : PR JV :=
  if hd (blanks l) = 93 then .ok (vList []) (blanks l).tail else (elems pv k [] (blanks l)).map vList
def objOf (pv : List Int → PR JV) (k : Nat) (l : List Int) : PR JV :=
  if hd (blanks l) = 125 then .ok (vObj [] []) (blanks l).tail else (members pv k k [] [] (blanks l)).map fun p => vObj p.1 p.2
/-- a value; 'd': how much deeper it may go; 'k': more than there are bytes. -/
def value (k : Nat) : Nat → List Int → PR JV
  | d, l =>
    let l := blanks l
    let c := hd l
    if c = 110 then (word [110, 117, 108, 108] l).map fun _ => vNull
    else if c = 116 then (word [116, 114, 117, 101] l).map fun _ => vBool true
    else if c = 102 then (word [102, 97, 108, 115, 101] l).map fun _ => vBool false
    else if c = 34 then (text k l.tail).map vText
    else if c = 91 then (match d with
      | 0 => .bad 5 l
      | d + 1 => listOf (value k d) k l.tail)
    else if c = 123 then (match d with
      | 0 => .bad 5 l
      | d + 1 => objOf (value k d) k l.tail)
    else number l
end Go.Sx.Js
/-! W06K: the program's reader: bytes, words, numbers. -/
namespace Go.Sx.YtmbakmdgmccgiaaDoor
open Go Go.Sx Go.Sx.Js
set_option autoImplicit false
set_option linter.unusedVariables false
set_option linter.unusedSimpArgs false
abbrev Pool := List (Int × (Int × Unit))
abbrev RS := (List Int) × Int × Int × Pool
structure At (s : List Int) (i : Nat) (l : List Int) : Prop where
  len : i + l.length = s.length
  drop : s.drop i = l
def Byt (s : List Int) : Prop := ∀ c ∈ s, 0 ≤ c ∧ c ≤ 255
/-- the reader stands ahead of 'l'. -/
def In (s l : List Int) (y : RS) : Prop := ∃ (i : Nat) (f : Int) (p : Pool), y = (s, (i : Int), f, p) ∧ f < 0 ∧ At s i l
/-- it has stopped, ahead of 'l', with an error. -/
def Er (s : List Int) (e : Int) (l : List Int) (y : RS) : Prop := ∃ (a f : Int) (p : Pool), y = (s, a, f, p) ∧ 0 ≤ f ∧ p[f.toNat]? = some ((s.length : Int) - l.length, e, ())
/-- the same, of a number's reading that began at 'i0'. -/
def AftN (s : List Int) (i0 : Nat) : PR Nat → RS → Prop
  | .ok k l => fun y => ∃ (f : Int) (p : Pool), y = (s, ((i0 + k : Nat) : Int), f, p) ∧ f < 0 ∧ At s (i0 + k) l
  | .bad e l => Er s e l
theorem At.zero (s : List Int) : At s 0 s := ⟨by omega, rfl⟩
theorem At.tail {s : List Int} {i : Nat} {c : Int} {l : List Int} (h : At s i (c :: l)) : At s (i + 1) l :=
  ⟨by have := h.len; simp only [List.length_cons] at this; omega, by rw [← List.drop_drop, h.drop]; rfl⟩
theorem At.mem {s : List Int} {i : Nat} {c : Int} {l : List Int} (h : At s i (c :: l)) : c ∈ s := List.mem_of_mem_drop (i := i) (by rw [h.drop]; simp)
theorem At.byt {s : List Int} {i : Nat} {l : List Int} (h : At s i l) (hs : Byt s) : Byt l := fun c hc => hs c (List.mem_of_mem_drop (i := i) (by rw [h.drop]; exact hc))
theorem At.place {s : List Int} {i : Nat} {l : List Int} (h : At s i l) : (i : Int) = (s.length : Int) - l.length := by have := h.len; omega
theorem At.take {s : List Int} {i k : Nat} {l r : List Int} (h : At s i l) (h2 : At s (i + k) r) : (s.drop i).take k = l.take k := by rw [h.drop]
theorem In.er {s l : List Int} {i : Nat} {p : Pool} {e : Int} (h : At s i l) : Er s e l (s, (i : Int), (p.length : Int), p ++ [((i : Int), (e, ()))]) :=
  ⟨i, p.length, _, rfl, by omega, by rw [h.place]; simp⟩
section
variable {n : Nat} {s : List Int}
theorem peek_ok (hs : Byt s) {i : Nat} {l : List Int} {f : Int} {p : Pool} (h : At s i l) (hf : f < 0) : jPeek n (s, (i : Int), f, p) = some (hd l, s, (i : Int), f, p) := by
  have hlen := h.len
  unfold jPeek
  simp only
  rw [if_neg (by simpa using hf)]
  cases l with
  | nil =>
    simp only [List.length_nil] at hlen
    rw [if_pos (by simp; omega)]
    rfl
  | cons c l =>
    simp only [List.length_cons] at hlen
    rw [if_neg (by simp; omega)]
    have hc := hs c h.mem
    have hi : idx s (i : Int) = some c := by
      unfold idx
      rw [if_pos (by omega)]
      have : (s.drop i)[0]? = some c := by rw [h.drop]; rfl
      rw [List.getElem?_drop] at this
      simpa using this
    rw [hi]
    simp only [Option.bind_some, hd]
    rw [wrap64 (by omega) (by omega)]
theorem peek_bad {a f : Int} {p : Pool} (hf : 0 ≤ f) : jPeek n (s, a, f, p) = some (-1, s, a, f, p) := by
  unfold jPeek
  simp only
  rw [if_pos (by simpa using hf)]
theorem fails_ok {t a e f : Int} {p : Pool} (hf : f < 0) : jFails n (t, e, s, a, f, p) = some (s, a, (p.length : Int), p ++ [(t, (e, ()))]) := by
  unfold jFails
  simp only
  rw [if_pos (by simpa using hf)]
theorem fails_bad {t a e f : Int} {p : Pool} (hf : 0 ≤ f) : jFails n (t, e, s, a, f, p) = some (s, a, f, p) := by
  unfold jFails
  simp only
  rw [if_neg (by simpa using hf)]
theorem tail_in {i : Nat} {c : Int} {r : List Int} {f : Int} {p : Pool} (hl : s.length ≤ 4611686018427387904) (h : At s i (c :: r)) : IntKind.wrap .i64 ((i : Int) + 1) = ((i + 1 : Nat) : Int) := by
  have hlen := h.len
  simp only [List.length_cons] at hlen
  rw [wrap64 (by omega) (by omega)]
  omega
theorem step_go (hl : s.length ≤ 4611686018427387904) {i0 k : Nat} {l : List Int} {f : Int} {p : Pool} (h : At s (i0 + k) l) (hf : f < 0) (hne : l ≠ []) : Gives (jStep n ((i0 : Int), s, ((i0 + k : Nat) : Int), f, p)) (AftN s i0 (Js.step k l)) := by
  have hlen := h.len
  unfold jStep
  simp only
  rw [wrap64 (by omega) (by omega)]
  refine Gives.dite (fun hge => ?_) fun hlt => ?_
  · refine Gives.bind_eq (fails_ok hf) (Gives.of_some ?_)
    unfold Js.step
    rw [if_pos (by omega)]
    exact In.er h
  · unfold Js.step
    rw [if_neg (by omega)]
    cases l with
    | nil => exact absurd rfl hne
    | cons c r =>
      rw [tail_in (f := f) (p := p) hl h]
      exact Gives.of_some ⟨f, p, rfl, hf, h.tail⟩
theorem hd_digit {l : List Int} (h : 48 ≤ hd l ∧ hd l ≤ 57) : ∃ c r, l = c :: r ∧ isDigit c = true := by
  cases l with
  | nil => simp [hd] at h
  | cons c r => exact ⟨c, r, rfl, by simpa [hd, isDigit] using h⟩
theorem digits1_stop {k : Nat} {any : Bool} {l : List Int} (h : ¬ (48 ≤ hd l ∧ hd l ≤ 57)) : digits1 k any l = if any then .ok k l else .bad 3 l := by
  cases l with
  | nil => cases any <;> rfl
  | cons c r =>
    unfold digits1
    rw [if_neg (by simpa [hd, isDigit] using h)]
theorem digits_go (hs : Byt s) (hl : s.length ≤ 4611686018427387904) {i0 k : Nat} {l : List Int} {f : Int} {p : Pool} (h : At s (i0 + k) l) (hf : f < 0) (hn : l.length < n) : Gives (jDigits n ((i0 : Int), s, ((i0 + k : Nat) : Int), f, p)) (AftN s i0 (digits k l)) := by
  unfold jDigits
  simp only
  refine Gives.bind_eq (peek_ok hs h hf) ?_
  refine Gives.loop (fun z => ∃ (k' : Nat) (l' : List Int) (f : Int) (p : Pool), z = ((i0 : Int), ((i0 + k : Nat) : Int), hd l', s, ((i0 + k' : Nat) : Int), f, p) ∧ f < 0 ∧ k ≤ k' ∧ At s (i0 + k') l' ∧ digits1 k' (decide (k ≠ k')) l' = digits k l) (fun z => s.length - z.2.2.2.2.1.toNat) (fun rec z hz hrec => ?_) n _ ⟨k, l, f, p, rfl, hf, by omega, h, by simp [digits]⟩ (by have := h.len; simp; omega)
  clear hf
  obtain ⟨k', l', f, p, rfl, hf, hk, h', hb⟩ := hz
  dsimp only at hrec ⊢
  have stop : ¬ (48 ≤ hd l' ∧ hd l' ≤ 57) → Gives (if (((i0 + k' : Nat) : Int) == ((i0 + k : Nat) : Int)) = true then Option.bind (jFails n (((i0 + k' : Nat) : Int), (3 : Int), s, ((i0 + k' : Nat) : Int), f, p)) fun r18 => some (r18.1, (r18.2.1, (r18.2.2.1, r18.2.2.2))) else some (s, ((i0 + k' : Nat) : Int), f, p)) (AftN s i0 (digits k l)) := by
    intro hns
    rw [← hb, digits1_stop hns]
    refine Gives.eite (fun e => ?_) fun hne => ?_
    · have : k = k' := by omega
      subst this
      refine Gives.bind_eq (fails_ok hf) (Gives.of_some ?_)
      rw [if_neg (by simp)]
      exact In.er h'
    · rw [if_pos (by simp; omega)]
      exact Gives.of_some ⟨f, p, rfl, hf, h'⟩
  refine Gives.dite (fun h1 => Gives.dite (fun h2 => ?_) fun h2 => stop (by omega)) fun h1 => stop (by omega)
  obtain ⟨c, r, rfl, hd'⟩ := hd_digit ⟨by omega, h2⟩
  refine Gives.bind (step_go hl h' hf (by simp)) fun y hy => ?_
  have hstep : digits1 k' (decide (k ≠ k')) (c :: r) = if 64 ≤ k' then .bad 3 (c :: r) else digits1 (k' + 1) true r := by
    conv => lhs; unfold digits1
    rw [if_pos hd']
  rw [hstep] at hb
  unfold Js.step at hy
  by_cases h64 : 64 ≤ k'
  · rw [if_pos h64] at hy hb
    rw [← hb]
    obtain ⟨a, f', p', rfl, hf', hp⟩ := hy
    refine Gives.pos (by simp; omega) (Gives.of_some ⟨a, f', p', rfl, hf', hp⟩)
  · rw [if_neg h64] at hy hb
    obtain ⟨f', p', rfl, hf', hp⟩ := hy
    refine Gives.neg (by simpa using hf') ?_
    refine Gives.bind_eq (peek_ok hs hp hf') ?_
    refine hrec _ ⟨k' + 1, r, f', p', rfl, hf', by omega, hp, ?_⟩ ?_
    · rw [← hb, show decide (k ≠ k' + 1) = true from by simp; omega]
    · have := hp.len
      dsimp only
      omega
theorem digits_bad {y : RS} {e : Int} {l : List Int} {i0 : Int} (h : Er s e l y) (hn : 0 < n) : jDigits n (i0, y) = some y := by
  obtain ⟨a, f, p, rfl, hf, h⟩ := h
  obtain ⟨m, rfl⟩ : ∃ m, n = m + 1 := ⟨n - 1, by omega⟩
  unfold jDigits
  simp only
  rw [peek_bad hf]
  simp only [Option.bind_some]
  unfold loopF
  simp only
  rw [if_neg (by simp), if_pos (by simp), fails_bad hf]
  rfl
end
end Go.Sx.YtmbakmdgmccgiaaDoor
/-! W06L: the program's reader: digits, escapes. -/
namespace Go.Sx.YtmbakmdgmccgiaaDoor
open Go Go.Sx Go.Sx.Js
set_option autoImplicit false
set_option linter.unusedVariables false
set_option linter.unusedSimpArgs false
section
variable {n : Nat} {s : List Int}
end
end Go.Sx.YtmbakmdgmccgiaaDoor
/-! W06M: the program's reader: codes of texts. -/
namespace Go.Sx.YtmbakmdgmccgiaaDoor
open Go Go.Sx Go.Sx.Js
set_option autoImplicit false
set_option linter.unusedVariables false
set_option linter.unusedSimpArgs false
theorem bind_ok {α β : Type} {r : PR α} {f : α → List Int → PR β} {y : β} {l : List Int} (h : r.bind f = .ok y l) : ∃ x l', r = .ok x l' ∧ f x l' = .ok y l := by
  cases r with
  | ok x l' => exact ⟨x, l', rfl, h⟩
  | bad e l' => cases h
theorem map_ok {α β : Type} {r : PR α} {f : α → β} {y : β} {l : List Int} (h : r.map f = .ok y l) : ∃ x, r = .ok x l ∧ f x = y := by
  cases r with
  | ok x l' => injection h with h1 h2; subst h2; exact ⟨x, rfl, h1⟩
  | bad e l' => cases h
section
variable {n : Nat} {s : List Int}
end
end Go.Sx.YtmbakmdgmccgiaaDoor
/-! W06N: the program's reader: escapes, texts. -/
namespace Go.Sx.YtmbakmdgmccgiaaDoor
open Go Go.Sx Go.Sx.Js
set_option autoImplicit false
set_option linter.unusedVariables false
set_option linter.unusedSimpArgs false
section
variable {n : Nat} {s : List Int}
end
end Go.Sx.YtmbakmdgmccgiaaDoor
/-! W06O: the program's reader: escapes, runes, texts. -/
namespace Go.Sx.YtmbakmdgmccgiaaDoor
open Go Go.Sx Go.Sx.Js
set_option autoImplicit false
set_option linter.unusedVariables false
set_option linter.unusedSimpArgs false
section
variable {n : Nat} {s : List Int}
theorem bounds_rng (c : Int) : (bounds c).1 ≤ 3 ∧ 0 ≤ (bounds c).2.1 ∧ (bounds c).2.1 ≤ 255 ∧ 0 ≤ (bounds c).2.2 ∧ (bounds c).2.2 ≤ 255 := by
  unfold bounds
  repeat' split
  all_goals simp
theorem idx_at {i : Nat} {c : Int} {r : List Int} (h : At s i (c :: r)) : idx s (i : Int) = some c := by
  unfold idx
  rw [if_pos (by omega)]
  have : (s.drop i)[0]? = some c := by rw [h.drop]; rfl
  rw [List.getElem?_drop] at this
  simpa using this
end
end Go.Sx.YtmbakmdgmccgiaaDoor
/-! W06P: the program's reader: texts. -/
namespace Go.Sx.YtmbakmdgmccgiaaDoor
open Go Go.Sx Go.Sx.Js
set_option autoImplicit false
set_option linter.unusedVariables false
set_option linter.unusedSimpArgs false
theorem conts_len : ∀ {m : Nat} {lo hi : Int} {l r b : List Int}, conts m lo hi l = .ok b r → b.length + r.length = l.length
  | 0, lo, hi, l, r, b, h => by injection h with h1 h2; subst h1 h2; simp
  | m + 1, lo, hi, [], r, b, h => by cases h
  | m + 1, lo, hi, c :: l, r, b, h => by
    unfold conts at h
    split at h
    · cases h
    · obtain ⟨b', h1, rfl⟩ := map_ok h
      have := conts_len h1
      simp; omega
theorem rune_cons (c : Int) (r : List Int) : Js.rune (c :: r) = if (bounds c).1 = 0 then .bad 3 (c :: r) else (conts (bounds c).1 (bounds c).2.1 (bounds c).2.2 r).map (c :: ·) := rfl
theorem rune_len {l r b : List Int} (h : Js.rune l = .ok b r) : b.length + r.length = l.length ∧ 0 < b.length := by
  cases l with
  | nil => cases h
  | cons c l =>
    rw [rune_cons] at h
    split at h
    · cases h
    · obtain ⟨b', h1, rfl⟩ := map_ok h
      have := conts_len h1
      simp; omega
section
variable {n : Nat} {s : List Int}
theorem map_map {α β γ : Type} (f : α → β) (g : β → γ) (r : PR α) : (r.map f).map g = r.map (fun x => g (f x)) := by cases r <;> rfl
end
end Go.Sx.YtmbakmdgmccgiaaDoor
