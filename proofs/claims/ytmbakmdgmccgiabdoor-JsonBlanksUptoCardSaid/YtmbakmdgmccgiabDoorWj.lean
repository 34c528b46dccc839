/- Part of a proof by a small interpreter on plain values; no condition. -/
import Derived.Test.YtmbakmdgmccgiabDoorSx37
/-! W06J: JSON texts, plainly: a reader over lists of bytes. -/
namespace Go.Sx.Js
open Go Go.Sx
set_option autoImplicit false
set_option linter.unusedVariables false
set_option linter.unusedSimpArgs false
/-- what a reading comes to: a value and the rest; or an error, and the rest from its place on. -/
inductive PR (α : Type) where
  | ok (x : α) (rest : List Int)
  | bad (e : Int) (rest : List Int)
def PR.bind {α β : Type} : PR α → (α → List Int → PR β) → PR β
  | .ok x l, f => f x l
  | .bad e l, _ => .bad e l
def PR.map {α β : Type} (f : α → β) : PR α → PR β
  | .ok x l => .ok (f x) l
  | .bad e l => .bad e l
/-- the next byte; -1: there is none. -/
def hd : List Int → Int
  | [] => -1
  | c :: _ => c
def isBlank (c : Int) : Bool := c == 32 || c == 9 || c == 10 || c == 13
def blanks : List Int → List Int
  | [] => []
  | c :: r => if isBlank c = true then blanks r else c :: r
def word : List Int → List Int → PR Unit
  | [], l => .ok () l
  | c :: w, d :: l => if d = c then word w l else .bad 3 (d :: l)
  | _ :: _, [] => .bad 3 []
def isDigit (c : Int) : Bool := decide (48 ≤ c) && decide (c ≤ 57)
/-! numbers: 'k' bytes have been taken -/
def step (k : Nat) (l : List Int) : PR Nat := if 64 ≤ k then .bad 3 l else .ok (k + 1) l.tail
def digits1 : Nat → Bool → List Int → PR Nat
  | k, any, [] => if any then .ok k [] else .bad 3 []
  | k, any, c :: r => if isDigit c = true then (if 64 ≤ k then .bad 3 (c :: r) else digits1 (k + 1) true r) else if any then .ok k (c :: r) else .bad 3 (c :: r)
def digits (k : Nat) (l : List Int) : PR Nat := digits1 k false l
def numSign (l : List Int) : PR Nat := if hd l = 45 then step 0 l else .ok 0 l
def numInt (k : Nat) (l : List Int) : PR Nat := if hd l = 48 then step k l else digits k l
def numFrac (k : Nat) (l : List Int) : PR (Nat × Bool) := if hd l = 46 then (step k l).bind fun k l => (digits k l).map fun k => (k, false) else .ok (k, true) l
def numExpSign (k : Nat) (l : List Int) : PR Nat := if hd l = 43 ∨ hd l = 45 then step k l else .ok k l
def numExp (k : Nat) (w : Bool) (l : List Int) : PR (Nat × Bool) := if hd l = 101 ∨ hd l = 69 then (step k l).bind fun k l => (numExpSign k l).bind fun k l => (digits k l).map fun k => (k, false) else .ok (k, w) l
/-- a number's text: how many bytes; is it whole? -/
def numText (l : List Int) : PR (Nat × Bool) := (numSign l).bind fun k l => (numInt k l).bind fun k l => (numFrac k l).bind fun p l => numExp p.1 p.2 l
/-- a whole number, below 0 gone through. -/
def intLoop : List Int → Int → Option Int
  | [], n => some n
  | c :: r, n => if n < Int.tdiv (-9223372036854775808 + (c - 48)) 10 then none else intLoop r (10 * n - (c - 48))
def integerOf (t : List Int) : Int × Bool :=
  if hd t = 45 then (match intLoop t.tail 0 with
    | some n => (n, true)
    | none => (0, false))
  else match intLoop t 0 with
    | some n => if n = -9223372036854775808 then (0, false) else (-n, true)
    | none => (0, false)
def numVal (t : List Int) (w : Bool) : JV := if w then .mk 3 false t (integerOf t).1 (integerOf t).2 [] [] else .mk 3 false t 0 false [] []
def number (l : List Int) : PR JV := (numText l).bind fun p r => .ok (numVal (l.take p.1) p.2) r
/-! texts -/
/-- the bounds of a second byte, and how many more come. -/
def bounds (c : Int) : Nat × Int × Int :=
  if 194 ≤ c ∧ c ≤ 223 then (1, 128, 191) else if c = 224 then (2, 160, 191) else if c = 237 then (2, 128, 159) else if 225 ≤ c ∧ c ≤ 239 then (2, 128, 191)
  else if c = 240 then (3, 144, 191) else if 241 ≤ c ∧ c ≤ 243 then (3, 128, 191) else if c = 244 then (3, 128, 143) else (0, 0, 0)
/-- 'm' bytes more, the first within bounds. -/
def conts : Nat → Int → Int → List Int → PR (List Int)
  | 0, _, _, l => .ok [] l
  | m + 1, lo, hi, [] => .bad 3 []
  | m + 1, lo, hi, c :: r => if c < lo ∨ c > hi then .bad 3 (c :: r) else (conts m 128 191 r).map (c :: ·)
/-- the bytes of a rune that is not plain. -/
def rune : List Int → PR (List Int)
  | [] => .bad 3 []
  | c :: r => if (bounds c).1 = 0 then .bad 3 (c :: r) else (conts (bounds c).1 (bounds c).2.1 (bounds c).2.2 r).map (c :: ·)
def hexOf (c : Int) : Int := if 48 ≤ c ∧ c ≤ 57 then c - 48 else if 97 ≤ c ∧ c ≤ 102 then c - 87 else if 65 ≤ c ∧ c ≤ 70 then c - 55 else -1
def hex : List Int → PR Int
  | [] => .bad 3 []
  | c :: r => if hexOf c < 0 then .bad 3 (c :: r) else .ok (hexOf c) r
/-- a number as UTF-8. -/
def enc (n : Int) : List Int :=
  if n < 128 then [n] else if n < 2048 then [192 + n / 64, 128 + n % 64] else if n < 65536 then [224 + n / 4096, 128 + n / 64 % 64, 128 + n % 64]
  else [240 + n / 262144, 128 + n / 4096 % 64, 128 + n / 64 % 64, 128 + n % 64]
/-- four digits, each one as asked. -/
def pairHex (ok : Int → Bool) (l : List Int) : PR Int := (hex l).bind fun d r => if ok d then .ok d r else .bad 3 l
def pair (x : Int) (l : List Int) : PR (List Int) :=
  (word [92, 117] l).bind fun _ l => (pairHex (· == 13) l).bind fun a l => (pairHex (fun d => decide (12 ≤ d)) l).bind fun b l => (hex l).bind fun c l => (hex l).bind fun d l =>
    .ok (enc ((x - 55296) * 1024 + (((a * 16 + b) * 16 + c) * 16 + d - 56320) + 65536)) l
def unicode (l : List Int) : PR (List Int) :=
  (hex l).bind fun a l => (hex l).bind fun b l => (hex l).bind fun c last => (hex last).bind fun d l =>
    let x := ((a * 16 + b) * 16 + c) * 16 + d
    if 56320 ≤ x ∧ x ≤ 57343 then .bad 3 last else if 55296 ≤ x ∧ x ≤ 56319 then pair x l else .ok (enc x) l
def escOf (c : Int) : Int := if c = 34 then 34 else if c = 92 then 92 else if c = 47 then 47 else if c = 98 then 8 else if c = 102 then 12 else if c = 110 then 10 else if c = 114 then 13 else if c = 116 then 9 else -1
def escape : List Int → PR (List Int)
  | [] => .bad 3 []
  | c :: r => if c = 117 then unicode r else if escOf c < 0 then .bad 3 (c :: r) else .ok [escOf c] r
/-- a text, behind its quote. -/
def text : Nat → List Int → PR (List Int)
  | 0, l => .bad 3 l
  | _ + 1, [] => .bad 3 []
  | m + 1, c :: r =>
    if c = 34 then .ok [] r
    else if c = 92 then (escape r).bind fun b r => (text m r).map (b ++ ·)
    else if c < 32 then .bad 3 (c :: r)
    else if c < 128 then (text m r).map (c :: ·)
    else (rune (c :: r)).bind fun b r => (text m r).map (b ++ ·)
/-! values -/
/-- does another part come? -/
def next (e : Int) (l : List Int) : PR Bool :=
  match blanks l with
  | [] => .bad 3 []
  | c :: r => if c = 44 then .ok true r else if c = e then .ok false r else .bad 3 (c :: r)
def elems (pv : List Int → PR JV) : Nat → List JV → List Int → PR (List JV)
  | 0, _, l => .bad 3 l
  | m + 1, acc, l => (pv l).bind fun x r => (next 93 r).bind fun b r => if b then elems pv m (acc ++ [x]) r else .ok (acc ++ [x]) r
def member (m : Nat) (names : List (List Int)) (l : List Int) : PR (List Int) :=
  match blanks l with
  | [] => .bad 3 []
  | c :: r => if c = 34 then (text m r).bind fun s r' => if names.any (· == s) = true then .bad 6 (c :: r) else (word [58] (blanks r')).bind fun _ r => .ok s r else .bad 3 (c :: r)
def members (pv : List Int → PR JV) (k : Nat) : Nat → List (List Int) → List JV → List Int → PR (List (List Int) × List JV)
  | 0, _, _, l => .bad 3 l
  | m + 1, ns, acc, l => (member k ns l).bind fun s r => (pv r).bind fun x r => (next 125 r).bind fun b r => if b then members pv k m (ns ++ [s]) (acc ++ [x]) r else .ok (ns ++ [s], acc ++ [x]) r
def vNull : JV := .mk 1 false [] 0 false [] []
def vBool (b : Bool) : JV := .mk 2 b [] 0 false [] []
def vText (s : List Int) : JV := .mk 4 false s 0 false [] []
def vList (l : List JV) : JV := .mk 5 false [] 0 false l []
def vObj (ns : List (List Int)) (l : List JV) : JV := .mk 6 false [] 0 false l ns
def listOf (pv : List Int → PR JV) (k : Nat) (l : List Int) : PR JV :=
  if hd (blanks l) = 93 then .ok (vList []) (blanks l).tail else (elems pv k [] (blanks l)).map vList
def objOf (pv : List Int → PR JV) (k : Nat) (l : List Int) : PR JV :=
  if hd (blanks l) = 125 then .ok (vObj [] []) (blanks l).tail else (members pv k k [] [] (blanks l)).map fun p => vObj p.1 p.2
/-- a value; 'd': how much deeper it may go; 'k': more than there are bytes. -/
def value (k : Nat) : Nat → List Int → PR JV
  | d, l =>
    let l := blanks l
    let c := hd l
    if c = 110 then (word [110, 117, 108, 108] l).map fun _ => vNull
    else if c = 116 then (word [116, 114, 117, 101] l).map fun _ => vBool true
    else if c = 102 then (word [102, 97, 108, 115, 101] l).map fun _ => vBool false
    else if c = 34 then (text k l.tail).map vText
    else if c = 91 then (match d with
      | 0 => .bad 5 l
      | d + 1 => listOf (value k d) k l.tail)
    else if c = 123 then (match d with
      | 0 => .bad 5 l
      | d + 1 => objOf (value k d) k l.tail)
    else number l
/-- a text's value, or the error and its place. -/
def parse (s : List Int) : JV × Int × Int :=
  if 1048576 < s.length then (JV.zero, 0, 2) else
  match value (s.length + 1) 32 s with
  | .bad e r => (JV.zero, (s.length : Int) - r.length, e)
  | .ok v r => match blanks r with
    | [] => (v, s.length, 0)
    | c :: r => (JV.zero, (s.length : Int) - (r.length + 1), 3)
end Go.Sx.Js
