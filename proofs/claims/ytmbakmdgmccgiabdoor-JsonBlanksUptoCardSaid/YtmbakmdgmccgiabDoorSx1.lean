/- Part of a proof by a small interpreter on plain values; no condition. -/
import Derived.Orders
import Derived.KernelRfl
/-! A small interpreter on pure values for the model's code (Sx1): kinds, values, shapes, states, one operation, a region, code. -/
namespace Go.Sx
open Go
set_option autoImplicit false
set_option linter.unusedSimpArgs false
set_option linter.unusedVariables false

/-! ### kinds -/
/-- a tree of values: its kind, truth, text, number; is the number whole? its parts, their names. -/
inductive JV where
  | mk (kind : Int) (b : Bool) (text : List Int) (n : Int) (whole : Bool) (list : List JV) (names : List (List Int))
namespace JV
def kind : JV → Int | .mk k _ _ _ _ _ _ => k
def b : JV → Bool | .mk _ b _ _ _ _ _ => b
def text : JV → List Int | .mk _ _ t _ _ _ _ => t
def n : JV → Int | .mk _ _ _ n _ _ _ => n
def whole : JV → Bool | .mk _ _ _ _ w _ _ => w
def list : JV → List JV | .mk _ _ _ _ _ l _ => l
def names : JV → List (List Int) | .mk _ _ _ _ _ _ s => s
def zero : JV := .mk 0 false [] 0 false [] []
theorem eta (x : JV) : JV.mk x.kind x.b x.text x.n x.whole x.list x.names = x := by cases x; rfl
end JV
inductive K where
  | int (k : IntKind) | bool | str | err | unit | pair (a b : K) | list (a : K) | arr (n : Nat) (a : K)
  | js                               -- a tree of values: seven cells
  | nd (p : Nat)                     -- nil (below 0), or the address of node 'x' of pool 'p'
  deriving DecidableEq
@[reducible] def K.T : K → Type
  | .int _ => Int | .bool => Bool | .str => List Int | .err => Int | .unit => Unit
  | .pair a b => a.T × b.T | .list a => List a.T | .arr _ a => List a.T | .nd _ => Int | .js => JV
def K.sz : K → Nat
  | .unit => 0 | .pair a b => a.sz + b.sz | .arr n a => n * a.sz | .js => 7 | _ => 1
def K.zero : (κ : K) → κ.T
  | .int _ => (0 : Int) | .bool => false | .str => ([] : List Int) | .err => (0 : Int) | .unit => () | .pair a b => (a.zero, b.zero) | .list _ => [] | .arr n a => List.replicate n a.zero | .nd _ => (-1 : Int) | .js => JV.zero
/-- a value of one kind as one of another: the same kind. -/
def K.conv (a b : K) (x : a.T) : Option b.T := if h : a = b then some (h ▸ x) else none
/-- a part of a struct: 'n' cells from cell 'off' on. -/
def K.sub : (κ : K) → (off n : Nat) → Option (Σ κ' : K, κ.T → κ'.T)
  | .pair a b, off, n =>
    if off = 0 && a.sz == n then some ⟨a, fun x => x.1⟩
    else if a.sz ≤ off then (K.sub b (off - a.sz) n).map fun p => ⟨p.1, fun x => p.2 x.2⟩
    else (K.sub a off n).map fun p => ⟨p.1, fun x => p.2 x.1⟩
  | .js, off, n => if n = 1 then (match off with
      | 0 => some ⟨.int .i64, JV.kind⟩ | 1 => some ⟨.bool, JV.b⟩ | 2 => some ⟨.str, JV.text⟩ | 3 => some ⟨.int .i64, JV.n⟩ | 4 => some ⟨.bool, JV.whole⟩ | 5 => some ⟨.list .js, JV.list⟩ | 6 => some ⟨.list .str, JV.names⟩
      | _ => none) else if off = 0 ∧ n = 7 then some ⟨.js, fun x => x⟩ else none
  | κ, off, n => if off = 0 && κ.sz == n then some ⟨κ, fun x => x⟩ else none

/-! ### values -/
/-- what one cell holds. -/
inductive CV where
  | dat (κ : K) (x : κ.T)            -- a datum
  | nilp                             -- the nil pointer
  | nils                             -- the nil slice
  | nilm                             -- the nil map
  | ptr (h off : Nat)                -- the address of cell 'off' of object 'h'
  | elt (h sz : Nat) (i : Nat) (off : Nat)  -- the address of cell 'off' of element 'i' of row 'h'
  | roA (κ : K) (x : κ.T)            -- the address of memory that is read only and reads 'x'
  | own (h : Nat)                    -- the slice that is row 'h', whole
  | sub (h sz lo n : Nat)            -- a part of row 'h', of elements of 'sz' cells
  | fn (f : FuncId)
  | slf (h : Nat)                    -- nil, or the address of object 'h'
  | nn (κ : K) (x : List κ.T)        -- a slice that is not nil, read only
  | nl                               -- a slice that is nil
  | pel (h off sz i : Nat)           -- the address of element 'i' of the array at cell 'off' of object 'h'
  | psub (h off sz lo n : Nat)       -- a part of the array at cell 'off' of object 'h'
  | ful (κ : K) (x : List κ.T)       -- a slice, read only, without room behind it
  | oel (h sz : Nat) (x : Int)       -- nil (x < 0), or the address of element 'x' of row 'h'
  | ndf (p i off : Nat)              -- the address of cell 'off' of node 'i' of pool 'p'
  | clo (f : FuncId) (hs : List (Option Nat))  -- a function with variables: each nil, or the address of object 'h'
/-- some cells of a struct: one, or a datum's. -/
inductive Seg where
  | one (c : CV) | blk (κ : K) (x : κ.T)
inductive RV where
  | c (x : CV) | a (cs : List CV) | sg (ss : List Seg)
/-- a slot: a value, several, or what an operation leaves that was not wanted. -/
inductive SV where
  | r (v : RV) | t (vs : List RV) | u
inductive Ent where
  | cells (ty : TypeId) (cs : List CV)
  | row (ety : TypeId) (κ : K) (xs : List κ.T)
  | segs (ty : TypeId) (ss : List Seg)
  | mp (κk κv : K) (l : List (κk.T × κv.T))
  | it (s : List Int) (pos : Nat)    -- a text that is gone over, and where
  | pool (ty : TypeId) (κ : K) (xs : List κ.T)  -- objects of one type, each in a block of its own; its number is its key
inductive EnS where
  | free | dead | live (e : Ent) | ro (κ : K) (xs : List κ.T)
structure VSt where
  sl : Nat → Option SV
  en : Nat → EnS
  gl : Nat → Option CV               -- what is known of the package variables' addresses
def upd {α : Type} (f : Nat → α) (i : Nat) (v : α) : Nat → α := fun j => bif Nat.beq j i then v else f j
structure Delta where
  v : Option SV
  ups : List (Nat × EnS)
def upds (en : Nat → EnS) (l : List (Nat × EnS)) : Nat → EnS := l.foldl (fun e p => upd e p.1 p.2) en
def VSt.app (s : VSt) (dst : Option Tmp) (d : Delta) : VSt :=
  { sl := match dst with | some t => upd s.sl t d.v | none => s.sl, en := upds s.en d.ups, gl := s.gl }

def bytesL (s : ByteArray) : List Int := s.data.toList.map fun b => (b.toNat : Int)
def ilo : IntKind → Int
  | .i8 => -128 | .i16 => -32768 | .i32 => -2147483648 | .i64 => -9223372036854775808 | _ => 0
def ihi : IntKind → Int
  | .i8 => 127 | .i16 => 32767 | .i32 => 2147483647 | .i64 => 9223372036854775807
  | .u8 => 255 | .u16 => 65535 | .u32 => 4294967295 | .u64 => 18446744073709551615
def lim : Nat := 9223372036854775807
def constCV : Value → Option CV
  | .int k n => if ilo k ≤ n ∧ n ≤ ihi k then some (.dat (.int k) n) else none
  | .bool b => some (.dat .bool b)
  | .string s => if s.size ≤ lim then some (.dat .str (bytesL s)) else none
  | .nilIface => some (.dat .err (0 : Int))
  | .pointer none => some .nilp
  | .slice none 0 0 => some .nils
  | .map none => some .nilm
  | _ => none
def constCVs : List Value → Option (List CV)
  | [] => some []
  | v :: r => (constCV v).bind fun x => (constCVs r).map (x :: ·)
def constRV : Value → Option RV
  | .agg cs => (constCVs cs.toList).map .a
  | v => (constCV v).map .c
def VSt.ev (s : VSt) : Operand → Option SV
  | .tmp t => s.sl t
  | .const v => (constRV v).map .r
  | .global g => (s.gl g).map fun c => .r (.c c)
  | .func f => some (.r (.c (.fn f)))

/-! ### shapes -/
inductive CSh where
  | dat (κ : K) | nilp | nils | nilm | fnc (f : FuncId) | ptr (h off : Nat) | own (h : Nat) | errc (n : Int) | boolc (b : Bool) | arr (h sz : Nat) | slf (h : Nat) | nn (κ : K) | nl | ref (κ : K) | ful (κ : K) | part (h sz : Nat) | oel (h sz : Nat) | clo (f : FuncId) (hs : List (Option Nat))
inductive SSh where
  | one (c : CSh) | blk (κ : K)
inductive RSh where
  | c (x : CSh) | a (cs : List CSh) | sg (ss : List SSh)
inductive ESh where
  | cells (ty : TypeId) (cs : List CSh)
  | row (ety : TypeId) (κ : K)
  | segs (ty : TypeId) (ss : List SSh)
  | mp (κk κv : K)
  | it
  | pool (ty : TypeId) (κ : K)
structure Shape where
  vals : List RSh
  ents : List (Nat × ESh)

@[reducible] def Tup : List K → Type
  | [] => Unit
  | [a] => a.T
  | a :: b :: r => a.T × Tup (b :: r)
def Tup.hd : (a : K) → (r : List K) → Tup (a :: r) → a.T
  | _, [], x => x
  | _, _ :: _, x => x.1
def Tup.tl : (a : K) → (r : List K) → Tup (a :: r) → Tup r
  | _, [], _ => ()
  | _, _ :: _, x => x.2
def Tup.cons : (a : K) → (r : List K) → a.T → Tup r → Tup (a :: r)
  | _, [], x, _ => x
  | _, _ :: _, x, t => (x, t)

@[reducible] def CSh.ks : CSh → List K → List K
  | .dat κ, r => κ :: r
  | .nn κ, r => .list κ :: r
  | .ref κ, r => κ :: r
  | .ful κ, r => .list κ :: r
  | .part _ _, r => .int .i64 :: .int .i64 :: r
  | .oel _ _, r => .int .i64 :: r
  | _, r => r
@[reducible] def ksL : List CSh → List K → List K
  | [], r => r
  | c :: cs, r => c.ks (ksL cs r)
@[reducible] def SSh.ks : SSh → List K → List K
  | .one c, r => c.ks r
  | .blk κ, r => κ :: r
@[reducible] def ksS : List SSh → List K → List K
  | [], r => r
  | c :: cs, r => c.ks (ksS cs r)
@[reducible] def RSh.ks : RSh → List K → List K
  | .c x, r => x.ks r
  | .a cs, r => ksL cs r
  | .sg ss, r => ksS ss r
@[reducible] def ksR : List RSh → List K → List K
  | [], r => r
  | c :: cs, r => c.ks (ksR cs r)
@[reducible] def ESh.ks : ESh → List K → List K
  | .cells _ cs, r => ksL cs r
  | .row _ κ, r => .list κ :: r
  | .segs _ ss, r => ksS ss r
  | .mp κk κv, r => .list (.pair κk κv) :: r
  | .it, r => .str :: .int .i64 :: r
  | .pool _ κ, r => .list κ :: r
@[reducible] def ksE : List (Nat × ESh) → List K → List K
  | [], r => r
  | e :: es, r => e.2.ks (ksE es r)
@[reducible] def Shape.ks (sh : Shape) : List K := ksR sh.vals (ksE sh.ents [])
@[reducible] def Shape.T (sh : Shape) : Type := Tup sh.ks

def CSh.mk : (c : CSh) → (r : List K) → Tup (c.ks r) → CV × Tup r
  | .dat κ, r, x => (.dat κ (Tup.hd κ r x), Tup.tl κ r x)
  | .nilp, _, x => (.nilp, x)
  | .nils, _, x => (.nils, x)
  | .nilm, _, x => (.nilm, x)
  | .fnc f, _, x => (.fn f, x)
  | .clo f hs, _, x => (.clo f hs, x)
  | .errc n, _, x => (.dat .err n, x)
  | .boolc b, _, x => (.dat .bool b, x)
  | .ptr h off, _, x => (.ptr h off, x)
  | .own h, _, x => (.own h, x)
  | .arr h sz, _, x => (.elt h sz 0 0, x)
  | .slf h, _, x => (.slf h, x)
  | .nl, _, x => (.nl, x)
  | .ref κ, r, x => (.roA κ (Tup.hd κ r x), Tup.tl κ r x)
  | .nn κ, r, x => (.nn κ (Tup.hd (.list κ) r x), Tup.tl (.list κ) r x)
  | .ful κ, r, x => (.ful κ (Tup.hd (.list κ) r x), Tup.tl (.list κ) r x)
  | .part h sz, r, x => (.sub h sz (Int.toNat (Tup.hd (.int .i64) (.int .i64 :: r) x)) (Int.toNat (Tup.hd (.int .i64) r (Tup.tl (.int .i64) (.int .i64 :: r) x))), Tup.tl (.int .i64) r (Tup.tl (.int .i64) (.int .i64 :: r) x))
  | .oel h sz, r, x => (.oel h sz (Tup.hd (.int .i64) r x), Tup.tl (.int .i64) r x)
def mkL : (cs : List CSh) → (r : List K) → Tup (ksL cs r) → List CV × Tup r
  | [], _, x => ([], x)
  | c :: cs, r, x => let p := c.mk (ksL cs r) x; let q := mkL cs r p.2; (p.1 :: q.1, q.2)
def SSh.mk : (c : SSh) → (r : List K) → Tup (c.ks r) → Seg × Tup r
  | .one y, r, x => let p := y.mk r x; (.one p.1, p.2)
  | .blk κ, r, x => (.blk κ (Tup.hd κ r x), Tup.tl κ r x)
def mkS : (cs : List SSh) → (r : List K) → Tup (ksS cs r) → List Seg × Tup r
  | [], _, x => ([], x)
  | c :: cs, r, x => let p := c.mk (ksS cs r) x; let q := mkS cs r p.2; (p.1 :: q.1, q.2)
def RSh.mk : (c : RSh) → (r : List K) → Tup (c.ks r) → RV × Tup r
  | .c y, r, x => let p := y.mk r x; (.c p.1, p.2)
  | .a cs, r, x => let p := mkL cs r x; (.a p.1, p.2)
  | .sg ss, r, x => let p := mkS ss r x; (.sg p.1, p.2)
def mkR : (cs : List RSh) → (r : List K) → Tup (ksR cs r) → List RV × Tup r
  | [], _, x => ([], x)
  | c :: cs, r, x => let p := c.mk (ksR cs r) x; let q := mkR cs r p.2; (p.1 :: q.1, q.2)
def ESh.mk : (e : ESh) → (r : List K) → Tup (e.ks r) → Ent × Tup r
  | .cells ty cs, r, x => let p := mkL cs r x; (.cells ty p.1, p.2)
  | .row ety κ, r, x => (.row ety κ (Tup.hd (.list κ) r x), Tup.tl (.list κ) r x)
  | .segs ty ss, r, x => let p := mkS ss r x; (.segs ty p.1, p.2)
  | .mp κk κv, r, x => (.mp κk κv (Tup.hd (.list (.pair κk κv)) r x), Tup.tl (.list (.pair κk κv)) r x)
  | .pool ty κ, r, x => (.pool ty κ (Tup.hd (.list κ) r x), Tup.tl (.list κ) r x)
  | .it, r, x => (.it (Tup.hd .str (.int .i64 :: r) x) (Int.toNat (Tup.hd (.int .i64) r (Tup.tl .str (.int .i64 :: r) x))), Tup.tl (.int .i64) r (Tup.tl .str (.int .i64 :: r) x))
def mkE : (es : List (Nat × ESh)) → (r : List K) → Tup (ksE es r) → List (Nat × Ent) × Tup r
  | [], _, x => ([], x)
  | e :: es, r, x => let p := e.2.mk (ksE es r) x; let q := mkE es r p.2; ((e.1, p.1) :: q.1, q.2)
/-- the values and the objects of a shape, filled. -/
def Shape.vs (sh : Shape) (x : sh.T) : List RV := (mkR sh.vals (ksE sh.ents []) x).1
def Shape.es (sh : Shape) (x : sh.T) : List (Nat × Ent) := (mkE sh.ents [] (mkR sh.vals (ksE sh.ents []) x).2).1

/-! ### reading a state by a shape -/
/-- what has been met: the objects as they now are, what was turned, in order; the shape's numbers and what they stand for (none: a nil row). -/
structure GSt where
  en : Nat → EnS
  log : List (Nat × EnS)
  ren : List (Nat × Option Nat)
  dom : List Nat
def GSt.set (g : GSt) (h : Nat) (e : EnS) : GSt := { g with en := upd g.en h e, log := g.log ++ [(h, e)] }
def GSt.bind? (g : GSt) (h : Nat) (h' : Option Nat) : Option GSt :=
  if !(g.dom.any (Nat.beq h)) then none else
  match g.ren.lookup h with
  | some x => match x, h' with
    | some i, some j => if i = j then some g else none
    | _, _ => none
  | none => match h' with
    | none => some { g with ren := (h, none) :: g.ren }
    | some i => if g.ren.any (fun p => p.2 == some i) then none else some { g with ren := (h, some i) :: g.ren }
def GSt.bindAll : GSt → List (Option Nat) → List (Option Nat) → Option GSt
  | g, [], [] => some g
  | g, none :: r, none :: r' => g.bindAll r r'
  | g, some h :: r, some h' :: r' => (g.bind? h (some h')).bind fun g' => g'.bindAll r r'
  | _, _, _ => none
/-- a row that is given away to be read only. -/
def roRow (g : GSt) (h : Nat) : Option ((κ : K) × List κ.T × GSt) :=
  match g.en h with
  | .live (.row _ κ xs) => some ⟨κ, xs, g.set h (.ro κ xs)⟩
  | .ro κ xs => some ⟨κ, xs, g⟩
  | _ => none
/-- a cell as a datum of kind κ. -/
def toDat (g : GSt) (κ : K) : CV → Option (κ.T × GSt)
  | .dat κ' x => (K.conv κ' κ x).map (·, g)
  | .nn κ' x => (K.conv (.list κ') κ x).map (·, g)
  | .ful κ' x => (K.conv (.list κ') κ x).map (·, g)
  | .nils => match κ with
    | .list _ => some ([], g)
    | _ => none
  | .nilp => match κ with
    | .nd _ => some ((-1 : Int), g)
    | _ => none
  | .own h => (roRow g h).bind fun ⟨κ', xs, g'⟩ => (K.conv (.list κ') κ xs).map (·, g')
  | .sub h sz lo n => (roRow g h).bind fun ⟨κ', xs, g'⟩ => if sz = κ'.sz then (K.conv (.list κ') κ ((xs.drop lo).take n)).map (·, g') else none
  | _ => none
/-- are two errors one? -/
def errEq (a b : Int) : Bool := a == b
def boolEq (a b : Bool) : Bool := a == b
def CSh.get (r : List K) (g : GSt) : (c : CSh) → CV → Option ((Tup r → Tup (c.ks r)) × GSt)
  | .dat κ, v => (toDat g κ v).map fun p => (fun t => Tup.cons κ r p.1 t, p.2)
  | .nilp, .nilp => some (fun t => t, g)
  | .nils, .nils => some (fun t => t, g)
  | .nilm, .nilm => some (fun t => t, g)
  | .fnc f, .fn f' => if f = f' then some (fun t => t, g) else none
  | .clo f hs, .clo f' hs' => if f = f' then (g.bindAll hs hs').map fun g' => (fun t => t, g') else none
  | .errc n, .dat .err m => if errEq m n = true then some (fun t => t, g) else none
  | .boolc b, .dat .bool c => if boolEq c b = true then some (fun t => t, g) else none
  | .ptr h off, .ptr h' off' => if off = off' then (g.bind? h (some h')).map fun g' => (fun t => t, g') else none
  | .own h, .own h' => (g.bind? h (some h')).map fun g' => (fun t => t, g')
  | .own h, .nils => (g.bind? h none).map fun g' => (fun t => t, g')
  | .arr h sz, .elt h' sz' i off => if sz = sz' ∧ i = 0 ∧ off = 0 then (g.bind? h (some h')).map fun g' => (fun t => t, g') else none
  | .slf _, .nilp => some (fun t => t, g)
  | .slf h, .ptr h' off => if off = 0 then (g.bind? h (some h')).map fun g' => (fun t => t, g') else none
  | .slf h, .slf h' => (g.bind? h (some h')).map fun g' => (fun t => t, g')
  | .nl, .nl => some (fun t => t, g)
  | .ref κ, .roA κ' x => (K.conv κ' κ x).map fun y => (fun t => Tup.cons κ r y t, g)
  | .nn κ, .nn κ' x => (K.conv (.list κ') (.list κ) x).map fun y => (fun t => Tup.cons (.list κ) r y t, g)
  | .ful κ, .ful κ' x => (K.conv (.list κ') (.list κ) x).map fun y => (fun t => Tup.cons (.list κ) r y t, g)
  | .part h sz, .sub h' sz' lo n => if sz = sz' then (g.bind? h (some h')).map fun g' => (fun t => Tup.cons (.int .i64) (.int .i64 :: r) (lo : Int) (Tup.cons (.int .i64) r (n : Int) t), g') else none
  | .part h sz, .own h' => match g.en h' with
    | .live (.row _ κ xs) => if sz = κ.sz then (g.bind? h (some h')).map fun g' => (fun t => Tup.cons (.int .i64) (.int .i64 :: r) (0 : Int) (Tup.cons (.int .i64) r (xs.length : Int) t), g') else none
    | _ => none
  | .oel _ _, .nilp => some (fun t => Tup.cons (.int .i64) r (-1 : Int) t, g)
  | .oel h sz, .elt h' sz' i off => if sz = sz' ∧ off = 0 then (g.bind? h (some h')).map fun g' => (fun t => Tup.cons (.int .i64) r (i : Int) t, g') else none
  | .oel h sz, .oel h' sz' x => if sz = sz' then (g.bind? h (some h')).map fun g' => (fun t => Tup.cons (.int .i64) r x t, g') else none
  | _, _ => none
def getL (r : List K) : GSt → (cs : List CSh) → List CV → Option ((Tup r → Tup (ksL cs r)) × GSt)
  | g, [], [] => some (fun t => t, g)
  | g, c :: cs, v :: vs => (c.get (ksL cs r) g v).bind fun p => (getL r p.2 cs vs).map fun q => (fun t => p.1 (q.1 t), q.2)
  | _, _, _ => none
def SSh.get (r : List K) (g : GSt) : (c : SSh) → Seg → Option ((Tup r → Tup (c.ks r)) × GSt)
  | .one y, .one v => CSh.get r g y v
  | .blk κ, .blk κ' x => (K.conv κ' κ x).map fun y => (fun t => Tup.cons κ r y t, g)
  | _, _ => none
def getS (r : List K) : GSt → (cs : List SSh) → List Seg → Option ((Tup r → Tup (ksS cs r)) × GSt)
  | g, [], [] => some (fun t => t, g)
  | g, c :: cs, v :: vs => (c.get (ksS cs r) g v).bind fun p => (getS r p.2 cs vs).map fun q => (fun t => p.1 (q.1 t), q.2)
  | _, _, _ => none
def RSh.get (r : List K) (g : GSt) : (c : RSh) → RV → Option ((Tup r → Tup (c.ks r)) × GSt)
  | .c y, .c v => CSh.get r g y v
  | .a cs, .a vs => getL r g cs vs
  | .sg ss, .sg vs => getS r g ss vs
  | _, _ => none
def getR (r : List K) : GSt → (cs : List RSh) → List RV → Option ((Tup r → Tup (ksR cs r)) × GSt)
  | g, [], [] => some (fun t => t, g)
  | g, c :: cs, v :: vs => (RSh.get (ksR cs r) g c v).bind fun p => (getR r p.2 cs vs).map fun q => (fun t => p.1 (q.1 t), q.2)
  | _, _, _ => none
def ESh.get (r : List K) (g : GSt) (h : Nat) : (e : ESh) → Option ((Tup r → Tup (e.ks r)) × GSt)
  | .cells ty cs => match g.ren.lookup h with
    | some (some i) => match g.en i with
      | .live (.cells ty' vs) => if ty = ty' then getL r (g.set i .dead) cs vs else none
      | _ => none
    | _ => none
  | .segs ty ss => match g.ren.lookup h with
    | some (some i) => match g.en i with
      | .live (.segs ty' vs) => if ty = ty' then getS r (g.set i .dead) ss vs else none
      | _ => none
    | _ => none
  | .row ety κ => match g.ren.lookup h with
    | some (some i) => match g.en i with
      | .live (.row ety' κ' xs) => if ety = ety' then (K.conv (.list κ') (.list κ) xs).map fun y => (fun t => Tup.cons (.list κ) r y t, g.set i .dead) else none
      | _ => none
    | some none => some (fun t => Tup.cons (.list κ) r ([] : List κ.T) t, g)
    | none => none
  | .mp κk κv => match g.ren.lookup h with
    | some (some i) => match g.en i with
      | .live (.mp κk' κv' l) => (K.conv (.list (.pair κk' κv')) (.list (.pair κk κv)) l).map fun y => (fun t => Tup.cons (.list (.pair κk κv)) r y t, g.set i .dead)
      | _ => none
    | _ => none
  | .pool ty κ => (g.bind? h (some h)).bind fun g => match g.en h with
      | .live (.pool ty' κ' xs) => if ty = ty' then (K.conv (.list κ') (.list κ) xs).map fun y => (fun t => Tup.cons (.list κ) r y t, g.set h .dead) else none
      | _ => none
  | .it => match g.ren.lookup h with
    | some (some i) => match g.en i with
      | .live (.it l pos) => some (fun t => Tup.cons .str (.int .i64 :: r) l (Tup.cons (.int .i64) r (pos : Int) t), g.set i .dead)
      | _ => none
    | _ => none
def getE (r : List K) : GSt → (es : List (Nat × ESh)) → Option ((Tup r → Tup (ksE es r)) × GSt)
  | g, [] => some (fun t => t, g)
  | g, e :: es => (ESh.get (ksE es r) g e.1 e.2).bind fun p => (getE r p.2 es).map fun q => (fun t => p.1 (q.1 t), q.2)
def Shape.get (sh : Shape) (vs : List RV) (en : Nat → EnS) : Option (sh.T × GSt) :=
  (getR (ksE sh.ents []) ⟨en, [], [], sh.ents.map (·.1)⟩ sh.vals vs).bind fun p => (getE [] p.2 sh.ents).map fun q => (p.1 (q.1 ()), q.2)

/-! ### contracts -/
@[reducible] def AltT : List Shape → Type
  | [] => Empty
  | [s] => s.T
  | s :: t :: r => s.T ⊕ AltT (t :: r)
structure Spec where
  pre : Shape
  post : List Shape
  run : pre.T → Option (AltT post)
def altS : (l : List Shape) → AltT l → (s : Shape) × s.T
  | [], y => nomatch y
  | [s], y => ⟨s, y⟩
  | s :: t :: r, y => match y with
    | .inl a => ⟨s, a⟩
    | .inr b => altS (t :: r) b
def altK {A : Type} : (l : List Shape) → AltT l → ((s : Shape) → s.T → Option A) → Option A
  | [], y, _ => nomatch y
  | [s], y, k => k s y
  | s :: t :: r, y, k => match y with
    | .inl a => k s a
    | .inr b => altK (t :: r) b k

def CV.ren (f : Nat → Nat) : CV → CV
  | .ptr h off => .ptr (f h) off
  | .elt h sz i off => .elt (f h) sz i off
  | .own h => .own (f h)
  | .sub h sz lo n => .sub (f h) sz lo n
  | .slf h => .slf (f h)
  | .oel h sz x => .oel (f h) sz x
  | .pel h off sz i => .pel (f h) off sz i
  | .psub h off sz lo n => .psub (f h) off sz lo n
  | .clo k hs => .clo k (hs.map fun x => x.map f)
  | v => v
def Seg.ren (f : Nat → Nat) : Seg → Seg
  | .one c => .one (c.ren f)
  | s => s
def RV.ren (f : Nat → Nat) : RV → RV
  | .c x => .c (x.ren f)
  | .a cs => .a (cs.map (·.ren f))
  | .sg ss => .sg (ss.map (·.ren f))
def Ent.ren (f : Nat → Nat) : Ent → Ent
  | .cells ty cs => .cells ty (cs.map (·.ren f))
  | .segs ty ss => .segs ty (ss.map (·.ren f))
  | e => e
/-- an object that is handed in and stays where it is: a struct's; a row's of a number from 250 on. -/
def keptE (pre : List (Nat × ESh)) (h : Nat) : Bool := match pre.lookup h with
  | some (.cells _ _) => true
  | some (.segs _ _) => true
  | some (.mp _ _) => true
  | some .it => false
  | some (.pool _ _) => true
  | some (.row _ _) => Nat.ble 250 h
  | none => false
/-- the numbers of a call's answer in the caller: an object that was handed in keeps its own; all else is new. -/
def newId (pre : List (Nat × ESh)) (ren : List (Nat × Option Nat)) (base : Nat) (h : Nat) : Nat :=
  bif keptE pre h then (match ren.lookup h with
    | some (some i) => i
    | _ => base + h) else base + h

/-! ### one operation -/
def explode : (κ : K) → κ.T → List CV
  | .pair a b, x => explode a x.1 ++ explode b x.2
  | .unit, _ => []
  | .int k, x => [.dat (.int k) x]
  | .bool, x => [.dat .bool x]
  | .str, x => [.dat .str x]
  | .err, x => [.dat .err x]
  | .list a, x => [.dat (.list a) x]
  | .nd p, x => [.dat (.nd p) x]
  | .js, x => [.dat (.int .i64) x.kind, .dat .bool x.b, .dat .str x.text, .dat (.int .i64) x.n, .dat .bool x.whole, .dat (.list .js) x.list, .dat (.list .str) x.names]
  | .arr _ a, x => x.flatMap fun y => explode a y
def Seg.cells : Seg → List CV
  | .one c => [c]
  | .blk κ x => explode κ x
def Seg.size : Seg → Nat
  | .one _ => 1
  | .blk κ _ => κ.sz
/-- the first 'n' cells, and the rest. -/
def cutS : Nat → List Seg → Option (List Seg × List Seg)
  | 0, ss => some ([], ss)
  | _ + 1, [] => none
  | n + 1, s :: r => if s.size ≤ n + 1 then (cutS (n + 1 - s.size) r).map fun p => (s :: p.1, p.2) else none
/-- cells 'off' to 'off + n'. -/
def midS (off n : Nat) (ss : List Seg) : Option (List Seg × List Seg × List Seg) :=
  (cutS off ss).bind fun p => (cutS n p.2).map fun q => (p.1, q.1, q.2)
def onesS : List Seg → Option (List CV)
  | [] => some []
  | .one c :: r => (onesS r).map (c :: ·)
  | _ :: _ => none
def aggS (ss : List Seg) : RV := match onesS ss with
  | some cs => .a cs
  | none => .sg ss
def explodeS : (κ : K) → κ.T → List Seg
  | .pair a b, x => explodeS a x.1 ++ explodeS b x.2
  | .arr n a, x => [.blk (.arr n a) x]
  | κ, x => (explode κ x).map .one
def hasArr : K → Bool
  | .arr _ _ => true
  | .pair a b => hasArr a || hasArr b
  | _ => false
def imp1 (g : GSt) (κ : K) : List CV → Option (κ.T × List CV × GSt)
  | [] => none
  | c :: r => (toDat g κ c).map fun p => (p.1, r, p.2)
def implode (g : GSt) : (κ : K) → List CV → Option (κ.T × List CV × GSt)
  | .pair a b, cs => (implode g a cs).bind fun p => (implode p.2.2 b p.2.1).map fun q => ((p.1, q.1), q.2.1, q.2.2)
  | .unit, cs => some ((), cs, g)
  | .js, cs => (imp1 g (.int .i64) cs).bind fun p1 => (imp1 p1.2.2 .bool p1.2.1).bind fun p2 => (imp1 p2.2.2 .str p2.2.1).bind fun p3 => (imp1 p3.2.2 (.int .i64) p3.2.1).bind fun p4 =>
      (imp1 p4.2.2 .bool p4.2.1).bind fun p5 => (imp1 p5.2.2 (.list .js) p5.2.1).bind fun p6 => (imp1 p6.2.2 (.list .str) p6.2.1).bind fun p7 => some (JV.mk p1.1 p2.1 p3.1 p4.1 p5.1 p6.1 p7.1, p7.2.1, p7.2.2)
  | κ, cs => match cs with
    | [] => none
    | c :: r => (toDat g κ c).map fun p => (p.1, r, p.2)
def idx {α : Type} (xs : List α) (i : Int) : Option α := if 0 ≤ i then xs[i.toNat]? else none
/-- is a value of the type an aggregate? -/
def isAggD : TypeDesc → Bool
  | .struct _ | .array _ _ => true
  | _ => false
def aggOf (P : Program) (t : TypeId) : Option Bool := (P.underlying t).map isAggD
def RV.cells : RV → List CV
  | .c x => [x]
  | .a cs => cs
  | .sg ss => ss.flatMap Seg.cells
def RV.segs : RV → List Seg
  | .c x => [.one x]
  | .a cs => cs.map .one
  | .sg ss => ss
def sizeS : List Seg → Nat
  | [] => 0
  | s :: r => s.size + sizeS r
def isV : RV → Bool
  | .sg _ => true
  | _ => false
def rvOfS (agg : Option Bool) (ss : List Seg) : Option RV :=
  match agg with
  | some true => some (aggS ss)
  | some false => match ss with
    | [.one x] => some (.c x)
    | _ => none
  | none => none
def rvOf (agg : Option Bool) (n : Nat) (cs : List CV) : Option RV :=
  match agg with
  | some true => if cs.length = n then some (.a cs) else none
  | some false => match cs with
    | [x] => some (.c x)
    | _ => none
  | none => none
def dI (k : IntKind) (n : Int) : Option SV := some (.r (.c (.dat (.int k) n)))
def dB (b : Bool) : Option SV := some (.r (.c (.dat .bool b)))
def just (v : Option SV) : Delta := ⟨v, []⟩
def one (c : CV) : Delta := ⟨some (.r (.c c)), []⟩
def bits (op : BinOp) (k : IntKind) (x y : Int) : Int :=
  let a := BitVec.ofInt k.bits x
  let b := BitVec.ofInt k.bits y
  match op with
  | .and => k.wrap (a &&& b).toNat
  | .or => k.wrap (a ||| b).toNat
  | .xor => k.wrap (a ^^^ b).toNat
  | _ => k.wrap (a &&& ~~~b).toNat
def intOp (op : BinOp) (k : IntKind) (x y : Int) {A : Type} (f : Delta → Option A) : Option A :=
  match op with
  | .add => f (just (dI k (k.wrap (x + y))))
  | .sub => f (just (dI k (k.wrap (x - y))))
  | .mul => f (just (dI k (k.wrap (x * y))))
  | .quo => if y = 0 then none else f (just (dI k (k.wrap (x.tdiv y))))
  | .rem => if y = 0 then none else f (just (dI k (x.tmod y)))
  | .and | .or | .xor | .andNot => f (just (dI k (bits op k x y)))
  | .eql => f (just (dB (x == y)))
  | .neq => f (just (dB (x != y)))
  | .lss => f (just (dB (decide (x < y))))
  | .leq => f (just (dB (decide (x ≤ y))))
  | .gtr => f (just (dB (decide (x > y))))
  | .geq => f (just (dB (decide (x ≥ y))))
  | _ => none
def shiftOp (op : BinOp) (k : IntKind) (x y : Int) {A : Type} (f : Delta → Option A) : Option A :=
  if y < 0 then none else
  match op with
  | .shl => f (just (dI k (k.wrap (x * 2 ^ (min y.toNat k.bits)))))
  | .shr => f (just (dI k (x.fdiv (2 ^ (min y.toNat k.bits)))))
  | _ => none
def ltL : List Int → List Int → Bool
  | _, [] => false
  | [], _ :: _ => true
  | a :: x, b :: y => decide (a < b) || (a == b && ltL x y)
def strOp (op : BinOp) (x y : List Int) {A : Type} (f : Delta → Option A) : Option A :=
  match op with
  | .add => if x.length + y.length ≤ 140737488355328 then f (one (.dat .str (x ++ y))) else none
  | .eql => f (just (dB (x == y)))
  | .neq => f (just (dB (!(x == y))))
  | .lss => f (just (dB (ltL x y)))
  | .leq => f (just (dB (ltL x y || x == y)))
  | .gtr => f (just (dB (!(ltL x y || x == y))))
  | .geq => f (just (dB (!(ltL x y))))
  | _ => none
def isConstB : Operand → Bool
  | .const _ => true
  | _ => false
def eqOp (neg : Bool) (b : Bool) : Bool := if neg then !b else b
def nilCmp (a b : CV) : Option Bool :=
  match a, b with
  | .nilp, .nilp => some true
  | .nilp, .ptr _ _ => some false
  | .roA _ _, .nilp => some false
  | .nilp, .roA _ _ => some false
  | .ptr _ _, .nilp => some false
  | .oel _ _ x, .nilp => some (decide (x < 0))
  | _, _ => none
def nilSl (a b : CV) {A : Type} (f : Bool → Option A) : Option A :=
  match a, b with
  | .nils, .nils => f true
  | .nl, .nils => f true
  | .nn _ _, .nils => f false
  | .nils, .nn _ _ => f false
  | .dat (.list _) x, .nils => if List.length x = 0 then none else f false
  | _, _ => none
def isEq : BinOp → Option Bool
  | .eql => some false
  | .neq => some true
  | _ => none
def isBoolD : Option TypeDesc → Bool
  | some .bool => true
  | _ => false
def isPtrD : Option TypeDesc → Bool
  | some (.pointer _) => true
  | _ => false
def isSliceD : Option TypeDesc → Bool
  | some (.slice _) => true
  | _ => false
def isU8D : Option TypeDesc → Bool
  | some (.int .u8) => true
  | _ => false
def isIntD : Option TypeDesc → Bool
  | some (.int _) => true
  | _ => false
def isArrD : Option TypeDesc → Bool
  | some (.array _ _) => true
  | _ => false
def isIfaceD : Option TypeDesc → Bool
  | some (.interface _) => true
  | _ => false
def isI64D : Option TypeDesc → Bool
  | some (.int .i64) => true
  | _ => false
/-- an error's dynamic type is a comparable one over int. -/
def isZeroI64 : Option Value → Bool
  | some (.int .i64 n) => n == 0
  | _ => false
def errOk (P : Program) (E : TypeId) : Bool := isI64D (P.underlying E) && (match P.info? E with | some i => i.comparable && isZeroI64 i.zero | none => false)
/-- what two cells of a binary operation give. -/
def cvBin (P : Program) (E t : TypeId) (cst : Bool) (op : BinOp) (a b : CV) {A : Type} (f : Delta → Option A) : Option A :=
  match a, b with
  | .dat (.int k) x, .dat (.int k') y =>
    match op with
    | .shl | .shr => shiftOp op k x y f
    | _ => if k = k' then intOp op k x y f else none
  | .dat .bool x, .dat .bool y => if isBoolD (P.underlying t) then (isEq op).bind fun n => f (just (dB (eqOp n (x == y)))) else none
  | .dat .str x, .dat .str y => strOp op x y f
  | .dat .err x, .dat .err y => if isIfaceD (P.underlying t) && errOk P E then
      (isEq op).bind fun n => if cst then f (just (dB (eqOp n (x == y)))) else (if x = 0 ∧ y = 0 then none else f (just (dB (eqOp n (x == y)))))
    else none
  | a, b => if isPtrD (P.underlying t) then (isEq op).bind fun n => (nilCmp a b).bind fun r => f (just (dB (eqOp n r)))
    else if isSliceD (P.underlying t) then (isEq op).bind fun n => nilSl a b (fun r => f (just (dB (eqOp n r)))) else none
/-- the array at cell 'off' of a struct. -/
def arrAt (en : Nat → EnS) (h off : Nat) : Option (TypeId × List Seg × ((n : Nat) × (κ : K) × List κ.T) × List Seg) := match en h with
  | .live (.segs ty ss) => (cutS off ss).bind fun p => match p.2 with
    | .blk (.arr n κ) xs :: r => some (ty, p.1, ⟨n, κ, xs⟩, r)
    | _ => none
  | _ => none
/-- the length of a slice. -/
def lenOf (en : Nat → EnS) : CV → Option Nat
  | .dat (.list _) x => some x.length
  | .nn _ x => some x.length
  | .ful _ x => some x.length
  | .nils => some 0
  | .own h => match en h with
    | .live (.row _ _ xs) => some xs.length
    | .ro _ xs => some xs.length
    | _ => none
  | .sub _ _ _ n => some n
  | .psub _ _ _ _ n => some n
  | _ => none
/-- what a slice holds, of kind κ; nothing is given away. -/
def elems (en : Nat → EnS) (κ : K) : CV → Option (List κ.T)
  | .dat κ' x => K.conv κ' (.list κ) x
  | .nn κ' x => K.conv (.list κ') (.list κ) x
  | .ful κ' x => K.conv (.list κ') (.list κ) x
  | .nils => some []
  | .own h => match en h with
    | .live (.row _ κ' xs) => K.conv (.list κ') (.list κ) xs
    | .ro κ' xs => K.conv (.list κ') (.list κ) xs
    | _ => none
  | .sub h sz lo n => match en h with
    | .live (.row _ κ' xs) => if sz = κ'.sz then K.conv (.list κ') (.list κ) ((xs.drop lo).take n) else none
    | .ro κ' xs => if sz = κ'.sz then K.conv (.list κ') (.list κ) ((xs.drop lo).take n) else none
    | _ => none
  | .psub h off sz lo n => (arrAt en h off).bind fun ⟨_, _, ⟨_, κ', xs⟩, _⟩ => if sz = κ'.sz then (if lo + n ≤ List.length xs then K.conv (.list κ') (.list κ) ((List.drop lo xs).take n) else none) else none
  | _ => none
/-- is a type that of trees of values? -/
def jsT (P : Program) (t : TypeId) : Bool := match P.underlying t with
  | some (.struct fs) => (match fs.toList with
    | [a, b, c, d, e, f, g] => (match P.underlying a.type, P.underlying b.type, P.underlying c.type, P.underlying d.type, P.underlying e.type, P.underlying f.type, P.underlying g.type with
      | some (.int .i64), some .bool, some .string, some (.int .i64), some .bool, some (.slice x), some (.slice y) => Nat.beq x t && (match P.underlying y with | some .string => true | _ => false) &&
          (Nat.beq a.offset 0 && Nat.beq b.offset 1 && Nat.beq c.offset 2 && Nat.beq d.offset 3 && Nat.beq e.offset 4 && Nat.beq f.offset 5 && Nat.beq g.offset 6) &&
          (Nat.beq (P.cellsOf a.type) 1 && Nat.beq (P.cellsOf b.type) 1 && Nat.beq (P.cellsOf c.type) 1 && Nat.beq (P.cellsOf d.type) 1 && Nat.beq (P.cellsOf e.type) 1 && Nat.beq (P.cellsOf f.type) 1 && Nat.beq (P.cellsOf g.type) 1) && Nat.beq (P.cellsOf t) 7 && Nat.beq (P.cellsOf y) 1
      | _, _, _, _, _, _, _ => false)
    | _ => false)
  | _ => false
/-- the kind of a type. -/
def kindOf (P : Program) (E : TypeId) : Nat → TypeId → Option K
  | 0, _ => none
  | d + 1, t => match P.underlying t with
    | some .bool => some .bool
    | some (.int k) => some (.int k)
    | some .string => some .str
    | some (.slice e) => (kindOf P E d e).map .list
    | some (.struct fs) => if jsT P t = true then some .js else fs.toList.foldr (fun f r => (kindOf P E d f.type).bind fun a => r.map (.pair a ·)) (some .unit)
    | some (.array n e) => (kindOf P E d e).map (.arr n)
    | some (.interface _) => some .err
    | _ => none
def svRV : Option SV → Option RV
  | some (.r v) => some v
  | _ => none
def svCV : Option SV → Option CV
  | some (.r (.c v)) => some v
  | _ => none
def rvs (s : VSt) : List Operand → Option (List RV)
  | [] => some []
  | x :: r => (svRV (s.ev x)).bind fun v => (rvs s r).map (v :: ·)
def fillCells : List (Nat × List CV) → List CV → Option (List CV)
  | [], z => some z
  | (off, cs) :: r, z => if off + cs.length ≤ z.length then fillCells r (z.take off ++ cs ++ z.drop (off + cs.length)) else none
def spliceL {α : Type} (xs ys : List α) (off : Nat) : List α := xs.take off ++ ys ++ xs.drop (off + ys.length)
def bound : Nat := 140737488355328

def zeroCellB : K → Value → Bool
  | .int k, .int k' n => k = k' && n == 0
  | .bool, .bool b => !b
  | .str, .string s => s.size == 0
  | .err, .nilIface => true
  | .list _, .slice none 0 0 => true
  | .nd _, .pointer none => true
  | _, _ => false
def repB (f : List Value → Option (List Value)) : Nat → List Value → Option (List Value)
  | 0, cs => some cs
  | n + 1, cs => (f cs).bind fun r => repB f n r
def zeroB : K → List Value → Option (List Value)
  | .pair a b, cs => (zeroB a cs).bind fun r => zeroB b r
  | .unit, cs => some cs
  | .arr n a, cs => repB (zeroB a) n cs
  | .js, c1 :: c2 :: c3 :: c4 :: c5 :: c6 :: c7 :: r => if zeroCellB (.int .i64) c1 && (zeroCellB .bool c2 && (zeroCellB .str c3 && (zeroCellB (.int .i64) c4 && (zeroCellB .bool c5 && (zeroCellB (.list .js) c6 && zeroCellB (.list .str) c7))))) then some r else none
  | .js, _ => none
  | κ, c :: r => if zeroCellB κ c then some r else none
  | _, [] => none
/-- the type's kind; that its size and its zero value are the kind's. -/
def rowKind (P : Program) (E : TypeId) (t : TypeId) : Option K :=
  (kindOf P E 12 t).bind fun κ => (P.info? t).bind fun i => i.zero.bind fun z =>
    if i.size = κ.sz ∧ 0 < κ.sz ∧ 0 < i.bytes ∧ (zeroB κ z.cells.toList).any (·.isEmpty) then some κ else none
def sliceElem (P : Program) (t : TypeId) : Option TypeId :=
  match P.underlying t with
  | some (.slice e) => some e
  | _ => none
def newRow (base : Nat) (ety : TypeId) (κ : K) (xs : List κ.T) (log : List (Nat × EnS)) (en : Nat → EnS) : Option Delta :=
  match en base with
  | .free => some ⟨some (.r (.c (.own base))), log ++ [(base, .live (.row ety κ xs))]⟩
  | _ => none
/-- a row of cells, all of one kind. -/
def datsOf (κ : K) : List CV → Option (List κ.T)
  | [] => some []
  | .dat κ' x :: r => (K.conv κ' κ x).bind fun y => (datsOf κ r).map (y :: ·)
  | _ :: _ => none
/-- a new array: a row of its own; its address. -/
def newArr (base : Nat) (ty : TypeId) (κ : K) (xs : List κ.T) (en : Nat → EnS) : Option Delta :=
  match en base with
  | .free => if 0 < xs.length ∧ xs.length ≤ lim then some ⟨some (.r (.c (.elt base κ.sz 0 0))), [(base, .live (.row ty κ xs))]⟩ else none
  | _ => none
/-- the length and the elements' type of an array's. -/
def arrElem (P : Program) (t : TypeId) : Option (Nat × TypeId) :=
  match P.underlying t with
  | some (.array n e) => some (n, e)
  | _ => none
def newSegs (base : Nat) (ty : TypeId) (ss : List Seg) (en : Nat → EnS) : Option Delta :=
  match en base with
  | .free => some ⟨some (.r (.c (.ptr base 0))), [(base, .live (.segs ty ss))]⟩
  | _ => none
/-- a struct's cells, by its type: each one, or an array's. -/
def segK (P : Program) (E : TypeId) : Nat → TypeId → Option (List (Option K))
  | 0, _ => none
  | d + 1, t => match P.underlying t with
    | some (.array _ _) => (kindOf P E 12 t).map fun κ => [some κ]
    | some (.struct fs) => fs.toList.foldr (fun f r => (segK P E d f.type).bind fun a => r.map (a ++ ·)) (some [])
    | _ => some [none]
def zeroS : List (Option K) → List Value → Option (List Seg)
  | [], [] => some []
  | none :: r, v :: vs => (constCV v).bind fun c => (zeroS r vs).map (.one c :: ·)
  | some κ :: r, vs => (zeroB κ vs).bind fun vs' => (zeroS r vs').map (.blk κ κ.zero :: ·)
  | _, _ => none
def anyArr (l : List (Option K)) : Bool := l.any Option.isSome
def newCells (base : Nat) (ty : TypeId) (cs : List CV) (en : Nat → EnS) : Option Delta :=
  match en base with
  | .free => some ⟨some (.r (.c (.ptr base 0))), [(base, .live (.cells ty cs))]⟩
  | _ => none
def allFree (en : Nat → EnS) : List Nat → Bool
  | [] => true
  | h :: r => (match en h with | .free => true | _ => false) && allFree en r
/-! a call that turns nothing that was there: what it is handed is only lent. -/
def K.flat : K → Bool
  | .pair a b => a.flat && b.flat
  | .list _ => false
  | .js => false
  | .nd _ => false
  | .arr _ a => a.flat
  | _ => true
def CSh.flat : CSh → Bool
  | .dat κ => κ.flat
  | .nn _ | .nl | .ref _ | .ful _ => false
  | _ => true
def SSh.flat : SSh → Bool
  | .one c => c.flat
  | .blk κ => κ.flat
def RSh.flat : RSh → Bool
  | .c x => x.flat
  | .a cs => cs.all CSh.flat
  | .sg ss => ss.all SSh.flat
def ESh.flat : ESh → Bool
  | .cells _ cs => cs.all CSh.flat
  | .row _ κ => κ.flat
  | .segs _ ss => ss.all SSh.flat
  | .mp κk κv => κk.flat && κv.flat
  | .it => true
  | .pool _ _ => false
def Shape.flat (sh : Shape) : Bool := sh.vals.all RSh.flat && sh.ents.all fun e => e.2.flat
def Spec.quiet (sp : Spec) : Bool := sp.pre.ents.isEmpty && sp.post.all Shape.flat
def peekDat (en : Nat → EnS) : (κ : K) → CV → Option κ.T
  | .list a, c => elems en a c
  | κ, .dat κ' x => K.conv κ' κ x
  | _, _ => none
def peek1 (en : Nat → EnS) (κ : K) : List CV → Option (κ.T × List CV)
  | [] => none
  | c :: r => (peekDat en κ c).map fun x => (x, r)
def peekL (en : Nat → EnS) : (κ : K) → List CV → Option (κ.T × List CV)
  | .pair a b, cs => (peekL en a cs).bind fun p => (peekL en b p.2).map fun q => ((p.1, q.1), q.2)
  | .unit, cs => some ((), cs)
  | .js, cs => (peek1 en (.int .i64) cs).bind fun p1 => (peek1 en .bool p1.2).bind fun p2 => (peek1 en .str p2.2).bind fun p3 => (peek1 en (.int .i64) p3.2).bind fun p4 =>
      (peek1 en .bool p4.2).bind fun p5 => (peek1 en (.list .js) p5.2).bind fun p6 => (peek1 en (.list .str) p6.2).bind fun p7 => some (JV.mk p1.1 p2.1 p3.1 p4.1 p5.1 p6.1 p7.1, p7.2)
  | κ, cs => match cs with
    | [] => none
    | c :: r => (peekDat en κ c).map fun x => (x, r)
def peekSg (en : Nat → EnS) : (κ : K) → List Seg → Option (κ.T × List Seg)
  | .pair a b, ss => (peekSg en a ss).bind fun p => (peekSg en b p.2).map fun q => ((p.1, q.1), q.2)
  | .unit, ss => some ((), ss)
  | κ, ss => match ss with
    | [] => none
    | .one c :: r => (peekDat en κ c).map fun x => (x, r)
    | .blk κ' x :: r => (K.conv κ' κ x).map fun y => (y, r)
def CSh.peek (r : List K) (en : Nat → EnS) : (c : CSh) → CV → Option (Tup r → Tup (c.ks r))
  | .dat κ, v => (peekDat en κ v).map fun x t => Tup.cons κ r x t
  | .ref κ, .ptr h off => match en h with
    | .live (.cells _ cs) => if off = 0 then (peekL en κ cs).bind fun p => match p.2 with
      | [] => some fun t => Tup.cons κ r p.1 t
      | _ => none else none
    | .live (.segs _ ss) => if off = 0 then (peekSg en κ ss).bind fun p => match p.2 with
      | [] => some fun t => Tup.cons κ r p.1 t
      | _ => none else none
    | _ => none
  | .ref κ, .roA κ' x => (K.conv κ' κ x).map fun y t => Tup.cons κ r y t
  | .nilp, .nilp => some fun t => t
  | .nils, .nils => some fun t => t
  | .nilm, .nilm => some fun t => t
  | .fnc f, .fn f' => if f = f' then some fun t => t else none
  | .errc n, .dat .err m => if errEq m n = true then some fun t => t else none
  | .boolc b, .dat .bool c => if boolEq c b = true then some fun t => t else none
  | _, _ => none
def peekCs (r : List K) (en : Nat → EnS) : (cs : List CSh) → List CV → Option (Tup r → Tup (ksL cs r))
  | [], [] => some fun t => t
  | c :: cs, v :: vs => (c.peek (ksL cs r) en v).bind fun p => (peekCs r en cs vs).map fun q t => p (q t)
  | _, _ => none
def SSh.peek (r : List K) (en : Nat → EnS) : (c : SSh) → Seg → Option (Tup r → Tup (c.ks r))
  | .one y, .one v => CSh.peek r en y v
  | .blk κ, .blk κ' x => (K.conv κ' κ x).map fun y t => Tup.cons κ r y t
  | _, _ => none
def peekSs (r : List K) (en : Nat → EnS) : (cs : List SSh) → List Seg → Option (Tup r → Tup (ksS cs r))
  | [], [] => some fun t => t
  | c :: cs, v :: vs => (c.peek (ksS cs r) en v).bind fun p => (peekSs r en cs vs).map fun q t => p (q t)
  | _, _ => none
def RSh.peek (r : List K) (en : Nat → EnS) : (c : RSh) → RV → Option (Tup r → Tup (c.ks r))
  | .c y, .c v => CSh.peek r en y v
  | .a cs, .a vs => peekCs r en cs vs
  | .sg ss, .sg vs => peekSs r en ss vs
  | _, _ => none
def peekR (r : List K) (en : Nat → EnS) : (cs : List RSh) → List RV → Option (Tup r → Tup (ksR cs r))
  | [], [] => some fun t => t
  | c :: cs, v :: vs => (RSh.peek (ksR cs r) en c v).bind fun p => (peekR r en cs vs).map fun q t => p (q t)
  | _, _ => none
def Shape.peek (en : Nat → EnS) : (sh : Shape) → List RV → Option sh.T
  | ⟨vals, []⟩, vs => (peekR [] en vals vs).map fun k => k ()
  | ⟨_, _ :: _⟩, _ => none
def Spec.read (sp : Spec) (args : List RV) (en : Nat → EnS) : Option (sp.pre.T × GSt) :=
  bif sp.quiet then (sp.pre.peek en args).map fun x => (x, ⟨en, [], [], []⟩) else sp.pre.get args en
def Ent.isPool : Ent → Bool
  | .pool _ _ _ => true
  | _ => false
/-- a pool keeps its number. -/
def poolsFix (nm : Nat → Nat) : List (Nat × Ent) → Bool
  | [] => true
  | e :: r => (bif e.2.isPool then Nat.beq (nm e.1) e.1 else true) && poolsFix nm r
/-- the variables of a function value, as further arguments. -/
def capRV : Option Nat → RV
  | none => .c .nilp
  | some h => .c (.ptr h 0)
def calleeOf : CV → Option (FuncId × List RV)
  | .fn f => some (f, [])
  | .clo f hs => some (f, hs.map capRV)
  | _ => none
/-- the variables that a function value takes with it. -/
def capsOf : List CV → Option (List (Option Nat))
  | [] => some []
  | .nilp :: r => (capsOf r).map (none :: ·)
  | .ptr h 0 :: r => (capsOf r).map (some h :: ·)
  | _ :: _ => none
def cvs (s : VSt) : List Operand → Option (List CV)
  | [] => some []
  | x :: r => (svCV (s.ev x)).bind fun v => (cvs s r).map (v :: ·)
def callK (sps : List Spec) (en : Nat → EnS) (args : List RV) (base : Nat) {A : Type} (f : Delta → Option A) : Option A :=
  match sps with
  | [] => none
  | sp :: r => match sp.read args en with
    | none => callK r en args base f
    | some p => (sp.run p.1).bind fun y => altK sp.post y fun sh z =>
        let nm := newId sp.pre.ents p.2.ren base
        if poolsFix nm (sh.es z) then if allFree en (((sh.ents.map (·.1)).filter fun h => nm h == base + h).map (base + ·)) then   -- all is new
          f ⟨some (match (sh.vs z).map (·.ren nm) with | [v] => .r v | vs => .t vs), p.2.log ++ (sh.es z).map fun e => (nm e.1, EnS.live (e.2.ren nm))⟩
        else none else none
def partsCells (s : VSt) (place : Nat → Option (Nat × Nat)) : List (Nat × Operand) → Option (List (Nat × List CV))
  | [] => some []
  | (i, x) :: r => (place i).bind fun p => (svRV (s.ev x)).bind fun v => if v.cells.length = p.2 then (partsCells s place r).map ((p.1, v.cells) :: ·) else none
def buildS (s : VSt) (place : Nat → Option (Nat × Nat)) : List (Nat × Operand) → List Seg → Option (List Seg)
  | [], ss => some ss
  | (i, x) :: r, ss => (place i).bind fun p => (svRV (s.ev x)).bind fun v => if sizeS v.segs = p.2 then (midS p.1 p.2 ss).bind fun q => buildS s place r (q.1 ++ v.segs ++ q.2.2) else none
/-- a literal's elements, laid in. -/
def partsRow (s : VSt) (κ : K) : GSt → List (Nat × Operand) → List κ.T → Option (List κ.T × GSt)
  | g, [], xs => some (xs, g)
  | g, (i, x) :: r, xs => (svRV (s.ev x)).bind fun v => (implode g κ v.cells).bind fun p => match p.2.1 with
    | [] => if i < xs.length then partsRow s κ p.2.2 r (xs.set i p.1) else none
    | _ => none
def minmax (mx : Bool) (k : IntKind) : Int → List RV → Option Int
  | x, [] => some x
  | x, .c (.dat (.int k') y) :: r => if k = k' then minmax mx k (if mx then (if y > x then y else x) else (if y < x then y else x)) r else none
  | _, _ => none
def intOf? : Option CV → Option Int
  | some (.dat (.int _) n) => some n
  | _ => none
def i64Of? : Option CV → Option Int
  | some (.dat (.int .i64) n) => some n
  | _ => none
/-- the bounds of a cut. -/
def cutK (s : VSt) (len : Nat) (lo hi : Option Operand) {A : Type} (f : Nat → Nat → Option A) : Option A :=
  (match lo with | none => some 0 | some x => intOf? (svCV (s.ev x))).bind fun (l : Int) =>
  (match hi with | none => some (len : Int) | some x => intOf? (svCV (s.ev x))).bind fun (h : Int) =>
    if 0 ≤ l ∧ l ≤ h ∧ h ≤ len then f l.toNat h.toNat else none
/-- are two values of a type one? -/
def eqFs (P : Program) (r : TypeId → RV → RV → Option Bool) (xs ys : List CV) : List Field → Option Bool
  | [] => some true
  | f :: fs => if f.name = "_" then none else
    (rvOf (aggOf P f.type) (P.cellsOf f.type) ((xs.drop f.offset).take (P.cellsOf f.type))).bind fun a =>
    (rvOf (aggOf P f.type) (P.cellsOf f.type) ((ys.drop f.offset).take (P.cellsOf f.type))).bind fun b =>
    (r f.type a b).bind fun q => (eqFs P r xs ys fs).map fun p => q && p
def eqRV (P : Program) : Nat → TypeId → RV → RV → Option Bool
  | 0, _, _, _ => none
  | d + 1, t, x, y => match P.underlying t with
    | some .bool => match x, y with
      | .c (.dat .bool a), .c (.dat .bool b) => some (a == b)
      | _, _ => none
    | some (.int _) => match x, y with
      | .c (.dat (.int k) a), .c (.dat (.int k') b) => if k = k' then some (a == b) else none
      | _, _ => none
    | some .string => match x, y with
      | .c (.dat .str a), .c (.dat .str b) => some (a == b)
      | _, _ => none
    | some (.struct fs) => match x, y with
      | .a xs, .a ys => if P.stoodInHeld t then none else eqFs P (eqRV P d) xs ys fs.toList
      | _, _ => none
    | _ => none
def aggPair : Option SV → Option SV → Option (List CV × List CV)
  | some (.r (.a xs)), some (.r (.a ys)) => some (xs, ys)
  | _, _ => none
/-- the length of a row that is held against nil. -/
def ownLen (en : Nat → EnS) : Option CV → Option CV → Option Nat
  | some (.own h), some .nils => match en h with
    | .live (.row _ _ xs) => some xs.length
    | _ => none
  | _, _ => none
/-- is one of two equal arrays? -/
def vecEq : Option SV → Option SV → Option (Nat × List Int × List Int)
  | some (.r (.sg [.blk (.arr n (.int k)) xs])), some (.r (.sg [.blk (.arr m (.int k')) ys])) => if n = m ∧ k = k' then some (n, xs, ys) else none
  | _, _ => none
/-- what is appended: a slice's elements, or a text's bytes. -/
def appendSrc (P : Program) (s : VSt) (κ : K) (t2 : TypeId) (y : Operand) : Option (List κ.T) := match P.underlying t2 with
  | some (.slice _) => (svCV (s.ev y)).bind fun b => elems s.en κ b
  | some .string => match svCV (s.ev y) with
    | some (.dat .str l) => K.conv (.list (.int .u8)) (.list κ) l
    | _ => none
  | _ => none
/-! maps: what is at a key, what is there behind a write. -/
def mget {α β : Type} (eq : α → α → Bool) (k : α) : List (α × β) → Option β
  | [] => none
  | p :: r => if eq k p.1 = true then some p.2 else mget eq k r
def mput {α β : Type} (eq : α → α → Bool) (k : α) (v : β) : List (α × β) → List (α × β)
  | [] => [(k, v)]
  | p :: r => if eq k p.1 = true then (k, v) :: r else p :: mput eq k v r
def mdel {α β : Type} (eq : α → α → Bool) (k : α) : List (α × β) → List (α × β)
  | [] => []
  | p :: r => if eq k p.1 = true then r else p :: mdel eq k r
def eqI (a b : Int) : Bool := a == b
def eqB (a b : Bool) : Bool := a == b
def eqS (a b : List Int) : Bool := a == b
def K.eqb : (κ : K) → κ.T → κ.T → Bool
  | .int _ => eqI | .bool => eqB | .str => eqS | .pair a b => fun x y => a.eqb x.1 y.1 && b.eqb x.2 y.2 | .unit => fun _ _ => true | _ => fun _ _ => false
/-- a key's type is the kind's, one that is compared at once. -/
def primK (P : Program) (t : TypeId) (κ : K) : Bool := match P.underlying t, κ with
  | some (.int k), .int k' => decide (k = k')
  | some .bool, .bool => true
  | some .string, .str => true
  | _, _ => false
def K.agg : K → Bool
  | .pair _ _ => true | .unit => true | .arr _ _ => true | .js => true | _ => false
def datOf (κ : K) : Option CV → Option κ.T
  | some (.dat κ' x) => K.conv κ' κ x
  | _ => none
/-- a struct key: each field one cell, compared at once. -/
def keyFs (P : Program) : List Field → Nat → K → Bool
  | [], _, .unit => true
  | f :: fs, off, .pair a b => !(f.name == "_") && Nat.beq f.offset off && Nat.beq (P.cellsOf f.type) 1 && (match aggOf P f.type with | some false => true | _ => false) && primK P f.type a && keyFs P fs (off + 1) b
  | _, _, _ => false
def structK (P : Program) (t : TypeId) (κ : K) : Bool := match P.underlying t, κ with
  | some (.struct fs), .pair a b => !P.stoodInHeld t && keyFs P fs.toList 0 (.pair a b)
  | _, _ => false
def keyOf : (κ : K) → List CV → Option (κ.T × List CV)
  | .pair a b, cs => (keyOf a cs).bind fun p => (keyOf b p.2).map fun q => ((p.1, q.1), q.2)
  | .unit, cs => some ((), cs)
  | κ, c :: r => (datOf κ (some c)).map fun x => (x, r)
  | _, [] => none
/-- a key, out of what is known of a slot. -/
def keyAt (P : Program) (t : TypeId) (κ : K) : Option RV → Option κ.T
  | some (.c c) => if primK P t κ = true then datOf κ (some c) else none
  | some (.a cs) => if structK P t κ = true then (keyOf κ cs).bind fun p => if p.2.isEmpty = true then some p.1 else none else none
  | _ => none
structure Env where
  sp : FuncId → List Spec
  shr : List Nat                     -- the cuts behind which the elder slice is never looked at again
  gl : Nat → Option CV               -- what is known of the package variables' addresses
instance : CoeFun Env fun _ => FuncId → List Spec := ⟨Env.sp⟩
/-- the code point at a place of a text, and how many bytes it takes. -/
def u8d (s : List Int) (i : Nat) : Nat × Nat :=
  let at' (k : Nat) : Nat := (s.getD (i + k) 0).toNat
  let cont (k : Nat) : Bool := i + k < s.length && at' k / 64 == 2
  let b0 := at' 0
  if b0 < 0x80 then (b0, 1)
  else if b0 / 32 == 6 && cont 1 then
    let c := (b0 % 32) * 64 + at' 1 % 64
    if c ≥ 0x80 then (c, 2) else (0xFFFD, 1)
  else if b0 / 16 == 14 && cont 1 && cont 2 then
    let c := (b0 % 16) * 4096 + (at' 1 % 64) * 64 + at' 2 % 64
    if c ≥ 0x800 && Utf8.valid c then (c, 3) else (0xFFFD, 1)
  else if b0 / 8 == 30 && cont 1 && cont 2 && cont 3 then
    let c := (b0 % 8) * 262144 + (at' 1 % 64) * 4096 + (at' 2 % 64) * 64 + at' 3 % 64
    if c ≥ 0x10000 && Utf8.valid c then (c, 4) else (0xFFFD, 1)
  else (0xFFFD, 1)
def stepO (P : Program) (E : TypeId) (env : Env) (kn : List (Nat × Bool)) (base : Nat) (o : Oper) (s : VSt) {A : Type} (f : Delta → Option A) : Option A :=
  match o.op with
  | .move x | .assign x => f ⟨s.ev x, []⟩
  | .pick c a b => match (match c with | .tmp t => kn.lookup t | _ => none) with
    | some β => f ⟨s.ev (if β then a else b), []⟩
    | none => match svCV (s.ev c) with
      | some (.dat .bool β) => if β = true then f ⟨s.ev a, []⟩ else f ⟨s.ev b, []⟩
      | _ => none
  | .nilCheck x => match svCV (s.ev x) with
    | some (.ptr h off) => f (one (.ptr h off))
    | some (.elt h sz i off) => f (one (.elt h sz i off))
    | some (.roA κ v) => f (one (.roA κ v))
    | some (.oel h sz x) => if x < 0 then none else f (one (.elt h sz x.toNat 0))
    | _ => none
  | .fieldAddr t x i => match P.underlying t with
    | some (.struct fs) => (fs[i]?).bind fun fd =>
      if P.cellsOf fd.type = 0 then none else
      match svCV (s.ev x) with
      | some (.ptr h off) => f (one (.ptr h (off + fd.offset)))
      | some (.elt h sz j off) => f (one (.elt h sz j (off + fd.offset)))
      | some (.roA κ v) => (K.sub κ fd.offset (P.cellsOf fd.type)).bind fun p => f (one (.roA p.1 (p.2 v)))
      | _ => none
    | _ => none
  | .load t x => match svCV (s.ev x) with
    | some (.ptr h off) => match s.en h with
      | .live (.cells _ cs) => (rvOf (aggOf P t) (P.cellsOf t) ((cs.drop off).take (P.cellsOf t))).bind fun v => f ⟨some (.r v), []⟩
      | .live (.segs _ ss) => (midS off (P.cellsOf t) ss).bind fun p => (rvOfS (aggOf P t) p.2.1).bind fun v => f ⟨some (.r v), []⟩
      | _ => none
    | some (.pel h off sz i) => (arrAt s.en h off).bind fun ⟨_, _, ⟨_, κ, xs⟩, _⟩ => if sz = κ.sz then (if i < List.length xs then (rvOf (aggOf P t) (P.cellsOf t) ((explode κ (List.getD xs i κ.zero)).take (P.cellsOf t))).bind fun v => f ⟨some (.r v), []⟩ else none) else none
    | some (.elt h sz i off) => match s.en h with
      | .live (.row _ κ xs) => match arrElem P t with
        | some (n, e) => if i = 0 ∧ off = 0 ∧ sz = κ.sz ∧ P.cellsOf e = κ.sz ∧ P.cellsOf t = n * κ.sz then (if n = xs.length then f ⟨some (.r (.sg [.blk (.arr n κ) xs])), []⟩ else none) else none
        | none => if sz = κ.sz then (rvOf (aggOf P t) (P.cellsOf t) (((explode κ (xs.getD i κ.zero)).drop off).take (P.cellsOf t))).bind fun v => f ⟨some (.r v), []⟩ else none
      | _ => none
    | some (.roA κ x) => if hasArr κ then (cutS (P.cellsOf t) (explodeS κ x)).bind fun p => (rvOfS (aggOf P t) p.1).bind fun v => f ⟨some (.r v), []⟩
      else (rvOf (aggOf P t) (P.cellsOf t) ((explode κ x).take (P.cellsOf t))).bind fun v => f ⟨some (.r v), []⟩
    | _ => none
  | .store t x y => (svRV (s.ev y)).bind fun v =>
    match svCV (s.ev x) with
    | some (.pel h off sz i) => (arrAt s.en h off).bind fun ⟨ty, a, ⟨n, κ, xs⟩, r⟩ => if isV v then none else if sz = κ.sz ∧ v.cells.length = P.cellsOf t ∧ P.cellsOf t = κ.sz ∧ κ.sz ≠ 0 then if i < List.length xs then
        (implode ⟨s.en, [], [], []⟩ κ v.cells).bind fun p => match p.2.2.en h with
          | .live (.segs _ _) => f ⟨none, p.2.2.log ++ [(h, .live (.segs ty (a ++ .blk (.arr n κ) (List.set xs i p.1) :: r)))]⟩
          | _ => none
      else none else none
    | some (.ptr h off) => (match s.en h with
      | .live (.segs ty ss) => (midS off (P.cellsOf t) ss).bind fun p => if sizeS v.segs = P.cellsOf t ∧ P.cellsOf t ≠ 0 then f ⟨none, [(h, .live (.segs ty (p.1 ++ v.segs ++ p.2.2)))]⟩ else none
      | .live (.cells ty cs) => if isV v then none else if v.cells.length = P.cellsOf t ∧ P.cellsOf t ≠ 0 then (if off + v.cells.length ≤ cs.length then f ⟨none, [(h, .live (.cells ty (cs.take off ++ v.cells ++ cs.drop (off + v.cells.length))))]⟩ else none) else none
      | _ => none)
    | some (.elt h sz i off) => match v with
      | .sg [.blk (.arr n κ') ys] => (match s.en h with
        | .live (.row ety κ xs) => match arrElem P t with
          | some (m, e) => if i = 0 ∧ off = 0 ∧ sz = κ.sz ∧ κ.sz ≠ 0 ∧ P.cellsOf t = n * κ.sz ∧ n ≠ 0 then (if n = xs.length ∧ n = List.length ys then (K.conv (.list κ') (.list κ) ys).bind fun zs => f ⟨none, [(h, .live (.row ety κ zs))]⟩ else none) else none
          | none => none
        | _ => none)
      | .sg _ => none
      | v => if v.cells.length = P.cellsOf t ∧ P.cellsOf t ≠ 0 then (match s.en h with
        | .live (.row ety κ xs) => if sz = κ.sz ∧ off = 0 ∧ v.cells.length = κ.sz then
            (implode ⟨s.en, [], [], []⟩ κ v.cells).bind fun p => match p.2.2.en h with
              | .live (.row _ _ _) => f ⟨none, p.2.2.log ++ [(h, .live (.row ety κ (xs.set i p.1)))]⟩
              | _ => none
          else none
        | _ => none) else none
    | _ => none
  | .binOp op t x y _ => match vecEq (s.ev x) (s.ev y) with
    | some (n, xs, ys) => (match arrElem P t with
      | some (m, e) => if m = n ∧ P.cellsOf e = 1 ∧ isIntD (P.underlying e) = true ∧ P.eqGuardType P.depth t = false then (if List.length xs = n ∧ List.length ys = n then (isEq op).bind fun q => f (just (dB (eqOp q (xs == ys)))) else none) else none
      | none => none)
    | none => match aggPair (s.ev x) (s.ev y) with
    | some (xs, ys) => if P.eqGuardType P.depth t then none else (isEq op).bind fun n => (eqRV P 8 t (.a xs) (.a ys)).bind fun r => f (just (dB (eqOp n r)))
    | none => match ownLen s.en (svCV (s.ev x)) (svCV (s.ev y)) with
      | some n => if isSliceD (P.underlying t) then (if n = 0 then none else (isEq op).bind fun q => f (just (dB (eqOp q false)))) else none
      | none => (svCV (s.ev x)).bind fun a => (svCV (s.ev y)).bind fun b => cvBin P E t (isConstB x || isConstB y) op a b f
  | .unOp op _ x => match op, svCV (s.ev x) with
    | .not, some (.dat .bool b) => f (just (dB (!b)))
    | .neg, some (.dat (.int k) n) => f (just (dI k (k.wrap (0 - n))))
    | .xor, some (.dat (.int k) n) => f (just (dI k (bits .xor k (if k.signed then -1 else k.max) n)))
    | _, _ => none
  | .convert src dst x => (svCV (s.ev x)).bind fun v => match P.underlying src, P.underlying dst with
    | some (.int _), some (.int k) => match v with
      | .dat (.int _) n => f (just (dI k (k.wrap n)))
      | _ => none
    | some (.int _), some .string => match v with
      | .dat (.int _) n => f (one (.dat .str (bytesL (Utf8.encode n))))
      | _ => none
    | some .string, some .string => match v with
      | .dat .str l => f (one (.dat .str l))
      | _ => none
    | some .string, some (.slice e) => match P.underlying e, v with
      | some (.int .u8), .dat .str l => if rowKind P E e = some (.int .u8) then (newRow base e (.int .u8) l [] s.en).bind f else none
      | _, _ => none
    | some (.slice e), some .string => match P.underlying e with
      | some (.int .u8) => (elems s.en (.int .u8) v).bind fun l => f (one (.dat .str l))
      | _ => none
    | some (.slice _), some (.slice e) => if src = dst ∧ isU8D (P.underlying e) = true then (match v with
      | .own h => match s.en h with
        | .live (.row ety κ xs) => if List.length xs = 0 then none else f ⟨some (.r (.c (.own h))), [(h, .live (.row ety κ xs))]⟩
        | _ => none
      | _ => none) else none
    | _, _ => none
  | .makeInterface t x => if t = E ∧ errOk P E = true then match svCV (s.ev x) with
      | some (.dat (.int .i64) n) => if n = 0 then none else f (one (.dat .err n))
      | _ => none
    else none
  | .makeFunc fn first cap => match fn, first.toList with
    | .func g, [] => (cvs s cap.toList).bind fun cs => (capsOf cs).bind fun hs => f (one (.clo g hs))
    | _, _ => none
  | .extract x i => match s.ev x with
    | some (.t vs) => (vs[i]?).bind fun v => f ⟨some (.r v), []⟩
    | _ => none
  | .field t x i => match P.underlying t, svRV (s.ev x) with
    | some (.struct fs), some (.sg ss) => (fs[i]?).bind fun fd => (midS fd.offset (P.cellsOf fd.type) ss).bind fun p => (rvOfS (aggOf P fd.type) p.2.1).bind fun v => f ⟨some (.r v), []⟩
    | some (.struct fs), some (.a cs) => (fs[i]?).bind fun fd => (rvOf (aggOf P fd.type) (P.cellsOf fd.type) ((cs.drop fd.offset).take (P.cellsOf fd.type))).bind fun v => f ⟨some (.r v), []⟩
    | _, _ => none
  | .index t x y => match P.underlying t, svCV (s.ev x), svCV (s.ev y) with
    | some .string, some (.dat .str l), some (.dat (.int _) i) => (idx l i).bind fun c => f (one (.dat (.int .u8) c))
    | some (.array n e), none, some (.dat (.int _) i) => match svRV (s.ev x) with
      | some (.sg [.blk (.arr m κ) xs]) => if P.cellsOf e = 1 ∧ κ.sz = 1 ∧ n = m ∧ aggOf P e = some false then (idx xs i).bind fun u => (rvOf (some false) 1 (explode κ u)).bind fun v => f ⟨some (.r v), []⟩ else none
      | some (.a (.dat κ v :: cs)) => if P.cellsOf e = 1 ∧ cs.length + 1 = n ∧ aggOf P e = some false then
          (datsOf κ (.dat κ v :: cs)).bind fun xs => (idx xs i).bind fun u => f (one (.dat κ u)) else none
      | _ => none
    | _, _, _ => none
  | .indexAddr t x y => match arrElem P t with
    | some (n, e) => if P.cellsOf e = 0 then none else (intOf? (svCV (s.ev y))).bind fun i => match svCV (s.ev x) with
      | some (.elt h sz 0 0) => match s.en h with
        | .live (.row _ κ xs) => if P.cellsOf e = κ.sz ∧ sz = κ.sz then (if n = xs.length then (if 0 ≤ i ∧ i < xs.length then f (one (.elt h κ.sz i.toNat 0)) else none) else none) else none
        | _ => none
      | some (.ptr h off) => (arrAt s.en h off).bind fun ⟨_, _, ⟨m, κ, xs⟩, _⟩ => if P.cellsOf e = κ.sz ∧ n = m then (if 0 ≤ i ∧ i < n then f (one (.pel h off κ.sz i.toNat)) else none) else none
      | some (.roA (.arr m κ) xs) => if P.cellsOf e = κ.sz ∧ n = m then (idx xs i).bind fun v => f (one (.roA κ v)) else none
      | _ => none
    | none => (sliceElem P t).bind fun e => if P.cellsOf e = 0 then none else (intOf? (svCV (s.ev y))).bind fun i => match svCV (s.ev x) with
    | some (.dat (.list κ) l) => if P.cellsOf e = κ.sz then (idx l i).bind fun v => f (one (.roA κ v)) else none
    | some (.own h) => match s.en h with
      | .live (.row _ κ xs) => if P.cellsOf e = κ.sz then (if 0 ≤ i ∧ i < xs.length then f (one (.elt h κ.sz i.toNat 0)) else none) else none
      | .ro κ xs => if P.cellsOf e = κ.sz then (idx xs i).bind fun v => f (one (.roA κ v)) else none
      | _ => none
    | some (.sub h sz lo n) => match s.en h with
      | .live (.row _ κ xs) => if P.cellsOf e = κ.sz ∧ sz = κ.sz then (if 0 ≤ i ∧ i < n then f (one (.elt h κ.sz (lo + i.toNat) 0)) else none) else none
      | _ => none
    | _ => none
  | .slice t x lo hi none => match P.underlying t with
    | some (.array n e) => if P.cellsOf e = 0 then none else match svCV (s.ev x) with
      | some (.elt h sz 0 0) => match s.en h with
        | .live (.row ety κ xs) => if P.cellsOf e = κ.sz ∧ sz = κ.sz then (if n = xs.length then
            (if env.shr.any (Nat.beq base) then (if lo.isNone && hi.isNone then f ⟨some (.r (.c (.ful κ xs))), [(h, .ro κ xs)]⟩ else none)
            else cutK s n lo hi fun a b => f (one (.sub h κ.sz a (b - a)))) else none) else none
        | _ => none
      | some (.ptr h off) => (arrAt s.en h off).bind fun ⟨_, _, ⟨m, κ, xs⟩, _⟩ => if P.cellsOf e = κ.sz ∧ n = m ∧ n ≤ lim then cutK s n lo hi fun a b => f (one (.psub h off κ.sz a (b - a))) else none
      | _ => none
    | some .string => match svCV (s.ev x) with
      | some (.dat .str l) => cutK s l.length lo hi fun a b => f (one (.dat .str ((l.drop a).take (b - a))))
      | _ => none
    | some (.slice e) => if P.cellsOf e = 0 then none else match svCV (s.ev x) with
      | some (.dat (.list κ) l) => if P.cellsOf e = κ.sz then cutK s l.length lo hi fun a b => f (one (.dat (.list κ) ((l.drop a).take (b - a)))) else none
      | some .nils => cutK s 0 lo hi fun _ _ => f (one .nils)
      | some (.own h) => match s.en h with
        | .live (.row ety κ xs) => if P.cellsOf e = κ.sz then
            if lo.isNone && hi.isNone then f (one (.own h))
            else if env.shr.any (Nat.beq base) then cutK s xs.length lo hi fun a b => if a = 0 then (newRow base ety κ (xs.take b) [(h, .dead)] s.en).bind f else none
            else cutK s xs.length lo hi fun a b => f (one (.sub h κ.sz a (b - a)))
          else none
        | .ro κ xs => if P.cellsOf e = κ.sz then cutK s xs.length lo hi fun a b => f (one (.dat (.list κ) ((xs.drop a).take (b - a)))) else none
        | _ => none
      | some (.sub h sz l n) => match s.en h with
        | .live (.row _ κ xs) => if P.cellsOf e = κ.sz ∧ sz = κ.sz then cutK s n lo hi fun a b => f (one (.sub h sz (l + a) (b - a))) else none
        | _ => none
      | _ => none
    | _ => none
  | .makeSlice t l c => (sliceElem P t).bind fun e => (rowKind P E e).bind fun κ => (i64Of? (svCV (s.ev l))).bind fun n => (i64Of? (svCV (s.ev c))).bind fun m =>
    if 0 ≤ n ∧ n ≤ m ∧ (P.bytesOf e : Int) * m ≤ 140737488355328 then (newRow base e κ (List.replicate n.toNat κ.zero) [] s.en).bind f else none
  | .buildSlice t len parts => (sliceElem P t).bind fun e => (rowKind P E e).bind fun κ => if len * κ.sz ≤ 16777216 then
      (partsRow s κ ⟨s.en, [], [], []⟩ parts.toList (List.replicate len κ.zero)).bind fun p => (newRow base e κ p.1 p.2.log p.2.en).bind f else none
  | .alloc t => ((P.info? t).bind fun i => i.zero.bind fun z => (constCVs z.cells.toList).bind fun cs => match arrElem P t, cs with
    | some (n, e), .dat κ x :: r => if κ.sz = 1 then (datsOf κ (.dat κ x :: r)).bind fun xs => newArr base t κ xs s.en else none
    | _, cs => match (segK P E 8 t).filter anyArr with
      | some l => (zeroS l z.cells.toList).bind fun ss => newSegs base t ss s.en
      | none => newCells base t cs s.en).bind f
  | .box t x => (svRV (s.ev x)).bind fun v => match v with
    | .sg [.blk (.arr n κ) xs] => if isArrD (P.underlying t) = true ∧ κ.sz ≠ 0 ∧ 0 < n ∧ n ≤ lim then (if n = List.length xs then (match s.en base with
      | .free => f ⟨some (.r (.c (.elt base κ.sz 0 0))), [(base, .live (.row t κ xs))]⟩
      | _ => none) else none) else none
    | .sg ss => (newSegs base t ss s.en).bind f
    | v => (newCells base t v.cells s.en).bind f
  | .build t parts => match P.underlying t with
    | some (.struct fs) => if !(fs.toList.all fun fd => (P.info? fd.type).isSome) then none else (P.info? t).bind fun i => i.zero.bind fun z =>
      match (segK P E 8 t).filter anyArr with
      | some l => (zeroS l z.cells.toList).bind fun ss => (buildS s (fun i => (fs[i]?).map fun fd => (fd.offset, P.cellsOf fd.type)) parts.toList ss).bind fun ss' => f ⟨some (.r (.sg ss')), []⟩
      | none => (constCVs z.cells.toList).bind fun zs =>
      (partsCells s (fun i => (fs[i]?).map fun fd => (fd.offset, P.cellsOf fd.type)) parts.toList).bind fun ps => (fillCells ps zs).bind fun cs => f ⟨some (.r (.a cs)), []⟩
    | some (.array n e) => if (P.info? e).isSome then (P.info? t).bind fun i => i.zero.bind fun z => (constCVs z.cells.toList).bind fun zs =>
      (partsCells s (fun i => some (i * P.cellsOf e, P.cellsOf e)) parts.toList).bind fun ps => (fillCells ps zs).bind fun cs => match cs with
        | .dat κ x :: r => if κ.sz = 1 ∧ r.length + 1 = n then (datsOf κ (.dat κ x :: r)).bind fun xs => f ⟨some (.r (.sg [.blk (.arr n κ) xs])), []⟩ else none
        | _ => none
      else none
    | _ => none
  | .makeMap t none => match P.underlying t with
    | some (.map kt vt) => (kindOf P E 12 kt).bind fun κk => (kindOf P E 12 vt).bind fun κv => match s.en base with
      | .free => f ⟨some (.r (.c (.own base))), [(base, .live (.mp κk κv []))]⟩
      | _ => none
    | _ => none
  | .lookup t x y ok => match P.underlying t with
    | some (.map kt vt) => (P.info? vt).bind fun i => i.zero.bind fun z => match svCV (s.ev x) with
      | some (.own h) => match s.en h with
        | .live (.mp κk κv l) => (keyAt P kt κk (svRV (s.ev y))).bind fun k =>
            if κv.agg = false ∧ zeroCellB κv z = true then
              f ⟨some (if ok then .t [.c (.dat κv ((mget κk.eqb k l).getD κv.zero)), .c (.dat .bool (mget κk.eqb k l).isSome)] else .r (.c (.dat κv ((mget κk.eqb k l).getD κv.zero)))), []⟩
            else none
        | _ => none
      | _ => none
    | _ => none
  | .mapUpdate t x y u => match P.underlying t with
    | some (.map kt vt) => match svCV (s.ev x) with
      | some (.own h) => match s.en h with
        | .live (.mp κk κv l) => (keyAt P kt κk (svRV (s.ev y))).bind fun k => (datOf κv (svCV (s.ev u))).bind fun e =>
            if κv.agg = false then f ⟨none, [(h, .live (.mp κk κv (mput κk.eqb k e l)))]⟩ else none
        | _ => none
      | _ => none
    | _ => none
  | .range t x => match P.underlying t with
    | some .string => match svCV (s.ev x) with
      | some (.dat .str l) => match s.en base with
        | .free => f ⟨some (.r (.c (.ptr base 0))), [(base, .live (.it l 0))]⟩
        | _ => none
      | _ => none
    | _ => none
  | .next x str => if str = true then match svCV (s.ev x) with
      | some (.ptr h 0) => match s.en h with
        | .live (.it l pos) => if pos < l.length then f ⟨some (.t [.c (.dat .bool true), .c (.dat (.int .i64) (pos : Int)), .c (.dat (.int .i32) ((u8d l pos).1 : Int))]), [(h, .live (.it l (pos + (u8d l pos).2)))]⟩
            else f ⟨some (.t [.c (.dat .bool false)]), []⟩
        | _ => none
      | _ => none
    else none
  | .typeAssert x _ t ok => if t = E ∧ ok = true ∧ errOk P E = true then match svCV (s.ev x) with
      | some (.dat .err n) => f ⟨some (.t [.c (.dat (.int .i64) n), .c (.dat .bool (n != 0))]), []⟩
      | _ => none
    else none
  | .call c => match c.callee with
    | .value x => ((svCV (s.ev x)).bind calleeOf).bind fun g => (rvs s c.args.toList).bind fun vs => callK (env g.1) s.en (vs ++ g.2) base f
    | .builtin .len => (c.argTypes[0]?).bind fun t => (c.args[0]?).bind fun x => match P.underlying t with
      | some .string => match svCV (s.ev x) with
        | some (.dat .str l) => f (just (dI .i64 l.length))
        | _ => none
      | some (.slice _) => ((svCV (s.ev x)).bind (lenOf s.en)).bind fun n => f (just (dI .i64 n))
      | _ => none
    | .builtin .min => (rvs s c.args.toList).bind fun vs => match vs with
      | .c (.dat (.int k) x) :: r => (minmax false k x r).bind fun n => f (just (dI k n))
      | _ => none
    | .builtin .max => (rvs s c.args.toList).bind fun vs => match vs with
      | .c (.dat (.int k) x) :: r => (minmax true k x r).bind fun n => f (just (dI k n))
      | _ => none
    | .builtin .copy => match c.argTypes.toList, c.args.toList with
      | [t, _], [x, y] => (sliceElem P t).bind fun e => if P.cellsOf e = 0 then none else (svCV (s.ev x)).bind fun a => match a with
        | .own h => match s.en h with
          | .live (.row ety κ xs) => if P.cellsOf e = κ.sz then (svCV (s.ev y)).bind fun b => (elems s.en κ b).bind fun ys =>
              f ⟨dI .i64 (min xs.length ys.length : Nat), [(h, .live (.row ety κ (ys.take xs.length ++ xs.drop ys.length)))]⟩ else none
          | _ => none
        | .sub h sz lo n => match s.en h with
          | .live (.row ety κ xs) => if P.cellsOf e = κ.sz ∧ sz = κ.sz then (svCV (s.ev y)).bind fun b => (elems s.en κ b).bind fun ys =>
              f ⟨dI .i64 (min n ys.length : Nat), [(h, .live (.row ety κ (xs.take lo ++ ys.take n ++ xs.drop (lo + min n ys.length))))]⟩ else none
          | _ => none
        | .psub h off sz lo n => (arrAt s.en h off).bind fun ⟨ty, a, ⟨m, κ, xs⟩, r⟩ => if P.cellsOf e = κ.sz ∧ sz = κ.sz then if lo + n ≤ List.length xs then (svCV (s.ev y)).bind fun b => (elems s.en κ b).bind fun ys =>
              f ⟨dI .i64 (min n ys.length : Nat), [(h, .live (.segs ty (a ++ .blk (.arr m κ) (List.take lo xs ++ ys.take n ++ List.drop (lo + min n ys.length) xs) :: r)))]⟩ else none else none
        | _ => none
      | _, _ => none
    | .builtin .append => match c.argTypes.toList, c.args.toList with
      | [t, t2], [x, y] => (sliceElem P t).bind fun e => (rowKind P E e).bind fun κ =>
        (appendSrc P s κ t2 y).bind fun ys => (svCV (s.ev x)).bind fun a => match a with
        | .nils => if ys.length * P.bytesOf e ≤ bound then (newRow base e κ ys [] s.en).bind f else none
        | .ful κ' xs => (K.conv (.list κ') (.list κ) xs).bind fun (xs : List κ.T) =>
              if (xs.length + ys.length) * P.bytesOf e ≤ bound ∧ ys.length ≠ 0 then (newRow base e κ (xs ++ ys) [] s.en).bind f else none
        | .own h => match s.en h with
          | .live (.row e' κ' xs) => if e = e' then (K.conv (.list κ') (.list κ) xs).bind fun (xs : List κ.T) =>
              if (xs.length + ys.length) * P.bytesOf e ≤ bound then (newRow base e κ (xs ++ ys) [(h, .dead)] s.en).bind f else none
            else none
          | _ => none
        | _ => none
      | _, _ => none
    | _ => none
  | _ => none
end Go.Sx
