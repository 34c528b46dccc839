/- Part of a proof by a small interpreter on plain values; no condition. -/
import Derived.Test.YtmbakmdgmccgiabDoorSx34
/-! Sx11: a region, code, a function: on pure values. -/
namespace Go.Sx
open Go
set_option autoImplicit false
set_option linter.unusedSimpArgs false
set_option linter.unusedVariables false
/-! ### a region -/
def CV.ids : CV → List Nat
  | .ptr h _ | .elt h _ _ _ | .own h | .sub h _ _ _ | .slf h | .oel h _ _ | .pel h _ _ _ | .psub h _ _ _ _ | .ndf h _ _ => [h]
  | .dat (.nd p) _ => [p]
  | .clo _ hs => hs.filterMap id
  | _ => []
def Seg.ids : Seg → List Nat
  | .one c => c.ids
  | .blk _ _ => []
def RV.ids : RV → List Nat
  | .c x => x.ids
  | .a cs => cs.flatMap CV.ids
  | .sg ss => ss.flatMap Seg.ids
def SV.ids : SV → List Nat
  | .r v => v.ids
  | .t vs => vs.flatMap RV.ids
  | .u => []
def reach (en : Nat → EnS) : Nat → List Nat → List Nat
  | 0, l => l
  | d + 1, l => l ++ reach en d (l.flatMap fun h => match en h with
    | .live (.cells _ cs) => cs.flatMap CV.ids
    | .live (.segs _ ss) => ss.flatMap Seg.ids
    | _ => [])
def livePools (en : Nat → EnS) : List Nat := poolNos.filter fun p => match en p with
  | .live (.pool _ _ _) => true
  | _ => false
/-- the pools that an operation looks at which none of its operands names. -/
def poolIds (P : Program) (en : Nat → EnS) (op : Op) : List Nat := match op with
  | .alloc t => (findPool en t poolNos).toList
  | .box t _ => (findPool en t poolNos).toList
  | .makeMap t none => match P.underlying t with
    | some (.map _ vt) => match P.underlying vt with
      | some (.pointer e) => (findPool en e poolNos).toList
      | _ => []
    | _ => []
  | .call c => match c.callee with
    | .value _ => livePools en
    | _ => []
  | _ => []
/-- an operation that looks at no object; else at those of a list and the pools. -/
def idsOf (P : Program) (en : Nat → EnS) (op : Op) (l : List Nat) : List Nat :=
  match op with
  | .move _ | .assign _ | .nilCheck _ | .fieldAddr _ _ _ | .extract _ _ => []
  | _ => poolIds P en op ++ l
def tmpsOf : List Operand → List Nat
  | [] => []
  | .tmp t :: r => t :: tmpsOf r
  | _ :: r => tmpsOf r
/-- the part of a state that an operation may look at. -/
def VSt.view (s : VSt) (ts ids : List Nat) (base : Nat) : VSt :=
  { sl := fun t => bif ts.any (Nat.beq t) then s.sl t else none
    en := fun h => bif ids.any (Nat.beq h) || (Nat.ble base h && Nat.ble (h + 1) (base + 64)) then s.en h else .dead
    gl := s.gl }
structure Info where
  i : Nat
  ts : List Nat       -- slots read
  ids : List Nat      -- objects looked at
  base : Nat
  dst : List Nat      -- slots written
  ups : List Nat      -- objects turned
def bindsAny (e : Edge) : Bool := Region.binds .any e
/-- all that each operation waits for, as bits. -/
def masks : List Oper → List Nat → List Nat
  | [], acc => acc
  | o :: r, acc => masks r (acc ++ [o.after.toList.foldl (fun m e => if bindsAny e then m ||| 2 ^ e.on ||| acc.getD e.on 0 else m) 0])
def apartL (xs ys : List Nat) : Bool := xs.all fun x => !ys.any (Nat.beq x)
def inBase (base h : Nat) : Bool := Nat.ble base h && Nat.ble (h + 1) (base + 64)
def Info.apart (x y : Info) : Bool :=
  apartL x.dst (y.ts ++ y.dst) && apartL y.dst x.ts && apartL x.ups (y.ids ++ y.ups) && apartL y.ups x.ids &&
  x.ups.all (fun h => !inBase y.base h) && y.ups.all (fun h => !inBase x.base h)
def orderOk (ms : List Nat) : List Info → Bool
  | [] => true
  | x :: r => r.all (fun y => (ms.getD y.i 0).testBit x.i || x.apart y) && orderOk ms r
def edgesBack (ops : Array Oper) : Bool :=
  ops.toList.zipIdx.all fun (o, i) => o.after.toList.all fun e => !bindsAny e || Nat.ble (e.on + 1) i
def guardTmp (ops : Array Oper) (o : Oper) : List Nat :=
  match o.guard with
  | none => []
  | some (j, _) => ((ops[j]?).bind (·.dst)).toList
def tagOf (id i : Nat) : Nat := 1000 + (id * 256 + i) * 64
def svIds (s : VSt) (ts : List Nat) : List Nat := ts.flatMap fun t => match s.sl t with | some v => v.ids | none => []
/-- a state that says of slot 't' what is known of it. -/
def VSt.know (s : VSt) (t : Nat) (b : Bool) : VSt := { s with sl := upd s.sl t (dB b) }
variable (P : Program) (E : TypeId) (N : Nat) (env : Env)
def runOps (ops : Array Oper) (id : Nat) {A : Type} (fin : List Info → VSt → Option A) : (todo : List Oper) → (i : Nat) → VSt → List Info → Option A
  | [], _, s, acc => fin acc.reverse s
  | o :: r, i, s, acc =>
    let ts := tmpsOf o.op.operands.toList
    let ids := idsOf P s.en o.op (reach s.en 8 (svIds s ts))
    let base := tagOf id i
    let stepAt (s : VSt) : Option A :=
      stepD P E env [] base o (s.view ts ids base) fun d =>
        runOps ops id fin r (i + 1) (s.app o.dst d) (⟨i, guardTmp ops o ++ ts, ids, base, o.dst.toList, d.ups.map (·.1)⟩ :: acc)
    let skip (s : VSt) : Option A :=
      runOps ops id fin r (i + 1) (s.app o.dst ⟨some .u, []⟩) (⟨i, guardTmp ops o, [], base, o.dst.toList, []⟩ :: acc)
    if !(o.dst.all fun t => Nat.ble (t + 1) N) then none else
    match o.guard with
    | none => stepAt s
    | some (j, want) => match (ops[j]?).bind (·.dst) with
      | none => none
      | some t => match s.sl t with
        | some .u => skip s
        | some (.r (.c (.dat .bool b))) =>
          if b = true then (if true == want then stepAt (s.know t true) else skip (s.know t true))
          else (if false == want then stepAt (s.know t false) else skip (s.know t false))
        | _ => none

/-! ### code -/
structure LSh where
  slots : List Nat
  sh : Shape
inductive Ann where
  | no
  | two (a b : Ann)
  | one (a : Ann)
  | loop (l : LSh) (a : Ann)
  | join (l : LSh) (a : Ann)
inductive Out (X A : Type) where
  | go (x : X) | ret (r : A)
def slotVals (s : VSt) : List Nat → Option (List RV)
  | [] => some []
  | t :: r => (svRV (s.sl t)).bind fun v => (slotVals s r).map (v :: ·)
/-- numbers below 500 stand for what they have stood for from the start. -/
def keptNo (ren : List (Nat × Option Nat)) : List Nat → Bool
  | [] => true
  | h :: r => (Nat.ble 500 h || (match ren.lookup h with | some (some i) => Nat.beq i h | _ => false)) && keptNo ren r
/-- the reading, with what some numbers stand for from the start. -/
def Shape.getAt (sh : Shape) (ren : List (Nat × Option Nat)) (vs : List RV) (en : Nat → EnS) : Option (sh.T × GSt) :=
  (getR (ksE sh.ents []) ⟨en, [], ren, sh.ents.map (·.1)⟩ sh.vals vs).bind fun p => (getE [] p.2 sh.ents).map fun q => (p.1 (q.1 ()), q.2)
def selfRen (p : Nat → Bool) : List (Nat × ESh) → List (Nat × Option Nat)
  | [] => []
  | e :: r => bif p e.1 then (e.1, some e.1) :: selfRen p r else selfRen p r
def LSh.get (l : LSh) (s : VSt) : Option l.sh.T := (slotVals s l.slots).bind fun vs => (l.sh.getAt (selfRen (fun h => Nat.ble (h + 1) 500) l.sh.ents) vs s.en).bind fun p => if keptNo p.2.ren (l.sh.ents.map (·.1)) then some p.1 else none
def setSlots : List Nat → List RV → Nat → Option SV
  | t :: ts, v :: vs => upd (setSlots ts vs) t (some (.r v))
  | _, _ => fun _ => none
def entsOf : List (Nat × Ent) → Nat → EnS
  | [] => fun h => bif Nat.ble 500 h then .free else .dead
  | (h, e) :: r => upd (entsOf r) h (.live e)
def LSh.fill (gl : Nat → Option CV) (l : LSh) (x : l.sh.T) : VSt := { sl := setSlots l.slots (l.sh.vs x), en := entsOf (l.sh.es x), gl := gl }
def loopF {X A : Type} (body : (X → Option A) → X → Option A) : Nat → X → Option A
  | 0, _ => none
  | n + 1, x => body (loopF body n) x
def exec (n : Nat) : (c : Code) → Ann → VSt → {A : Type} → (Exit → VSt → Option A) → Option A
  | .skip, _, s, _, k => k .normal s
  | .label _, _, s, _, k => k .normal s
  | .ret, _, s, _, k => k .ret s
  | .exit id, _, s, _, k => k (.exit id) s
  | .seq x y, ann, s, A, k =>
    let rest (s' : VSt) : Option A := exec n y (match ann with | .two _ b => b | _ => .no) s' k
    match ann with
    | .two (.join l a) _ =>
      (exec n x a s (A := Out l.sh.T A) fun e s' => match e with
        | .normal => (l.get s').map .go
        | e => (k e s').map .ret).bind fun o => match o with
          | .go z => rest (l.fill s.gl z)
          | .ret r => some r
    | .two a _ => exec n x a s fun e s' => match e with
      | .normal => rest s'
      | e => k e s'
    | _ => exec n x .no s fun e s' => match e with
      | .normal => rest s'
      | e => k e s'
  | .cond c x y, ann, s, _, k =>
    let ax := match ann with | .two a _ => a | _ => .no
    let ay := match ann with | .two _ b => b | _ => .no
    match svCV (s.ev c) with
    | some (.dat .bool b) => if b = true then exec n x ax s k else exec n y ay s k
    | _ => none
  | .block id c, ann, s, _, k => exec n c (match ann with | .one a => a | a => a) s fun e s' => match e with
    | .exit id' => if id' = id then k .normal s' else k (.exit id') s'
    | e => k e s'
  | .scope c, ann, s, _, k => exec n c (match ann with | .one a => a | a => a) s fun e s' => match e with
    | .goto _ => none
    | e => k e s'
  | .loop c, ann, s, A, k => match ann with
    | .loop l a => (l.get s).bind fun x0 => loopF (fun rec x => exec n c a (l.fill s.gl x) fun e s' => match e with
      | .normal => (l.get s').bind rec
      | e => k e s') n x0
    | _ => none
  | .region id ops draw, _, s, _, k =>
    if draw then
      if edgesBack ops then runOps P E N env ops id (fun infos s' => if orderOk (masks ops.toList []) infos then k .normal s' else none) ops.toList 0 s []
      else none
    else runOps P E N env ops id (fun _ s' => k .normal s') ops.toList 0 s []
  | _, _, _, _, _ => none

/-! ### a function -/
def resK (s : VSt) : List ResultVar → Option (List RV)
  | [] => some []
  | .tmp t :: r => (svRV (s.sl t)).bind fun v => (resK s r).map (v :: ·)
  | .cell a t :: r => match svCV (s.sl a) with
    | some (.ptr h off) => match s.en h with
      | .live (.cells _ cs) => (rvOf (aggOf P t) (P.cellsOf t) ((cs.drop off).take (P.cellsOf t))).bind fun v => (resK s r).map (v :: ·)
      | .live (.segs _ ss) => (midS off (P.cellsOf t) ss).bind fun p => (rvOfS (aggOf P t) p.2.1).bind fun v => (resK s r).map (v :: ·)
      | _ => none
    | some (.elt h sz 0 0) => match s.en h with
      | .live (.row _ κ xs) => match arrElem P t with
        | some (n, e) => if sz = κ.sz ∧ P.cellsOf e = κ.sz ∧ P.cellsOf t = n * κ.sz then (if n = xs.length then (resK s r).map (.sg [.blk (.arr n κ) xs] :: ·) else none) else none
        | none => none
      | _ => none
    | _ => none
/-- the same, handed on. -/
def resC (s : VSt) {A : Type} : List ResultVar → (List RV → Option A) → Option A
  | [], k => k []
  | .tmp t :: r, k => (svRV (s.sl t)).bind fun v => resC s r fun vs => k (v :: vs)
  | .cell a t :: r, k => match svCV (s.sl a) with
    | some (.ptr h off) => match s.en h with
      | .live (.cells _ cs) => (rvOf (aggOf P t) (P.cellsOf t) ((cs.drop off).take (P.cellsOf t))).bind fun v => resC s r fun vs => k (v :: vs)
      | .live (.segs _ ss) => (midS off (P.cellsOf t) ss).bind fun p => (rvOfS (aggOf P t) p.2.1).bind fun v => resC s r fun vs => k (v :: vs)
      | _ => none
    | some (.elt h sz 0 0) => match s.en h with
      | .live (.row _ κ xs) => match arrElem P t with
        | some (n, e) => if sz = κ.sz ∧ P.cellsOf e = κ.sz ∧ P.cellsOf t = n * κ.sz then (if n = xs.length then resC s r fun vs => k (.sg [.blk (.arr n κ) xs] :: vs) else none) else none
        | none => none
      | _ => none
    | _ => none
theorem resC_spec {s : VSt} {A : Type} {x : A} : ∀ {l : List ResultVar} {k : List RV → Option A}, resC P s l k = some x → ∃ vs, resK P s l = some vs ∧ k vs = some x
  | [], k, h => ⟨[], rfl, h⟩
  | .tmp t :: r, k, h => by
    simp only [resC, Option.bind_eq_some_iff] at h
    obtain ⟨v, hv, h⟩ := h
    obtain ⟨vs, h1, h2⟩ := resC_spec h
    exact ⟨v :: vs, by simp [resK, hv, h1], h2⟩
  | .cell a t :: r, k, h => by
    simp only [resC] at h
    simp only [resK]
    split at h
    · split at h
      · rw [Option.bind_eq_some_iff] at h
        obtain ⟨v, hv, h⟩ := h
        obtain ⟨vs, h1, h2⟩ := resC_spec h
        exact ⟨v :: vs, by simp [hv, h1], h2⟩
      · simp only [Option.bind_eq_some_iff] at h
        obtain ⟨p, hp, v, hv, h⟩ := h
        obtain ⟨vs, h1, h2⟩ := resC_spec h
        exact ⟨v :: vs, by simp [hp, hv, h1], h2⟩
      · cases h
    · split at h
      · split at h
        · split at h
          · rename_i hc
            split at h
            · rename_i hn
              obtain ⟨vs, h1, h2⟩ := resC_spec h
              exact ⟨_, by rw [if_pos hc, if_pos hn, h1]; rfl, h2⟩
            · cases h
          · cases h
        · cases h
      · cases h
    · cases h
/-- an object of cells that was handed in is at its number still. -/
def keptCells (pre : List (Nat × ESh)) (ren : List (Nat × Option Nat)) : List Nat → Bool
  | [] => true
  | h :: r => (bif keptE pre h then Nat.ble (h + 1) 500 && (match ren.lookup h with | some (some i) => Nat.beq i h | _ => false)
    else true) && keptCells pre ren r
def isCells (pre : List (Nat × ESh)) (h : Nat) : Bool := keptE pre h
def shK (pre : List (Nat × ESh)) (s : VSt) (vs : List RV) (sh : Shape) : Option sh.T :=
  (sh.getAt (selfRen (isCells pre) sh.ents) vs s.en).bind fun p => if keptCells pre p.2.ren (sh.ents.map (·.1)) then some p.1 else none
def retK (pre : List (Nat × ESh)) (s : VSt) (vs : List RV) : (l : List Shape) → Option (AltT l)
  | [] => none
  | [sh] => shK pre s vs sh
  | sh :: t :: r => match shK pre s vs sh with
    | some x => some (.inl x)
    | none => (retK pre s vs (t :: r)).map .inr
def seqN : Nat → Nat → List Nat
  | _, 0 => []
  | i, n + 1 => i :: seqN (i + 1) n
/-- what a function's body comes to, from its arguments. -/
def fnRun (n : Nat) (fn : Func) (ann : Ann) (pre : Shape) (post : List Shape) (x : pre.T) : Option (AltT post) :=
  match fn.body with
  | none => none
  | some c => exec P E fn.ntmps env n c ann (LSh.fill env.gl ⟨seqN 0 (fn.params.size + fn.nfree), pre⟩ x) fun e s => match e with
    | .normal | .ret => resC P s fn.results.toList fun vs => retK pre.ents s vs post
    | _ => none
end Go.Sx
