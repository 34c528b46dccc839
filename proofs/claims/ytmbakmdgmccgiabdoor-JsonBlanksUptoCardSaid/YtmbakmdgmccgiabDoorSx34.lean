/- Part of a proof by a small interpreter on plain values; no condition. -/
import Derived.Test.YtmbakmdgmccgiabDoorSx10
/-! Sx34: pools: objects of one type that point at each other, each in a block of its own. -/
namespace Go.Sx
open Go
set_option autoImplicit false
set_option linter.unusedSimpArgs false
set_option linter.unusedVariables false
/-- the numbers that a pool can have. -/
def poolNos : List Nat := [200, 201, 202, 203, 204, 205, 206, 207]
def findPool (en : Nat → EnS) (t : TypeId) : List Nat → Option Nat
  | [] => none
  | p :: r => match en p with
    | .live (.pool ty _ _) => if ty = t then some p else findPool en t r
    | _ => findPool en t r
theorem findPool_spec {en : Nat → EnS} {t : TypeId} : ∀ {l : List Nat} {p : Nat}, findPool en t l = some p → ∃ κ xs, en p = .live (.pool t κ xs)
  | [], p, h => by cases h
  | q :: r, p, h => by
    unfold findPool at h
    split at h
    · rename_i ty κ xs he
      split at h
      · rename_i e
        injection h with h
        subst h
        subst e
        exact ⟨κ, xs, he⟩
      · exact findPool_spec h
    · exact findPool_spec h
/-! ### the invariant -/
section
variable {C : Ctx} {R R' : Part} {g g' : Gh} {en en' : Nat → EnS} {w w' : World}
theorem Inv.node_at (hi : Inv C R g en w) {p : Nat} {ty : TypeId} {κ : K} {xs : List κ.T} (hl : en p = .live (.pool ty κ xs)) {i b : Nat} (hn : R.nd p i b) :
    ∃ x arr fr, xs[i]? = some x ∧ w.heap[b]? = some (.cells arr ty fr) ∧ Unf fr arr.size ∧ κ.Rd C.E R x arr.toList := by
  obtain ⟨v, hv, q, rfl, hx⟩ := hi.live p _ hl
  obtain ⟨h1, _, h2⟩ := hi.pl p ty κ xs hl
  rw [hv] at h1
  injection h1 with h1
  injection h1 with _ h1
  obtain rfl : q = p := by omega
  obtain ⟨h3, h4⟩ := h2 i b hn
  obtain ⟨b', arr, fr, k1, k2, k3, k4⟩ := hx i _ (List.getElem?_eq_getElem h3)
  obtain rfl := (h4 i b' k1).1 rfl
  exact ⟨_, arr, fr, List.getElem?_eq_getElem h3, k2, k3, k4⟩
theorem own_nd {R : Part} {v : Value} {p : Nat} (hv : v = .int .i64 (p : Int)) {i b : Nat} (h : R.nd p i b) : own R v b := .inr ⟨p, i, hv, h⟩
/-- one node is turned. -/
theorem Inv.node (hi : Inv C R g en w) {p : Nat} {ty : TypeId} {κ : K} {xs : List κ.T} (hl : en p = .live (.pool ty κ xs)) {i b : Nat} (hn : R.nd p i b) (y : κ.T) {arr : Array Value} {fr : Nat × Nat}
    (hsize : w'.heap.size = w.heap.size) (hos : w'.os = w.os) (htape : w'.tape = w.tape) (hout : w'.output = w.output) (hoth : ∀ k, k ≠ b → w'.heap[k]? = w.heap[k]?)
    (hb : w'.heap[b]? = some (.cells arr ty fr)) (hu : Unf fr arr.size) (hy : κ.Rd C.E R y arr.toList) : Inv C R g (upd en p (.live (.pool ty κ (xs.set i y)))) w' := by
  obtain ⟨hg, hPL, hok⟩ := hi.pl p ty κ xs hl
  obtain ⟨v, hv, q, rfl, hx⟩ := hi.live p _ hl
  rw [hg] at hv
  injection hv with hv
  injection hv with _ hv
  obtain rfl : p = q := by omega
  have hown : own R (.int .i64 (p : Int)) b := own_nd rfl hn
  have hback : ∀ j e, upd en p (.live (.pool ty κ (xs.set i y))) j = .live e → ∃ e0, en j = .live e0 := fun j e h => by
    by_cases hj : j = p
    · subst hj; exact ⟨_, hl⟩
    · rw [upd_ne _ _ hj] at h; exact ⟨e, h⟩
  refine ⟨fun k o h => ?_, fun j e h => ?_, fun j κ' ys h => ?_, fun j h => ?_, fun j e u k h hgj hb' => ?_, fun j j' e e' u u' k hne h h' hgj hgj' hb1 hb2 => ?_, hi.newR, ⟨hos.trans hi.kept.os, htape.trans hi.kept.tape, hout.trans hi.kept.output, by rw [hsize]; exact hi.kept.size, fun k hk hs => ?_⟩, hi.keep, fun j ty' κ' ys h => ?_, hi.oldN, hi.newN⟩
  · rw [hoth k (fun e => by subst e; rw [(hi.mine p _ _ k hl hg hown).1] at h; cases h)]
    exact hi.sub k o h
  · by_cases hj : j = p
    · subst hj
      rw [upd_same] at h
      injection h with h
      subst h
      refine ⟨_, hg, j, rfl, fun m x hm => ?_⟩
      rw [List.getElem?_set] at hm
      by_cases him : i = m
      · subst him
        rw [if_pos rfl] at hm
        split at hm
        · injection hm with hm
          subst hm
          exact ⟨b, arr, fr, hn, hb, hu, hy⟩
        · cases hm
      · rw [if_neg him] at hm
        obtain ⟨b', arr', fr', k1, k2, k3, k4⟩ := hx m x hm
        refine ⟨b', arr', fr', k1, ?_, k3, k4⟩
        rw [hoth b' (fun e => him ((((hok i b hn).2 m b' k1).2 e.symm)))]
        exact k2
    · rw [upd_ne _ _ hj] at h
      obtain ⟨u, h1, h2⟩ := hi.live j e h
      refine ⟨u, h1, h2.mono (Part.le_refl R) (Gh.le_refl g) fun k hk => hoth k (fun e' => ?_)⟩
      subst e'
      exact hi.sep j p e _ u _ k hj h hl h1 hg hk hown
  · by_cases hj : j = p
    · subst hj; rw [upd_same] at h; cases h
    · rw [upd_ne _ _ hj] at h; exact hi.ro j κ' ys h
  · by_cases hj : j = p
    · subst hj; rw [upd_same] at h; cases h
    · rw [upd_ne _ _ hj] at h; exact hi.free j h
  · obtain ⟨e0, h0⟩ := hback j e h
    exact hi.mine j e0 u k h0 hgj hb'
  · obtain ⟨e0, h0⟩ := hback j e h
    obtain ⟨e1, h1⟩ := hback j' e' h'
    exact hi.sep j j' e0 e1 u u' k hne h0 h1 hgj hgj' hb1 hb2
  · rw [hoth k (fun e => ?_)]
    · exact hi.kept.block k hk hs
    · subst e
      rcases (hi.mine p _ _ k hl hg hown).2 with h | h
      · omega
      · exact hs h
  · by_cases hj : j = p
    · subst hj
      rw [upd_same] at h
      injection h with h
      injection h with h1 h2 h3
      subst h2
      obtain rfl := eq_of_heq h3
      exact ⟨hg, hPL, by rw [List.length_set]; exact hok⟩
    · rw [upd_ne _ _ hj] at h; exact hi.pl j ty' κ' ys h
/-- a node more. -/
theorem Inv.grow (hi : Inv C R g en w) {p : Nat} {ty : TypeId} {κ : K} {xs : List κ.T} (hl : en p = .live (.pool ty κ xs)) (y : κ.T) {arr : Array Value} (hw : w' = w.alloc (.cells arr ty)) (hy : κ.Rd C.E R y arr.toList) :
    ∃ R', R.le R' ∧ R'.nd p xs.length w.heap.size ∧ Inv C R' g (upd en p (.live (.pool ty κ (xs ++ [y])))) w' := by
  subst hw
  obtain ⟨hg, hPL, hok⟩ := hi.pl p ty κ xs hl
  obtain ⟨v, hv, q, rfl, hx⟩ := hi.live p _ hl
  rw [hg] at hv
  injection hv with hv
  injection hv with _ hv
  obtain rfl : p = q := by omega
  let R' : Part := ⟨R.ob, fun q j k => R.nd q j k ∨ (q = p ∧ j = xs.length ∧ k = w.heap.size)⟩
  have hR : R.le R' := ⟨fun _ _ h => h, fun _ _ _ h => .inl h⟩
  have hnew : (w.alloc (.cells arr ty)).heap[w.heap.size]? = some (.cells arr ty (0, 0)) := by
    show (w.heap.push _)[w.heap.size]? = _
    simp
  have hold : ∀ k, k < w.heap.size → (w.alloc (.cells arr ty)).heap[k]? = w.heap[k]? := fun k hk => heap_alloc_old w _ hk
  have hlt : ∀ i b, R.nd p i b → b < w.heap.size := fun i b h => hi.own_lt hl hg (own_nd rfl h)
  have hback : ∀ j e, upd en p (.live (.pool ty κ (xs ++ [y]))) j = .live e → ∃ e0, en j = .live e0 := fun j e h => by
    by_cases hj : j = p
    · subst hj; exact ⟨_, hl⟩
    · rw [upd_ne _ _ hj] at h; exact ⟨e, h⟩
  have hown : ∀ j e u k, en j = .live e → g j = some u → own R' u k → own R u k ∨ (j = p ∧ k = w.heap.size) := fun j e u k h hgj hb => by
    rcases hb with hb | ⟨q, i, rfl, hn | ⟨rfl, rfl, rfl⟩⟩
    · exact .inl (.inl hb)
    · exact .inl (.inr ⟨q, i, rfl, hn⟩)
    · exact .inr ⟨(hi.int_key h hgj).1, rfl⟩
  have hRlt : ∀ k o, R k = some o → k < w.heap.size := fun k o h => (Array.getElem?_eq_some_iff.1 (hi.sub k o h)).1
  refine ⟨R', hR, .inr ⟨rfl, rfl, rfl⟩, fun k o h => ?_, fun j e h => ?_, fun j κ' ys h => ?_, fun j h => ?_, fun j e u k h hgj hb' => ?_, fun j j' e e' u u' k hne h h' hgj hgj' hb1 hb2 => ?_, hi.newR, ⟨hi.kept.os, hi.kept.tape, hi.kept.output, ?_, fun k hk hs => ?_⟩, hi.keep, fun j ty' κ' ys h => ?_, fun q i b h => .inl (hi.oldN q i b h), fun q i b h => ?_⟩
  · rw [hold k (hRlt k o h)]; exact hi.sub k o h
  · by_cases hj : j = p
    · subst hj
      rw [upd_same] at h
      injection h with h
      subst h
      refine ⟨_, hg, j, rfl, fun m x hm => ?_⟩
      by_cases hml : m < xs.length
      · rw [List.getElem?_append_left hml] at hm
        obtain ⟨b', arr', fr', k1, k2, k3, k4⟩ := hx m x hm
        exact ⟨b', arr', fr', .inl k1, (hold b' (hlt m b' k1)).trans k2, k3, K.Rd_mono hR κ x _ k4⟩
      · rw [List.getElem?_append_right (by omega)] at hm
        have hm0 : m - xs.length = 0 := by
          rcases Nat.eq_zero_or_pos (m - xs.length) with h0 | h0
          · exact h0
          · rw [List.getElem?_eq_none (by simp; omega)] at hm; cases hm
        rw [hm0] at hm
        injection hm with hm
        subst hm
        obtain rfl : m = xs.length := by omega
        exact ⟨w.heap.size, arr, (0, 0), .inr ⟨rfl, rfl, rfl⟩, hnew, .inl rfl, K.Rd_mono hR κ y _ hy⟩
    · rw [upd_ne _ _ hj] at h
      obtain ⟨u, h1, h2⟩ := hi.live j e h
      exact ⟨u, h1, h2.mono hR (Gh.le_refl g) fun k hk => hold k (hi.own_lt h h1 hk)⟩
  · by_cases hj : j = p
    · subst hj; rw [upd_same] at h; cases h
    · rw [upd_ne _ _ hj] at h
      obtain ⟨u, h1, h2⟩ := hi.ro j κ' ys h
      exact ⟨u, h1, K.Rd_mono hR (.list κ') ys _ h2⟩
  · by_cases hj : j = p
    · subst hj; rw [upd_same] at h; cases h
    · rw [upd_ne _ _ hj] at h; exact hi.free j h
  · obtain ⟨e0, h0⟩ := hback j e h
    rcases hown j e0 u k h0 hgj hb' with hb | ⟨_, rfl⟩
    · exact hi.mine j e0 u k h0 hgj hb
    · refine ⟨?_, .inl hi.kept.size⟩
      show R w.heap.size = none
      cases hq : R w.heap.size with
      | none => rfl
      | some o => have := hRlt _ o hq; omega
  · obtain ⟨e0, h0⟩ := hback j e h
    obtain ⟨e1, h1⟩ := hback j' e' h'
    rcases hown j e0 u k h0 hgj hb1 with k1 | ⟨k1, k2⟩
    · rcases hown j' e1 u' k h1 hgj' hb2 with k3 | ⟨k3, k4⟩
      · exact hi.sep j j' e0 e1 u u' k hne h0 h1 hgj hgj' k1 k3
      · have := hi.own_lt h0 hgj k1; omega
    · rcases hown j' e1 u' k h1 hgj' hb2 with k3 | ⟨k3, k4⟩
      · have := hi.own_lt h1 hgj' k3; omega
      · exact hne (k1.trans k3.symm)
  · show C.W0.heap.size ≤ (w.heap.push _).size
    rw [Array.size_push]
    have := hi.kept.size
    omega
  · rw [hold k (Nat.lt_of_lt_of_le hk hi.kept.size)]; exact hi.kept.block k hk hs
  · by_cases hj : j = p
    · subst hj
      rw [upd_same] at h
      injection h with h
      injection h with h1 h2 h3
      subst h2
      obtain rfl := eq_of_heq h3
      refine ⟨hg, hPL, fun i b hn => ?_⟩
      rw [List.length_append, List.length_singleton]
      rcases hn with hn | ⟨_, rfl, rfl⟩
      · obtain ⟨m1, m2⟩ := hok i b hn
        refine ⟨by omega, fun i' b' hn' => ?_⟩
        rcases hn' with hn' | ⟨_, rfl, rfl⟩
        · exact m2 i' b' hn'
        · have := hlt i b hn
          constructor <;> intro e <;> omega
      · refine ⟨by omega, fun i' b' hn' => ?_⟩
        rcases hn' with hn' | ⟨_, rfl, rfl⟩
        · have := hlt i' b' hn'
          have := (hok i' b' hn').1
          constructor <;> intro e <;> omega
        · exact ⟨fun _ => rfl, fun _ => rfl⟩
    · rw [upd_ne _ _ hj] at h
      obtain ⟨q1, q2, q3⟩ := hi.pl j ty' κ' ys h
      have hs : ∀ i b, R'.nd j i b → R.nd j i b := fun i b hn => by
        rcases hn with hn | ⟨e, _⟩
        · exact hn
        · exact absurd e hj
      refine ⟨q1, q2, fun i b hn => ?_⟩
      obtain ⟨m1, m2⟩ := q3 i b (hs i b hn)
      exact ⟨m1, fun i' b' hn' => m2 i' b' (hs i' b' hn')⟩
  · rcases h with h | ⟨rfl, _⟩
    · exact hi.newN q i b h
    · exact .inr hPL
end
/-! ### the operations -/
def ndCmp : CV → CV → Option Bool
  | .dat (.nd _) x, .nilp => some (decide (x < (0 : Int)))
  | .nilp, .dat (.nd _) x => some (decide (x < (0 : Int)))
  | _, _ => none
/-- the kind of a map's elements: a pointer into a pool, or a datum. -/
def elemK (P : Program) (E : TypeId) (en : Nat → EnS) (vt : TypeId) : Option K := match P.underlying vt with
  | some (.pointer e) => (findPool en e poolNos).map .nd
  | _ => none
def stepN (P : Program) (E : TypeId) (base : Nat) (o : Oper) (s : VSt) {A : Type} (f : Delta → Option A) : Option A :=
  match o.op with
  | .nilCheck x => match svCV (s.ev x) with
    | some (.dat (.nd p) i) => if i < (0 : Int) then none else f (one (.ndf p (Int.toNat i) 0))
    | some (.ndf p i off) => f (one (.ndf p i off))
    | _ => none
  | .fieldAddr t x i => match P.underlying t with
    | some (.struct fs) => (fs[i]?).bind fun fd => if P.cellsOf fd.type = 0 then none else match svCV (s.ev x) with
      | some (.ndf p j off) => f (one (.ndf p j (off + fd.offset)))
      | _ => none
    | _ => none
  | .load t x => match svCV (s.ev x) with
    | some (.ndf p i off) => match s.en p with
      | .live (.pool _ κ xs) => (xs[i]?).bind fun y => (rvOf (aggOf P t) (P.cellsOf t) (((explode κ y).drop off).take (P.cellsOf t))).bind fun v => f ⟨some (.r v), []⟩
      | _ => none
    | _ => none
  | .store t x y => (svRV (s.ev y)).bind fun v => match svCV (s.ev x) with
    | some (.ndf p i off) => match s.en p with
      | .live (.pool ty κ xs) => if v.cells.length = P.cellsOf t ∧ P.cellsOf t ≠ 0 ∧ off + v.cells.length ≤ κ.sz then (xs[i]?).bind fun z =>
          (implode ⟨s.en, [], [], []⟩ κ ((explode κ z).take off ++ v.cells ++ (explode κ z).drop (off + v.cells.length))).bind fun q => match q.2.1, q.2.2.en p with
            | [], .live (.pool _ _ _) => f ⟨none, q.2.2.log ++ [(p, .live (.pool ty κ (xs.set i q.1)))]⟩
            | _, _ => none
        else none
      | _ => none
    | _ => none
  | .alloc t => (findPool s.en t poolNos).bind fun p => match s.en p with
    | .live (.pool ty κ xs) => (P.info? t).bind fun i => i.zero.bind fun z => match zeroB κ z.cells.toList with
      | some [] => f ⟨some (.r (.c (.dat (.nd p) (xs.length : Int)))), [(p, .live (.pool ty κ (xs ++ [κ.zero])))]⟩
      | _ => none
    | _ => none
  | .box t x => (svRV (s.ev x)).bind fun v => (findPool s.en t poolNos).bind fun p => match s.en p with
    | .live (.pool ty κ xs) => (implode ⟨s.en, [], [], []⟩ κ v.cells).bind fun q => match q.2.1, q.2.2.en p with
      | [], .live (.pool _ _ _) => f ⟨some (.r (.c (.dat (.nd p) (xs.length : Int)))), q.2.2.log ++ [(p, .live (.pool ty κ (xs ++ [q.1])))]⟩
      | _, _ => none
    | _ => none
  | .binOp op t x y _ => (svCV (s.ev x)).bind fun a => (svCV (s.ev y)).bind fun b => if isPtrD (P.underlying t) then (isEq op).bind fun n => (ndCmp a b).bind fun q => f (just (dB (eqOp n q))) else none
  | .makeMap t none => match P.underlying t with
    | some (.map kt vt) => (kindOf P E 12 kt).bind fun κk => (elemK P E s.en vt).bind fun κv => match s.en base with
      | .free => f ⟨some (.r (.c (.own base))), [(base, .live (.mp κk κv []))]⟩
      | _ => none
    | _ => none
  | .call c => match c.callee with
    | .builtin .len => (c.argTypes[0]?).bind fun t => (c.args[0]?).bind fun x => match P.underlying t, svCV (s.ev x) with
      | some (.map _ _), some (.own h) => match s.en h with
        | .live (.mp _ _ l) => if List.length l ≤ lim then f (just (dI .i64 (List.length l : Int))) else none
        | _ => none
      | _, _ => none
    | .builtin .delete => (c.argTypes[0]?).bind fun t => (c.args[0]?).bind fun x => (c.args[1]?).bind fun y => match P.underlying t, svCV (s.ev x) with
      | some (.map kt _), some (.own h) => match s.en h with
        | .live (.mp κk κv l) => (keyAt P kt κk (svRV (s.ev y))).bind fun k => f ⟨some (.t []), [(h, .live (.mp κk κv (mdel κk.eqb k l)))]⟩
        | _ => none
      | _, _ => none
    | _ => none
  | _ => none
def isNdC : Option CV → Bool
  | some (.dat (.nd _) _) => true
  | some (.ndf _ _ _) => true
  | _ => false
/-- is it one of a pool, or of a map that the other step does not know? -/
def poolOp (P : Program) (o : Oper) (s : VSt) : Bool := match o.op with
  | .nilCheck x | .fieldAddr _ x _ | .load _ x | .store _ x _ => isNdC (svCV (s.ev x))
  | .alloc t | .box t _ => (findPool s.en t poolNos).isSome
  | .binOp _ _ x y _ => isNdC (svCV (s.ev x)) || isNdC (svCV (s.ev y))
  | .makeMap t none => match P.underlying t with
    | some (.map _ vt) => match P.underlying vt with
      | some (.pointer _) => true
      | _ => false
    | _ => false
  | .call c => match c.callee with
    | .builtin .len => match c.argTypes[0]? with
      | some t => match P.underlying t with
        | some (.map _ _) => true
        | _ => false
      | none => false
    | .builtin .delete => true
    | _ => false
  | _ => false
def stepD (P : Program) (E : TypeId) (env : Env) (kn : List (Nat × Bool)) (base : Nat) (o : Oper) (s : VSt) {A : Type} (f : Delta → Option A) : Option A :=
  bif poolOp P o s then stepN P E base o s f else stepO P E env kn base o s f
section
variable {C : Ctx} {env : Env} {kn : List (Nat × Bool)} {base : Nat} {o : Oper} {v : VSt} {A : Type} {f : Delta → Option A} {r : A}
theorem n_nilCheck (hd : ∀ t, o.dst = some t → t < C.N) {x : Operand} (hop : o.op = .nilCheck x) (h : stepN C.P C.E base o v f = some r) : Done C kn o v f r := by
  unfold stepN at h
  rw [hop] at h
  simp only at h
  split at h
  · rename_i p i hc
    split at h
    · cases h
    · rename_i hx
      refine ⟨_, h, .pure hd rfl fun s a w R g hv hk hr => ?_⟩
      have hcv : (K.nd p).Rd C.E R i [a.eval x] := evc_rel hv hr hc
      rcases hcv with ⟨h0, _⟩ | ⟨_, b, h1, h2⟩
      · exact absurd h0 hx
      · injection h2 with h2 _
        exact ⟨a.eval x, by simp [execOp, hop, h2], fun sv hs => by injection hs with hs; subst hs; exact ⟨b, h1, h2⟩⟩
  · rename_i p i off hc
    refine ⟨_, h, .pure hd rfl fun s a w R g hv hk hr => ?_⟩
    have := evc_rel hv hr hc
    obtain ⟨b, h1, h2⟩ := id this
    exact ⟨a.eval x, by simp [execOp, hop, h2], fun sv hs => by injection hs with hs; subst hs; exact this⟩
  · cases h
theorem n_fieldAddr (hd : ∀ t, o.dst = some t → t < C.N) {t : TypeId} {x : Operand} {i : Nat} (hop : o.op = .fieldAddr t x i) (h : stepN C.P C.E base o v f = some r) : Done C kn o v f r := by
  unfold stepN at h
  rw [hop] at h
  simp only at h
  split at h
  · rename_i fs hu
    rw [Option.bind_eq_some_iff] at h
    obtain ⟨fd, hf, h⟩ := h
    split at h
    · cases h
    · rename_i hz
      split at h
      · rename_i p j off hc
        refine ⟨_, h, .pure hd rfl fun s a w R g hv hk hr => ?_⟩
        obtain ⟨b, h1, e⟩ := evc_rel hv hr hc
        refine ⟨_, ?_, fun sv hs => by injection hs with hs; subst hs; exact ⟨b, h1, rfl⟩⟩
        have := field_run hu hf hz b off w
        simp only [execOp, hop, e]
        exact run_v this
      · cases h
  · cases h
theorem n_load (hd : ∀ t, o.dst = some t → t < C.N) {t : TypeId} {x : Operand} (hop : o.op = .load t x) (h : stepN C.P C.E base o v f = some r) : Done C kn o v f r := by
  unfold stepN at h
  rw [hop] at h
  simp only at h
  split at h
  · rename_i p i off hc
    split at h
    · rename_i ty κ xs hen
      simp only [Option.bind_eq_some_iff] at h
      obtain ⟨y, hy, rv, hrv, h⟩ := h
      refine ⟨_, h, .pure hd rfl fun s a w R g hv hk hr => ?_⟩
      obtain ⟨b, h1, e⟩ := evc_rel hv hr hc
      obtain ⟨y', arr, fr, k1, k2, k3, k4⟩ := hr.inv.node_at (en_live hv hen) h1
      rw [hy] at k1
      injection k1 with k1
      subst k1
      have hex := explode_rel (g := g) κ _ _ k4
      obtain ⟨u, hrun, hrel⟩ := load_run (P := C.P) ((hex.drop off).take (C.P.cellsOf t)) (cells_seg k2 off _) hrv
      refine ⟨u, ?_, fun sv hs => by injection hs with hs; subst hs; exact hrel⟩
      simp only [execOp, hop, e]
      exact run_v (by simp [Instr.loadAt, Instr.sureAddr, hrun])
    · cases h
  · cases h
theorem n_binOp (hd : ∀ t, o.dst = some t → t < C.N) {op : BinOp} {t t' : TypeId} {x y : Operand} (hop : o.op = .binOp op t x y t') (h : stepN C.P C.E base o v f = some r) : Done C kn o v f r := by
  unfold stepN at h
  rw [hop] at h
  simp only [Option.bind_eq_some_iff] at h
  obtain ⟨ca, ha, cb, hb, h⟩ := h
  split at h
  · rename_i hp
    simp only [Option.bind_eq_some_iff] at h
    obtain ⟨n, hn, q, hq, h⟩ := h
    refine ⟨_, h, .pure hd rfl fun s a w R g hv hk hr => ?_⟩
    have ra := evc_rel hv hr ha
    have rb := evc_rel hv hr hb
    have : ∃ A B, a.eval x = .pointer A ∧ a.eval y = .pointer B ∧ (A = none ∨ B = none) ∧ q = (A.isNone && B.isNone) := by
      unfold ndCmp at hq
      split at hq
      · rename_i p i
        injection hq with hq
        have ra' : (K.nd p).Rd C.E R i [a.eval x] := ra
        rcases ra' with ⟨h0, e⟩ | ⟨h0, b, _, e⟩
        · injection e with e _
          exact ⟨none, none, e, rb, .inr rfl, by rw [← hq, decide_eq_true h0]; rfl⟩
        · injection e with e _
          exact ⟨_, none, e, rb, .inr rfl, by rw [← hq, decide_eq_false h0]; rfl⟩
      · rename_i p i
        injection hq with hq
        have rb' : (K.nd p).Rd C.E R i [a.eval y] := rb
        rcases rb' with ⟨h0, e⟩ | ⟨h0, b, _, e⟩
        · injection e with e _
          exact ⟨none, none, ra, e, .inl rfl, by rw [← hq, decide_eq_true h0]; rfl⟩
        · injection e with e _
          exact ⟨none, _, ra, e, .inl rfl, by rw [← hq, decide_eq_false h0]; rfl⟩
      · cases hq
    obtain ⟨A', B', ea, eb, hAB, rfl⟩ := this
    have hg := eqGuard_run (P := C.P) (op := op) (t := t) (x := x) (y := y) (a := .pointer A') (b := .pointer B') w (by simp) (by simp)
    have hq := eq_run (P := C.P) (t := t) (va := .pointer A') (vb := .pointer B') hn (by simp) (by simp) (by simp) (by simp) (fun w => equal_ptr hp _ _ hAB w) w
    refine ⟨_, ?_, some_r (rel_bool _)⟩
    simp only [execOp, hop, ea, eb]
    exact run_v (by simp only [Sem.run_bind, hg, Result.andThen_ok, hq])
  · cases h
theorem n_store (hd : ∀ t, o.dst = some t → t < C.N) {t : TypeId} {x y : Operand} (hop : o.op = .store t x y) (h : stepN C.P C.E base o v f = some r) : Done C kn o v f r := by
  unfold stepN at h
  rw [hop] at h
  simp only [Option.bind_eq_some_iff] at h
  obtain ⟨rv, hrv, h⟩ := h
  split at h
  · rename_i p i off hc
    split at h
    · rename_i ty κ xs hen
      split at h
      · rename_i hcond
        obtain ⟨hlen, hct, hoff⟩ := hcond
        simp only [Option.bind_eq_some_iff] at h
        obtain ⟨z, hz, q, hq, h⟩ := h
        split at h
        · rename_i ty2 κ2 xs2 hq1 hen2
          refine ⟨_, h, fun s a w R g hv hkn hr next Q hnx => ?_⟩
          obtain ⟨b, hnd, ex⟩ := evc_rel hv hr hc
          have hcells := (evr_rel hv hr hrv).cells
          have hl := en_live hv hen
          obtain ⟨z', arr, fr, k1, k2, k3, k4⟩ := hr.inv.node_at hl hnd
          rw [hz] at k1
          injection k1 with k1
          subst k1
          have hex := explode_rel (g := g) κ _ _ k4
          have hasz : arr.toList.length = κ.sz := K.Rd_len _ _ _ k4
          have hal : arr.toList.length = arr.size := Array.length_toList
          have hnew : All2 (CVRel C.E R g) ((explode κ z).take off ++ rv.cells ++ (explode κ z).drop (off + rv.cells.length)) (arr.toList.take off ++ (a.eval y).cells.toList ++ arr.toList.drop (off + (a.eval y).cells.toList.length)) := by
            rw [hcells.len]
            exact ((hex.take _).app hcells).app (hex.drop _)
          have G0 : GInv C s.en g w ⟨v.en, [], [], []⟩ R s.en (fun _ => False) := ⟨hr.inv, hv.en, fun i => .inl rfl, fun i h => h.elim, fun h h' i x => by simp at x, fun h x e => by simp at e⟩
          obtain ⟨R', enS, G', hle, v1, v2, hv12, hrd, hrest⟩ := implode_sound κ _ R s.en G0 _ _ hnew q hq
          rw [hq1] at hrest
          cases hrest
          rw [List.append_nil] at hv12
          have hliveS : enS p = .live (.pool ty κ xs) := by
            have hγ : q.2.2.en p = v.en p := by
              have := hle.lv p _ hen2
              rw [hen2]; exact this.symm
            rcases G'.le p with e | e
            · rw [← e, hγ]; exact hen
            · rw [hγ, hen] at e; cases e
          have hyl : (a.eval y).cells.toList.length = C.P.cellsOf t := by rw [← hcells.len]; exact hlen
          obtain ⟨w', arr', hst, hb', harr, hoth, hsz', g1, g2, g3⟩ := store_run (P := C.P) b ty fr (a.eval y).cells.toList off 0 arr w k2 k3 (by rw [← hcells.len]; omega) hcells.cv_one
          rw [Nat.add_zero] at harr
          have harr2 : arr'.toList = v1 := harr.trans hv12
          have hasz' : arr'.size = arr.size := by
            have e1 : arr'.toList.length = arr'.size := Array.length_toList
            have e2 := K.Rd_len _ _ _ hrd
            rw [← harr2] at e2
            omega
          have hput := G'.inv.node hliveS (hle.part.nd _ _ _ hnd) q.1 (w' := w') (arr := arr') (fr := fr) hsz' g1 g2 g3 hoth hb' (by rw [hasz']; exact k3) (by rw [harr2]; exact hrd)
          refine wp_skp (w' := w') ?_ (hnx _ _ (hr.app (δ := ⟨none, q.2.2.log ++ [(p, .live (.pool ty κ (xs.set i q.1)))]⟩) hd hle.part (Gh.le_refl g) (hput.less fun j => ?_) (fun sv hsv => by cases hsv)))
          · simp only [execOp, hop, ex]
            refine run_u ?_
            obtain ⟨ti, hti, htsz⟩ := info_of_cells hct
            have : (a.eval y).cells.size = C.P.cellsOf t := by rw [← hyl]; simp
            simp [Instr.storeAt, Instr.sureAddr, storeVar, run_size hti, this, hst]
          · show upds s.en (q.2.2.log ++ [(p, .live (.pool ty κ (xs.set i q.1)))]) j = _ ∨ upds s.en (q.2.2.log ++ [(p, .live (.pool ty κ (xs.set i q.1)))]) j = _
            rw [upds_snoc]
            by_cases hj : j = p
            · subst hj; rw [upd_same, upd_same]; exact .inl rfl
            · rw [upd_ne _ _ hj, upd_ne _ _ hj]; exact G'.log j
        · cases h
      · cases h
    · cases h
  · cases h
theorem rd_new {E : TypeId} {R : Part} {g : Gh} {p n b : Nat} (h : R.nd p n b) : SVRel E R g (.r (.c (.dat (.nd p) (n : Int)))) (.pointer (some ⟨b, 0, none⟩)) := by
  show (K.nd p).Rd E R ((n : Nat) : Int) [_]
  exact .inr ⟨by show ¬ ((n : Nat) : Int) < 0; omega, b, by simpa using h, rfl⟩
theorem n_alloc (hd : ∀ t, o.dst = some t → t < C.N) {t : TypeId} (hop : o.op = .alloc t) (h : stepN C.P C.E base o v f = some r) : Done C kn o v f r := by
  unfold stepN at h
  rw [hop] at h
  simp only [Option.bind_eq_some_iff] at h
  obtain ⟨p, hp, h⟩ := h
  obtain ⟨κ0, xs0, hp0⟩ := findPool_spec hp
  split at h
  · rename_i ty κ xs hen
    rw [hp0] at hen
    injection hen with hen
    injection hen with e1 e2 e3
    subst e1
    subst e2
    obtain rfl := eq_of_heq e3
    simp only [Option.bind_eq_some_iff] at h
    obtain ⟨i, hi, z, hz, h⟩ := h
    split at h
    · rename_i hzb
      refine ⟨_, h, fun s a w R g hv hkn hr next Q hnx => ?_⟩
      obtain ⟨pre, e, hrd⟩ := zeroB_rd (E := C.E) (R := R) _ _ _ hzb
      rw [List.append_nil] at e
      rw [← e] at hrd
      obtain ⟨R', hR, hn, hi'⟩ := hr.inv.grow (en_live hv hp0) κ0.zero (w' := w.alloc (.cells z.cells t)) rfl hrd
      refine wp_val (u := .pointer (some ⟨w.heap.size, 0, none⟩)) (w' := w.alloc (.cells z.cells t)) ?_ (hnx _ _ (hr.app (δ := ⟨some (.r (.c (.dat (.nd p) (xs0.length : Int)))), [(p, .live (.pool t κ0 (xs0 ++ [κ0.zero])))]⟩) hd hR (Gh.le_refl g) hi' (some_r (rd_new hn))))
      simp only [execOp, hop]
      exact run_v (by simp [Instr.alloc, run_zero hi hz, newVar, Go.newRow])
    · cases h
  · cases h
theorem n_box (hd : ∀ t, o.dst = some t → t < C.N) {t : TypeId} {x : Operand} (hop : o.op = .box t x) (h : stepN C.P C.E base o v f = some r) : Done C kn o v f r := by
  unfold stepN at h
  rw [hop] at h
  simp only [Option.bind_eq_some_iff] at h
  obtain ⟨rv, hrv, p, hp, h⟩ := h
  obtain ⟨κ0, xs0, hp0⟩ := findPool_spec hp
  split at h
  · rename_i ty κ xs hen
    rw [hp0] at hen
    injection hen with hen
    injection hen with e1 e2 e3
    subst e1
    subst e2
    obtain rfl := eq_of_heq e3
    simp only [Option.bind_eq_some_iff] at h
    obtain ⟨q, hq, h⟩ := h
    split at h
    · rename_i ty2 κ2 xs2 hq1 hen2
      refine ⟨_, h, fun s a w R g hv hkn hr next Q hnx => ?_⟩
      have hcells := (evr_rel hv hr hrv).cells
      have G0 : GInv C s.en g w ⟨v.en, [], [], []⟩ R s.en (fun _ => False) := ⟨hr.inv, hv.en, fun i => .inl rfl, fun i h => h.elim, fun h h' i x => by simp at x, fun h x e => by simp at e⟩
      obtain ⟨R', enS, G', hle, v1, v2, hv12, hrd, hrest⟩ := implode_sound κ0 _ R s.en G0 _ _ hcells q hq
      rw [hq1] at hrest
      cases hrest
      rw [List.append_nil] at hv12
      rw [← hv12] at hrd
      have hliveS : enS p = .live (.pool t κ0 xs0) := by
        have hγ : q.2.2.en p = v.en p := by
          have := hle.lv p _ hen2
          rw [hen2]; exact this.symm
        rcases G'.le p with e | e
        · rw [← e, hγ]; exact hp0
        · rw [hγ, hp0] at e; cases e
      obtain ⟨R2, hR2, hn, hi'⟩ := G'.inv.grow hliveS q.1 (w' := w.alloc (.cells (a.eval x).cells t)) rfl hrd
      refine wp_val (u := .pointer (some ⟨w.heap.size, 0, none⟩)) (w' := w.alloc (.cells (a.eval x).cells t)) ?_ (hnx _ _ (hr.app (δ := ⟨some (.r (.c (.dat (.nd p) (xs0.length : Int)))), q.2.2.log ++ [(p, .live (.pool t κ0 (xs0 ++ [q.1])))]⟩) hd (hle.part.trans hR2) (Gh.le_refl g) (hi'.less fun j => ?_) (some_r (rd_new hn))))
      · simp only [execOp, hop]
        exact run_v (by simp [Instr.box, newVar, Go.newRow])
      · show upds s.en (q.2.2.log ++ [(p, .live (.pool t κ0 (xs0 ++ [q.1])))]) j = _ ∨ upds s.en (q.2.2.log ++ [(p, .live (.pool t κ0 (xs0 ++ [q.1])))]) j = _
        rw [upds_snoc]
        by_cases hj : j = p
        · subst hj; rw [upd_same, upd_same]; exact .inl rfl
        · rw [upd_ne _ _ hj, upd_ne _ _ hj]; exact G'.log j
    · cases h
  · cases h
theorem n_makeMap (hd : ∀ t, o.dst = some t → t < C.N) {t : TypeId} (hop : o.op = .makeMap t none) (h : stepN C.P C.E base o v f = some r) : Done C kn o v f r := by
  unfold stepN at h
  rw [hop] at h
  simp only at h
  split at h
  · rename_i kt vt hu
    simp only [Option.bind_eq_some_iff] at h
    obtain ⟨κk, hk, κv, hv, h⟩ := h
    split at h
    · rename_i hfree
      refine ⟨_, h, fun s a w R g hv hk hr next Q hn => ?_⟩
      have hf := en_free hv hfree
      have hle := updg_le (g := g) (h := base) (v := .map (some w.heap.size)) (.inl (hr.inv.free base hf))
      have h1 := hr.inv.make base hf (.mp κk κv []) (.map (some w.heap.size)) (w' := w.alloc (.map #[] 0)) (fun b hb => Nat.le_of_eq (by injection hb)) (by simp) rfl rfl rfl (fun b hb => heap_alloc_old w _ hb)
        ⟨w.heap.size, #[], 0, rfl, heap_alloc_new w _, .nil⟩
      refine wp_val (u := .map (some w.heap.size)) (w' := w.alloc (.map #[] 0)) ?_ (hn _ _ (hr.app (δ := ⟨some (.r (.c (.own base))), [(base, .live (.mp κk κv []))]⟩) hd (Part.le_refl R) hle h1 (some_r ⟨updg_same _ _ _, rfl⟩)))
      simp only [execOp, hop]
      exact run_v rfl
    · cases h
  · cases h
theorem n_len (hd : ∀ t, o.dst = some t → t < C.N) {c : Call} (hop : o.op = .call c) (hcal : c.callee = .builtin .len) (h : stepN C.P C.E base o v f = some r) : Done C kn o v f r := by
  unfold stepN at h
  rw [hop] at h
  simp only [hcal, Option.bind_eq_some_iff] at h
  obtain ⟨t, ht, x, hx, h⟩ := h
  split at h
  · rename_i kt vt hh hu hc
    split at h
    · rename_i κk κv l hen
      split at h
      · rename_i hlim
        refine ⟨_, h, .pure hd rfl fun s a w R g hv hk hr => ?_⟩
        obtain ⟨hg, _⟩ := evc_rel hv hr hc
        obtain ⟨u, hu', b, es, clk, rfl, h1, h2⟩ := hr.inv.live hh _ (en_live hv hen)
        rw [hg] at hu'
        injection hu' with hu'
        refine ⟨.int .i64 es.size, ?_, some_r ?_⟩
        · have harg := arr_get1 hx a
          rw [hu'] at harg
          simp [execOp, hop, resolve, hcal, invoke, builtin, Builtin.len_, ht, harg, run_under hu, goInt, run_getMap h1]
        · have e : List.length l = es.size := h2.len.trans Array.length_toList
          rw [e]
          exact rel_len (by rw [← e]; exact hlim)
      · cases h
    · cases h
  · cases h
theorem all2_erase {α β : Type} {r : α → β → Prop} : ∀ {l : List α} {m : List β} (i : Nat), All2 r l m → All2 r (l.eraseIdx i) (m.eraseIdx i)
  | _, _, i, .nil => by simpa using All2.nil
  | _, _, 0, .cons h hr => hr
  | _, _, i + 1, .cons h hr => .cons h (all2_erase i hr)
theorem n_delete (hd : ∀ t, o.dst = some t → t < C.N) {c : Call} (hop : o.op = .call c) (hcal : c.callee = .builtin .delete) (h : stepN C.P C.E base o v f = some r) : Done C kn o v f r := by
  unfold stepN at h
  rw [hop] at h
  simp only [hcal, Option.bind_eq_some_iff] at h
  obtain ⟨t, ht, x, hx, y, hy, h⟩ := h
  split at h
  · rename_i kt vt hh hu hc
    split at h
    · rename_i κk κv l hen
      rw [Option.bind_eq_some_iff] at h
      obtain ⟨k, hk, h⟩ := h
      refine ⟨_, h, fun s a w R g hv hkn hr next Q hn => ?_⟩
      have hlive := en_live hv hen
      obtain ⟨hg, _⟩ := evc_rel hv hr hc
      obtain ⟨u, hu', b, es, clk, rfl, h1, h2⟩ := hr.inv.live hh _ hlive
      rw [hg] at hu'
      injection hu' with hu'
      rw [hu'] at hg
      have hlaw := law_key hk (u := a.eval y) fun rv hrv => evr_rel hv hr hrv
      have hblt : b < w.heap.size := (Array.getElem?_eq_some_iff.1 h1).1
      have hgu : updg g hh (.map (some b)) = g := by
        funext j; unfold updg; split
        · rename_i e; rw [e, hg]
        · rfl
      have hx2 : (c.args.map a.eval)[0]? = some (.map (some b)) := by rw [arr_get1 hx a, hu']
      have hy2 : (c.args.map a.eval)[1]? = some (a.eval y) := by simp [hy]
      have fin : ∀ (es' : Array MapEntry), (Builtin.delete_ c.argTypes o.type (c.args.map a.eval)).run C.P w = .ok (.tuple #[]) { w with heap := w.heap.setIfInBounds b (.map es' clk) } →
          All2 (fun (p : κk.T × κv.T) (e : MapEntry) => KV C.E R κk p.1 e.key ∧ KV C.E R κv p.2 e.val) (mdel κk.eqb k l) es'.toList → o.wp C.P a w next Q := by
        intro es' hrun hrel
        have hput := hr.inv.put hh (.mp κk κv (mdel κk.eqb k l)) (.map (some b)) (w' := { w with heap := w.heap.setIfInBounds b (.map es' clk) }) (.inr hg) (by simp) rfl rfl rfl
          (fun b' hlt hne => by
            show (w.heap.setIfInBounds b _)[b']? = _
            rw [Array.getElem?_setIfInBounds, if_neg (fun e => hne (by rw [← e]; rfl))])
          (fun b' hb => by
            obtain ⟨m1, m2⟩ := hr.inv.mine hh _ _ b' hlive hg (.inl hb)
            exact ⟨m1, m2, fun j e' u hj hlj hgj hbl => hr.inv.sep j hh e' _ u _ b' hj hlj hlive hgj hg hbl (.inl hb)⟩)
          (by
            rw [hgu]
            exact ⟨b, es', clk, rfl, by show (w.heap.setIfInBounds b _)[b]? = _; rw [Array.getElem?_setIfInBounds, if_pos rfl, if_pos hblt], hrel⟩)
        rw [hgu] at hput
        refine wp_val (u := .tuple #[]) (w' := { w with heap := w.heap.setIfInBounds b (.map es' clk) }) ?_ (hn _ _ (hr.app (δ := ⟨some (.t []), [(hh, .live (.mp κk κv (mdel κk.eqb k l)))]⟩) hd (Part.le_refl R) (Gh.le_refl g) hput (some_r ⟨[], rfl, .nil⟩)))
        simp only [execOp, hop, resolve, hcal, invoke, builtin, Sem.run_bind, Sem.run_pure, Result.andThen_ok, hrun]
      rcases hlaw.find h2 w with ⟨q1, _, _, q4⟩ | ⟨j, p, e, q1, q2, q3, _, q5, _, q7⟩
      · refine fin es ?_ ?_
        · simp only [Builtin.delete_, ht, hx2, hy2, Sem.run_bind, run_under hu, Result.andThen_ok, run_getMap h1, hlaw.check, q1, run_setMap h1, Sem.run_pure]
        · rw [q4]; exact h2
      · refine fin (es.eraseIdxIfInBounds j) ?_ ?_
        · simp only [Builtin.delete_, ht, hx2, hy2, Sem.run_bind, run_under hu, Result.andThen_ok, run_getMap h1, hlaw.check, q1, run_setMap h1, Sem.run_pure]
        · rw [q7, Array.toList_eraseIdxIfInBounds]
          exact all2_erase j h2
    · cases h
  · cases h
theorem stepN_ok (hd : ∀ t, o.dst = some t → t < C.N) (h : stepN C.P C.E base o v f = some r) : Done C kn o v f r := by
  cases hop : o.op with
  | nilCheck x => exact n_nilCheck hd hop h
  | fieldAddr t x i => exact n_fieldAddr hd hop h
  | load t x => exact n_load hd hop h
  | store t x y => exact n_store hd hop h
  | alloc t => exact n_alloc hd hop h
  | box t x => exact n_box hd hop h
  | binOp op t x y t' => exact n_binOp hd hop h
  | makeMap t r =>
    cases r with
    | none => exact n_makeMap hd hop h
    | some r => unfold stepN at h; rw [hop] at h; cases h
  | call c =>
    cases hcal : c.callee with
    | builtin b =>
      cases b with
      | len => exact n_len hd hop hcal h
      | delete => exact n_delete hd hop hcal h
      | _ => unfold stepN at h; rw [hop] at h; simp only [hcal] at h; cases h
    | _ => unfold stepN at h; rw [hop] at h; simp only [hcal] at h; cases h
  | _ => unfold stepN at h; rw [hop] at h; cases h
theorem stepD_ok {env : Env} (hd : ∀ t, o.dst = some t → t < C.N) (henv : ∀ fid, ∀ sp ∈ env fid, FnOK C.P C.E C.L fid sp) (h : stepD C.P C.E env kn base o v f = some r) : Done C kn o v f r := by
  unfold stepD at h
  cases hb : poolOp C.P o v with
  | true => rw [hb] at h; exact stepN_ok hd h
  | false => rw [hb] at h; exact stepO_ok hd henv h
end
end Go.Sx
