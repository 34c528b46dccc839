/- Part of a proof by a small interpreter on plain values; no condition. -/
import Derived.Test.YtmbakmdgmccgiabDoorSx16
/-! Sx17: a law: from the contract of its function to the given statement's call. -/
namespace Go.Sx
open Go Go.ChangeShapes
set_option autoImplicit false
set_option linter.unusedVariables false
set_option linter.unusedSimpArgs false

/-- a parameter: its kind; is its value an aggregate? -/
abbrev Pm := K × Bool
@[reducible] def leafsTo : K → List CSh → List CSh
  | .pair a b, acc => leafsTo a (leafsTo b acc)
  | .unit, acc => acc
  | .int k, acc => .dat (.int k) :: acc
  | .bool, acc => .dat .bool :: acc
  | .str, acc => .dat .str :: acc
  | .err, acc => .dat .err :: acc
  | .list a, acc => .dat (.list a) :: acc
  | .nd q, acc => .dat (.nd q) :: acc
  | .js, acc => .dat (.int .i64) :: .dat .bool :: .dat .str :: .dat (.int .i64) :: .dat .bool :: .dat (.list .js) :: .dat (.list .str) :: acc
  | .arr _ _, acc => acc
@[reducible] def pmSh : Pm → RSh
  | (κ, false) => .c (.dat κ)
  | (.arr n a, true) => .sg [.blk (.arr n a)]
  | (κ, true) => .a (leafsTo κ [])
@[reducible] def KT : List Pm → Type
  | [] => Unit
  | p :: r => p.1.T × KT r
def spread : (κ : K) → (acc : List CSh) → (r : List K) → κ.T → Tup (ksL acc r) → Tup (ksL (leafsTo κ acc) r)
  | .pair a b, acc, r, x, t => spread a (leafsTo b acc) r x.1 (spread b acc r x.2 t)
  | .unit, _, _, _, t => t
  | .int k, acc, r, x, t => Tup.cons (.int k) (ksL acc r) x t
  | .bool, acc, r, x, t => Tup.cons .bool (ksL acc r) x t
  | .str, acc, r, x, t => Tup.cons .str (ksL acc r) x t
  | .err, acc, r, x, t => Tup.cons .err (ksL acc r) x t
  | .list a, acc, r, x, t => Tup.cons (.list a) (ksL acc r) x t
  | .nd q, acc, r, x, t => Tup.cons (.nd q) (ksL acc r) x t
  | .js, acc, r, x, t => Tup.cons (.int .i64) (.bool :: .str :: .int .i64 :: .bool :: .list .js :: .list .str :: ksL acc r) x.kind (Tup.cons .bool (.str :: .int .i64 :: .bool :: .list .js :: .list .str :: ksL acc r) x.b (Tup.cons .str (.int .i64 :: .bool :: .list .js :: .list .str :: ksL acc r) x.text
      (Tup.cons (.int .i64) (.bool :: .list .js :: .list .str :: ksL acc r) x.n (Tup.cons .bool (.list .js :: .list .str :: ksL acc r) x.whole (Tup.cons (.list .js) (.list .str :: ksL acc r) x.list (Tup.cons (.list .str) (ksL acc r) x.names t))))))
  | .arr _ _, _, _, _, t => t
def pmMk : (p : Pm) → (r : List K) → p.1.T → Tup r → Tup ((pmSh p).ks r)
  | (κ, false), r, x, t => Tup.cons κ r x t
  | (.arr n a, true), r, x, t => Tup.cons (.arr n a) r x t
  | (.pair a b, true), r, x, t => spread (.pair a b) [] r x t
  | (.int k, true), r, x, t => spread (.int k) [] r x t
  | (.bool, true), r, x, t => spread .bool [] r x t
  | (.str, true), r, x, t => spread .str [] r x t
  | (.err, true), r, x, t => spread .err [] r x t
  | (.unit, true), r, x, t => spread .unit [] r x t
  | (.list a, true), r, x, t => spread (.list a) [] r x t
  | (.nd q, true), r, x, t => spread (.nd q) [] r x t
  | (.js, true), r, x, t => spread .js [] r x t
/-- is no array among the cells? -/
def noArr : K → Bool
  | .arr _ _ => false
  | .pair a b => noArr a && noArr b
  | _ => true
def flatTop : K → Bool
  | .arr _ _ => true
  | κ => noArr κ
def buildT : (ps : List Pm) → (r : List K) → KT ps → Tup r → Tup (ksR (ps.map pmSh) r)
  | [], _, _, t => t
  | p :: ps, r, ys, t => pmMk p (ksR (ps.map pmSh) r) ys.1 (buildT ps r ys.2 t)
def OkT : (ps : List Pm) → KT ps → Prop
  | [], _ => True
  | p :: r, ys => p.1.Ok ys.1 ∧ OkT r ys.2
/-- the bytes that the parts of the arguments take. -/
def SzT (P : Program) : List TypeId → (ps : List Pm) → KT ps → Prop
  | t :: ts, p :: r, ys => SzK P 12 t p.1 ys.1 ∧ SzT P ts r ys.2
  | _, _, _ => True
def bulkT : (ps : List Pm) → KT ps → Nat
  | [], _ => 0
  | p :: r, ys => p.1.bulk ys.1 + bulkT r ys.2
def lawPre (ps : List Pm) : Shape := ⟨ps.map pmSh, []⟩
def lawPost : List Shape := [⟨[.c (.dat .bool)], []⟩]
def buildP (ps : List Pm) (ys : KT ps) : (lawPre ps).T := buildT ps [] ys ()

theorem spread_mk : ∀ (κ : K) (acc : List CSh) (r : List K) (x : κ.T) (t : Tup (ksL acc r)), noArr κ = true → mkL (leafsTo κ acc) r (spread κ acc r x t) = (explode κ x ++ (mkL acc r t).1, (mkL acc r t).2)
  | .pair a b, acc, r, x, t, h => by
    simp only [noArr, Bool.and_eq_true] at h
    show mkL (leafsTo a (leafsTo b acc)) r (spread a (leafsTo b acc) r x.1 (spread b acc r x.2 t)) = _
    rw [spread_mk a _ _ _ _ h.1, spread_mk b _ _ _ _ h.2]
    simp [explode, List.append_assoc]
  | .arr _ _, _, _, _, _, h => by simp [noArr] at h
  | .unit, acc, r, x, t, _ => by simp [spread, explode]
  | .int k, acc, r, x, t, _ => by simp only [spread, leafsTo, mkL, CSh.mk, Tup.hd_cons, Tup.tl_cons, explode]; rfl
  | .bool, acc, r, x, t, _ => by simp only [spread, leafsTo, mkL, CSh.mk, Tup.hd_cons, Tup.tl_cons, explode]; rfl
  | .str, acc, r, x, t, _ => by simp only [spread, leafsTo, mkL, CSh.mk, Tup.hd_cons, Tup.tl_cons, explode]; rfl
  | .err, acc, r, x, t, _ => by simp only [spread, leafsTo, mkL, CSh.mk, Tup.hd_cons, Tup.tl_cons, explode]; rfl
  | .list a, acc, r, x, t, _ => by simp only [spread, leafsTo, mkL, CSh.mk, Tup.hd_cons, Tup.tl_cons, explode]; rfl
  | .nd q, acc, r, x, t, _ => by simp only [spread, leafsTo, mkL, CSh.mk, Tup.hd_cons, Tup.tl_cons, explode]; rfl
  | .js, acc, r, x, t, _ => by simp only [spread, leafsTo, mkL, CSh.mk, Tup.hd_cons, Tup.tl_cons, explode, ksL, CSh.ks]; rfl
def pmVal : (p : Pm) → p.1.T → RV
  | (κ, false), x => .c (.dat κ x)
  | (.arr n a, true), x => .sg [.blk (.arr n a) x]
  | (.pair a b, true), x => .a (explode (.pair a b) x)
  | (.int k, true), x => .a (explode (.int k) x)
  | (.bool, true), x => .a (explode .bool x)
  | (.str, true), x => .a (explode .str x)
  | (.err, true), x => .a (explode .err x)
  | (.unit, true), x => .a (explode .unit x)
  | (.list a, true), x => .a (explode (.list a) x)
  | (.nd q, true), x => .a (explode (.nd q) x)
  | (.js, true), x => .a (explode .js x)
def pmFlat (p : Pm) : Bool := !p.2 || flatTop p.1
theorem pmMk_mk : ∀ (p : Pm) (r : List K) (x : p.1.T) (t : Tup r), pmFlat p = true → (pmSh p).mk r (pmMk p r x t) = (pmVal p x, t)
  | (κ, false), r, x, t, _ => by simp only [pmMk, pmSh, RSh.mk, CSh.mk, Tup.hd_cons, Tup.tl_cons]; rfl
  | (.arr n a, true), r, x, t, _ => by simp only [pmMk, pmSh, RSh.mk, mkS, SSh.mk, Tup.hd_cons, Tup.tl_cons]; rfl
  | (.pair a b, true), r, x, t, h => by
    simp only [pmMk, pmSh, RSh.mk]
    rw [spread_mk (.pair a b) [] _ _ _ (by simpa [pmFlat, flatTop] using h)]
    simp [mkL, pmVal]
  | (.int k, true), r, x, t, _ => by simp only [pmMk, pmSh, RSh.mk]; rw [spread_mk (.int k) [] _ _ _ rfl]; simp [mkL, pmVal]
  | (.bool, true), r, x, t, _ => by simp only [pmMk, pmSh, RSh.mk]; rw [spread_mk .bool [] _ _ _ rfl]; simp [mkL, pmVal]
  | (.str, true), r, x, t, _ => by simp only [pmMk, pmSh, RSh.mk]; rw [spread_mk .str [] _ _ _ rfl]; simp [mkL, pmVal]
  | (.err, true), r, x, t, _ => by simp only [pmMk, pmSh, RSh.mk]; rw [spread_mk .err [] _ _ _ rfl]; simp [mkL, pmVal]
  | (.unit, true), r, x, t, _ => by simp only [pmMk, pmSh, RSh.mk]; rw [spread_mk .unit [] _ _ _ rfl]; simp [mkL, pmVal]
  | (.list a, true), r, x, t, _ => by simp only [pmMk, pmSh, RSh.mk]; rw [spread_mk (.list a) [] _ _ _ rfl]; simp [mkL, pmVal]
  | (.nd q, true), r, x, t, _ => by simp only [pmMk, pmSh, RSh.mk]; rw [spread_mk (.nd q) [] _ _ _ rfl]; simp [mkL, pmVal]
  | (.js, true), r, x, t, _ => by simp only [pmMk, pmSh, RSh.mk]; rw [spread_mk .js [] _ _ _ rfl]; simp [mkL, pmVal]
theorem pmVal_agg {E : TypeId} {R : Part} {g : Gh} : ∀ (p : Pm) (x : p.1.T) (cs : List Value), p.2 = true → p.1.Rd E R x cs → RVRel E R g (pmVal p x) (.agg cs.toArray)
  | (_, false), _, _, h, _ => by cases h
  | (.arr n a, true), x, cs, _, h => ⟨cs, rfl, by have := SegsRel.blk (g := g) h .nil; rwa [List.append_nil] at this⟩
  | (.pair a b, true), x, cs, _, h => ⟨cs, rfl, explode_rel (.pair a b) x cs h⟩
  | (.int k, true), x, cs, _, h => ⟨cs, rfl, explode_rel (.int k) x cs h⟩
  | (.bool, true), x, cs, _, h => ⟨cs, rfl, explode_rel .bool x cs h⟩
  | (.str, true), x, cs, _, h => ⟨cs, rfl, explode_rel .str x cs h⟩
  | (.err, true), x, cs, _, h => ⟨cs, rfl, explode_rel .err x cs h⟩
  | (.unit, true), x, cs, _, h => ⟨cs, rfl, explode_rel .unit x cs h⟩
  | (.list a, true), x, cs, _, h => ⟨cs, rfl, explode_rel (.list a) x cs h⟩
  | (.nd q, true), x, cs, _, h => ⟨cs, rfl, explode_rel (.nd q) x cs h⟩
  | (.js, true), x, cs, _, h => ⟨cs, rfl, explode_rel .js x cs h⟩
def pmVals : (ps : List Pm) → KT ps → List RV
  | [], _ => []
  | p :: r, ys => pmVal p ys.1 :: pmVals r ys.2
theorem buildT_mk : ∀ (ps : List Pm) (r : List K) (ys : KT ps) (t : Tup r), ps.all pmFlat = true → mkR (ps.map pmSh) r (buildT ps r ys t) = (pmVals ps ys, t)
  | [], _, _, t, _ => rfl
  | p :: ps, r, ys, t, h => by
    simp only [List.all_cons, Bool.and_eq_true] at h
    have e : (pmSh p).mk (ksR (ps.map pmSh) r) (buildT (p :: ps) r ys t) = (pmVal p ys.1, buildT ps r ys.2 t) := pmMk_mk p _ ys.1 _ h.1
    show (((pmSh p).mk (ksR (ps.map pmSh) r) (buildT (p :: ps) r ys t)).1 :: (mkR (ps.map pmSh) r ((pmSh p).mk (ksR (ps.map pmSh) r) (buildT (p :: ps) r ys t)).2).1, (mkR (ps.map pmSh) r ((pmSh p).mk (ksR (ps.map pmSh) r) (buildT (p :: ps) r ys t)).2).2) = _
    rw [e]
    simp only
    rw [buildT_mk ps r ys.2 t h.2]
    rfl

/-! ### types of parameters -/
def okAll (P : Program) : List TypeId → List Pm → Bool
  | [], [] => true
  | t :: ts, p :: ps => okK P 12 t p.1 && ((aggOf P t == some p.2) && (pmFlat p && okAll P ts ps))
  | _, _ => false
theorem okAll_flat {P : Program} : ∀ {ts : List TypeId} {ps : List Pm}, okAll P ts ps = true → ps.all pmFlat = true
  | [], [], _ => rfl
  | [], _ :: _, h => by simp [okAll] at h
  | _ :: _, [], h => by simp [okAll] at h
  | t :: ts, p :: ps, h => by
    simp only [okAll, Bool.and_eq_true] at h
    simp only [List.all_cons, Bool.and_eq_true]
    exact ⟨h.2.2.1, okAll_flat h.2.2.2⟩
section
variable {H : Type} {enc : TypeId × Value → H} {P : Program} {w : World} {B : DataW H → Nat} {BA : List (DataW H) → Nat} {E : TypeId}
theorem args_rel (hB : BulkLaw B BA) {g : Gh} : ∀ (ts : List TypeId) (ps : List Pm) (vs : List Value) (ds : List (DataW H)) (q : List MemPlace), okAll P ts ps = true → DataW.TrodAll enc P w 0 (fun _ => true) true ts vs ds q →
    (∀ (j : Nat) t v, ts[j]? = some t → vs[j]? = some v → ∃ base, Value.okWide P w .any base t v) →
    ∃ ys : KT ps, All2 (RVRel E (heapP w) g) (pmVals ps ys) vs ∧ OkT ps ys ∧ bulkT ps ys ≤ BA ds ∧ ((DataW.weightsEach P ts ds).all (· ≤ reachBytes) = true → SzT P ts ps ys)
  | [], [], vs, ds, q, _, h, _ => by
    obtain ⟨rfl, rfl, rfl⟩ := trodAll_nil h
    exact ⟨(), .nil, trivial, Nat.zero_le _, fun _ => trivial⟩
  | [], p :: ps, vs, ds, q, hk, _, _ => by simp [okAll] at hk
  | t :: ts, [], vs, ds, q, hk, _, _ => by simp [okAll] at hk
  | t :: ts, p :: ps, vs, ds, q, hk, h, hv => by
    simp only [okAll, Bool.and_eq_true, beq_iff_eq] at hk
    obtain ⟨hk1, hag, hfl, hk2⟩ := hk
    obtain ⟨v, vs', d, ds', a, b, rfl, rfl, rfl, ⟨n, h1⟩, h2⟩ := trodAll_cons h
    obtain ⟨ys, h3, h4, h5, h6⟩ := args_rel hB (g := g) ts ps vs' ds' b hk2 h2 (fun j t' v' e1 e2 => hv (j + 1) t' v' (by simpa using e1) (by simpa using e2))
    obtain ⟨x, hx, hb, hsz⟩ := trod_rd (E := E) hB n 12 t p.1 _ d a hk1 h1
    refine ⟨(x, ys), .cons ?_ h3, ⟨K.Ok_of_rd p.1 x _ hx, h4⟩, ?_, fun hw => ?_⟩
    · obtain ⟨base, hok⟩ := hv 0 t v rfl rfl
      obtain ⟨κ, ag⟩ := p
      unfold aggOf at hag
      cases hu : P.underlying t with
      | none => rw [hu] at hag; cases hag
      | some dsc =>
        rw [hu] at hag
        simp only [Option.map_some, Option.some.injEq] at hag
        subst hag
        have hone : (isAggD dsc = true → ∃ cs, v = .agg cs) := by
          intro h
          unfold Value.okWide at hok
          rw [hu] at hok
          cases dsc <;> simp only [isAggD] at h <;> first | (cases h; done) | skip
          · obtain ⟨cs, e, _⟩ := hok; exact ⟨cs, e⟩
          · obtain ⟨cs, e, _⟩ := hok; exact ⟨cs, e⟩
        show RVRel E _ g (pmVal (κ, isAggD dsc) x) v
        cases hd : isAggD dsc with
        | true =>
          obtain ⟨cs, rfl⟩ := hone hd
          have := pmVal_agg (E := E) (g := g) (κ, true) x cs.toList rfl (by simpa [Value.cells] using hx)
          simpa using this
        | false =>
          show κ.Rd E _ x [v]
          have : v.cells.toList = [v] := by
            have hcell : Cell.okWide P w .any base t v := by
              unfold Value.okWide at hok
              rw [hu] at hok
              cases dsc <;> simp only [isAggD] at hd <;> first | (cases hd; done) | exact hok
            have hone' := K.Rd_one κ x _ hx
            cases v <;> simp [Value.cells]
            rename_i cs
            exfalso
            unfold okK at hk1
            rw [hu] at hk1
            cases dsc <;> simp only [isAggD] at hd <;> (try (cases hd; done)) <;> simp at hk1
            · simp [Cell.okWide, hu, Cell.ok] at hcell
            · simp [Cell.okWide, hu, Cell.ok] at hcell
            · simp [Cell.okWide, hu, Cell.ok] at hcell
            · simp [Cell.okWide, hu, Cell.ok] at hcell
          rw [this] at hx
          exact hx
    · rw [hB.consA]
      show p.1.bulk x + bulkT ps ys ≤ _
      omega
    · simp only [DataW.weightsEach, List.all_append, Bool.and_eq_true] at hw
      exact ⟨hsz hw.1, h6 hw.2⟩
/-- the world behind a law's call: all that was there is as it was. -/
structure Quiet (w w' : World) : Prop where
  os : w'.os = w.os
  output : w'.output = w.output
  size : w.heap.size ≤ w'.heap.size
  block : ∀ b, b < w.heap.size → w'.heap[b]? = w.heap[b]?
/-- a law's call: it answers true, and leaves all as it was. -/
def LawOK (P : Program) (E : TypeId) (L : Part → Prop) (f : FuncId) (pre : Shape) (run : pre.T → Option Bool) : Prop :=
  ∀ (x : pre.T) (W0 : World) (vals : List Value), run x = some true → Entry E pre x W0 (heapP W0) (fun _ => none) vals → (∀ R : Part, (heapP W0).le R → L R) →
    Calls P f vals.toArray W0 fun e w => e = .returned (.bool true) ∧ Quiet W0 w
theorem LawOK.of {f : FuncId} {vs0 : List RSh} {run : (⟨vs0, []⟩ : Shape).T → Option Bool} {L : Part → Prop} (hok : FnOK P E L f ⟨⟨vs0, []⟩, lawPost, run⟩) : LawOK P E L f ⟨vs0, []⟩ run := by
  intro x W0 vals hrun hent hL
  refine (hok.ok x true W0 _ _ vals hrun hent hL).mono fun e w' he => ?_
  obtain ⟨R, g, vs, rfl, X⟩ := he
  have hv : vs = [.bool true] := by
    have hx : All2 (RVRel E R g) [RV.c (.dat .bool true)] vs := X.vals
    cases hx with
    | cons ha hr =>
      cases hr
      have : [_] = [Value.bool true] := ha
      simpa using this
  subst hv
  refine ⟨rfl, X.os, X.output, X.size, fun b hb => X.block b hb (fun hs => ?_)⟩
  obtain ⟨h, e, v, hm, hg, _⟩ := hs
  cases hg
/-- the same, of what begins with empty pools. -/
theorem LawOK.pools {f : FuncId} {vs0 : List RSh} {es : List (Nat × ESh)} {run : (⟨vs0, es⟩ : Shape).T → Option Bool} {L : Part → Prop} (z : (⟨vs0, []⟩ : Shape).T → (⟨vs0, es⟩ : Shape).T)
    (hz : ∀ x, (⟨vs0, es⟩ : Shape).vs (z x) = (⟨vs0, []⟩ : Shape).vs x) (hes : ∀ x, ∀ q ∈ (⟨vs0, es⟩ : Shape).es (z x), ∃ ty κ, q.2 = .pool ty κ ([] : List κ.T))
    (hok : FnOK P E L f ⟨⟨vs0, es⟩, lawPost, run⟩) : LawOK P E L f ⟨vs0, []⟩ (fun x => run (z x)) := by
  intro x W0 vals hrun hent hL
  have hno : ∀ (p : Nat) (b : Nat), ¬ own (heapP W0) (.int .i64 (p : Int)) b := by
    rintro p b (h | ⟨_, _, _, h⟩)
    · cases h
    · exact h
  let g : Gh := fun h => if h ∈ es.map (·.1) then some (.int .i64 (h : Int)) else none
  have hmem : ∀ q ∈ (⟨vs0, es⟩ : Shape).es (z x), g q.1 = some (.int .i64 (q.1 : Int)) := fun q hq => by
    have : q.1 ∈ es.map (·.1) := by
      rw [← mkE_fst es [] (mkR vs0 (ksE es []) (z x)).2]
      exact List.mem_map_of_mem hq
    show (if _ then _ else _) = _
    rw [if_pos this]
  have hent' : Entry E ⟨vs0, es⟩ (z x) W0 (heapP W0) g vals := by
    refine ⟨fun b o h => h, ?_, fun q hq => ?_, fun q hq q' hq' hne v v' b h1 h2 h3 _ => ?_, fun q hq ty κ xs e => ?_, fun h v hg => ?_⟩
    · rw [hz]
      have := hent.vals
      exact All2.imp (fun _ _ h => h.mono (Part.le_refl _) (fun _ _ h => by cases h)) this
    · obtain ⟨ty, κ, e⟩ := hes x q hq
      refine ⟨_, hmem q hq, ?_, fun b hb => absurd hb (hno _ b)⟩
      rw [e]
      exact ⟨q.1, rfl, fun j y hy => by simp at hy⟩
    · rw [hmem q hq] at h1
      injection h1 with h1
      rw [← h1] at h3
      exact hno _ b h3
    · refine ⟨fun j b hn => hn.elim, hmem q hq⟩
    · show h ∈ es.map (·.1)
      have hg' : (if h ∈ es.map (·.1) then some (Value.int .i64 (h : Int)) else none) = some v := hg
      split at hg'
      · assumption
      · cases hg'
  refine (hok.ok (z x) true W0 _ g vals hrun hent' hL).mono fun e w' he => ?_
  obtain ⟨R, g', vs, rfl, X⟩ := he
  have hv : vs = [.bool true] := by
    have hx : All2 (RVRel E R g') [RV.c (.dat .bool true)] vs := X.vals
    cases hx with
    | cons ha hr =>
      cases hr
      have : [_] = [Value.bool true] := ha
      simpa using this
  subst hv
  refine ⟨rfl, X.os, X.output, X.size, fun b hb => X.block b hb (fun hs => ?_)⟩
  obtain ⟨h, e, v, hm, hg, hb'⟩ := hs
  rw [hmem _ hm] at hg
  injection hg with hg
  rw [← hg] at hb'
  exact hno _ _ hb'
theorem law_calls {f : FuncId} {ps : List Pm} {run : (lawPre ps).T → Option Bool} {L : Part → Prop} (hL : ∀ R : Part, (∀ b o, w.heap[b]? = some o → R b = some o) → L R) (hok : LawOK P E L f (lawPre ps) run) (hB : BulkLaw B BA) {ts : List TypeId} (hts : okAll P ts ps = true) {bound : Nat} {ds : List (DataW H)}
    (hsz : (DataW.weightsEach P ts ds).all (· ≤ reachBytes) = true) (hrun : ∀ ys : KT ps, OkT ps ys → SzT P ts ps ys → bulkT ps ys ≤ bound → run (buildP ps ys) = some true) {args : Array Value} {q : List MemPlace} (hA : DataW.TrodAll enc P w 0 (fun _ => true) true ts args.toList ds q) (hbound : BA ds ≤ bound)
    (hval : ∀ (j : Nat) t v, ts[j]? = some t → args[j]? = some v → ∃ base, Value.okWide P w .any base t v) :
    Calls P f args w fun e w' => e = .returned (.bool true) ∧ Quiet w w' := by
  obtain ⟨ys, h1, h2, h3, h4⟩ := args_rel (E := E) hB (g := fun _ => none) ts ps args.toList ds q hts hA (fun j t v e1 e2 => hval j t v e1 (by simpa using e2))
  have hvs : (lawPre ps).vs (buildP ps ys) = pmVals ps ys := by
    show (mkR (ps.map pmSh) [] (buildT ps [] ys ())).1 = _
    rw [buildT_mk _ _ _ _ (okAll_flat hts)]
  have hes : ∀ x : (lawPre ps).T, (lawPre ps).es x = [] := fun x => rfl
  have hent : Entry E (lawPre ps) (buildP ps ys) w (heapP w) (fun _ => none) args.toList := by
    refine ⟨fun b o h => h, by rw [hvs]; exact h1, fun q hq => ?_, fun q hq => ?_, fun q hq => ?_, fun h v hv => by cases hv⟩
    · rw [hes] at hq; cases hq
    · rw [hes] at hq; cases hq
    · rw [hes] at hq; cases hq
  have := hok (buildP ps ys) w args.toList (hrun ys h2 (h4 hsz) (Nat.le_trans h3 hbound)) hent (fun R hR => hL R hR.ob)
  rw [Array.toArray_toList] at this
  exact this

/-! ### the arguments read as they did -/
theorem okF_all {r : TypeId → K → Bool} {tot : Nat} : ∀ {l : List Field} {off : Nat} {κ : K}, okF P r l off κ tot = true → (∀ f ∈ l, ∃ a, r f.type a = true) ∧ tot = off + (l.map fun f => P.cellsOf f.type).sum ∧
      ∀ (j : Nat) f, l[j]? = some f → f.offset = off + ((l.take j).map fun f => P.cellsOf f.type).sum
  | [], off, κ, h => by
    cases κ <;> simp [okF] at h
    exact ⟨by simp, by simp [h], by simp⟩
  | f :: l, off, κ, h => by
    cases κ <;> simp only [okF, Bool.and_eq_true, beq_iff_eq] at h <;> first | (cases h; done) | skip
    rename_i a b
    obtain ⟨h1, h2, h3, h4⟩ := h
    obtain ⟨i1, i2, i3⟩ := okF_all h4
    refine ⟨fun g hg => ?_, ?_, fun j g hg => ?_⟩
    · rcases List.mem_cons.1 hg with rfl | hg
      · exact ⟨a, h3⟩
      · exact i1 g hg
    · simp only [List.map_cons, List.sum_cons]
      omega
    · cases j with
      | zero => simp at hg; subst hg; simp [h1]
      | succ j =>
        have := i3 j g (by simpa using hg)
        simp only [List.take_succ_cons, List.map_cons, List.sum_cons]
        omega
def okT (P : Program) (t : TypeId) : Prop := ∃ dep κ, okK P dep t κ = true
theorem okT_kids : Kids P (okT P) := by
  have nop : ∀ {t : TypeId} {d : TypeDesc}, okT P t → P.underlying t = some d → d = .bool ∨ (∃ k, d = .int k) ∨ d = .string ∨ (∃ e, d = .slice e) ∨ (∃ fs, d = .struct fs) ∨ ∃ m e, d = .array m e := by
    rintro t d ⟨dep, κ, h⟩ hu
    cases dep with
    | zero => simp [okK] at h
    | succ dep =>
      unfold okK at h
      rw [hu] at h
      cases d <;> simp at h ⊢
  refine ⟨fun ht hu => ?_, fun {t e} ht hu => ?_, fun {t e n} ht hu => ?_, fun {t fs} ht hu => ?_, fun ht hu => ?_⟩
  · have := nop ht hu; simp at this
  · obtain ⟨dep, κ, h⟩ := ht
    cases dep with
    | zero => simp [okK] at h
    | succ dep =>
      unfold okK at h
      rw [hu] at h
      cases κ <;> simp at h
      exact ⟨dep, _, h.1⟩
  · obtain ⟨dep, κ, h⟩ := ht
    cases dep with
    | zero => simp [okK] at h
    | succ dep =>
      unfold okK at h
      rw [hu] at h
      cases κ <;> simp at h
      obtain ⟨h1, h2, h3, h4⟩ := h
      exact ⟨⟨dep, _, h2⟩, by rw [h4, h3]⟩
  · obtain ⟨dep, κ, h⟩ := ht
    cases dep with
    | zero => simp [okK] at h
    | succ dep =>
      unfold okK at h
      rw [hu] at h
      simp only at h
      obtain ⟨dep, κ, h⟩ : ∃ dep' κ', okF P (okK P dep') fs.toList 0 κ' (P.cellsOf t) = true := by
        by_cases hjs : κ = .js
        · subst hjs
          exact ⟨3, jsP, jsT_ok hu h⟩
        · exact ⟨dep, κ, by cases κ <;> first | exact h | exact absurd rfl hjs⟩
      obtain ⟨h1, h2, h3⟩ := okF_all h
      exact ⟨fun f hf => ⟨dep, h1 f hf⟩, by simpa using h2, fun j f hf => by simpa using h3 j f hf⟩
  · have := nop ht hu; simp at this
end
end Go.Sx
