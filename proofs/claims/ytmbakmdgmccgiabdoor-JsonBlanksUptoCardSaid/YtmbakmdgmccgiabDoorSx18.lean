/- Part of a proof by a small interpreter on plain values; no condition. -/
import Derived.Test.YtmbakmdgmccgiabDoorSx17
/-! Sx18: what a law's call leaves behind, in the form's words. -/
namespace Go.Sx
open Go Go.ChangeShapes
set_option autoImplicit false
set_option linter.unusedVariables false
set_option linter.unusedSimpArgs false
section
variable {H : Type} {enc : TypeId × Value → H} {P : Program} {W W' : World} {B : DataW H → Nat} {BA : List (DataW H) → Nat} {E : TypeId}
theorem Quiet.kept (h : Quiet W W') (may : MemPlace → Prop) : W.keptBut W' may := by
  refine ⟨h.os, h.output, fun i hi => ?_⟩
  rw [h.block i hi]
  cases W.heap[i]? with
  | none => trivial
  | some o => cases o <;> simp
theorem Quiet.at (h : Quiet W W') {p : MemPlace} (hp : p.block < W.heap.size) : W.sameAt W' p := by
  cases p with
  | cell b off =>
    show W'.cell? ⟨b, off, none⟩ = W.cell? ⟨b, off, none⟩
    unfold World.cell?
    simp only
    rw [h.block b hp]
  | map b => exact h.block b hp
theorem Quiet.frozen (h : Quiet W W') {b off : Nat} (hb : b < W.heap.size) : W'.frozen? ⟨b, off, none⟩ = W.frozen? ⟨b, off, none⟩ := by
  unfold World.frozen?
  simp only
  rw [h.block b hb]
theorem okT_stays (h : Quiet W W') {sp : Nat → Bool} {n : Nat} {t : TypeId} {cs : List Value} {x : DataW H × List MemPlace} (ht : okT P t) (hx : DataW.trod enc P W 0 (fun _ => true) true n t cs = some x) (hlt : ∀ p ∈ x.2, p.block < W.heap.size)
    (hs : ∀ p ∈ x.2, sp p.block = true) : DataW.trod enc P W' 0 sp true n t cs = some x :=
  DataW.trod_stays okT_kids (fun {t e} ht hu => by
    obtain ⟨dep, κ, hk⟩ := ht
    cases dep with
    | zero => simp [okK] at hk
    | succ dep =>
      unfold okK at hk
      rw [hu] at hk
      cases κ <;> simp at hk
      obtain ⟨_, h1, h2⟩ := hk
      omega) (fun h => by cases h) ht hx (fun p hp => h.at (hlt p hp)) hs
theorem args_stay (h : Quiet W W') {sp : Nat → Bool} : ∀ {ts : List TypeId} {ps : List Pm} {vs : List Value} {ds : List (DataW H)} {q : List MemPlace}, okAll P ts ps = true → DataW.TrodAll enc P W 0 (fun _ => true) true ts vs ds q → (∀ p ∈ q, p.block < W.heap.size) → (∀ p ∈ q, sp p.block = true) →
    DataW.TrodAll enc P W' 0 sp true ts vs ds q
  | [], ps, vs, ds, q, hk, hA, _, _ => by
    obtain ⟨rfl, rfl, rfl⟩ := trodAll_nil hA
    exact rfl
  | t :: ts, [], vs, ds, q, hk, _, _, _ => by simp [okAll] at hk
  | t :: ts, p :: ps, vs, ds, q, hk, hA, hlt, hs => by
    simp only [okAll, Bool.and_eq_true] at hk
    obtain ⟨v, vs', d, ds', a, b, rfl, rfl, rfl, ⟨n, h1⟩, h2⟩ := trodAll_cons hA
    exact ⟨a, b, ⟨n, okT_stays h ⟨12, p.1, hk.1⟩ h1 (fun p hp => hlt p (List.mem_append_left _ hp)) (fun p hp => hs p (List.mem_append_left _ hp))⟩,
      args_stay h hk.2.2.2 h2 (fun p hp => hlt p (List.mem_append_right _ hp)) (fun p hp => hs p (List.mem_append_right _ hp)), rfl⟩
theorem post_of_quiet {fn : Func} {s : ChangeSpec} {apart fresh handsOn again : Bool} {args : Array Value} {ds gs : List (DataW H)} {before : List MemPlace} {ps : List Pm} {tb : TypeId}
    (hW : DataW.Whole enc P fn.params.toList s.vars apart W args.toList ds gs before) (hvars : s.vars = []) (hk : okAll P fn.params.toList ps = true) (hrt : fn.resultTypes = #[tb]) (hb : P.underlying tb = some .bool)
    (hres : (s.fn H ds).results = [.lit (.bool true)]) (hargs : (s.fn H ds).args = ds) (hv : (s.fn H ds).vars = []) (hq : Quiet W W') : s.post enc P fn apart fresh handsOn again W args (.bool true) W' := by
  have hlt := hW.lt
  have hW' := hW
  obtain ⟨p, q, hA, hV, rfl, hz, hn⟩ := hW
  rw [hvars] at hV
  obtain ⟨rfl, rfl⟩ := trodVars_none hV
  rw [List.append_nil] at hlt hW' hz hn
  have hres' : ∀ (b : Nat) (sp : Nat → Bool) (hd : Bool), DataW.TrodAll enc P W' b sp hd fn.resultTypes.toList ((Value.bool true).resultList fn.resultTypes.size) (s.fn H (ds ++ [])).results [] := by
    intro b sp hd
    rw [List.append_nil, hres, hrt]
    exact ⟨[], [], ⟨1, by simp [DataW.trod, Value.cells, hb]⟩, rfl, rfl⟩
  have hargs' : ∀ sp : Nat → Bool, (∀ p' ∈ p, sp p'.block = true) → DataW.TrodAll enc P W' 0 sp true fn.params.toList args.toList (s.fn H (ds ++ [])).args p := by
    intro sp hs
    rw [List.append_nil, hargs]
    exact args_stay hq hk hA hlt hs
  have hvars' : ∀ sp : Nat → Bool, DataW.TrodVars enc P W' sp s.vars (s.fn H (ds ++ [])).vars [] := by
    intro sp
    rw [List.append_nil, hv, hvars]
    exact rfl
  have hold : ∀ p' ∈ p, (fun b => decide (b < W.heap.size)) p'.block = true := fun p' hp => by simpa using hlt p' hp
  refine ⟨ds, [], p, [], p, [], hW', hres' _ _ _, hargs' _ hold, hvars' _, World.keptBut_mono (fun _ f => f.elim) (hq.kept fun _ => False), fun _ => ?_⟩
  refine ⟨?_, _, _, ([] ++ p) ++ [], ⟨[] ++ p, [], trodAll_append (hargs' _ (fun _ _ => rfl)) (hres' _ _ _), hvars' _, rfl, ?_, ?_⟩, ?_⟩
  · rw [hrt]
    intro j t r h1 h2
    cases j with
    | zero =>
      simp at h1
      subst h1
      simp [Value.resultList] at h2
      subst h2
      simp [Value.okWide, hb, Cell.okWide, Cell.ok]
    | succ j => simp at h1
  · intro b off hp
    have hp' : MemPlace.cell b off ∈ p := by simpa using hp
    have hb' : b < W.heap.size := hlt _ hp'
    rw [hq.frozen hb']
    exact hz b off hp'
  · intro ha
    simpa using hn ha
  · intro p' hp _
    simpa using hp
theorem law_post {fn : Func} {f : FuncId} {s : ChangeSpec} {apart fresh handsOn again : Bool} {args : Array Value} {ds gs : List (DataW H)} {before : List MemPlace} {ps : List Pm} {tb : TypeId} {run : (lawPre ps).T → Option Bool}
    {L : Part → Prop} (hL : ∀ R : Part, (∀ b o, W.heap[b]? = some o → R b = some o) → L R) (hok : LawOK P E L f (lawPre ps) run) (hB : BulkLaw B BA) {bound : Nat} (hsz : (DataW.weightsEach P fn.params.toList (ds ++ gs)).all (· ≤ reachBytes) = true) (hrun : ∀ ys : KT ps, OkT ps ys → SzT P fn.params.toList ps ys → bulkT ps ys ≤ bound → run (buildP ps ys) = some true)
    (hval : ∃ base, ∀ (j : Nat) t v, fn.params[j]? = some t → args[j]? = some v → Value.okWide P W .any base t v)
    (hW : DataW.Whole enc P fn.params.toList s.vars apart W args.toList ds gs before) (hbound : BA (ds ++ gs) ≤ bound) (hvars : s.vars = []) (hk : okAll P fn.params.toList ps = true) (hrt : fn.resultTypes = #[tb]) (hb : P.underlying tb = some .bool)
    (hres : ∀ l : List (DataW H), l.length = fn.params.size → (s.fn H l).results = [.lit (.bool true)] ∧ (s.fn H l).args = l ∧ (s.fn H l).vars = []) :
    Calls P f args W fun e W' => ∃ v, e = .returned v ∧ s.post enc P fn apart fresh handsOn again W args v W' := by
  have hW0 := hW
  obtain ⟨p, q, hA, hV, _, _, _⟩ := hW
  rw [hvars] at hV
  obtain ⟨rfl, rfl⟩ := trodVars_none hV
  rw [List.append_nil] at hbound hsz
  have hlen : ∀ {ts : List TypeId} {vs : List Value} {ds : List (DataW H)} {q : List MemPlace}, DataW.TrodAll enc P W 0 (fun _ => true) true ts vs ds q → ds.length = ts.length := by
    intro ts
    induction ts with
    | nil => intro vs ds q h; obtain ⟨_, rfl, _⟩ := trodAll_nil h; rfl
    | cons t ts ih => intro vs ds q h; obtain ⟨_, _, _, _, _, _, _, rfl, _, _, h2⟩ := trodAll_cons h; simp [ih h2]
  have hl := hlen hA
  rw [Array.length_toList] at hl
  obtain ⟨e1, e2, e3⟩ := hres ds hl
  obtain ⟨base, hval⟩ := hval
  refine (law_calls hL hok hB hk hsz hrun hA hbound (fun j t v h1 h2 => ⟨base, hval j t v (by simpa using h1) h2⟩)).mono fun e W' he => ?_
  obtain ⟨rfl, hq⟩ := he
  refine ⟨_, rfl, post_of_quiet (gs := []) (before := before) hW0 hvars hk hrt hb e1 e2 e3 hq⟩
end
end Go.Sx
