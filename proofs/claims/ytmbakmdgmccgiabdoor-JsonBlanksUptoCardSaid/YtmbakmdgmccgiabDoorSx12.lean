/- Part of a proof by a small interpreter on plain values; no condition. -/
import Derived.Test.YtmbakmdgmccgiabDoorSx11
/-! Sx12: a region: its run on values is a run of its operations, one by one; in text order. -/
namespace Go.Sx
open Go
set_option autoImplicit false
set_option linter.unusedSimpArgs false
set_option linter.unusedVariables false

structure Item where
  δ : Delta
  inf : Info
  did : Bool
  dst : Option Tmp
/-- is an operation wanted? by the state. -/
def wants (ops : Array Oper) (o : Oper) (s : VSt) : Option Bool :=
  match o.guard with
  | none => some true
  | some (j, want) => match (ops[j]?).bind (·.dst) with
    | none => none
    | some t => match s.sl t with
      | some .u => some false
      | some (.r (.c (.dat .bool b))) => some (b == want)
      | _ => none
structure Agree (inf : Info) (s s' : VSt) : Prop where
  sl : ∀ t ∈ inf.ts, s'.sl t = s.sl t
  en : ∀ h, (h ∈ inf.ids ∨ inBase inf.base h = true) → s'.en h = s.en h
  gl : s'.gl = s.gl
theorem Agree.refl (inf : Info) (s : VSt) : Agree inf s s := ⟨fun _ _ => rfl, fun _ _ => rfl, rfl⟩
structure ItemOK (C : Ctx) (ops : Array Oper) (s : VSt) (i : Nat) (o : Oper) (it : Item) : Prop where
  od : it.dst = o.dst
  i : it.inf.i = i
  dst : ∀ t, o.dst = some t → t < C.N
  dsts : it.inf.dst = o.dst.toList
  ups : it.inf.ups = it.δ.ups.map (·.1)
  wn : wants ops o s = some it.did
  gts : ∀ t ∈ guardTmp ops o, t ∈ it.inf.ts
  ok : it.did = true → ∃ v : VSt, StepOK C [] o v it.δ ∧ ∀ s', Agree it.inf s s' → View v s'
  no : it.did = false → it.δ = ⟨some .u, []⟩
inductive Tr (C : Ctx) (ops : Array Oper) : List Oper → Nat → VSt → List Item → VSt → Prop
  | nil {i : Nat} {s : VSt} : Tr C ops [] i s [] s
  | cons {o : Oper} {r : List Oper} {i : Nat} {s s' : VSt} {it : Item} {its : List Item} : ItemOK C ops s i o it → Tr C ops r (i + 1) (s.app it.dst it.δ) its s' → Tr C ops (o :: r) i s (it :: its) s'

theorem sv_bool {x : Option SV} {b : Bool} (h : svCV x = some (.dat .bool b)) : x = dB b := by
  unfold svCV at h
  split at h
  · injection h with h; subst h; rfl
  · cases h
theorem know_eq {s : VSt} {t : Nat} {b : Bool} (h : s.sl t = some (.r (.c (.dat .bool b)))) : s.know t b = s := by
  have e : s.sl t = dB b := h
  unfold VSt.know
  have : upd s.sl t (dB b) = s.sl := by
    funext j
    by_cases hj : j = t
    · subst hj; rw [upd_same, e]
    · rw [upd_ne _ _ hj]
  rw [this]
theorem any_beq {l : List Nat} {t : Nat} : l.any (Nat.beq t) = true ↔ t ∈ l := by
  rw [List.any_eq_true]
  constructor
  · rintro ⟨x, hx, e⟩
    rw [Nat.eq_of_beq_eq_true e]; exact hx
  · intro h
    exact ⟨t, h, Nat.beq_refl t⟩
theorem view_ok (s s' : VSt) (ts ids : List Nat) (base : Nat) (h1 : ∀ t ∈ ts, s'.sl t = s.sl t) (h2 : ∀ h, (h ∈ ids ∨ inBase base h = true) → s'.en h = s.en h) (h3 : s'.gl = s.gl) : View (s.view ts ids base) s' := by
  refine ⟨?_, ?_, h3.symm⟩
  · intro t x h
    change (bif ts.any (Nat.beq t) then s.sl t else none) = some x at h
    cases hb : ts.any (Nat.beq t) with
    | true => rw [hb] at h; rw [h1 t (any_beq.1 hb)]; exact h
    | false => rw [hb] at h; cases h
  · intro h
    change (bif ids.any (Nat.beq h) || (Nat.ble base h && Nat.ble (h + 1) (base + 64)) then s.en h else .dead) = _ ∨ (bif ids.any (Nat.beq h) || (Nat.ble base h && Nat.ble (h + 1) (base + 64)) then s.en h else .dead) = _
    cases hb : ids.any (Nat.beq h) || (Nat.ble base h && Nat.ble (h + 1) (base + 64)) with
    | true =>
      left
      rw [Bool.or_eq_true] at hb
      refine (h2 h ?_).symm
      rcases hb with hb | hb
      · exact .inl (any_beq.1 hb)
      · exact .inr hb
    | false => right; rfl
section
variable {C : Ctx} {env : Env} {ops : Array Oper} {id : Nat} {A : Type} {fin : List Info → VSt → Option A}
theorem all_lt {d : Option Tmp} {N : Nat} (h : (!(d.all fun t => Nat.ble (t + 1) N)) = false) : ∀ t, d = some t → t < N := by
  intro t e
  subst e
  simp only [Option.all_some, Bool.not_eq_false'] at h
  exact Nat.le_of_ble_eq_true h
theorem runOps_tr (henv : ∀ fid, ∀ sp ∈ env fid, FnOK C.P C.E C.L fid sp) {r : A} : ∀ (todo : List Oper) (i : Nat) (s : VSt) (acc : List Info), runOps C.P C.E C.N env ops id fin todo i s acc = some r →
    ∃ its s', Tr C ops todo i s its s' ∧ fin (acc.reverse ++ its.map (·.inf)) s' = some r
  | [], i, s, acc, h => ⟨[], s, .nil, by simpa [runOps] using h⟩
  | o :: rest, i, s, acc, h => by
    unfold runOps at h
    simp only at h
    split at h
    · cases h
    rename_i hd
    have hd' := all_lt (by simpa using hd)
    have hstep : wants ops o s = some true → ((stepD C.P C.E env [] (tagOf id i) o (s.view (tmpsOf o.op.operands.toList) (idsOf C.P s.en o.op (reach s.en 8 (svIds s (tmpsOf o.op.operands.toList)))) (tagOf id i)) fun d =>
        runOps C.P C.E C.N env ops id fin rest (i + 1) (s.app o.dst d) (⟨i, guardTmp ops o ++ (tmpsOf o.op.operands.toList), idsOf C.P s.en o.op (reach s.en 8 (svIds s (tmpsOf o.op.operands.toList))), tagOf id i, o.dst.toList, d.ups.map (·.1)⟩ :: acc)) = some r) →
        ∃ its s', Tr C ops (o :: rest) i s its s' ∧ fin (acc.reverse ++ its.map (·.inf)) s' = some r := by
      intro hw h
      obtain ⟨δ, hf, hok⟩ := stepD_ok hd' henv h
      obtain ⟨its, s', htr, hfin⟩ := runOps_tr henv rest (i + 1) _ _ hf
      refine ⟨⟨δ, ⟨i, guardTmp ops o ++ (tmpsOf o.op.operands.toList), idsOf C.P s.en o.op (reach s.en 8 (svIds s (tmpsOf o.op.operands.toList))), tagOf id i, o.dst.toList, δ.ups.map (·.1)⟩, true, o.dst⟩ :: its, s', .cons ⟨rfl, rfl, hd', rfl, rfl, hw, fun t ht => List.mem_append_left _ ht, fun _ => ⟨_, hok, fun s2 ha => ?_⟩, by simp⟩ htr, ?_⟩
      · exact view_ok s s2 _ _ _ (fun t ht => ha.sl t (List.mem_append_right _ ht)) ha.en ha.gl
      · simpa using hfin
    have hskip : wants ops o s = some false → (runOps C.P C.E C.N env ops id fin rest (i + 1) (s.app o.dst ⟨some .u, []⟩) (⟨i, guardTmp ops o, [], tagOf id i, o.dst.toList, []⟩ :: acc)) = some r →
        ∃ its s', Tr C ops (o :: rest) i s its s' ∧ fin (acc.reverse ++ its.map (·.inf)) s' = some r := by
      intro hw h
      obtain ⟨its, s', htr, hfin⟩ := runOps_tr henv rest (i + 1) _ _ h
      exact ⟨⟨⟨some .u, []⟩, _, false, o.dst⟩ :: its, s', .cons ⟨rfl, rfl, hd', rfl, rfl, hw, fun t ht => ht, by simp, fun _ => rfl⟩ htr, by simpa using hfin⟩
    cases hg : o.guard with
    | none =>
      rw [hg] at h
      exact hstep (by simp [wants, hg]) h
    | some jw =>
      obtain ⟨j, want⟩ := jw
      rw [hg] at h
      simp only at h
      cases hj : (ops[j]?).bind (·.dst) with
      | none => rw [hj] at h; cases h
      | some t =>
        rw [hj] at h
        simp only at h
        split at h
        · rename_i hu
          exact hskip (by simp [wants, hg, hj, hu]) h
        · rename_i b hb
          have hwt : wants ops o s = some (b == want) := by simp [wants, hg, hj, hb]
          cases b with
          | true =>
            rw [if_pos rfl] at h
            rw [know_eq hb] at h
            cases hbw : (true == want) with
            | true => rw [hbw] at h; exact hstep (by rw [hwt, hbw]) h
            | false => rw [hbw] at h; exact hskip (by rw [hwt, hbw]) h
          | false =>
            rw [if_neg (by simp)] at h
            rw [know_eq hb] at h
            cases hbw : (false == want) with
            | true => rw [hbw] at h; exact hstep (by rw [hwt, hbw]) h
            | false => rw [hbw] at h; exact hskip (by rw [hwt, hbw]) h
        · cases h

theorem wants_congr {o : Oper} {s s' : VSt} (h : ∀ t ∈ guardTmp ops o, s'.sl t = s.sl t) : wants ops o s' = wants ops o s := by
  unfold wants
  cases hg : o.guard with
  | none => rfl
  | some jw =>
    obtain ⟨j, want⟩ := jw
    simp only
    cases hj : (ops[j]?).bind (·.dst) with
    | none => rfl
    | some t =>
      have := h t (by simp [guardTmp, hg, hj])
      simp only [this]
theorem wants_spec {o : Oper} {s : VSt} {a : Act} {w : World} {R : Part} {g : Gh} {d : Bool} (hr : Rel C s a w R g) (h : wants ops o s = some d) : Region.wanted o (yielded ops a.tmps) = d := by
  unfold wants at h
  unfold Region.wanted
  split at h
  · injection h with h; simp_all
  · rename_i j want hg
    rw [hg]
    simp only
    split at h
    · cases h
    · rename_i t ht
      split at h
      · rename_i hu
        injection h with h
        obtain ⟨u, h1, h2⟩ := hr.slots t _ hu
        have h2 : u = undef := h2
        subst h2
        have : yielded ops a.tmps j = none := by
          unfold yielded
          rw [ht]
          simp [h1, undef]
        rw [this, ← h]
        rfl
      · rename_i b hb
        injection h with h
        obtain ⟨u, h1, h2⟩ := hr.slots t _ hb
        have h2 : u = .bool b := by
          have : [u] = [Value.bool b] := h2
          simpa using this
        subst h2
        have : yielded ops a.tmps j = some b := by
          unfold yielded
          rw [ht]
          simp [h1]
        rw [this, ← h]
        cases b <;> cases want <;> rfl
      · cases h
theorem item_step {o : Oper} {i : Nat} {it : Item} {s σ : VSt} (hi : ops[i]? = some o) (hit : ItemOK C ops s i o it) (hag : Agree it.inf s σ) {a : Act} {w : World} (hr : RelE C σ a w)
    {Q : Exit → Act → World → Prop} {K : Act → World → Prop} (hK : ∀ a' w', RelE C (σ.app it.dst it.δ) a' w' → K a' w') : wpOp C.P ops Q i K a w := by
  obtain ⟨R, g, hr⟩ := hr
  have hw := wants_spec hr ((wants_congr (fun t ht => hag.sl t (hit.gts t ht))).trans hit.wn)
  unfold wpOp
  rw [hi]
  simp only [hw]
  rw [hit.od] at hK
  cases hd : it.did with
  | true =>
    obtain ⟨v, hok, hv⟩ := hit.ok hd
    rw [if_pos rfl]
    left
    exact hok σ a w R g (hv σ hag) (fun t β h => by cases h) hr K Q hK
  | false =>
    rw [if_neg (by simp)]
    apply hK
    have := hit.no hd
    rw [this]
    exact Rel.app (δ := ⟨some .u, []⟩) hr hit.dst (Part.le_refl R) (Gh.le_refl g) hr.inv (some_r rfl)
theorem seq_ok {Q : Exit → Act → World → Prop} : ∀ {todo : List Oper} {i : Nat} {s s' : VSt} {its : List Item}, Tr C ops todo i s its s' → ops.toList.drop i = todo → (∀ a' w', RelE C s' a' w' → Q .normal a' w') →
    ∀ a w, RelE C s a w → wpOps C.P ops Q (List.range' i todo.length) a w := by
  intro todo i s s' its htr
  induction htr with
  | nil => intro _ hQ a w hr; exact hQ a w hr
  | @cons o r i s s' it its hit _ ih =>
    intro hdrop hQ a w hr
    have hi : ops[i]? = some o := by
      have : (ops.toList.drop i)[0]? = some o := by rw [hdrop]; rfl
      rw [List.getElem?_drop] at this
      simpa using this
    have hdrop2 : ops.toList.drop (i + 1) = r := by
      have : (ops.toList.drop i).drop 1 = r := by rw [hdrop]; rfl
      rw [List.drop_drop] at this
      exact this
    rw [List.length_cons, List.range'_succ, wpOps_cons]
    exact item_step hi hit (Agree.refl _ _) hr (fun a' w' h => ih hdrop2 hQ a' w' h)
theorem region_seq {Q : Exit → Act → World → Prop} {s s' : VSt} {its : List Item} (htr : Tr C ops ops.toList 0 s its s') {a : Act} {w : World} (hr : RelE C s a w) (hQ : ∀ a' w', RelE C s' a' w' → Q .normal a' w') : (Code.region id ops false).wp C.P Q a w := by
  apply wp_region
  have := seq_ok htr (by simp) hQ a w hr
  rw [List.range_eq_range']
  simpa using this
end
end Go.Sx
