/- Part of a proof by a small interpreter on plain values; no condition. -/
import Derived.Test.YtmbakmdgmccgiabDoorSx22
import Derived.Lib.Builder
import Derived.Lib.UnsafeStr
/-! Sx23: strings.Builder: copyCheck and String, by the model's entries. -/
namespace Go.Sx
open Go
set_option autoImplicit false
set_option linter.unusedVariables false
set_option linter.unusedSimpArgs false
theorem no_pool {l : List (Nat × Ent)} (h : ∀ q ∈ l, q.2.isPool = false) {p : Nat × Ent} (hp : p ∈ l) {ty : TypeId} {κ : K} {xs : List κ.T} (e : p.2 = .pool ty κ xs) : False := by
  have := h p hp
  rw [e] at this
  cases this
/-- what a call leaves that took away all that was handed in. -/
theorem Exited.gone {E : TypeId} {pre : Shape} {x : pre.T} {W0 : World} {R0 : Part} {g0 : Gh} {vals0 : List Value} (hent : Entry E pre x W0 R0 g0 vals0) (vals : List RSh) (y : (⟨vals, []⟩ : Shape).T) {vs : List Value} {w : World}
    (hv : All2 (RVRel E R0 fun _ => none) ((⟨vals, []⟩ : Shape).vs y) vs) (hos : w.os = W0.os) (htape : w.tape = W0.tape) (hout : w.output = W0.output) (hsize : W0.heap.size ≤ w.heap.size)
    (hblock : ∀ b, b < W0.heap.size → ¬ S0of R0 g0 (pre.es x) b → w.heap[b]? = W0.heap[b]?) : Exited E pre x W0 R0 g0 ⟨⟨vals, []⟩, y⟩ R0 (fun _ => none) vs w := by
  have hlt : ∀ b o, R0 b = some o → b < W0.heap.size := fun b o h => by
    have h1 := hent.sub b o h
    rcases Nat.lt_or_ge b W0.heap.size with h2 | h2
    · exact h2
    · rw [Array.getElem?_eq_none h2] at h1; cases h1
  refine { sub := fun b o h => (hblock b (hlt b o h) (hent.notS b o h)).trans (hent.sub b o h), vals := hv, ents := fun p hp => ?_, sep := fun p hp => ?_, pl := fun p hp => ?_, oldN := fun _ _ _ h => h, newN := fun _ _ _ h => .inl h, dom := fun h v hg => (nomatch hg), newR := fun b o h => .inl h, os := hos, tape := htape, output := hout, size := hsize, block := hblock, keep := fun h _ v hg => (nomatch hg) }
  · exact absurd hp (by simp [Shape.es, mkE])
  · exact absurd hp (by simp [Shape.es, mkE])
  · exact absurd hp (by simp [Shape.es, mkE])
def bldPre (T tb : TypeId) : Shape := ⟨[.c (.ptr 0 0)], [(0, .cells T [.slf 0, .own 1]), (1, .row tb (.int .u8))]⟩
def bldPost (T tb : TypeId) : List Shape := [⟨[], [(0, .cells T [.slf 0, .own 1]), (1, .row tb (.int .u8))]⟩]
def strPost : List Shape := [⟨[.c (.dat .str)], []⟩]
section
variable {P : Program} {E : TypeId} {L : Part → Prop} {f : FuncId} {T tb : TypeId}
/-- what a builder that is handed in says of the memory. -/
theorem bld_in {x : (bldPre T tb).T} {W0 : World} {R0 : Part} {g0 : Gh} {vals : List Value} (hen : Entry E (bldPre T tb) x W0 R0 g0 vals) :
    ∃ (b : Nat) (c0 c1 : Value) (fr : Nat × Nat), vals = [.pointer (some ⟨b, 0, none⟩)] ∧ g0 0 = some (.pointer (some ⟨b, 0, none⟩)) ∧ W0.heap[b]? = some (.cells #[c0, c1] T fr) ∧ Unf fr 2 ∧
      (c0 = .pointer none ∨ c0 = .pointer (some ⟨b, 0, none⟩)) ∧ g0 1 = some c1 ∧ c1.oneCell' = true ∧ EntRel E R0 g0 W0 (.row tb (.int .u8) x) c1 := by
  have hv : All2 (RVRel E R0 g0) [RV.c (.ptr 0 0)] vals := hen.vals
  cases hv with
  | cons ha hr =>
    cases hr
    obtain ⟨b, hg, rfl⟩ : ∃ b, g0 0 = some (.pointer (some ⟨b, 0, none⟩)) ∧ _ = Value.pointer (some ⟨b, 0, none⟩) := ha
    obtain ⟨v, hgv, ⟨b', arr, fr, rfl, hb, hu, hcs⟩, _⟩ := hen.ents (0, .cells T [.slf 0, .own 1]) (.head _)
    have hgv' : g0 0 = some (.pointer (some ⟨b', 0, none⟩)) := hgv
    rw [hg] at hgv'
    injection hgv' with h1
    injection h1 with h1
    injection h1 with h1
    injection h1 with h1 _ _
    subst h1
    obtain ⟨l, rfl⟩ : ∃ l, arr = List.toArray l := ⟨arr.toList, by simp⟩
    simp only [List.toList_toArray] at hcs
    cases hcs with
    | cons h0 hr =>
      cases hr with
      | cons h1 hr =>
        cases hr
        rename_i c0 c1
        obtain ⟨v1, hg1, he1, _⟩ := hen.ents (1, .row tb (.int .u8) x) (.tail _ (.head _))
        have h1' : g0 1 = some c1 ∧ c1.oneCell' = true := h1
        have hg1' : g0 1 = some v1 := hg1
        rw [h1'.1] at hg1'
        injection hg1' with hg1'
        subst hg1'
        refine ⟨b, c0, c1, fr, rfl, hg, hb, hu, ?_, h1'.1, h1'.2, he1⟩
        have h0' : c0 = .pointer none ∨ ∃ b', g0 0 = some (.pointer (some ⟨b', 0, none⟩)) ∧ c0 = .pointer (some ⟨b', 0, none⟩) := h0
        rcases h0' with h0' | ⟨b', hq, h0'⟩
        · exact .inl h0'
        · rw [hg] at hq
          injection hq with hq
          injection hq with hq
          injection hq with hq
          injection hq with hq _ _
          subst hq
          exact .inr h0'
theorem bldCheck_ok (hent : ∃ fn, P.funcs[f]? = some fn ∧ fn.body.isNone = false ∧ (fn.name == "runtime.NumGoroutine") = false)
    (used : ∀ (b : Nat) (w : World), w.cell? ⟨b, 0, none⟩ = some (.pointer (some ⟨b, 0, none⟩)) → Calls P f #[.pointer (some ⟨b, 0, none⟩)] w fun e w' => e = .returned (.tuple #[]) ∧ w' = w)
    (fresh : ∀ (b : Nat) (w : World), w.cell? ⟨b, 0, none⟩ = some (.pointer none) → w.shape? b = some (T, 2) → w.frozen? ⟨b, 0, none⟩ = false →
      Calls P f #[.pointer (some ⟨b, 0, none⟩)] w fun e w' => e = .returned (.tuple #[]) ∧ w' = w.setCell ⟨b, 0, none⟩ (.pointer (some ⟨b, 0, none⟩))) :
    FnOK P E L f ⟨bldPre T tb, bldPost T tb, fun x => some x⟩ := by
  refine ⟨hent, fun x y W0 R0 g0 vals hrun hen hlay => ?_⟩
  injection hrun with hrun
  subst hrun
  obtain ⟨b, c0, c1, fr, rfl, hg0, hb, hu, hc0, hg1, hone, he1⟩ := bld_in hen
  have hS : ∀ q ∈ (bldPre T tb).es x, ∀ v, g0 q.1 = some v → ∀ k, own R0 v k → S0of R0 g0 ((bldPre T tb).es x) k := fun q hq v hv k hk => ⟨q.1, q.2, v, hq, hv, hk⟩
  rcases hc0 with rfl | rfl
  · refine (fresh b W0 (by simp [World.cell?, hb]) (by simp [World.shape?, hb]) (by simp only [World.frozen?, hb]; exact hu.at 0 (by omega))).mono fun e w' ⟨h1, h2⟩ => ⟨R0, g0, [], by rw [h1]; rfl, ?_⟩
    subst h2
    have hother : ∀ k, k ≠ b → (W0.setCell ⟨b, 0, none⟩ (.pointer (some ⟨b, 0, none⟩))).heap[k]? = W0.heap[k]? := fun k hk => by
      simp only [World.setCell, Array.getElem?_modify]
      rw [if_neg (fun h => hk h.symm)]
    have hat : (W0.setCell ⟨b, 0, none⟩ (.pointer (some ⟨b, 0, none⟩))).heap[b]? = some (.cells #[.pointer (some ⟨b, 0, none⟩), c1] T fr) := by
      simp only [World.setCell, Array.getElem?_modify, if_true, hb]
      rfl
    have hbS : S0of R0 g0 ((bldPre T tb).es x) b := hS (0, .cells T [.slf 0, .own 1]) (.head _) _ hg0 b (.inl rfl)
    refine { sub := fun k o h => ?_, vals := .nil, ents := fun p hp => ?_, sep := fun p hp p' hp' hne v v' k h1 h2 h3 h4 => hen.sep p hp p' hp' hne v v' k h1 h2 h3 h4, pl := fun p hp ty κ xs e => (no_pool (l := [(0, Ent.cells T [.slf 0, .own 1]), (1, Ent.row tb (.int .u8) x)]) (by intro q hq; simp only [List.mem_cons, List.not_mem_nil, or_false] at hq; rcases hq with rfl | rfl <;> rfl) hp e).elim, oldN := fun _ _ _ h => h, newN := fun _ _ _ h => .inl h, dom := fun h v hg => hen.dom h v hg, newR := fun k o h => .inl h, os := rfl, tape := rfl, output := rfl, size := by simp [World.setCell], block := fun k hk hs => hother k (fun h => hs (h ▸ hbS)), keep := fun h _ v hg => hg }
    · rw [hother k (fun e => hen.notS k o h (e ▸ hbS))]; exact hen.sub k o h
    · have hp' : p ∈ [(0, Ent.cells T [.slf 0, .own 1]), (1, Ent.row tb (.int .u8) x)] := hp
      simp only [List.mem_cons, List.not_mem_nil, or_false] at hp'
      rcases hp' with rfl | rfl
      · refine ⟨_, hg0, ⟨b, _, fr, rfl, hat, hu, .cons (.inr ⟨b, hg0, rfl⟩) (.cons ⟨hg1, hone⟩ .nil)⟩, fun k hk => ?_⟩
        obtain ⟨v, hv, _, h3⟩ := hen.ents (0, .cells T [.slf 0, .own 1]) (.head _)
        have hv' : g0 0 = some v := hv
        rw [hg0] at hv'
        injection hv' with hv'
        subst hv'
        exact ⟨h3 k hk, .inr (hS (0, .cells T [.slf 0, .own 1]) (.head _) _ hg0 k hk)⟩
      · refine ⟨_, hg1, ?_, fun k hk => ?_⟩
        · refine he1.mono (Part.le_refl _) (fun _ _ h => h) (fun k hk => hother k (fun e => ?_))
          subst e
          exact hen.sep (0, .cells T [.slf 0, .own 1]) (.head _) (1, .row tb (.int .u8) x) (.tail _ (.head _)) (by simp) _ _ k hg0 hg1 (.inl rfl) hk
        · obtain ⟨v, hv, _, h3⟩ := hen.ents (1, .row tb (.int .u8) x) (.tail _ (.head _))
          have hv' : g0 1 = some v := hv
          rw [hg1] at hv'
          injection hv' with hv'
          subst hv'
          exact ⟨h3 k hk, .inr (hS (1, .row tb (.int .u8) x) (.tail _ (.head _)) _ hg1 k hk)⟩
  · refine (used b W0 (by simp [World.cell?, hb])).mono fun e w' ⟨h1, h2⟩ => ⟨R0, g0, [], by rw [h1]; rfl, ?_⟩
    subst h2
    refine { sub := hen.sub, vals := .nil, ents := fun p hp => ?_, sep := fun p hp p' hp' hne v v' k h1 h2 h3 h4 => hen.sep p hp p' hp' hne v v' k h1 h2 h3 h4, pl := fun p hp ty κ xs e => (no_pool (l := [(0, Ent.cells T [.slf 0, .own 1]), (1, Ent.row tb (.int .u8) x)]) (by intro q hq; simp only [List.mem_cons, List.not_mem_nil, or_false] at hq; rcases hq with rfl | rfl <;> rfl) hp e).elim, oldN := fun _ _ _ h => h, newN := fun _ _ _ h => .inl h, dom := fun h v hg => hen.dom h v hg, newR := fun k o h => .inl h, os := rfl, tape := rfl, output := rfl, size := Nat.le_refl _, block := fun k hk hs => rfl, keep := fun h _ v hg => hg }
    obtain ⟨v, h1, h2, h3⟩ := hen.ents p hp
    exact ⟨v, h1, h2, fun k hk => ⟨h3 k hk, .inr (hS p hp v h1 k hk)⟩⟩
theorem bytesL_of (xs : List Int) (h : ∀ z ∈ xs, 0 ≤ z ∧ z ≤ 255) : bytesL ⟨(xs.map fun z => z.toNat.toUInt8).toArray⟩ = xs := by
  unfold bytesL
  simp only [List.map_map]
  conv => rhs; rw [← List.map_id xs]
  apply List.map_congr_left
  intro z hz
  have := h z hz
  simp only [Function.comp, id]
  simp [Nat.toUInt8]
  omega
theorem bldString_ok {ts tp ti tstr : TypeId} (hent : ∃ fn, P.funcs[f]? = some fn ∧ fn.body.isNone = false ∧ (fn.name == "runtime.NumGoroutine") = false) (hp : P.underlying tp = some (.pointer tb)) (hc1 : P.cellsOf tb = 1)
    (hcall : ∀ (b : Nat) (w w1 w2 : World) (A q : Option Addr) (n c : Nat) (s : ByteArray), w.drew.cell? ⟨b, 1, none⟩ = some (.slice A n c) → (Builtin.unsafeSliceData_ #[ts] tp #[.slice A n c]).run P w.drew = .ok (.pointer q) w1 →
      w1.cell? ⟨b, 1, none⟩ = some (.slice A n c) → (Builtin.unsafeString_ #[tp, ti] tstr #[.pointer q, .int .i64 n]).run P w1 = .ok (.string s) w2 → Calls P f #[.pointer (some ⟨b, 0, none⟩)] w fun e w' => e = .returned (.string s) ∧ w' = w2) :
    FnOK P E L f ⟨bldPre T tb, strPost, fun x => some x⟩ := by
  refine ⟨hent, fun (x : List Int) y W0 R0 g0 vals hrun hen hlay => ?_⟩
  injection hrun with hrun
  subst hrun
  obtain ⟨b, c0, c1, fr, rfl, hg0, hb, hu, hc0, hg1, hone, he1⟩ := bld_in hen
  have hcell : W0.drew.cell? ⟨b, 1, none⟩ = some c1 := by
    have : W0.drew.heap[b]? = some (.cells #[c0, c1] T fr) := hb
    simp [World.cell?, this]
  have hlt : b < W0.heap.size := (Array.getElem?_eq_some_iff.1 hb).1
  have str : ∀ s : ByteArray, (x : List Int) = bytesL s → s.size ≤ lim → All2 (RVRel E R0 fun _ => none) [RV.c (.dat .str x)] [.string s] := fun s h1 h2 => .cons ⟨s, rfl, h1, h2⟩ .nil
  rcases he1 with ⟨rfl, hx⟩ | ⟨g, c, arr, fr1, rfl, hg, hu1, h2, h3, h4, h5, h6⟩
  · refine (hcall b W0 W0.drew W0.drew none none 0 0 .empty hcell rfl hcell (Lib.run_unsafeString_none _ _ _ _ _)).mono fun e w' ⟨h1, h2⟩ => ⟨R0, fun _ => none, [.string .empty], by rw [h1]; rfl, ?_⟩
    subst h2
    exact Exited.gone hen [.c (.dat .str)] x (str .empty (by rw [hx]; rfl) (by decide)) rfl rfl rfl (Nat.le_refl _) (fun _ _ _ => rfl)
  · have hglt : g < W0.heap.size := (Array.getElem?_eq_some_iff.1 hg).1
    have hgd : W0.drew.heap[g]? = some (.cells arr tb fr1) := hg
    have hgS : S0of R0 g0 ((bldPre T tb).es x) g := ⟨1, .row tb (.int .u8) x, _, .tail _ (.head _), hg1, .inl rfl⟩
    by_cases hc : c = 0
    · subst hc
      have hx : (x : List Int) = [] := List.length_eq_zero_iff.1 (Nat.le_zero.1 h2)
      have hn : List.length (x : List Int) = 0 := Nat.le_zero.1 h2
      have hSD := Lib.run_unsafeSliceData_zero (P := P) W0.drew #[ts] tp tb hp ⟨g, 0, none⟩ (List.length (x : List Int)) (tb, arr.size) (by simp [World.shape?, hgd])
      have hold : ∀ k, k < W0.heap.size → (W0.drew.alloc (.view ⟨g, 0, none⟩ tb)).heap[k]? = W0.heap[k]? := fun k hk => by
        show (W0.heap.push _)[k]? = _
        rw [Array.getElem?_push, if_neg (by omega)]
      have hc2 : (W0.drew.alloc (.view ⟨g, 0, none⟩ tb)).cell? ⟨b, 1, none⟩ = some (.slice (some ⟨g, 0, none⟩) (List.length (x : List Int)) 0) := by
        have := (hold b hlt).trans hb
        simp [World.cell?, this]
      have hUS := Lib.run_unsafeString_none (P := P) (W0.drew.alloc (.view ⟨g, 0, none⟩ tb)) tp ti tstr (some ⟨W0.drew.heap.size, 0, none⟩)
      refine (hcall b W0 _ (W0.drew.alloc (.view ⟨g, 0, none⟩ tb)) _ _ _ _ .empty hcell hSD hc2 (by rw [hn]; exact hUS)).mono fun e w' ⟨h1, h2⟩ => ⟨R0, fun _ => none, [.string .empty], by rw [h1]; rfl, ?_⟩
      subst h2
      exact Exited.gone hen [.c (.dat .str)] x (str .empty (by rw [hx]; rfl) (by decide)) rfl rfl rfl (by show _ ≤ (W0.heap.push _).size; simp) (fun k hk _ => hold k hk)
    · have hSD := Lib.run_unsafeSliceData_row (P := P) W0.drew #[ts] tp ⟨g, 0, none⟩ (List.length (x : List Int)) c hc
      by_cases hx : (x : List Int) = []
      · have hn : List.length (x : List Int) = 0 := by rw [hx]; rfl
        have hUS := Lib.run_unsafeString_none (P := P) W0.drew tp ti tstr (some ⟨g, 0, none⟩)
        refine (hcall b W0 _ W0.drew _ _ _ _ .empty hcell hSD hcell (by rw [hn]; exact hUS)).mono fun e w' ⟨h1, h2⟩ => ⟨R0, fun _ => none, [.string .empty], by rw [h1]; rfl, ?_⟩
        subst h2
        exact Exited.gone hen [.c (.dat .str)] x (str .empty (by rw [hx]; rfl) (by decide)) rfl rfl rfl (Nat.le_refl _) (fun _ _ _ => rfl)
      · have hcells : ∀ (j : Nat) (z : Int), (x : List Int)[j]? = some z → arr[j]? = some (.int .u8 z) ∧ 0 ≤ z ∧ z ≤ 255 := fun j z hj => by
          have h := h6 j z hj
          rw [show (K.int IntKind.u8).sz = 1 from rfl, Nat.mul_one] at h
          obtain ⟨e, r1, r2⟩ := h
          rw [k_min_eq] at r1
          rw [k_max_eq] at r2
          have h0 := congrArg (fun l => l[0]?) e
          simp only [List.getElem?_take, List.getElem?_drop, Nat.add_zero, List.getElem?_cons_zero, show (0 : Nat) < 1 from by decide, if_true] at h0
          rw [Array.getElem?_toList] at h0
          exact ⟨h0, r1, r2⟩
        have h255 : ∀ z ∈ (x : List Int), 0 ≤ z ∧ z ≤ 255 := fun z hz => by
          obtain ⟨j, hj⟩ := List.mem_iff_getElem?.1 hz
          exact (hcells j z hj).2
        have hUS := Lib.run_unsafeString_row (P := P) W0.drew tp ti tstr tb hp hc1 g arr.size (by simp [World.shape?, hgd]) ((x : List Int).map fun z => z.toNat.toUInt8) (by simpa using hx) (by
            rw [List.length_map]
            have : c * 1 ≤ arr.size := h3
            have : List.length (x : List Int) ≤ c := h2
            omega) (by rw [List.length_map]; exact h4) (fun j z hz => by
              rw [List.getElem?_map] at hz
              obtain ⟨z', hz', rfl⟩ := Option.map_eq_some_iff.1 hz
              obtain ⟨hc, r1, r2⟩ := hcells j z' hz'
              have e : ((⟨g, 0, none⟩ : Addr).add j) = ⟨g, j, none⟩ := by
                unfold Addr.add
                by_cases hj : j = 0
                · subst hj; rfl
                · simp [hj]
              rw [e]
              simp only [World.cell?, hgd, Option.isSome_none, Bool.false_eq_true, if_false, hc]
              congr 2
              simp [Nat.toUInt8]
              omega)
        rw [List.length_map] at hUS
        refine (hcall b W0 _ _ _ _ _ _ _ hcell hSD hcell hUS).mono fun e w' ⟨h1, h2⟩ => ⟨R0, fun _ => none, [.string ⟨((x : List Int).map fun z => z.toNat.toUInt8).toArray⟩], by rw [h1]; rfl, ?_⟩
        subst h2
        refine Exited.gone hen [.c (.dat .str)] x (str _ (bytesL_of x h255).symm (by
          rw [show ByteArray.size ⟨((x : List Int).map fun z => z.toNat.toUInt8).toArray⟩ = List.length (x : List Int) by simp [ByteArray.size]]; exact h4)) ?_ ?_ ?_ ?_ (fun k hk hs => ?_)
        · unfold World.freeze; split <;> rfl
        · unfold World.freeze; split <;> rfl
        · unfold World.freeze; split <;> rfl
        · unfold World.freeze
          split
          · exact Nat.le_refl _
          · simp
        · unfold World.freeze
          split
          · rfl
          · simp only [Array.getElem?_modify]
            rw [if_neg (show ¬ g = k from fun h => hs (by rw [← h]; exact hgS))]
            rfl
end
end Go.Sx
