/- Part of a proof by a small interpreter on plain values; no condition. -/
import Derived.Test.YtndkpphniekmlaaDoorSx23
/-! Sx29: strings.Builder: Grow at a fresh builder. -/
namespace Go.Sx
open Go
set_option autoImplicit false
set_option linter.unusedVariables false
set_option linter.unusedSimpArgs false
def growPre (T : TypeId) : Shape := ⟨[.c (.ptr 0 0), .c (.dat (.int .i64))], [(0, .cells T [.nilp, .nils])]⟩
def growRun (x : Int) : Option (List Int) := if 0 ≤ x ∧ x ≤ 281474976710656 then some [] else none
/-- what a fresh builder's Grow leaves. -/
def Grown (b : Nat) (tb : TypeId) (w w' : World) : Prop :=
  w'.os = w.os ∧ w'.tape = w.tape ∧ w'.output = w.output ∧
  (w'.heap = (w.setCell ⟨b, 0, none⟩ (.pointer (some ⟨b, 0, none⟩))).heap ∨
   ∃ cs : Array Value, cs.toList.all Value.oneCell' = true ∧
     w'.heap = ((((w.setCell ⟨b, 0, none⟩ (.pointer (some ⟨b, 0, none⟩))).setCell ⟨b, 1, none⟩ (.slice (some ⟨w.heap.size, 0, none⟩) 0 cs.size)).alloc (.cells cs tb))).heap)
section
variable {P : Program} {E : TypeId} {L : Part → Prop} {f : FuncId} {T tb : TypeId}
theorem bldGrow_ok (hent : ∃ fn, P.funcs[f]? = some fn ∧ fn.body.isNone = false ∧ (fn.name == "runtime.NumGoroutine") = false)
    (hcall : ∀ (b n : Nat) (w : World) (fr : Nat × Nat), w.heap[b]? = some (.cells #[.pointer none, .slice none 0 0] T fr) → Unf fr 2 → n ≤ 281474976710656 →
      Calls P f #[.pointer (some ⟨b, 0, none⟩), .int .i64 n] w fun e w' => e = .returned (.tuple #[]) ∧ Grown b tb w w') :
    FnOK P E L f ⟨growPre T, bldPost T tb, growRun⟩ := by
  refine ⟨hent, fun (x : Int) y W0 R0 g0 vals hrun hen hlay => ?_⟩
  have hrun' : growRun x = some y := hrun
  unfold growRun at hrun'
  split at hrun'
  · rename_i hx
    injection hrun' with hrun'
    subst hrun'
    have hv : All2 (RVRel E R0 g0) [RV.c (.ptr 0 0), RV.c (.dat (.int .i64) x)] vals := hen.vals
    cases hv with
    | cons ha hr =>
    cases hr with
    | cons hn hr =>
    cases hr
    obtain ⟨b, hg, rfl⟩ : ∃ b, g0 0 = some (.pointer (some ⟨b, 0, none⟩)) ∧ _ = Value.pointer (some ⟨b, 0, none⟩) := ha
    obtain ⟨n, rfl⟩ : ∃ n : Nat, x = (n : Int) := ⟨x.toNat, (Int.toNat_of_nonneg hx.1).symm⟩
    rename_i v2
    have hn' : (K.int .i64).Rd E R0 (n : Int) [v2] := hn
    obtain ⟨hn', -, -⟩ := hn'
    injection hn' with hn' _
    subst hn'
    obtain ⟨v, hgv, ⟨b', arr, fr, rfl, hb, hu, hcs⟩, hR0⟩ := hen.ents (0, .cells T [.nilp, .nils]) (.head _)
    have hgv' : g0 0 = some (.pointer (some ⟨b', 0, none⟩)) := hgv
    rw [hg] at hgv'
    injection hgv' with h1
    injection h1 with h1
    injection h1 with h1
    injection h1 with h1 _ _
    subst h1
    obtain ⟨l, rfl⟩ : ∃ l, arr = List.toArray l := ⟨arr.toList, by simp⟩
    simp only [List.toList_toArray] at hcs
    cases hcs with
    | cons h0 hr =>
    cases hr with
    | cons h1 hr =>
    cases hr
    rename_i c0 c1
    have h0' : c0 = .pointer none := h0
    have h1' : c1 = .slice none 0 0 := h1
    subst h0' h1'
    have hlt : b < W0.heap.size := (Array.getElem?_eq_some_iff.1 hb).1
    have hbS : S0of E g0 ((growPre T).es (n : Int)) b := ⟨0, .cells T [.nilp, .nils], _, .head _, hg, rfl⟩
    refine (hcall b n W0 fr hb hu (by omega)).mono fun e w' ⟨he, hos, htape, hout, hheap⟩ => ?_
    rcases hheap with hheap | ⟨cs, hone, hheap⟩
    · have hother : ∀ k, k ≠ b → w'.heap[k]? = W0.heap[k]? := fun k hk => by
        rw [hheap]
        simp only [World.setCell, Array.getElem?_modify]
        rw [if_neg (fun h => hk h.symm)]
      have hat : w'.heap[b]? = some (.cells #[.pointer (some ⟨b, 0, none⟩), .slice none 0 0] T fr) := by
        rw [hheap]
        simp only [World.setCell, Array.getElem?_modify, if_true, hb]
        rfl
      let g1 : Gh := fun h => if h = 0 then some (.pointer (some ⟨b, 0, none⟩)) else if h = 1 then some (.slice none 0 0) else none
      refine ⟨R0, g1, [], by rw [he]; rfl, ?_⟩
      refine { sub := fun k o h => ?_, vals := .nil, ents := fun p hp => ?_, sep := fun p hp p' hp' hne v v' k h1 h2 h3 h4 => ?_, dom := fun h v hg => ?_, newR := fun k o h => .inl h, os := hos, tape := htape, output := hout, size := by rw [hheap]; simp [World.setCell], block := fun k hk hs => hother k (fun h => hs (h ▸ hbS)), keep := fun h hk v hg' => ?_ }
      · rw [hother k (fun e => hen.notS k o h (e ▸ hbS))]; exact hen.sub k o h
      · have hp' : p ∈ [(0, Ent.cells T [.slf 0, .own 1]), (1, Ent.row tb (.int .u8) [])] := hp
        simp only [List.mem_cons, List.not_mem_nil, or_false] at hp'
        rcases hp' with rfl | rfl
        · refine ⟨_, rfl, ⟨b, _, fr, rfl, hat, hu, .cons (.inr ⟨b, rfl, rfl⟩) (.cons ⟨rfl, rfl⟩ .nil)⟩, fun k hk => ?_⟩
          injection hk with hk
          subst hk
          exact ⟨hR0 b rfl, .inr hbS⟩
        · exact ⟨_, rfl, .inl ⟨rfl, rfl⟩, fun k hk => nomatch hk⟩
      · have hp1 : p ∈ [(0, Ent.cells T [.slf 0, .own 1]), (1, Ent.row tb (.int .u8) [])] := hp
        have hp2 : p' ∈ [(0, Ent.cells T [.slf 0, .own 1]), (1, Ent.row tb (.int .u8) [])] := hp'
        simp only [List.mem_cons, List.not_mem_nil, or_false] at hp1 hp2
        rcases hp1 with rfl | rfl <;> rcases hp2 with rfl | rfl
        · exact hne rfl
        · have h2' : some (Value.slice none 0 0) = some v' := h2
          injection h2' with h2'
          subst h2'
          exact nomatch h4
        · have h1' : some (Value.slice none 0 0) = some v := h1
          injection h1' with h1'
          subst h1'
          exact nomatch h3
        · exact hne rfl
      · have hg' : (if h = 0 then some (Value.pointer (some ⟨b, 0, none⟩)) else if h = 1 then some (.slice none 0 0) else none) = some v := hg
        show h ∈ [0, 1]
        by_cases e0 : h = 0
        · simp [e0]
        · by_cases e1 : h = 1
          · simp [e1]
          · rw [if_neg e0, if_neg e1] at hg'; cases hg'
      · have hg'' : (if h = 0 then some (Value.pointer (some ⟨b, 0, none⟩)) else if h = 1 then some (.slice none 0 0) else none) = some v := hg'
        by_cases e0 : h = 0
        · subst e0
          rw [if_pos rfl] at hg''
          injection hg'' with hg''
          rw [← hg'']; exact hg
        · exfalso
          have : ((growPre T).ents.lookup h) = none := by
            show (List.lookup h [(0, _)]) = none
            have e0' : (h == 0) = false := by simpa using e0
            simp only [List.lookup, e0']
          unfold keptE at hk
          rw [this] at hk
          cases hk
    · have hsz : (((W0.setCell ⟨b, 0, none⟩ (.pointer (some ⟨b, 0, none⟩))).setCell ⟨b, 1, none⟩ (.slice (some ⟨W0.heap.size, 0, none⟩) 0 cs.size))).heap.size = W0.heap.size := by simp [World.setCell]
      have hother : ∀ k, k < W0.heap.size → k ≠ b → w'.heap[k]? = W0.heap[k]? := fun k hk hkb => by
        rw [hheap]
        show (Array.push _ _)[k]? = _
        rw [Array.getElem?_push, if_neg (by rw [hsz]; omega)]
        simp only [World.setCell, Array.getElem?_modify]
        rw [if_neg (fun h => hkb h.symm), if_neg (fun h => hkb h.symm)]
      have hat : w'.heap[b]? = some (.cells #[.pointer (some ⟨b, 0, none⟩), .slice (some ⟨W0.heap.size, 0, none⟩) 0 cs.size] T fr) := by
        rw [hheap]
        show (Array.push _ _)[b]? = _
        rw [Array.getElem?_push, if_neg (by rw [hsz]; omega)]
        simp only [World.setCell, Array.getElem?_modify, if_true, hb]
        rfl
      have hnew : w'.heap[W0.heap.size]? = some (.cells cs tb (0, 0)) := by
        rw [hheap]
        show (Array.push _ _)[W0.heap.size]? = _
        rw [Array.getElem?_push, if_pos hsz.symm]
      let g1 : Gh := fun h => if h = 0 then some (.pointer (some ⟨b, 0, none⟩)) else if h = 1 then some (.slice (some ⟨W0.heap.size, 0, none⟩) 0 cs.size) else none
      refine ⟨R0, g1, [], by rw [he]; rfl, ?_⟩
      have hRn : R0 W0.heap.size = none := by
        cases hR : R0 W0.heap.size with
        | none => rfl
        | some o =>
          have := hen.sub _ o hR
          simp at this
      refine { sub := fun k o h => ?_, vals := .nil, ents := fun p hp => ?_, sep := fun p hp p' hp' hne v v' k h1 h2 h3 h4 => ?_, dom := fun h v hg => ?_, newR := fun k o h => .inl h, os := hos, tape := htape, output := hout, size := by rw [hheap]; show _ ≤ (Array.push _ _).size; rw [Array.size_push, hsz]; omega, block := fun k hk hs => hother k hk (fun h => hs (h ▸ hbS)), keep := fun h hk v hg' => ?_ }
      · have hk1 : k < W0.heap.size := (Array.getElem?_eq_some_iff.1 (hen.sub k o h)).1
        rw [hother k hk1 (fun e => hen.notS k o h (e ▸ hbS))]; exact hen.sub k o h
      · have hp' : p ∈ [(0, Ent.cells T [.slf 0, .own 1]), (1, Ent.row tb (.int .u8) [])] := hp
        simp only [List.mem_cons, List.not_mem_nil, or_false] at hp'
        rcases hp' with rfl | rfl
        · refine ⟨_, rfl, ⟨b, _, fr, rfl, hat, hu, .cons (.inr ⟨b, rfl, rfl⟩) (.cons ⟨rfl, rfl⟩ .nil)⟩, fun k hk => ?_⟩
          injection hk with hk
          subst hk
          exact ⟨hR0 b rfl, .inr hbS⟩
        · refine ⟨_, rfl, .inr ⟨W0.heap.size, cs.size, cs, (0, 0), rfl, hnew, ?_, Nat.zero_le _, ?_, Nat.zero_le _, hone, fun j x hx => nomatch hx⟩, fun k hk => ?_⟩
          · unfold Unf; simp
          · show cs.size * 1 ≤ cs.size; omega
          · injection hk with hk
            subst hk
            exact ⟨hRn, .inl (Nat.le_refl _)⟩
      · have hp1 : p ∈ [(0, Ent.cells T [.slf 0, .own 1]), (1, Ent.row tb (.int .u8) [])] := hp
        have hp2 : p' ∈ [(0, Ent.cells T [.slf 0, .own 1]), (1, Ent.row tb (.int .u8) [])] := hp'
        simp only [List.mem_cons, List.not_mem_nil, or_false] at hp1 hp2
        rcases hp1 with rfl | rfl <;> rcases hp2 with rfl | rfl
        · exact hne rfl
        · have h1' : some (Value.pointer (some ⟨b, 0, none⟩)) = some v := h1
          have h2' : some (Value.slice (some ⟨W0.heap.size, 0, none⟩) 0 cs.size) = some v' := h2
          injection h1' with h1'
          injection h2' with h2'
          subst h1' h2'
          injection h3 with h3
          injection h4 with h4
          have h3' : b = k := h3
          have h4' : W0.heap.size = k := h4
          omega
        · have h1' : some (Value.slice (some ⟨W0.heap.size, 0, none⟩) 0 cs.size) = some v := h1
          have h2' : some (Value.pointer (some ⟨b, 0, none⟩)) = some v' := h2
          injection h1' with h1'
          injection h2' with h2'
          subst h1' h2'
          injection h3 with h3
          injection h4 with h4
          have h3' : W0.heap.size = k := h3
          have h4' : b = k := h4
          omega
        · exact hne rfl
      · have hg' : (if h = 0 then some (Value.pointer (some ⟨b, 0, none⟩)) else if h = 1 then some (.slice (some ⟨W0.heap.size, 0, none⟩) 0 cs.size) else none) = some v := hg
        show h ∈ [0, 1]
        by_cases e0 : h = 0
        · simp [e0]
        · by_cases e1 : h = 1
          · simp [e1]
          · rw [if_neg e0, if_neg e1] at hg'; cases hg'
      · have hg'' : (if h = 0 then some (Value.pointer (some ⟨b, 0, none⟩)) else if h = 1 then some (.slice (some ⟨W0.heap.size, 0, none⟩) 0 cs.size) else none) = some v := hg'
        by_cases e0 : h = 0
        · subst e0
          rw [if_pos rfl] at hg''
          injection hg'' with hg''
          rw [← hg'']; exact hg
        · exfalso
          have : ((growPre T).ents.lookup h) = none := by
            show (List.lookup h [(0, _)]) = none
            have e0' : (h == 0) = false := by simpa using e0
            simp only [List.lookup, e0']
          unfold keptE at hk
          rw [this] at hk
          cases hk
  · cases hrun'
end
end Go.Sx
