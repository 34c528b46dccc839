/- Part of a proof by a small interpreter on plain values; no condition. -/
import Derived.Test.YtmbakmdgmccgiabDoorSx19
import Derived.WalkKit
/-! Sx21: a contract by hand: what a call leaves that turned nothing that was there. -/
namespace Go.Sx
open Go
set_option autoImplicit false
set_option linter.unusedVariables false
/-- all that was there is as it was. -/
structure Still (w w' : World) : Prop where
  os : w'.os = w.os
  tape : w'.tape = w.tape
  output : w'.output = w.output
  size : w.heap.size ≤ w'.heap.size
  block : ∀ b, b < w.heap.size → w'.heap[b]? = w.heap[b]?
theorem Still.refl (w : World) : Still w w := ⟨rfl, rfl, rfl, Nat.le_refl _, fun _ _ => rfl⟩
theorem Still.alloc {w w' : World} (h : Still w w') (o : Obj) : Still w (w'.alloc o) :=
  ⟨h.os, h.tape, h.output, by rw [show (w'.alloc o).heap = w'.heap.push o from rfl, Array.size_push]; have := h.size; omega, fun b hb => by
    rw [← h.block b hb]
    have : b < w'.heap.size := Nat.lt_of_lt_of_le hb h.size
    rw [show (w'.alloc o).heap = w'.heap.push o from rfl, Array.getElem?_push]
    rw [if_neg (by omega)]⟩
theorem Still.set {w w' : World} (h : Still w w') (a : Addr) (v : Value) (ha : w.heap.size ≤ a.block) : Still w (w'.setCell a v) :=
  ⟨h.os, h.tape, h.output, by simp [World.setCell]; exact h.size, fun b hb => by
    rw [← h.block b hb]
    simp only [World.setCell]
    rw [Array.getElem?_modify]
    rw [if_neg (by omega)]⟩
theorem Exited.still {E : TypeId} {pre : Shape} {x : pre.T} {W0 : World} {R0 : Part} {g0 : Gh} {vals0 : List Value} (hent : Entry E pre x W0 R0 g0 vals0) (vals : List RSh) (y : (⟨vals, []⟩ : Shape).T) {vs : List Value} {w : World}
    (hv : All2 (RVRel E R0 fun _ => none) ((⟨vals, []⟩ : Shape).vs y) vs) (hs : Still W0 w) : Exited E pre x W0 R0 g0 ⟨⟨vals, []⟩, y⟩ R0 (fun _ => none) vs w := by
  have hlt : ∀ b o, R0 b = some o → b < W0.heap.size := fun b o h => by
    have h1 := hent.sub b o h
    rcases Nat.lt_or_ge b W0.heap.size with h2 | h2
    · exact h2
    · rw [Array.getElem?_eq_none h2] at h1; cases h1
  refine { sub := fun b o h => (hs.block b (hlt b o h)).trans (hent.sub b o h), vals := hv, ents := fun p hp => ?_, sep := fun p hp => ?_, pl := fun p hp => ?_, oldN := fun _ _ _ h => h, newN := fun _ _ _ h => .inl h, dom := fun h v hg => (nomatch hg), newR := fun b o h => .inl h, os := hs.os, tape := hs.tape, output := hs.output, size := hs.size, block := fun b hb _ => hs.block b hb, keep := fun h _ v hg => (nomatch hg) }
  · exact absurd hp (by simp [Shape.es, mkE])
  · exact absurd hp (by simp [Shape.es, mkE])
  · exact absurd hp (by simp [Shape.es, mkE])
/-- a function of one slice: nil, or not. -/
theorem FnOK.slice1 {P : Program} {E : TypeId} {L : Part → Prop} {f : FuncId} {κ : K} {post : List Shape} {run : List κ.T → Option (AltT post)} (h1 : FnOK P E L f ⟨⟨[.c .nl], []⟩, post, fun _ => run []⟩) (h2 : FnOK P E L f ⟨⟨[.c (.nn κ)], []⟩, post, run⟩) : FnOK P E L f ⟨⟨[.c (.dat (.list κ))], []⟩, post, run⟩ := by
  refine ⟨h1.enters, fun x y W0 R0 g0 vals hrun hent hlay => ?_⟩
  have hv : All2 (RVRel E R0 g0) [RV.c (.dat (.list κ) x)] vals := hent.vals
  cases hv with
  | cons ha hr =>
    rename_i v rest
    cases hr
    have ha' : (K.list κ).Rd E R0 x [v] := ha
    obtain ⟨A, c, e, hl, hx⟩ := id ha'
    injection e with e _
    cases A with
    | none =>
      have hx0 : x = ([] : List κ.T) := by
        by_cases hne : (x : List κ.T) = []
        · exact hne
        · obtain ⟨_, _, _, _, _, hA, _⟩ := hx hne; cases hA
      have e2 : v = .slice none 0 c := by rw [e]; congr 1; rw [hx0]; rfl
      have hrun' : run [] = some y := by rw [← hx0]; exact hrun
      have := h1.ok () y W0 R0 g0 [v] hrun' ⟨hent.sub, .cons ⟨c, e2⟩ .nil, fun q hq => absurd hq (by simp [Shape.es, mkE]), fun q hq => absurd hq (by simp [Shape.es, mkE]), fun q hq => absurd hq (by simp [Shape.es, mkE]), hent.dom⟩ hlay
      refine this.mono fun e w ⟨R, g, vs, h3, X⟩ => ⟨R, g, vs, h3, ?_⟩
      exact ⟨X.sub, X.vals, X.ents, X.sep, fun p hp ty κ xs e => absurd (X.pl p hp ty κ xs e).2.2 (fun ⟨e1, h1, _⟩ => absurd h1 (by simp [Shape.es, mkE])), X.oldN, fun k i b h => (X.newN k i b h).elim .inl (fun ⟨e1, h1, _⟩ => absurd h1 (by simp [Shape.es, mkE])), X.dom, X.newR, X.os, X.tape, X.output, X.size, X.block, X.keep⟩
    | some a =>
      have := h2.ok x y W0 R0 g0 [v] hrun ⟨hent.sub, .cons ⟨⟨a, _, c, e⟩, ha'⟩ .nil, fun q hq => absurd hq (by simp [Shape.es, mkE]), fun q hq => absurd hq (by simp [Shape.es, mkE]), fun q hq => absurd hq (by simp [Shape.es, mkE]), hent.dom⟩ hlay
      refine this.mono fun e w ⟨R, g, vs, h3, X⟩ => ⟨R, g, vs, h3, ?_⟩
      exact ⟨X.sub, X.vals, X.ents, X.sep, fun p hp ty κ xs e => absurd (X.pl p hp ty κ xs e).2.2 (fun ⟨e1, h1, _⟩ => absurd h1 (by simp [Shape.es, mkE])), X.oldN, fun k i b h => (X.newN k i b h).elim .inl (fun ⟨e1, h1, _⟩ => absurd h1 (by simp [Shape.es, mkE])), X.dom, X.newR, X.os, X.tape, X.output, X.size, X.block, X.keep⟩
end Go.Sx
