/- Part of a proof by a small interpreter on plain values; no condition. -/
import Derived.Test.YtmbakmdgmccgiabDoorSx31
import Derived.PinnedBridge
import Derived.Lib.LaidCaseMet
import Derived.Lib.LaidU8
import Derived.LaidHandle
/-! Sx32: from a card's condition to what the library's tables hold, and a world that meets it. -/
namespace Go.Sx
open Go Go.Proofs Go.Lib
set_option autoImplicit false
theorem vars_split {P : Program} {w : World} : ∀ {l l' : List (String × DataW Unit)} {ps : List MemPlace}, DataW.LaidVars P w (l ++ l') ps → ∃ p1 p2, DataW.LaidVars P w l p1 ∧ DataW.LaidVars P w l' p2 ∧ ps = p1 ++ p2
  | [], l', ps, h => ⟨[], ps, rfl, h, rfl⟩
  | (n, d) :: r, l', ps, h => by
    obtain ⟨g, t, cs, fuel, p, q, h1, h2, h3, h4, h5, rfl⟩ := h
    obtain ⟨p1, p2, k1, k2, rfl⟩ := vars_split h5
    exact ⟨_, p2, ⟨g, t, cs, fuel, p, p1, h1, h2, h3, h4, k1, rfl⟩, k2, by simp [List.append_assoc]⟩
theorem laidMet_swap {P : Program} {w : World} {l : List (String × DataW Unit)} {x y : String × DataW Unit} (h : laidMet P (l ++ [x, y]) w) : laidMet P (l ++ [y, x]) w := by
  obtain ⟨ps, h1, h2, h3⟩ := h
  obtain ⟨p1, p2, k1, k2, rfl⟩ := vars_split h1
  obtain ⟨q1, q2, m1, m2, rfl⟩ := vars_split (l := [x]) (l' := [y]) k2
  have hperm : (p1 ++ (q2 ++ q1)).Perm (p1 ++ (q1 ++ q2)) := List.Perm.append_left _ List.perm_append_comm
  exact ⟨p1 ++ (q2 ++ q1), LaidVars_append k1 (LaidVars_append (l := [y]) (l' := [x]) m2 m1), hperm.nodup_iff.2 h2, fun b off hm => h3 b off (hperm.mem_iff.1 hm)⟩
theorem tabIs_of_reads {P : Program} {W : World} {name : String} {k : IntKind} {zs : List Int} {g : Nat} {t e : TypeId} {n : Nat}
    (hg : P.globalNamed name = some g) (hty : (P.globals[g]?).map (·.type) = some t) (ht : P.underlying t = some (.array n e)) (he : P.underlying e = some (.int k)) (hce : P.cellsOf e = 1) (hct : P.cellsOf t = n)
    (h : VarReads P W name (tabData k zs)) : TabIs P W name k zs := by
  obtain ⟨g', t', cs, fuel, p, hg', ht', hvar, hd⟩ := h
  obtain rfl := Option.some.inj (hg.symm.trans hg')
  obtain rfl := Option.some.inj (hty.symm.trans ht')
  unfold TabIs
  rw [hvar, ← cells_of_tab ht he hce hct hd]
theorem tabIs_below {P : Program} {w w' : World} {n : String} {k : IntKind} {zs : List Int} (h : TabIs P w n k zs) (hb : RowKit.Below w.heap.size w w') : TabIs P w' n k zs := by
  unfold TabIs World.var? at h ⊢
  cases hg : P.globalNamed n with
  | none => rw [hg] at h; cases h
  | some g =>
    rw [hg] at h
    simp only [Option.bind_some] at h ⊢
    rcases Nat.lt_or_ge g w.heap.size with hl | hl
    · rw [hb.block g hl]; exact h
    · rw [Array.getElem?_eq_none hl] at h; cases h
/-- what a world says, one with more blocks says too. -/
theorem down {X : World → Prop} (hX : ∀ w w' : World, X w → RowKit.Below w.heap.size w w' → X w') (hh : ∀ w w' : World, w.heap = w'.heap → X w → X w') {W w : World} (h : X W) {R : Part}
    (h1 : ∀ b o, W.heap[b]? = some o → R b = some o) (h2 : ∀ b o, R b = some o → w.heap[b]? = some o) : X w := by
  have hs : W.heap.size ≤ w.heap.size := by
    rcases Nat.lt_or_ge w.heap.size W.heap.size with hl | hl
    · exfalso
      have hb : W.heap[w.heap.size]? = some W.heap[w.heap.size] := Array.getElem?_eq_getElem hl
      have := h2 _ _ (h1 _ _ hb)
      rw [Array.getElem?_eq_none (Nat.le_refl _)] at this
      cases this
    · exact hl
  refine hh { W with heap := w.heap } w rfl (hX W _ h ⟨rfl, rfl, rfl, hs, fun k hk => ?_⟩)
  have hb : W.heap[k]? = some W.heap[k] := Array.getElem?_eq_getElem hk
  show w.heap[k]? = _
  rw [hb]
  exact h2 _ _ (h1 _ _ hb)
end Go.Sx
