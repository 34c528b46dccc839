/- Part of a proof by a small interpreter on plain values; no condition. -/
import Derived.Test.YtndkpphniekmlaaDoorWg
import Derived.Test.YtndkpphniekmlaaDoorSx32
import Derived.Test.YtndkpphniekmlaaDoorRows
namespace Go.Proofs.YtndkpphniekmlaaDoor
open Go Go.Proofs Go.RowKit Go.Shelf Go.Lib Go.Sx
set_option maxRecDepth 100000
def LD : List (String × DataW Unit) := [("unicode/utf8.acceptRanges", Rows.laid_unicode_utf8_acceptRanges), ("unicode.CaseRanges", Rows.laid_unicode_CaseRanges), ("unicode/utf8.first", Rows.laid_unicode_utf8_first)]
theorem e_case : Rows.laid_unicode_CaseRanges = caseData := Go.Pinned.caseRanges_eq
theorem e_first : Rows.laid_unicode_utf8_first = firstData := Go.Pinned.utf8First_eq
theorem e_accept : Rows.laid_unicode_utf8_acceptRanges (H := Unit) = acceptData := by kernel_rfl
theorem XS_of {W : World} (h : laidMet Tryd.prog LD W) : Sx.YtndkpphniekmlaaDoor.XS W :=
  ⟨caseVar_of_reads (ρ := Tryd.laysLower_ren) { Tryd.laysLower with } Tryd.laysLower.t206 ⟨by kernel_rfl, by kernel_rfl, by kernel_rfl, by kernel_rfl, by kernel_rfl, by kernel_rfl⟩ (e_case ▸ laidMet.reads h (.tail _ (.head _))),
   utf8Tabs_of_reads (ρ := Tryd.laysLower_ren) { Tryd.laysLower with } ⟨by kernel_rfl, by kernel_rfl, by kernel_rfl, by kernel_rfl, by kernel_rfl, by kernel_rfl, by kernel_rfl⟩ (e_first ▸ laidMet.reads h (.tail _ (.tail _ (.head _)))) (e_accept ▸ laidMet.reads h (.head _))⟩
theorem XS_below {w w' : World} (h : Sx.YtndkpphniekmlaaDoor.XS w) (hb : RowKit.Below w.heap.size w w') : Sx.YtndkpphniekmlaaDoor.XS w' := ⟨CaseVar_below h.1 hb, Utf8Tabs_below h.2 hb⟩
theorem XS_heap {w w' : World} (e : w.heap = w'.heap) (h : Sx.YtndkpphniekmlaaDoor.XS w) : Sx.YtndkpphniekmlaaDoor.XS w' := by
  have h2 : Sx.YtndkpphniekmlaaDoor.XS { w with heap := w'.heap } := by rw [← e]; exact h
  exact h2
theorem LS_of {W : World} (h : laidMet Tryd.prog LD W) : ∀ R : Part, (∀ b o, W.heap[b]? = some o → R b = some o) → Sx.YtndkpphniekmlaaDoor.LS R :=
  fun _ h1 _ h2 => down (X := Sx.YtndkpphniekmlaaDoor.XS) (fun _ _ h hb => XS_below h hb) (fun _ _ e h => XS_heap e h) (XS_of h) h1 h2
/-- a world that meets the condition. -/
noncomputable def laidWorld (os : Os) : World :=
  let N := (World.settled Tryd.prog os).heap.size
  let w0 := World.holding Tryd.prog os ⟨#[.cells Lib.caseCells5 (Tryd.laysLower_ren.t 208)], #[], []⟩
  let put (h : Array Obj) (g : Nat) (cs : Array Value) : Array Obj := h.modify g fun
    | .cells _ t frozen => .cells cs t frozen
    | o => o
  { w0 with heap := put (put (put (w0.heap) 3 ((List.range 16).flatMap fun i => [Value.int .u8 (Lib.accLo i), Value.int .u8 (Lib.accHi i)]).toArray) 0 #[.slice (some ⟨N, 0, none⟩) 336 336]) 2 (Lib.firstTab.map fun z => Value.int .u8 z).toArray }
theorem laid_met (os : Os) (args : Array Value) : laidMet Tryd.prog LD ((laidWorld os).forCall (fun _ _ => 0) ⟨#[], args, []⟩).memory := by
  have h := laidMet_with_case (ρ := Tryd.laysLower_ren) { Tryd.laysLower with } Tryd.laysLower.t206 ⟨by kernel_rfl, by kernel_rfl, by kernel_rfl, by kernel_rfl, by kernel_rfl, by kernel_rfl⟩
    (w := ((laidWorld os).forCall (fun _ _ => 0) ⟨#[], args, []⟩).memory)
    (l := [("unicode/utf8.acceptRanges", Rows.laid_unicode_utf8_acceptRanges), ("unicode/utf8.first", Rows.laid_unicode_utf8_first)])
    10 (by kernel_rfl) (by kernel_rfl) (by kernel_rfl) ((World.settled Tryd.prog default).heap.size) (Tryd.laysLower_ren.t 208) (of_decide_eq_true (by kernel_rfl)) (by kernel_rfl) (by kernel_rfl) (by kernel_rfl)
  rw [← e_case] at h
  exact laidMet_swap (l := [("unicode/utf8.acceptRanges", Rows.laid_unicode_utf8_acceptRanges)]) (x := ("unicode/utf8.first", Rows.laid_unicode_utf8_first)) (y := ("unicode.CaseRanges", Rows.laid_unicode_CaseRanges)) h
end Go.Proofs.YtndkpphniekmlaaDoor
