/- Part of a proof by a small interpreter on plain values; no condition. -/
import Derived.Test.YtmbakmdgmccgiabDoorWl
import Derived.Test.YtmbakmdgmccgiabDoorSx32
import Derived.Lib.LaidU8T
import Derived.LaidLaws
import Derived.Test.YtmbakmdgmccgiabDoorRows
/-! V06LA: what the card's list of variables says of the decoder's tables. -/
namespace Go.Proofs.YtmbakmdgmccgiabDoor
open Go Go.Proofs Go.RowKit Go.Shelf Go.Lib Go.Sx
set_option maxRecDepth 100000
def LD : List (String × DataW Unit) := [("unicode/utf8.acceptRanges", Rows.laid_unicode_utf8_acceptRanges), ("unicode/utf8.first", Rows.laid_unicode_utf8_first)]
theorem e_first : Rows.laid_unicode_utf8_first = firstData := Go.Pinned.utf8First_eq
theorem e_accept : Rows.laid_unicode_utf8_acceptRanges (H := Unit) = acceptData := by kernel_rfl
theorem XS_of {W : World} (h : laidMet Tryd.prog LD W) : Sx.YtmbakmdgmccgiabDoor.XS W :=
  utf8Tabs_of_readsT (ρ := Tryd.laysValid_ren) (U8Types.of196 Tryd.laysValid) ⟨by kernel_rfl, by kernel_rfl, by kernel_rfl, by kernel_rfl, by kernel_rfl, by kernel_rfl, by kernel_rfl⟩ (e_first ▸ laidMet.reads h (.tail _ (.head _))) (e_accept ▸ laidMet.reads h (.head _))
theorem XS_below {w w' : World} (h : Sx.YtmbakmdgmccgiabDoor.XS w) (hb : RowKit.Below w.heap.size w w') : Sx.YtmbakmdgmccgiabDoor.XS w' := Utf8Tabs_below h hb
theorem XS_heap {w w' : World} (e : w.heap = w'.heap) (h : Sx.YtmbakmdgmccgiabDoor.XS w) : Sx.YtmbakmdgmccgiabDoor.XS w' := by
  have h2 : Sx.YtmbakmdgmccgiabDoor.XS { w with heap := w'.heap } := by rw [← e]; exact h
  exact h2
theorem LS_of {W : World} (h : laidMet Tryd.prog LD W) : ∀ R : Part, (∀ b o, W.heap[b]? = some o → R b = some o) → Sx.YtmbakmdgmccgiabDoor.LS R :=
  fun _ h1 _ h2 => down (X := Sx.YtmbakmdgmccgiabDoor.XS) (fun _ _ h hb => XS_below h hb) (fun _ _ e h => XS_heap e h) (XS_of h) h1 h2
/-- a world that meets the condition. -/
noncomputable def laidWorld (os : Os) : World :=
  let w0 := World.holding Tryd.prog os ⟨#[], #[], []⟩
  let put (h : Array Obj) (g : Nat) (cs : Array Value) : Array Obj := h.modify g fun
    | .cells _ t frozen => .cells cs t frozen
    | o => o
  { w0 with heap := put (put (w0.heap) 1 ((List.range 16).flatMap fun i => [Value.int .u8 (Lib.accLo i), Value.int .u8 (Lib.accHi i)]).toArray) 0 (Lib.firstTab.map fun z => Value.int .u8 z).toArray }
theorem laid_met (os : Os) (args : Array Value) : laidMet Tryd.prog LD ((laidWorld os).forCall (fun _ _ => 0) ⟨#[], args, []⟩).memory :=
  laidMet_of_run' 8 (by kernel_rfl) (by kernel_rfl)
end Go.Proofs.YtmbakmdgmccgiabDoor
