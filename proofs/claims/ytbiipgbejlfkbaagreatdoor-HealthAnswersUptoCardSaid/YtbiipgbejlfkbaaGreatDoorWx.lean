/- Part of a proof by a small interpreter on plain values; no condition. -/
import Derived.Test.YtbiipgbejlfkbaaGreatDoorWk
import Derived.Test.YtbiipgbejlfkbaaGreatDoorSx32
import Derived.Test.YtbiipgbejlfkbaaGreatDoorRows
namespace Go.Proofs.YtbiipgbejlfkbaaGreatDoor
open Go Go.Proofs Go.RowKit Go.Shelf Go.Lib Go.Sx
set_option maxRecDepth 100000
def LD : List (String × DataW Unit) := [("math/bits.deBruijn32tab", Rows.laid_math_bits_deBruijn32tab), ("math/bits.deBruijn64tab", Rows.laid_math_bits_deBruijn64tab), ("internal/strconv.uint64pow10", Rows.laid_internal_strconv_uint64pow10), ("unicode/utf8.acceptRanges", Rows.laid_unicode_utf8_acceptRanges), ("unicode.CaseRanges", Rows.laid_unicode_CaseRanges), ("unicode/utf8.first", Rows.laid_unicode_utf8_first)]
theorem e_case : Rows.laid_unicode_CaseRanges = caseData := Go.Pinned.caseRanges_eq
theorem e_first : Rows.laid_unicode_utf8_first = firstData := Go.Pinned.utf8First_eq
theorem e_accept : Rows.laid_unicode_utf8_acceptRanges (H := Unit) = acceptData := by kernel_rfl
theorem e_pow : Rows.laid_internal_strconv_uint64pow10 (H := Unit) = tabData .u64 pow10Tab := by kernel_rfl
theorem XS_of {W : World} (h : laidMet Tryz.prog LD W) : Sx.YtbiipgbejlfkbaaGreatDoor.XS W :=
  ⟨caseVar_of_reads (ρ := Tryz.laysLower_ren) { Tryz.laysLower with } Tryz.laysLower.t206 ⟨by kernel_rfl, by kernel_rfl, by kernel_rfl, by kernel_rfl, by kernel_rfl, by kernel_rfl⟩ (e_case ▸ laidMet.reads h (.tail _ (.tail _ (.tail _ (.tail _ (.head _)))))),
   utf8Tabs_of_reads (ρ := Tryz.laysLower_ren) { Tryz.laysLower with } ⟨by kernel_rfl, by kernel_rfl, by kernel_rfl, by kernel_rfl, by kernel_rfl, by kernel_rfl, by kernel_rfl⟩ (e_first ▸ laidMet.reads h (.tail _ (.tail _ (.tail _ (.tail _ (.tail _ (.head _))))))) (e_accept ▸ laidMet.reads h (.tail _ (.tail _ (.tail _ (.head _))))),
   tabIs_of_reads (g := 0) (t := 125) (e := 82) (n := 20) (by kernel_rfl) (by kernel_rfl) Tryz.underlying125 Tryz.underlying82 (by kernel_rfl) (by kernel_rfl) (e_pow ▸ laidMet.reads h (.tail _ (.tail _ (.head _))))⟩
theorem XS_below {w w' : World} (h : Sx.YtbiipgbejlfkbaaGreatDoor.XS w) (hb : RowKit.Below w.heap.size w w') : Sx.YtbiipgbejlfkbaaGreatDoor.XS w' := ⟨CaseVar_below h.1 hb, Utf8Tabs_below h.2.1 hb, tabIs_below h.2.2 hb⟩
theorem XS_heap {w w' : World} (e : w.heap = w'.heap) (h : Sx.YtbiipgbejlfkbaaGreatDoor.XS w) : Sx.YtbiipgbejlfkbaaGreatDoor.XS w' := by
  have h2 : Sx.YtbiipgbejlfkbaaGreatDoor.XS { w with heap := w'.heap } := by rw [← e]; exact h
  exact h2
theorem LS_of {W : World} (h : laidMet Tryz.prog LD W) : ∀ R : Part, (∀ b o, W.heap[b]? = some o → R b = some o) → Sx.YtbiipgbejlfkbaaGreatDoor.LS R :=
  fun _ h1 _ h2 => down (X := Sx.YtbiipgbejlfkbaaGreatDoor.XS) (fun _ _ h hb => XS_below h hb) (fun _ _ e h => XS_heap e h) (XS_of h) h1 h2
/-- a world that meets the condition. -/
noncomputable def laidWorld (os : Os) : World :=
  let N := (World.settled Tryz.prog os).heap.size
  let w0 := World.holding Tryz.prog os ⟨#[.cells Lib.caseCells5 (Tryz.laysLower_ren.t 208)], #[], []⟩
  let put (h : Array Obj) (g : Nat) (cs : Array Value) : Array Obj := h.modify g fun
    | .cells _ t frozen => .cells cs t frozen
    | o => o
  { w0 with heap := put (put (put (put (put (put (w0.heap) 5 (([0, 1, 28, 2, 29, 14, 24, 3, 30, 22, 20, 15, 25, 17, 4, 8, 31, 27, 13, 23, 21, 19, 16, 7, 26, 12, 18, 6, 11, 5, 10, 9] : List Int).map fun z => Value.int .u8 z).toArray) 6 (([0, 1, 56, 2, 57, 49, 28, 3, 61, 58, 42, 50, 38, 29, 17, 4, 62, 47, 59, 36, 45, 43, 51, 22, 53, 39, 33, 30, 24, 18, 12, 5, 63, 55, 48, 27, 60, 41, 37, 16, 46, 35, 44, 21, 52, 32, 23, 11, 54, 26, 40, 15, 34, 20, 31, 10, 25, 14, 19, 9, 13, 8, 7, 6] : List Int).map fun z => Value.int .u8 z).toArray) 0 (Lib.pow10Tab.map fun z => Value.int .u64 z).toArray) 4 ((List.range 16).flatMap fun i => [Value.int .u8 (Lib.accLo i), Value.int .u8 (Lib.accHi i)]).toArray) 2 #[.slice (some ⟨N, 0, none⟩) 336 336]) 3 (Lib.firstTab.map fun z => Value.int .u8 z).toArray }
theorem laid_met (os : Os) (args : Array Value) : laidMet Tryz.prog LD ((laidWorld os).forCall (fun _ _ => 0) ⟨#[], args, []⟩).memory := by
  have h := laidMet_with_case (ρ := Tryz.laysLower_ren) { Tryz.laysLower with } Tryz.laysLower.t206 ⟨by kernel_rfl, by kernel_rfl, by kernel_rfl, by kernel_rfl, by kernel_rfl, by kernel_rfl⟩
    (w := ((laidWorld os).forCall (fun _ _ => 0) ⟨#[], args, []⟩).memory)
    (l := [("math/bits.deBruijn32tab", Rows.laid_math_bits_deBruijn32tab), ("math/bits.deBruijn64tab", Rows.laid_math_bits_deBruijn64tab), ("internal/strconv.uint64pow10", Rows.laid_internal_strconv_uint64pow10), ("unicode/utf8.acceptRanges", Rows.laid_unicode_utf8_acceptRanges), ("unicode/utf8.first", Rows.laid_unicode_utf8_first)])
    10 (by kernel_rfl) (by kernel_rfl) (by kernel_rfl) ((World.settled Tryz.prog default).heap.size) (Tryz.laysLower_ren.t 208) (of_decide_eq_true (by kernel_rfl)) (by kernel_rfl) (by kernel_rfl) (by kernel_rfl)
  rw [← e_case] at h
  exact laidMet_swap (l := [("math/bits.deBruijn32tab", Rows.laid_math_bits_deBruijn32tab), ("math/bits.deBruijn64tab", Rows.laid_math_bits_deBruijn64tab), ("internal/strconv.uint64pow10", Rows.laid_internal_strconv_uint64pow10), ("unicode/utf8.acceptRanges", Rows.laid_unicode_utf8_acceptRanges)]) (x := ("unicode/utf8.first", Rows.laid_unicode_utf8_first)) (y := ("unicode.CaseRanges", Rows.laid_unicode_CaseRanges)) h
end Go.Proofs.YtbiipgbejlfkbaaGreatDoor
