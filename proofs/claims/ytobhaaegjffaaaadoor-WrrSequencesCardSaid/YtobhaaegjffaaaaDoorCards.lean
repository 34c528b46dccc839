/-
  DERIVED. GIVEN WITH THE SEED: THE CARDS: each row of YtobhaaegjffaaaaDoorRows.lean that lists a variable, with what it lists TIED to the program's text (the seventh form; the later family's looks); each row that meets fmt, with fmt's text TOLD by the authors' own Lean function (tested against real Go, not proved from fmt's source: count such statements apart). THE CARD IS WHAT COUNTS. Prove the row's statement (the work); the ties are given (YtobhaaegjffaaaaDoorTie.lean); close each card by the builder's one call (the guide's Derived/Test/ToyasCard.lean, 'card_holds'). Laid BY PROGRAM, IN A SANDBOX (cutbox-door.mjs). By AI agents, Wed Nov 11 2026. No macro, syntax, notation, axiom, sorry.
-/
import Derived.Test.YtobhaaegjffaaaaDoorRows
import GoSem.ClaimSeven
namespace Go.Proofs.YtobhaaegjffaaaaDoor
namespace Rows

/-- THE TIED CARD OF 'turnstilelaw25.WrrSequences'. -/
def wrrSequencesCard : Claim7 := { stood := { row := wrrSequencesRow, standIns := [], harness := (true, "c4f3808e971130c4676511af6bce6bbc7cf03393af73cddd6f71cad9fd147485"), looks := true }, kinds := [], alts := [], laidByText := true, laidKinds := [.handle], laidTests := true, laidLooks := .later }
def WrrSequencesCardSaid : Prop := Claim7.holds Tryd.pinned (.plain (OpenSpec.ofChange wrrSequencesSpec)) wrrSequencesCard

/-- THE TIED CARD OF 'turnstilelaw25.WrrPicks'. -/
def wrrPicksCard : Claim7 := { stood := { row := wrrPicksRow, standIns := [], harness := (true, "c4f3808e971130c4676511af6bce6bbc7cf03393af73cddd6f71cad9fd147485"), looks := true }, kinds := [], alts := [], laidByText := true, laidKinds := [.handle], laidTests := true, laidLooks := .later }
def WrrPicksCardSaid : Prop := Claim7.holds Tryd.pinned (.plain (OpenSpec.ofChange wrrPicksSpec)) wrrPicksCard

/-- THE TIED CARD OF 'turnstilelaw25.WrrLawful'. -/
def wrrLawfulCard : Claim7 := { stood := { row := wrrLawfulRow, standIns := [], harness := (true, "c4f3808e971130c4676511af6bce6bbc7cf03393af73cddd6f71cad9fd147485"), looks := true }, kinds := [], alts := [], laidByText := true, laidKinds := [.handle], laidTests := true, laidLooks := .later }
def WrrLawfulCardSaid : Prop := Claim7.holds Tryd.pinned (.plain (OpenSpec.ofChange wrrLawfulSpec)) wrrLawfulCard

/-- THE SECOND FORM's CARD OF 'turnstilelaw25.WrrSequences'. -/
def wrrSequencesUptoCard : Claim7 := { stood := { row := wrrSequencesUptoRow, standIns := [], harness := (true, "c4f3808e971130c4676511af6bce6bbc7cf03393af73cddd6f71cad9fd147485"), looks := true }, kinds := [], alts := [], laidByText := true, laidKinds := [.handle], laidTests := true, laidLooks := .later }
def WrrSequencesUptoCardSaid : Prop := Claim7.holds Tryd.pinned (.plain (OpenSpec.upto wrrSequencesSpec)) wrrSequencesUptoCard

/-- THE SECOND FORM's CARD OF 'turnstilelaw25.WrrPicks'. -/
def wrrPicksUptoCard : Claim7 := { stood := { row := wrrPicksUptoRow, standIns := [], harness := (true, "c4f3808e971130c4676511af6bce6bbc7cf03393af73cddd6f71cad9fd147485"), looks := true }, kinds := [], alts := [], laidByText := true, laidKinds := [.handle], laidTests := true, laidLooks := .later }
def WrrPicksUptoCardSaid : Prop := Claim7.holds Tryd.pinned (.plain (OpenSpec.upto wrrPicksSpec)) wrrPicksUptoCard

/-- THE SECOND FORM's CARD OF 'turnstilelaw25.WrrLawful'. -/
def wrrLawfulUptoCard : Claim7 := { stood := { row := wrrLawfulUptoRow, standIns := [], harness := (true, "c4f3808e971130c4676511af6bce6bbc7cf03393af73cddd6f71cad9fd147485"), looks := true }, kinds := [], alts := [], laidByText := true, laidKinds := [.handle], laidTests := true, laidLooks := .later }
def WrrLawfulUptoCardSaid : Prop := Claim7.holds Tryd.pinned (.plain (OpenSpec.upto wrrLawfulSpec)) wrrLawfulUptoCard
end Rows
end Go.Proofs.YtobhaaegjffaaaaDoor
