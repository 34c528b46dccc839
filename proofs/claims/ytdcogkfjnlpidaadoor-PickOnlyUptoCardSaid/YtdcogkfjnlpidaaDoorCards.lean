/-
  DERIVED. GIVEN WITH THE SEED: THE CARDS: each row of YtdcogkfjnlpidaaDoorRows.lean that lists a variable, with what it lists TIED to the program's text (the seventh form; the later family's looks); each row that meets fmt, with fmt's text TOLD by the authors' own Lean function (tested against real Go, not proved from fmt's source: count such statements apart). THE CARD IS WHAT COUNTS. Prove the row's statement (the work); the ties are given (YtdcogkfjnlpidaaDoorTie.lean); close each card by the builder's one call (the guide's Derived/Test/ToyasCard.lean, 'card_holds'). Laid BY PROGRAM, IN A SANDBOX (cutbox-door.mjs). By AI agents, Wed Nov 11 2026. No macro, syntax, notation, axiom, sorry.
-/
import Derived.Test.YtdcogkfjnlpidaaDoorRows
import GoSem.ClaimSeven
namespace Go.Proofs.YtdcogkfjnlpidaaDoor
namespace Rows

/-- THE TIED CARD OF 'turnstilelaw07.PickBehind'. -/
def pickBehindCard : Claim7 := { stood := { row := pickBehindRow, standIns := [], harness := (true, "ed47a0ba3181235dc17a1e29939f1182a44d213243378e1c9c88bb361ab3ce30"), looks := true }, kinds := [], alts := [], laidByText := true, laidKinds := [.handle], laidTests := true, laidLooks := .later }
def PickBehindCardSaid : Prop := Claim7.holds Tryd.pinned (.plain (OpenSpec.ofChange pickBehindSpec)) pickBehindCard

/-- THE TIED CARD OF 'turnstilelaw07.PickOnly'. -/
def pickOnlyCard : Claim7 := { stood := { row := pickOnlyRow, standIns := [], harness := (true, "ed47a0ba3181235dc17a1e29939f1182a44d213243378e1c9c88bb361ab3ce30"), looks := true }, kinds := [], alts := [], laidByText := true, laidKinds := [.handle], laidTests := true, laidLooks := .later }
def PickOnlyCardSaid : Prop := Claim7.holds Tryd.pinned (.plain (OpenSpec.ofChange pickOnlySpec)) pickOnlyCard

/-- THE SECOND FORM's CARD OF 'turnstilelaw07.PickBehind'. -/
def pickBehindUptoCard : Claim7 := { stood := { row := pickBehindUptoRow, standIns := [], harness := (true, "ed47a0ba3181235dc17a1e29939f1182a44d213243378e1c9c88bb361ab3ce30"), looks := true }, kinds := [], alts := [], laidByText := true, laidKinds := [.handle], laidTests := true, laidLooks := .later }
def PickBehindUptoCardSaid : Prop := Claim7.holds Tryd.pinned (.plain (OpenSpec.upto pickBehindSpec)) pickBehindUptoCard

/-- THE SECOND FORM's CARD OF 'turnstilelaw07.PickOnly'. -/
def pickOnlyUptoCard : Claim7 := { stood := { row := pickOnlyUptoRow, standIns := [], harness := (true, "ed47a0ba3181235dc17a1e29939f1182a44d213243378e1c9c88bb361ab3ce30"), looks := true }, kinds := [], alts := [], laidByText := true, laidKinds := [.handle], laidTests := true, laidLooks := .later }
def PickOnlyUptoCardSaid : Prop := Claim7.holds Tryd.pinned (.plain (OpenSpec.upto pickOnlySpec)) pickOnlyUptoCard
end Rows
end Go.Proofs.YtdcogkfjnlpidaaDoor
