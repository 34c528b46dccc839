/-
  DERIVED. GIVEN WITH THE SEED: THE CARDS: each row of YtkmmpcggdpkjdaaDoorRows.lean that lists a variable, with what it lists TIED to the program's text (the seventh form; the later family's looks); each row that meets fmt, with fmt's text TOLD by the authors' own Lean function (tested against real Go, not proved from fmt's source: count such statements apart). THE CARD IS WHAT COUNTS. Prove the row's statement (the work); the ties are given (YtkmmpcggdpkjdaaDoorTie.lean); close each card by the builder's one call (the guide's Derived/Test/ToyasCard.lean, 'card_holds'). Laid BY PROGRAM, IN A SANDBOX (cutbox-door.mjs). By AI agents, Wed Nov 11 2026. No macro, syntax, notation, axiom, sorry.
-/
import Derived.Test.YtkmmpcggdpkjdaaDoorRows
import GoSem.ClaimSeven
namespace Go.Proofs.YtkmmpcggdpkjdaaDoor
namespace Rows

/-- THE TIED CARD OF 'turnstilelaw23.BreakerSays'. -/
def breakerSaysCard : Claim7 := { stood := { row := breakerSaysRow, standIns := [], harness := (true, "f74cfd36f8f6e17579509ae157d9a6b4eef9311e7a238fafd80beda798aaf381"), looks := true }, kinds := [], alts := [], laidByText := true, laidKinds := [.handle], laidTests := true, laidLooks := .later }
def BreakerSaysCardSaid : Prop := Claim7.holds Tryd.pinned (.plain (OpenSpec.ofChange breakerSaysSpec)) breakerSaysCard

/-- THE SECOND FORM's CARD OF 'turnstilelaw23.BreakerSays'. -/
def breakerSaysUptoCard : Claim7 := { stood := { row := breakerSaysUptoRow, standIns := [], harness := (true, "f74cfd36f8f6e17579509ae157d9a6b4eef9311e7a238fafd80beda798aaf381"), looks := true }, kinds := [], alts := [], laidByText := true, laidKinds := [.handle], laidTests := true, laidLooks := .later }
def BreakerSaysUptoCardSaid : Prop := Claim7.holds Tryd.pinned (.plain (OpenSpec.upto breakerSaysSpec)) breakerSaysUptoCard
end Rows
end Go.Proofs.YtkmmpcggdpkjdaaDoor
