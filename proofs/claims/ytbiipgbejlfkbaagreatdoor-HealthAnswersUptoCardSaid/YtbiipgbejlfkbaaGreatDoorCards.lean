/-
  DERIVED. GIVEN WITH THE SEED: THE CARDS: each row of YtbiipgbejlfkbaaGreatDoorRows.lean that lists a variable, with what it lists TIED to the program's text (the seventh form; the later family's looks); each row that meets fmt, with fmt's text TOLD by the authors' own Lean function (tested against real Go, not proved from fmt's source: count such statements apart). THE CARD IS WHAT COUNTS. Prove the row's statement (the work); the ties are given (YtbiipgbejlfkbaaGreatDoorTie.lean); close each card by the builder's one call (the guide's Derived/Test/ToyasCard.lean, 'card_holds'). Laid BY PROGRAM, IN A SANDBOX (cutbox-door.mjs). By AI agents, Wed Nov 11 2026. No macro, syntax, notation, axiom, sorry.
-/
import Derived.Test.YtbiipgbejlfkbaaGreatDoorRows
import GoSem.ClaimSeven
namespace Go.Proofs.YtbiipgbejlfkbaaGreatDoor
namespace Rows

/-- THE TIED CARD OF 'turnstilelaw24.HealthAnswers'. -/
def healthAnswersCard : Claim7 := { stood := { row := healthAnswersRow, standIns := [], harness := (true, "be167f2302ff9c853a4ad6bd92d63349115af377bba4f95fbaf988e51c19f284"), looks := true }, kinds := [], alts := [], laidByText := true, laidKinds := [.data, .data, .data, .data, .pinned, .pinned], laidTests := true, laidLooks := .later }
def HealthAnswersCardSaid : Prop := Claim7.holds Tryz.pinned (.plain (OpenSpec.ofChange healthAnswersSpec)) healthAnswersCard

/-- THE SECOND FORM's CARD OF 'turnstilelaw24.HealthAnswers'. -/
def healthAnswersUptoCard : Claim7 := { stood := { row := healthAnswersUptoRow, standIns := [], harness := (true, "be167f2302ff9c853a4ad6bd92d63349115af377bba4f95fbaf988e51c19f284"), looks := true }, kinds := [], alts := [], laidByText := true, laidKinds := [.data, .data, .data, .data, .pinned, .pinned], laidTests := true, laidLooks := .later }
def HealthAnswersUptoCardSaid : Prop := Claim7.holds Tryz.pinned (.plain (OpenSpec.upto healthAnswersSpec)) healthAnswersUptoCard
end Rows
end Go.Proofs.YtbiipgbejlfkbaaGreatDoor
