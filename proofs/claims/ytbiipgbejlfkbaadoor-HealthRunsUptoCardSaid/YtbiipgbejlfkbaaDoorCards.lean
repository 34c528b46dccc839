/-
  DERIVED. GIVEN WITH THE SEED: THE CARDS: each row of YtbiipgbejlfkbaaDoorRows.lean that lists a variable, with what it lists TIED to the program's text (the seventh form; the later family's looks); each row that meets fmt, with fmt's text TOLD by the authors' own Lean function (tested against real Go, not proved from fmt's source: count such statements apart). THE CARD IS WHAT COUNTS. Prove the row's statement (the work); the ties are given (YtbiipgbejlfkbaaDoorTie.lean); close each card by the builder's one call (the guide's Derived/Test/ToyasCard.lean, 'card_holds'). Laid BY PROGRAM, IN A SANDBOX (cutbox-door.mjs). By AI agents, Wed Nov 11 2026. No macro, syntax, notation, axiom, sorry.
-/
import Derived.Test.YtbiipgbejlfkbaaDoorRows
import GoSem.ClaimSeven
namespace Go.Proofs.YtbiipgbejlfkbaaDoor
namespace Rows

/-- THE TIED CARD OF 'turnstilelaw24.HealthRuns'. -/
def healthRunsCard : Claim7 := { stood := { row := healthRunsRow, standIns := [], harness := (true, "0811b21ae6a1569035275941391cd950a1a7f3cf40ef0c9f3da5574bbda59236"), looks := true }, kinds := [], alts := [], laidByText := true, laidKinds := [.data, .data, .data, .data, .pinned, .pinned], laidTests := true, laidLooks := .later }
def HealthRunsCardSaid : Prop := Claim7.holds Tryd.pinned (.plain (OpenSpec.ofChange healthRunsSpec)) healthRunsCard

/-- THE TIED CARD OF 'turnstilelaw24.HealthLate'. -/
def healthLateCard : Claim7 := { stood := { row := healthLateRow, standIns := [], harness := (true, "0811b21ae6a1569035275941391cd950a1a7f3cf40ef0c9f3da5574bbda59236"), looks := true }, kinds := [], alts := [], laidByText := true, laidKinds := [.data, .data, .data, .data, .pinned, .pinned], laidTests := true, laidLooks := .later }
def HealthLateCardSaid : Prop := Claim7.holds Tryd.pinned (.plain (OpenSpec.ofChange healthLateSpec)) healthLateCard

/-- THE SECOND FORM's CARD OF 'turnstilelaw24.HealthRuns'. -/
def healthRunsUptoCard : Claim7 := { stood := { row := healthRunsUptoRow, standIns := [], harness := (true, "0811b21ae6a1569035275941391cd950a1a7f3cf40ef0c9f3da5574bbda59236"), looks := true }, kinds := [], alts := [], laidByText := true, laidKinds := [.data, .data, .data, .data, .pinned, .pinned], laidTests := true, laidLooks := .later }
def HealthRunsUptoCardSaid : Prop := Claim7.holds Tryd.pinned (.plain (OpenSpec.upto healthRunsSpec)) healthRunsUptoCard

/-- THE SECOND FORM's CARD OF 'turnstilelaw24.HealthLate'. -/
def healthLateUptoCard : Claim7 := { stood := { row := healthLateUptoRow, standIns := [], harness := (true, "0811b21ae6a1569035275941391cd950a1a7f3cf40ef0c9f3da5574bbda59236"), looks := true }, kinds := [], alts := [], laidByText := true, laidKinds := [.data, .data, .data, .data, .pinned, .pinned], laidTests := true, laidLooks := .later }
def HealthLateUptoCardSaid : Prop := Claim7.holds Tryd.pinned (.plain (OpenSpec.upto healthLateSpec)) healthLateUptoCard
end Rows
end Go.Proofs.YtbiipgbejlfkbaaDoor
