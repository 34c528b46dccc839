/-
  DERIVED. GIVEN WITH THE SEED: THE CARDS: each row of YtmbakmdgmccgiaaDoorRows.lean that lists a variable, with what it lists TIED to the program's text (the seventh form; the later family's looks); each row that meets fmt, with fmt's text TOLD by the authors' own Lean function (tested against real Go, not proved from fmt's source: count such statements apart). THE CARD IS WHAT COUNTS. Prove the row's statement (the work); the ties are given (YtmbakmdgmccgiaaDoorTie.lean); close each card by the builder's one call (the guide's Derived/Test/ToyasCard.lean, 'card_holds'). Laid BY PROGRAM, IN A SANDBOX (cutbox-door.mjs). By AI agents, Wed Nov 11 2026. No macro, syntax, notation, axiom, sorry.
-/
import Derived.Test.YtmbakmdgmccgiaaDoorRows
import GoSem.ClaimSeven
namespace Go.Proofs.YtmbakmdgmccgiaaDoor
namespace Rows

/-- THE TIED CARD OF 'turnstilelaw06.JsonReads'. -/
def jsonReadsCard : Claim7 := { stood := { row := jsonReadsRow, standIns := [], harness := (true, "66b374ba0caf312bb8efe5ea1d62d024f20d6b08ae8355a60fc60e4e3dc0219a"), looks := true }, kinds := [], alts := [], laidByText := true, laidKinds := [.data, .pinned], laidTests := true, laidLooks := .later }
def JsonReadsCardSaid : Prop := Claim7.holds Tryd.pinned (.plain (OpenSpec.ofChange jsonReadsSpec)) jsonReadsCard

/-- THE TIED CARD OF 'turnstilelaw06.JsonQuotes'. -/
def jsonQuotesCard : Claim7 := { stood := { row := jsonQuotesRow, standIns := [], harness := (true, "66b374ba0caf312bb8efe5ea1d62d024f20d6b08ae8355a60fc60e4e3dc0219a"), looks := true }, kinds := [], alts := [], laidByText := true, laidKinds := [.data, .pinned], laidTests := true, laidLooks := .later }
def JsonQuotesCardSaid : Prop := Claim7.holds Tryd.pinned (.plain (OpenSpec.ofChange jsonQuotesSpec)) jsonQuotesCard

/-- THE TIED CARD OF 'turnstilelaw06.JsonValues'. -/
def jsonValuesCard : Claim7 := { stood := { row := jsonValuesRow, standIns := [], harness := (true, "66b374ba0caf312bb8efe5ea1d62d024f20d6b08ae8355a60fc60e4e3dc0219a"), looks := true }, kinds := [], alts := [], laidByText := true, laidKinds := [.data, .pinned], laidTests := true, laidLooks := .later }
def JsonValuesCardSaid : Prop := Claim7.holds Tryd.pinned (.plain (OpenSpec.ofChange jsonValuesSpec)) jsonValuesCard

/-- THE TIED CARD OF 'turnstilelaw06.JsonSame'. -/
def jsonSameCard : Claim7 := { stood := { row := jsonSameRow, standIns := [], harness := (true, "66b374ba0caf312bb8efe5ea1d62d024f20d6b08ae8355a60fc60e4e3dc0219a"), looks := true }, kinds := [], alts := [], laidByText := true, laidKinds := [.data, .pinned], laidTests := true, laidLooks := .later }
def JsonSameCardSaid : Prop := Claim7.holds Tryd.pinned (.plain (OpenSpec.ofChange jsonSameSpec)) jsonSameCard

/-- THE TIED CARD OF 'turnstilelaw06.JsonBack'. -/
def jsonBackCard : Claim7 := { stood := { row := jsonBackRow, standIns := [], harness := (true, "66b374ba0caf312bb8efe5ea1d62d024f20d6b08ae8355a60fc60e4e3dc0219a"), looks := true }, kinds := [], alts := [], laidByText := true, laidKinds := [.data, .pinned], laidTests := true, laidLooks := .later }
def JsonBackCardSaid : Prop := Claim7.holds Tryd.pinned (.plain (OpenSpec.ofChange jsonBackSpec)) jsonBackCard

/-- THE TIED CARD OF 'turnstilelaw06.JsonPrints'. -/
def jsonPrintsCard : Claim7 := { stood := { row := jsonPrintsRow, standIns := [], harness := (true, "66b374ba0caf312bb8efe5ea1d62d024f20d6b08ae8355a60fc60e4e3dc0219a"), looks := true }, kinds := [], alts := [], laidByText := true, laidKinds := [.data, .pinned], laidTests := true, laidLooks := .later }
def JsonPrintsCardSaid : Prop := Claim7.holds Tryd.pinned (.plain (OpenSpec.ofChange jsonPrintsSpec)) jsonPrintsCard

/-- THE SECOND FORM's CARD OF 'turnstilelaw06.JsonReads'. -/
def jsonReadsUptoCard : Claim7 := { stood := { row := jsonReadsUptoRow, standIns := [], harness := (true, "66b374ba0caf312bb8efe5ea1d62d024f20d6b08ae8355a60fc60e4e3dc0219a"), looks := true }, kinds := [], alts := [], laidByText := true, laidKinds := [.data, .pinned], laidTests := true, laidLooks := .later }
def JsonReadsUptoCardSaid : Prop := Claim7.holds Tryd.pinned (.plain (OpenSpec.upto jsonReadsSpec)) jsonReadsUptoCard

/-- THE SECOND FORM's CARD OF 'turnstilelaw06.JsonQuotes'. -/
def jsonQuotesUptoCard : Claim7 := { stood := { row := jsonQuotesUptoRow, standIns := [], harness := (true, "66b374ba0caf312bb8efe5ea1d62d024f20d6b08ae8355a60fc60e4e3dc0219a"), looks := true }, kinds := [], alts := [], laidByText := true, laidKinds := [.data, .pinned], laidTests := true, laidLooks := .later }
def JsonQuotesUptoCardSaid : Prop := Claim7.holds Tryd.pinned (.plain (OpenSpec.upto jsonQuotesSpec)) jsonQuotesUptoCard

/-- THE SECOND FORM's CARD OF 'turnstilelaw06.JsonValues'. -/
def jsonValuesUptoCard : Claim7 := { stood := { row := jsonValuesUptoRow, standIns := [], harness := (true, "66b374ba0caf312bb8efe5ea1d62d024f20d6b08ae8355a60fc60e4e3dc0219a"), looks := true }, kinds := [], alts := [], laidByText := true, laidKinds := [.data, .pinned], laidTests := true, laidLooks := .later }
def JsonValuesUptoCardSaid : Prop := Claim7.holds Tryd.pinned (.plain (OpenSpec.upto jsonValuesSpec)) jsonValuesUptoCard

/-- THE SECOND FORM's CARD OF 'turnstilelaw06.JsonSame'. -/
def jsonSameUptoCard : Claim7 := { stood := { row := jsonSameUptoRow, standIns := [], harness := (true, "66b374ba0caf312bb8efe5ea1d62d024f20d6b08ae8355a60fc60e4e3dc0219a"), looks := true }, kinds := [], alts := [], laidByText := true, laidKinds := [.data, .pinned], laidTests := true, laidLooks := .later }
def JsonSameUptoCardSaid : Prop := Claim7.holds Tryd.pinned (.plain (OpenSpec.upto jsonSameSpec)) jsonSameUptoCard

/-- THE SECOND FORM's CARD OF 'turnstilelaw06.JsonBack'. -/
def jsonBackUptoCard : Claim7 := { stood := { row := jsonBackUptoRow, standIns := [], harness := (true, "66b374ba0caf312bb8efe5ea1d62d024f20d6b08ae8355a60fc60e4e3dc0219a"), looks := true }, kinds := [], alts := [], laidByText := true, laidKinds := [.data, .pinned], laidTests := true, laidLooks := .later }
def JsonBackUptoCardSaid : Prop := Claim7.holds Tryd.pinned (.plain (OpenSpec.upto jsonBackSpec)) jsonBackUptoCard

/-- THE SECOND FORM's CARD OF 'turnstilelaw06.JsonPrints'. -/
def jsonPrintsUptoCard : Claim7 := { stood := { row := jsonPrintsUptoRow, standIns := [], harness := (true, "66b374ba0caf312bb8efe5ea1d62d024f20d6b08ae8355a60fc60e4e3dc0219a"), looks := true }, kinds := [], alts := [], laidByText := true, laidKinds := [.data, .pinned], laidTests := true, laidLooks := .later }
def JsonPrintsUptoCardSaid : Prop := Claim7.holds Tryd.pinned (.plain (OpenSpec.upto jsonPrintsSpec)) jsonPrintsUptoCard
end Rows
end Go.Proofs.YtmbakmdgmccgiaaDoor
