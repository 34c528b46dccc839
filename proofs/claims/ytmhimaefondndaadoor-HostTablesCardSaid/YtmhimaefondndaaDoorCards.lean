/-
  DERIVED. GIVEN WITH THE SEED: THE CARDS: each row of YtmhimaefondndaaDoorRows.lean that lists a variable, with what it lists TIED to the program's text (the seventh form; the later family's looks); each row that meets fmt, with fmt's text TOLD by the authors' own Lean function (tested against real Go, not proved from fmt's source: count such statements apart). THE CARD IS WHAT COUNTS. Prove the row's statement (the work); the ties are given (YtmhimaefondndaaDoorTie.lean); close each card by the builder's one call (the guide's Derived/Test/ToyasCard.lean, 'card_holds'). Laid BY PROGRAM, IN A SANDBOX (cutbox-door.mjs). By AI agents, Wed Nov 11 2026. No macro, syntax, notation, axiom, sorry.
-/
import Derived.Test.YtmhimaefondndaaDoorRows
import GoSem.ClaimSeven
namespace Go.Proofs.YtmhimaefondndaaDoor
namespace Rows

/-- THE TIED CARD OF 'turnstilelaw16.HostTexts'. -/
def hostTextsCard : Claim7 := { stood := { row := hostTextsRow, standIns := [], harness := (true, "10110962c7404aac2d8d6b94fd0fd872020cde8e0667c75ec49543d9beec5102"), looks := true }, kinds := [], alts := [], laidByText := true, laidKinds := [.data, .pinned], laidTests := true, laidLooks := .later }
def HostTextsCardSaid : Prop := Claim7.holds Tryd.pinned (.plain (OpenSpec.ofChange hostTextsSpec)) hostTextsCard

/-- THE TIED CARD OF 'turnstilelaw16.HostTables'. -/
def hostTablesCard : Claim7 := { stood := { row := hostTablesRow, standIns := [], harness := (true, "10110962c7404aac2d8d6b94fd0fd872020cde8e0667c75ec49543d9beec5102"), looks := true }, kinds := [], alts := [], laidByText := true, laidKinds := [.data, .pinned], laidTests := true, laidLooks := .later }
def HostTablesCardSaid : Prop := Claim7.holds Tryd.pinned (.plain (OpenSpec.ofChange hostTablesSpec)) hostTablesCard

/-- THE TIED CARD OF 'turnstilelaw16.HostFits'. -/
def hostFitsCard : Claim7 := { stood := { row := hostFitsRow, standIns := [], harness := (true, "10110962c7404aac2d8d6b94fd0fd872020cde8e0667c75ec49543d9beec5102"), looks := true }, kinds := [], alts := [], laidByText := true, laidKinds := [.data, .pinned], laidTests := true, laidLooks := .later }
def HostFitsCardSaid : Prop := Claim7.holds Tryd.pinned (.plain (OpenSpec.ofChange hostFitsSpec)) hostFitsCard

/-- THE TIED CARD OF 'turnstilelaw16.HostOrder'. -/
def hostOrderCard : Claim7 := { stood := { row := hostOrderRow, standIns := [], harness := (true, "10110962c7404aac2d8d6b94fd0fd872020cde8e0667c75ec49543d9beec5102"), looks := true }, kinds := [], alts := [], laidByText := true, laidKinds := [.data, .pinned], laidTests := true, laidLooks := .later }
def HostOrderCardSaid : Prop := Claim7.holds Tryd.pinned (.plain (OpenSpec.ofChange hostOrderSpec)) hostOrderCard

/-- THE TIED CARD OF 'turnstilelaw16.HostStrict'. -/
def hostStrictCard : Claim7 := { stood := { row := hostStrictRow, standIns := [], harness := (true, "10110962c7404aac2d8d6b94fd0fd872020cde8e0667c75ec49543d9beec5102"), looks := true }, kinds := [], alts := [], laidByText := true, laidKinds := [.data, .pinned], laidTests := true, laidLooks := .later }
def HostStrictCardSaid : Prop := Claim7.holds Tryd.pinned (.plain (OpenSpec.ofChange hostStrictSpec)) hostStrictCard

/-- THE SECOND FORM's CARD OF 'turnstilelaw16.HostTexts'. -/
def hostTextsUptoCard : Claim7 := { stood := { row := hostTextsUptoRow, standIns := [], harness := (true, "10110962c7404aac2d8d6b94fd0fd872020cde8e0667c75ec49543d9beec5102"), looks := true }, kinds := [], alts := [], laidByText := true, laidKinds := [.data, .pinned], laidTests := true, laidLooks := .later }
def HostTextsUptoCardSaid : Prop := Claim7.holds Tryd.pinned (.plain (OpenSpec.upto hostTextsSpec)) hostTextsUptoCard

/-- THE SECOND FORM's CARD OF 'turnstilelaw16.HostTables'. -/
def hostTablesUptoCard : Claim7 := { stood := { row := hostTablesUptoRow, standIns := [], harness := (true, "10110962c7404aac2d8d6b94fd0fd872020cde8e0667c75ec49543d9beec5102"), looks := true }, kinds := [], alts := [], laidByText := true, laidKinds := [.data, .pinned], laidTests := true, laidLooks := .later }
def HostTablesUptoCardSaid : Prop := Claim7.holds Tryd.pinned (.plain (OpenSpec.upto hostTablesSpec)) hostTablesUptoCard

/-- THE SECOND FORM's CARD OF 'turnstilelaw16.HostFits'. -/
def hostFitsUptoCard : Claim7 := { stood := { row := hostFitsUptoRow, standIns := [], harness := (true, "10110962c7404aac2d8d6b94fd0fd872020cde8e0667c75ec49543d9beec5102"), looks := true }, kinds := [], alts := [], laidByText := true, laidKinds := [.data, .pinned], laidTests := true, laidLooks := .later }
def HostFitsUptoCardSaid : Prop := Claim7.holds Tryd.pinned (.plain (OpenSpec.upto hostFitsSpec)) hostFitsUptoCard

/-- THE SECOND FORM's CARD OF 'turnstilelaw16.HostOrder'. -/
def hostOrderUptoCard : Claim7 := { stood := { row := hostOrderUptoRow, standIns := [], harness := (true, "10110962c7404aac2d8d6b94fd0fd872020cde8e0667c75ec49543d9beec5102"), looks := true }, kinds := [], alts := [], laidByText := true, laidKinds := [.data, .pinned], laidTests := true, laidLooks := .later }
def HostOrderUptoCardSaid : Prop := Claim7.holds Tryd.pinned (.plain (OpenSpec.upto hostOrderSpec)) hostOrderUptoCard

/-- THE SECOND FORM's CARD OF 'turnstilelaw16.HostStrict'. -/
def hostStrictUptoCard : Claim7 := { stood := { row := hostStrictUptoRow, standIns := [], harness := (true, "10110962c7404aac2d8d6b94fd0fd872020cde8e0667c75ec49543d9beec5102"), looks := true }, kinds := [], alts := [], laidByText := true, laidKinds := [.data, .pinned], laidTests := true, laidLooks := .later }
def HostStrictUptoCardSaid : Prop := Claim7.holds Tryd.pinned (.plain (OpenSpec.upto hostStrictSpec)) hostStrictUptoCard
end Rows
end Go.Proofs.YtmhimaefondndaaDoor
