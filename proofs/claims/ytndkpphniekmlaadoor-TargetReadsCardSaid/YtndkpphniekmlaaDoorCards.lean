/-
  DERIVED. GIVEN WITH THE SEED: THE CARDS: each row of YtndkpphniekmlaaDoorRows.lean that lists a variable, with what it lists TIED to the program's text (the seventh form; the later family's looks); each row that meets fmt, with fmt's text TOLD by the authors' own Lean function (tested against real Go, not proved from fmt's source: count such statements apart). THE CARD IS WHAT COUNTS. Prove the row's statement (the work); the ties are given (YtndkpphniekmlaaDoorTie.lean); close each card by the builder's one call (the guide's Derived/Test/ToyasCard.lean, 'card_holds'). Laid BY PROGRAM, IN A SANDBOX (cutbox-door.mjs). By AI agents, Wed Nov 11 2026. No macro, syntax, notation, axiom, sorry.
-/
import Derived.Test.YtndkpphniekmlaaDoorRows
import GoSem.ClaimSeven
namespace Go.Proofs.YtndkpphniekmlaaDoor
namespace Rows

/-- THE TIED CARD OF 'turnstilelaw08.TargetReads'. -/
def targetReadsCard : Claim7 := { stood := { row := targetReadsRow, standIns := [], harness := (true, "700a9a0b143be8c384c584eb2582723b84cf068c73735ecfa544a6ba23761894"), looks := true }, kinds := [], alts := [], laidByText := true, laidKinds := [.data, .pinned, .pinned], laidTests := true, laidLooks := .later }
def TargetReadsCardSaid : Prop := Claim7.holds Tryd.pinned (.plain (OpenSpec.ofChange targetReadsSpec)) targetReadsCard

/-- THE TIED CARD OF 'turnstilelaw08.TargetPaths'. -/
def targetPathsCard : Claim7 := { stood := { row := targetPathsRow, standIns := [], harness := (true, "700a9a0b143be8c384c584eb2582723b84cf068c73735ecfa544a6ba23761894"), looks := true }, kinds := [], alts := [], laidByText := true, laidKinds := [.data, .pinned, .pinned], laidTests := true, laidLooks := .later }
def TargetPathsCardSaid : Prop := Claim7.holds Tryd.pinned (.plain (OpenSpec.ofChange targetPathsSpec)) targetPathsCard

/-- THE TIED CARD OF 'turnstilelaw08.TargetMeant'. -/
def targetMeantCard : Claim7 := { stood := { row := targetMeantRow, standIns := [], harness := (true, "700a9a0b143be8c384c584eb2582723b84cf068c73735ecfa544a6ba23761894"), looks := true }, kinds := [], alts := [], laidByText := true, laidKinds := [.data, .pinned, .pinned], laidTests := true, laidLooks := .later }
def TargetMeantCardSaid : Prop := Claim7.holds Tryd.pinned (.plain (OpenSpec.ofChange targetMeantSpec)) targetMeantCard

/-- THE TIED CARD OF 'turnstilelaw08.TargetPrefix'. -/
def targetPrefixCard : Claim7 := { stood := { row := targetPrefixRow, standIns := [], harness := (true, "700a9a0b143be8c384c584eb2582723b84cf068c73735ecfa544a6ba23761894"), looks := true }, kinds := [], alts := [], laidByText := true, laidKinds := [.data, .pinned, .pinned], laidTests := true, laidLooks := .later }
def TargetPrefixCardSaid : Prop := Claim7.holds Tryd.pinned (.plain (OpenSpec.ofChange targetPrefixSpec)) targetPrefixCard

/-- THE TIED CARD OF 'turnstilelaw08.TargetTells'. -/
def targetTellsCard : Claim7 := { stood := { row := targetTellsRow, standIns := [], harness := (true, "700a9a0b143be8c384c584eb2582723b84cf068c73735ecfa544a6ba23761894"), looks := true }, kinds := [], alts := [], laidByText := true, laidKinds := [.data, .pinned, .pinned], laidTests := true, laidLooks := .later }
def TargetTellsCardSaid : Prop := Claim7.holds Tryd.pinned (.plain (OpenSpec.ofChange targetTellsSpec)) targetTellsCard

/-- THE TIED CARD OF 'turnstilelaw08.TargetBack'. -/
def targetBackCard : Claim7 := { stood := { row := targetBackRow, standIns := [], harness := (true, "700a9a0b143be8c384c584eb2582723b84cf068c73735ecfa544a6ba23761894"), looks := true }, kinds := [], alts := [], laidByText := true, laidKinds := [.data, .pinned, .pinned], laidTests := true, laidLooks := .later }
def TargetBackCardSaid : Prop := Claim7.holds Tryd.pinned (.plain (OpenSpec.ofChange targetBackSpec)) targetBackCard

/-- THE SECOND FORM's CARD OF 'turnstilelaw08.TargetReads'. -/
def targetReadsUptoCard : Claim7 := { stood := { row := targetReadsUptoRow, standIns := [], harness := (true, "700a9a0b143be8c384c584eb2582723b84cf068c73735ecfa544a6ba23761894"), looks := true }, kinds := [], alts := [], laidByText := true, laidKinds := [.data, .pinned, .pinned], laidTests := true, laidLooks := .later }
def TargetReadsUptoCardSaid : Prop := Claim7.holds Tryd.pinned (.plain (OpenSpec.upto targetReadsSpec)) targetReadsUptoCard

/-- THE SECOND FORM's CARD OF 'turnstilelaw08.TargetPaths'. -/
def targetPathsUptoCard : Claim7 := { stood := { row := targetPathsUptoRow, standIns := [], harness := (true, "700a9a0b143be8c384c584eb2582723b84cf068c73735ecfa544a6ba23761894"), looks := true }, kinds := [], alts := [], laidByText := true, laidKinds := [.data, .pinned, .pinned], laidTests := true, laidLooks := .later }
def TargetPathsUptoCardSaid : Prop := Claim7.holds Tryd.pinned (.plain (OpenSpec.upto targetPathsSpec)) targetPathsUptoCard

/-- THE SECOND FORM's CARD OF 'turnstilelaw08.TargetMeant'. -/
def targetMeantUptoCard : Claim7 := { stood := { row := targetMeantUptoRow, standIns := [], harness := (true, "700a9a0b143be8c384c584eb2582723b84cf068c73735ecfa544a6ba23761894"), looks := true }, kinds := [], alts := [], laidByText := true, laidKinds := [.data, .pinned, .pinned], laidTests := true, laidLooks := .later }
def TargetMeantUptoCardSaid : Prop := Claim7.holds Tryd.pinned (.plain (OpenSpec.upto targetMeantSpec)) targetMeantUptoCard

/-- THE SECOND FORM's CARD OF 'turnstilelaw08.TargetPrefix'. -/
def targetPrefixUptoCard : Claim7 := { stood := { row := targetPrefixUptoRow, standIns := [], harness := (true, "700a9a0b143be8c384c584eb2582723b84cf068c73735ecfa544a6ba23761894"), looks := true }, kinds := [], alts := [], laidByText := true, laidKinds := [.data, .pinned, .pinned], laidTests := true, laidLooks := .later }
def TargetPrefixUptoCardSaid : Prop := Claim7.holds Tryd.pinned (.plain (OpenSpec.upto targetPrefixSpec)) targetPrefixUptoCard

/-- THE SECOND FORM's CARD OF 'turnstilelaw08.TargetTells'. -/
def targetTellsUptoCard : Claim7 := { stood := { row := targetTellsUptoRow, standIns := [], harness := (true, "700a9a0b143be8c384c584eb2582723b84cf068c73735ecfa544a6ba23761894"), looks := true }, kinds := [], alts := [], laidByText := true, laidKinds := [.data, .pinned, .pinned], laidTests := true, laidLooks := .later }
def TargetTellsUptoCardSaid : Prop := Claim7.holds Tryd.pinned (.plain (OpenSpec.upto targetTellsSpec)) targetTellsUptoCard

/-- THE SECOND FORM's CARD OF 'turnstilelaw08.TargetBack'. -/
def targetBackUptoCard : Claim7 := { stood := { row := targetBackUptoRow, standIns := [], harness := (true, "700a9a0b143be8c384c584eb2582723b84cf068c73735ecfa544a6ba23761894"), looks := true }, kinds := [], alts := [], laidByText := true, laidKinds := [.data, .pinned, .pinned], laidTests := true, laidLooks := .later }
def TargetBackUptoCardSaid : Prop := Claim7.holds Tryd.pinned (.plain (OpenSpec.upto targetBackSpec)) targetBackUptoCard
end Rows
end Go.Proofs.YtndkpphniekmlaaDoor
