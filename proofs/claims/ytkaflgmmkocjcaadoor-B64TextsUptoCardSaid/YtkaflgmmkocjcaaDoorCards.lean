/-
  DERIVED. GIVEN WITH THE SEED: THE CARDS: each row of YtkaflgmmkocjcaaDoorRows.lean that lists a variable, with what it lists TIED to the program's text (the seventh form; the later family's looks); each row that meets fmt, with fmt's text TOLD by the authors' own Lean function (tested against real Go, not proved from fmt's source: count such statements apart). THE CARD IS WHAT COUNTS. Prove the row's statement (the work); the ties are given (YtkaflgmmkocjcaaDoorTie.lean); close each card by the builder's one call (the guide's Derived/Test/ToyasCard.lean, 'card_holds'). Laid BY PROGRAM, IN A SANDBOX (cutbox-door.mjs). By AI agents, Wed Nov 11 2026. No macro, syntax, notation, axiom, sorry.
-/
import Derived.Test.YtkaflgmmkocjcaaDoorRows
import GoSem.ClaimSeven
namespace Go.Proofs.YtkaflgmmkocjcaaDoor
namespace Rows

/-- THE TIED CARD OF 'turnstilelaw05.B64Reads'. -/
def b64ReadsCard : Claim7 := { stood := { row := b64ReadsRow, standIns := [], harness := (true, "bdcd767d9c7a277df3341cb04d7d65d8d692ed7a901199c24d1e8843b1869fc9"), looks := true }, kinds := [], alts := [], laidByText := true, laidKinds := [.handle], laidTests := true, laidLooks := .later }
def B64ReadsCardSaid : Prop := Claim7.holds Tryd.pinned (.plain (OpenSpec.ofChange b64ReadsSpec)) b64ReadsCard

/-- THE TIED CARD OF 'turnstilelaw05.B64Texts'. -/
def b64TextsCard : Claim7 := { stood := { row := b64TextsRow, standIns := [], harness := (true, "bdcd767d9c7a277df3341cb04d7d65d8d692ed7a901199c24d1e8843b1869fc9"), looks := true }, kinds := [], alts := [], laidByText := true, laidKinds := [.handle], laidTests := true, laidLooks := .later }
def B64TextsCardSaid : Prop := Claim7.holds Tryd.pinned (.plain (OpenSpec.ofChange b64TextsSpec)) b64TextsCard

/-- THE SECOND FORM's CARD OF 'turnstilelaw05.B64Reads'. -/
def b64ReadsUptoCard : Claim7 := { stood := { row := b64ReadsUptoRow, standIns := [], harness := (true, "bdcd767d9c7a277df3341cb04d7d65d8d692ed7a901199c24d1e8843b1869fc9"), looks := true }, kinds := [], alts := [], laidByText := true, laidKinds := [.handle], laidTests := true, laidLooks := .later }
def B64ReadsUptoCardSaid : Prop := Claim7.holds Tryd.pinned (.plain (OpenSpec.upto b64ReadsSpec)) b64ReadsUptoCard

/-- THE SECOND FORM's CARD OF 'turnstilelaw05.B64Texts'. -/
def b64TextsUptoCard : Claim7 := { stood := { row := b64TextsUptoRow, standIns := [], harness := (true, "bdcd767d9c7a277df3341cb04d7d65d8d692ed7a901199c24d1e8843b1869fc9"), looks := true }, kinds := [], alts := [], laidByText := true, laidKinds := [.handle], laidTests := true, laidLooks := .later }
def B64TextsUptoCardSaid : Prop := Claim7.holds Tryd.pinned (.plain (OpenSpec.upto b64TextsSpec)) b64TextsUptoCard
end Rows
end Go.Proofs.YtkaflgmmkocjcaaDoor
