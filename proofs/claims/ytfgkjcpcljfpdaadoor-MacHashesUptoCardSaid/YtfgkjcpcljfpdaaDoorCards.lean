/-
  DERIVED. GIVEN WITH THE SEED: THE CARDS: each row of YtfgkjcpcljfpdaaDoorRows.lean that lists a variable, with what it lists TIED to the program's text (the seventh form; the later family's looks); each row that meets fmt, with fmt's text TOLD by the authors' own Lean function (tested against real Go, not proved from fmt's source: count such statements apart). THE CARD IS WHAT COUNTS. Prove the row's statement (the work); the ties are given (YtfgkjcpcljfpdaaDoorTie.lean); close each card by the builder's one call (the guide's Derived/Test/ToyasCard.lean, 'card_holds'). Laid BY PROGRAM, IN A SANDBOX (cutbox-door.mjs). By AI agents, Wed Nov 11 2026. No macro, syntax, notation, axiom, sorry.
-/
import Derived.Test.YtfgkjcpcljfpdaaDoorRows
import GoSem.ClaimSeven
namespace Go.Proofs.YtfgkjcpcljfpdaaDoor
namespace Rows

/-- THE TIED CARD OF 'turnstilelaw04.MacHashes'. -/
def macHashesCard : Claim7 := { stood := { row := macHashesRow, standIns := [], harness := (true, "c055b08ee5acabcf9dd69e06153c5b39aa08476141560794c5375d7bb7efe7e5"), looks := false }, kinds := [], alts := [], laidByText := true, laidKinds := [.data, .data], laidTests := true, laidLooks := .later }
def MacHashesCardSaid : Prop := Claim7.holds Tryd.pinned (.plain (OpenSpec.ofChange macHashesSpec)) macHashesCard

/-- THE TIED CARD OF 'turnstilelaw04.MacPieces'. -/
def macPiecesCard : Claim7 := { stood := { row := macPiecesRow, standIns := [], harness := (true, "c055b08ee5acabcf9dd69e06153c5b39aa08476141560794c5375d7bb7efe7e5"), looks := false }, kinds := [], alts := [], laidByText := true, laidKinds := [.data, .data], laidTests := true, laidLooks := .later }
def MacPiecesCardSaid : Prop := Claim7.holds Tryd.pinned (.plain (OpenSpec.ofChange macPiecesSpec)) macPiecesCard

/-- THE TIED CARD OF 'turnstilelaw04.MacSums'. -/
def macSumsCard : Claim7 := { stood := { row := macSumsRow, standIns := [], harness := (true, "c055b08ee5acabcf9dd69e06153c5b39aa08476141560794c5375d7bb7efe7e5"), looks := false }, kinds := [], alts := [], laidByText := true, laidKinds := [.data, .data], laidTests := true, laidLooks := .later }
def MacSumsCardSaid : Prop := Claim7.holds Tryd.pinned (.plain (OpenSpec.ofChange macSumsSpec)) macSumsCard

/-- THE TIED CARD OF 'turnstilelaw04.MacKeys'. -/
def macKeysCard : Claim7 := { stood := { row := macKeysRow, standIns := [], harness := (true, "c055b08ee5acabcf9dd69e06153c5b39aa08476141560794c5375d7bb7efe7e5"), looks := false }, kinds := [], alts := [], laidByText := true, laidKinds := [.data, .data], laidTests := true, laidLooks := .later }
def MacKeysCardSaid : Prop := Claim7.holds Tryd.pinned (.plain (OpenSpec.ofChange macKeysSpec)) macKeysCard

/-- THE SECOND FORM's CARD OF 'turnstilelaw04.MacHashes'. -/
def macHashesUptoCard : Claim7 := { stood := { row := macHashesUptoRow, standIns := [], harness := (true, "c055b08ee5acabcf9dd69e06153c5b39aa08476141560794c5375d7bb7efe7e5"), looks := false }, kinds := [], alts := [], laidByText := true, laidKinds := [.data, .data], laidTests := true, laidLooks := .later }
def MacHashesUptoCardSaid : Prop := Claim7.holds Tryd.pinned (.plain (OpenSpec.upto macHashesSpec)) macHashesUptoCard

/-- THE SECOND FORM's CARD OF 'turnstilelaw04.MacPieces'. -/
def macPiecesUptoCard : Claim7 := { stood := { row := macPiecesUptoRow, standIns := [], harness := (true, "c055b08ee5acabcf9dd69e06153c5b39aa08476141560794c5375d7bb7efe7e5"), looks := false }, kinds := [], alts := [], laidByText := true, laidKinds := [.data, .data], laidTests := true, laidLooks := .later }
def MacPiecesUptoCardSaid : Prop := Claim7.holds Tryd.pinned (.plain (OpenSpec.upto macPiecesSpec)) macPiecesUptoCard

/-- THE SECOND FORM's CARD OF 'turnstilelaw04.MacSums'. -/
def macSumsUptoCard : Claim7 := { stood := { row := macSumsUptoRow, standIns := [], harness := (true, "c055b08ee5acabcf9dd69e06153c5b39aa08476141560794c5375d7bb7efe7e5"), looks := false }, kinds := [], alts := [], laidByText := true, laidKinds := [.data, .data], laidTests := true, laidLooks := .later }
def MacSumsUptoCardSaid : Prop := Claim7.holds Tryd.pinned (.plain (OpenSpec.upto macSumsSpec)) macSumsUptoCard

/-- THE SECOND FORM's CARD OF 'turnstilelaw04.MacKeys'. -/
def macKeysUptoCard : Claim7 := { stood := { row := macKeysUptoRow, standIns := [], harness := (true, "c055b08ee5acabcf9dd69e06153c5b39aa08476141560794c5375d7bb7efe7e5"), looks := false }, kinds := [], alts := [], laidByText := true, laidKinds := [.data, .data], laidTests := true, laidLooks := .later }
def MacKeysUptoCardSaid : Prop := Claim7.holds Tryd.pinned (.plain (OpenSpec.upto macKeysSpec)) macKeysUptoCard
end Rows
end Go.Proofs.YtfgkjcpcljfpdaaDoor
