/-
  DERIVED. GIVEN WITH THE SEED: THE CARDS: each row of YtacelemieinhcaaDoorRows.lean that lists a variable, with what it lists TIED to the program's text (the seventh form; the later family's looks); each row that meets fmt, with fmt's text TOLD by the authors' own Lean function (tested against real Go, not proved from fmt's source: count such statements apart). THE CARD IS WHAT COUNTS. Prove the row's statement (the work); the ties are given (YtacelemieinhcaaDoorTie.lean); close each card by the builder's one call (the guide's Derived/Test/ToyasCard.lean, 'card_holds'). Laid BY PROGRAM, IN A SANDBOX (cutbox-door.mjs). By AI agents, Wed Nov 11 2026. No macro, syntax, notation, axiom, sorry.
-/
import Derived.Test.YtacelemieinhcaaDoorRows
import GoSem.ClaimSeven
namespace Go.Proofs.YtacelemieinhcaaDoor
namespace Rows

/-- THE TIED CARD OF 'turnstilelaw21.BucketMost'. -/
def bucketMostCard : Claim7 := { stood := { row := bucketMostRow, standIns := [], harness := (true, "161aadb0d9a2e0d8e01b17bf076c7353d6a5b18fe96dd2c3baf3cb8bfaf3d633"), looks := true }, kinds := [], alts := [], laidByText := true, laidKinds := [.handle], laidTests := true, laidLooks := .later }
def BucketMostCardSaid : Prop := Claim7.holds Tryd.pinned (.plain (OpenSpec.ofChange bucketMostSpec)) bucketMostCard

/-- THE TIED CARD OF 'turnstilelaw21.BucketFills'. -/
def bucketFillsCard : Claim7 := { stood := { row := bucketFillsRow, standIns := [], harness := (true, "161aadb0d9a2e0d8e01b17bf076c7353d6a5b18fe96dd2c3baf3cb8bfaf3d633"), looks := true }, kinds := [], alts := [], laidByText := true, laidKinds := [.handle], laidTests := true, laidLooks := .later }
def BucketFillsCardSaid : Prop := Claim7.holds Tryd.pinned (.plain (OpenSpec.ofChange bucketFillsSpec)) bucketFillsCard

/-- THE SECOND FORM's CARD OF 'turnstilelaw21.BucketMost'. -/
def bucketMostUptoCard : Claim7 := { stood := { row := bucketMostUptoRow, standIns := [], harness := (true, "161aadb0d9a2e0d8e01b17bf076c7353d6a5b18fe96dd2c3baf3cb8bfaf3d633"), looks := true }, kinds := [], alts := [], laidByText := true, laidKinds := [.handle], laidTests := true, laidLooks := .later }
def BucketMostUptoCardSaid : Prop := Claim7.holds Tryd.pinned (.plain (OpenSpec.upto bucketMostSpec)) bucketMostUptoCard

/-- THE SECOND FORM's CARD OF 'turnstilelaw21.BucketFills'. -/
def bucketFillsUptoCard : Claim7 := { stood := { row := bucketFillsUptoRow, standIns := [], harness := (true, "161aadb0d9a2e0d8e01b17bf076c7353d6a5b18fe96dd2c3baf3cb8bfaf3d633"), looks := true }, kinds := [], alts := [], laidByText := true, laidKinds := [.handle], laidTests := true, laidLooks := .later }
def BucketFillsUptoCardSaid : Prop := Claim7.holds Tryd.pinned (.plain (OpenSpec.upto bucketFillsSpec)) bucketFillsUptoCard
end Rows
end Go.Proofs.YtacelemieinhcaaDoor
