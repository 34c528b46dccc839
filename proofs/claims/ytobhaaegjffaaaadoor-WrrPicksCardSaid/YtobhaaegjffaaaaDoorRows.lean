/-
  NARROWER THAN 'FOR EVERY INPUT', by the rows' own cells (each row's printed sentence says how): WrrSequences: laid · WrrPicks: laid · WrrLawful: laid.
  DERIVED. THE GIVEN ROWS OF THIS SEAT. 3 by the template 'for every input the law returns true; each argument reads behind the call as it read before'; 0 by the template 'total and deterministic' (their statements: YtobhaaegjffaaaaDoorTotals.lean).
  GIVEN WITH THE SEED: the statements are not yours to turn. If you find one false, say at which input.
  Laid BY PROGRAM, IN A SANDBOX (cutbox-rows.mjs): the forced cells as the released guide's own fill.sh prints them over the translation 04050eca4e2605cb… (all of the seat's roots in one cut). By AI agents, Wed Nov 11 2026. No macro, syntax, notation, axiom, sorry.
-/
import Derived.Test.YtobhaaegjffaaaaDoorChecked
import GoSem.Claim
import GoSem.ClaimJoined
import GoSem.ClaimMapViews
import Derived.JoinedTies
import Derived.KernelRfl
namespace Go.Proofs.YtobhaaegjffaaaaDoor
/- THE CELL 'sum', in the pinned program and in every row, IS THE sha256 OF THE DUMP (.gsa) THAT YtobhaaegjffaaaaDoorProg.lean LOADS. Nothing in Lean hashes anything: it is a label: what it is worth is what the hold of that sum in a sandbox is worth. -/
noncomputable def Tryd.pinned : Pinned := { name := "ytobhaaegjffaaaadoor", sum := "04050eca4e2605cb2a34574c7ebf72e6e4cd363e07d2f70586a377a60f1308a3", checked := Tryd.checked }
namespace Rows
def none {H : Type} : Left H := { results := [], args := [] }

/- WHAT THE LISTED PACKAGE-LEVEL VARIABLES READ AS WHEN THE CALL BEGINS. Each datum BY PROGRAM (the guide's laid-datum.mjs) off the statement by which the dump's own 'gosem.cut.vars' lays the variable. In a bare row this is a premise. The card (YtobhaaegjffaaaaDoorCards.lean) ties it to the program's text. -/
def laid_errors_errorType {H : Type} : DataW H := .iface "internal/reflectlite.rtype" (.agg [.ptr (.lit (.string [101, 114, 114, 111, 114]))])

/-- 'turnstilelaw25.WrrSequences': WHATEVER THE INPUT: true; the input reads as it did. -/
def wrrSequencesSpec : ChangeSpec := { name := "wrrSequences", fn := fun _ => fun
  | [d1, d2] => { results := [.lit (.bool true)], args := [d1, d2] }
  | _ => none }
def wrrSequencesRow : OpenClaim := { program := "ytobhaaegjffaaaadoor", sum := "04050eca4e2605cb2a34574c7ebf72e6e4cd363e07d2f70586a377a60f1308a3", func := "turnstile/turnstilelaw25.WrrSequences", spec := "wrrSequences", inPlace := ["internal/reflectlite.ValueOf", "(internal/reflectlite.Value).Type", "(internal/reflectlite.Value).IsNil", "internal/reflectlite.TypeOf", "(internal/reflectlite.Value).Elem", "(internal/reflectlite.Value).Set"], unfollowed := true, recurses := true, named := ["errors.errorType"], apart := false, laid := [("errors.errorType", laid_errors_errorType)] }
def WrrSequencesSaid : Prop := wrrSequencesRow.holds Tryd.pinned (OpenSpec.ofChange wrrSequencesSpec)

/-- ITS FALSE NEIGHBOUR: 'it returns false'. Refute it at one input. -/
def wrrSequencesWrong : ChangeSpec := { name := "wrrSequences", fn := fun _ => fun
  | [d1, d2] => { results := [.lit (.bool false)], args := [d1, d2] }
  | _ => none }
def WrrSequencesWrongFalsely : Prop := wrrSequencesRow.holds Tryd.pinned (OpenSpec.ofChange wrrSequencesWrong)

/-- 'turnstilelaw25.WrrPicks': WHATEVER THE INPUT: true; the input reads as it did. -/
def wrrPicksSpec : ChangeSpec := { name := "wrrPicks", fn := fun _ => fun
  | [d1, d2] => { results := [.lit (.bool true)], args := [d1, d2] }
  | _ => none }
def wrrPicksRow : OpenClaim := { program := "ytobhaaegjffaaaadoor", sum := "04050eca4e2605cb2a34574c7ebf72e6e4cd363e07d2f70586a377a60f1308a3", func := "turnstile/turnstilelaw25.WrrPicks", spec := "wrrPicks", inPlace := ["internal/reflectlite.ValueOf", "(internal/reflectlite.Value).Type", "(internal/reflectlite.Value).IsNil", "internal/reflectlite.TypeOf", "(internal/reflectlite.Value).Elem", "(internal/reflectlite.Value).Set"], unfollowed := true, recurses := true, named := ["errors.errorType"], apart := false, laid := [("errors.errorType", laid_errors_errorType)] }
def WrrPicksSaid : Prop := wrrPicksRow.holds Tryd.pinned (OpenSpec.ofChange wrrPicksSpec)

/-- ITS FALSE NEIGHBOUR: 'it returns false'. Refute it at one input. -/
def wrrPicksWrong : ChangeSpec := { name := "wrrPicks", fn := fun _ => fun
  | [d1, d2] => { results := [.lit (.bool false)], args := [d1, d2] }
  | _ => none }
def WrrPicksWrongFalsely : Prop := wrrPicksRow.holds Tryd.pinned (OpenSpec.ofChange wrrPicksWrong)

/-- 'turnstilelaw25.WrrLawful': WHATEVER THE INPUT: true; the input reads as it did. -/
def wrrLawfulSpec : ChangeSpec := { name := "wrrLawful", fn := fun _ => fun
  | [d1, d2] => { results := [.lit (.bool true)], args := [d1, d2] }
  | _ => none }
def wrrLawfulRow : OpenClaim := { program := "ytobhaaegjffaaaadoor", sum := "04050eca4e2605cb2a34574c7ebf72e6e4cd363e07d2f70586a377a60f1308a3", func := "turnstile/turnstilelaw25.WrrLawful", spec := "wrrLawful", inPlace := ["internal/reflectlite.ValueOf", "(internal/reflectlite.Value).Type", "(internal/reflectlite.Value).IsNil", "internal/reflectlite.TypeOf", "(internal/reflectlite.Value).Elem", "(internal/reflectlite.Value).Set"], unfollowed := true, recurses := true, named := ["errors.errorType"], apart := false, laid := [("errors.errorType", laid_errors_errorType)] }
def WrrLawfulSaid : Prop := wrrLawfulRow.holds Tryd.pinned (OpenSpec.ofChange wrrLawfulSpec)

/-- ITS FALSE NEIGHBOUR: 'it returns false'. Refute it at one input. -/
def wrrLawfulWrong : ChangeSpec := { name := "wrrLawful", fn := fun _ => fun
  | [d1, d2] => { results := [.lit (.bool false)], args := [d1, d2] }
  | _ => none }
def WrrLawfulWrongFalsely : Prop := wrrLawfulRow.holds Tryd.pinned (OpenSpec.ofChange wrrLawfulWrong)

/- THE SECOND FORM. 'bulk': how many values and letters a reading holds, each counted each time it is reached (what is shared counts as often as it is met; a slice's spare places count too). A statement '..UptoSaid' is the law's where the arguments, and the package variables that the reading takes, are together of bulk at most 1048576: NARROWER than '..Said'. Prove '..Said' where nothing that the law and all that it calls make is longer than what came in: it says more and counts as full. Else prove '..UptoSaid'. A law counts once. -/
mutual
def uptoBulk {H : Type} : DataW H → Nat
  | .lit (.string bytes) => bytes.length + 1
  | .lit _ => 1
  | .nil => 1
  | .ptr d => uptoBulk d + 1
  | .slice elems spare => uptoBulkAll elems + uptoBulkAll spare + 1
  | .agg parts => uptoBulkAll parts + 1
  | .iface _ d => uptoBulk d + 1
  | .map entries => uptoBulkEntries entries + 1
  | .held _ => 1
def uptoBulkAll {H : Type} : List (DataW H) → Nat
  | [] => 0
  | d :: r => uptoBulk d + uptoBulkAll r
def uptoBulkEntries {H : Type} : List (Lit × DataW H) → Nat
  | [] => 0
  | x :: r => uptoBulkEntry x + uptoBulkEntries r
def uptoBulkEntry {H : Type} : Lit × DataW H → Nat
  | (.string bytes, d) => bytes.length + uptoBulk d + 1
  | (_, d) => uptoBulk d + 1
 end
def uptoSmall : (H : Type) → List (DataW H) → Bool := fun _ ds => decide (uptoBulkAll ds ≤ 1048576)
def OpenSpec.upto (s : _root_.Go.ChangeSpec) : _root_.Go.OpenSpec := { _root_.Go.OpenSpec.ofChange s with cond := some uptoSmall }

/-- 'turnstilelaw25.WrrSequences', WHERE WHAT IT READS IS OF BULK AT MOST 1048576: true; the input reads as it did. -/
def wrrSequencesUptoRow : OpenClaim := { program := "ytobhaaegjffaaaadoor", sum := "04050eca4e2605cb2a34574c7ebf72e6e4cd363e07d2f70586a377a60f1308a3", func := "turnstile/turnstilelaw25.WrrSequences", spec := "wrrSequences", inPlace := ["internal/reflectlite.ValueOf", "(internal/reflectlite.Value).Type", "(internal/reflectlite.Value).IsNil", "internal/reflectlite.TypeOf", "(internal/reflectlite.Value).Elem", "(internal/reflectlite.Value).Set"], unfollowed := true, recurses := true, named := ["errors.errorType"], apart := false, laid := [("errors.errorType", laid_errors_errorType)], narrowed := true }
def WrrSequencesUptoSaid : Prop := wrrSequencesUptoRow.holds Tryd.pinned (OpenSpec.upto wrrSequencesSpec)

/-- 'turnstilelaw25.WrrPicks', WHERE WHAT IT READS IS OF BULK AT MOST 1048576: true; the input reads as it did. -/
def wrrPicksUptoRow : OpenClaim := { program := "ytobhaaegjffaaaadoor", sum := "04050eca4e2605cb2a34574c7ebf72e6e4cd363e07d2f70586a377a60f1308a3", func := "turnstile/turnstilelaw25.WrrPicks", spec := "wrrPicks", inPlace := ["internal/reflectlite.ValueOf", "(internal/reflectlite.Value).Type", "(internal/reflectlite.Value).IsNil", "internal/reflectlite.TypeOf", "(internal/reflectlite.Value).Elem", "(internal/reflectlite.Value).Set"], unfollowed := true, recurses := true, named := ["errors.errorType"], apart := false, laid := [("errors.errorType", laid_errors_errorType)], narrowed := true }
def WrrPicksUptoSaid : Prop := wrrPicksUptoRow.holds Tryd.pinned (OpenSpec.upto wrrPicksSpec)

/-- 'turnstilelaw25.WrrLawful', WHERE WHAT IT READS IS OF BULK AT MOST 1048576: true; the input reads as it did. -/
def wrrLawfulUptoRow : OpenClaim := { program := "ytobhaaegjffaaaadoor", sum := "04050eca4e2605cb2a34574c7ebf72e6e4cd363e07d2f70586a377a60f1308a3", func := "turnstile/turnstilelaw25.WrrLawful", spec := "wrrLawful", inPlace := ["internal/reflectlite.ValueOf", "(internal/reflectlite.Value).Type", "(internal/reflectlite.Value).IsNil", "internal/reflectlite.TypeOf", "(internal/reflectlite.Value).Elem", "(internal/reflectlite.Value).Set"], unfollowed := true, recurses := true, named := ["errors.errorType"], apart := false, laid := [("errors.errorType", laid_errors_errorType)], narrowed := true }
def WrrLawfulUptoSaid : Prop := wrrLawfulUptoRow.holds Tryd.pinned (OpenSpec.upto wrrLawfulSpec)

end Rows
end Go.Proofs.YtobhaaegjffaaaaDoor
