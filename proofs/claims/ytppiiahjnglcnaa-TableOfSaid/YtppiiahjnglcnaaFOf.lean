/- TableOf answers true at every input and leaves its arguments as they were. -/
import Derived.Test.YtppiiahjnglcnaaWq
import Derived.Test.YtppiiahjnglcnaaRows
import Derived.WalkKit
import Derived.ProofKit
import Derived.OpenShut
import Derived.SizedLaws
namespace Go.Proofs.Ytppiiahjnglcnaa.tableOf
open Go.ChangeShapes Go.WideShapes Go.ChangeAt Go.RowKit Go.Sx
set_option linter.unusedVariables false
theorem own : ownKnob Try.prog.godebug = none := by kernel_rfl
def ps : List Pm := [(.pair (.int .i64) (.pair (.pair (.int .i64) (.pair (.int .i64) (.pair .str .unit))) (.pair (.pair (.int .i64) (.pair (.int .i64) (.pair (.int .i64) (.pair (.int .i64) .unit)))) (.pair (.int .i64) .unit))), true), (.str, false), (.str, false)]
theorem bulks {H : Type} : BulkLaw (H := H) Rows.uptoBulk Rows.uptoBulkAll :=
  ⟨fun _ => by simp [Rows.uptoBulk], fun _ _ => by simp [Rows.uptoBulk], fun _ => by simp [Rows.uptoBulk], by simp [Rows.uptoBulk], fun _ _ => by simp [Rows.uptoBulk], fun _ => by simp [Rows.uptoBulk], by simp [Rows.uptoBulkAll], fun _ _ => by simp [Rows.uptoBulkAll]⟩
theorem contract (H : Type) (enc : TypeId × Value → H) (W : World) (base : Nat) (args : Array Value) (ds gs : List (DataW H)) (before : List MemPlace)
    (hval : ∀ (j : Nat) t v, Try.f6.params[j]? = some t → args[j]? = some v → Value.okWide Try.prog W .any base t v)
    (hW : DataW.Whole enc Try.prog Try.f6.params.toList Rows.tableOfSpec.vars false W args.toList ds gs before)
    (hsz : (DataW.weightsEach Try.prog Try.f6.params.toList (ds ++ gs)).all (· ≤ reachBytes) = true) :
    Calls Try.prog 6 args W fun e W' => ∃ v, e = .returned v ∧ Rows.tableOfSpec.post enc Try.prog Try.f6 false true false false W args v W' := by
  refine law_post (E := 68) (L := L0) (hL := fun _ _ => trivial) (fn := Try.f6) (ps := ps) (tb := 4) (run := anyRun Sx.Ytppiiahjnglcnaa.tableOf) (bound := Rows.uptoBulkAll (ds ++ gs)) (any_ok (vs0 := ps.map pmSh) Sx.Ytppiiahjnglcnaa.tableOf Sx.Ytppiiahjnglcnaa.ok_tableOf) bulks hsz
    (fun ys hok hs hb => anyRun_true (Sx.Ytppiiahjnglcnaa.tableOf_f ys.1.1 ys.1.2.1.1 ys.1.2.1.2.1 ys.1.2.1.2.2.1 ys.1.2.2.1.1 ys.1.2.2.1.2.1 ys.1.2.2.1.2.2.1 ys.1.2.2.1.2.2.2.1 ys.1.2.2.2.1 ys.2.1 ys.2.2.1)) ⟨base, hval⟩ hW (Nat.le_refl _) rfl (by kernel_rfl) (by kernel_rfl) Try.underlying4 (fun l hl => ?_)
  match l, hl with
  | [_, _, _], _ => exact ⟨rfl, rfl, rfl⟩
set_option maxRecDepth 100000 in
theorem lifted (os : Os) (started : os.Started) (H : Type) (enc : TypeId × Value → H) :
    ReturnsInHanded {} Try.checked os 6 .any (Rows.tableOfSpec.pre6 enc Try.prog Try.f6 Rows.tableOfRow.domain false) (Rows.tableOfSpec.post enc Try.prog Try.f6 false true false false) := by
  refine returnsInHanded_of_change_sized (C := Try.checked) own started (by kernel_rfl) Try.func6
    (ChangeSpec.witness6 (enc := enc) (C := Try.checked) false ⟨#[], #[.agg #[.int .i64 0, .int .i64 0, .int .i64 0, .string ⟨#[]⟩, .int .i64 0, .int .i64 0, .int .i64 0, .int .i64 0, .int .i64 0], .string ⟨#[]⟩, .string ⟨#[]⟩], []⟩ 8 (by kernel_rfl) (by kernel_rfl) (by kernel_rfl) (by kernel_rfl)) ?_
  intro W base args ds gs before hval0 hW hcnd hsz _
  exact contract H enc W base args ds gs before hval0 hW hsz
theorem over : Rows.tableOfRow.holds Try.pinned (OpenSpec.ofChange Rows.tableOfSpec) :=
  OpenClaim.holds_of_wide 6 Try.f6 rfl rfl rfl rfl rfl rfl rfl ⟨rfl, rfl, rfl, rfl, rfl⟩ rfl rfl rfl rfl rfl (by kernel_rfl) Try.func6 (by kernel_rfl)
    (of_decide_eq_true (by kernel_rfl)) (by unfold Func.isWrapper; first | (rw [if_pos (by decide +kernel)]; kernel_rfl) | (rw [if_neg (by decide +kernel)]; exact ⟨rfl, rfl⟩))
    (fun os started H enc _ => lifted os started H enc)
theorem proved : Rows.TableOfSaid :=
  over
end Go.Proofs.Ytppiiahjnglcnaa.tableOf
#print axioms Go.Proofs.Ytppiiahjnglcnaa.tableOf.proved
