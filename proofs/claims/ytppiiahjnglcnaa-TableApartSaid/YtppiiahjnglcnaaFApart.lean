/- TableApart answers true at every input and leaves its arguments as they were. -/
import Derived.Test.YtppiiahjnglcnaaWq
import Derived.Test.YtppiiahjnglcnaaRows
import Derived.WalkKit
import Derived.ProofKit
import Derived.OpenShut
import Derived.SizedLaws
namespace Go.Proofs.Ytppiiahjnglcnaa.tableApart
open Go.ChangeShapes Go.WideShapes Go.ChangeAt Go.RowKit Go.Sx
set_option linter.unusedVariables false
theorem own : ownKnob Try.prog.godebug = none := by kernel_rfl
def ps : List Pm := [(.list (.pair (.int .i64) (.pair (.pair (.int .i64) (.pair (.int .i64) (.pair .str .unit))) (.pair (.pair (.int .i64) (.pair (.int .i64) (.pair (.int .i64) (.pair (.int .i64) .unit)))) (.pair (.int .i64) .unit)))), false)]
theorem bulks {H : Type} : BulkLaw (H := H) Rows.uptoBulk Rows.uptoBulkAll :=
  ⟨fun _ => by simp [Rows.uptoBulk], fun _ _ => by simp [Rows.uptoBulk], fun _ => by simp [Rows.uptoBulk], by simp [Rows.uptoBulk], fun _ _ => by simp [Rows.uptoBulk], fun _ => by simp [Rows.uptoBulk], by simp [Rows.uptoBulkAll], fun _ _ => by simp [Rows.uptoBulkAll]⟩
theorem contract (H : Type) (enc : TypeId × Value → H) (W : World) (base : Nat) (args : Array Value) (ds gs : List (DataW H)) (before : List MemPlace)
    (hval : ∀ (j : Nat) t v, Try.f4.params[j]? = some t → args[j]? = some v → Value.okWide Try.prog W .any base t v)
    (hW : DataW.Whole enc Try.prog Try.f4.params.toList Rows.tableApartSpec.vars false W args.toList ds gs before)
    (hsz : (DataW.weightsEach Try.prog Try.f4.params.toList (ds ++ gs)).all (· ≤ reachBytes) = true) :
    Calls Try.prog 4 args W fun e W' => ∃ v, e = .returned v ∧ Rows.tableApartSpec.post enc Try.prog Try.f4 false true false false W args v W' := by
  refine law_post (E := 68) (L := L0) (hL := fun _ _ => trivial) (fn := Try.f4) (ps := ps) (tb := 4) (run := anyRun fun n x => Sx.Ytppiiahjnglcnaa.tableApart n (Sx.Ytppiiahjnglcnaa.zApart x)) (bound := Rows.uptoBulkAll (ds ++ gs)) (any_pools (vs0 := ps.map pmSh) (es := Sx.Ytppiiahjnglcnaa.pre_tableApart.ents) Sx.Ytppiiahjnglcnaa.tableApart Sx.Ytppiiahjnglcnaa.zApart (fun _ => rfl) (fun x q hq => pools_empty (l := (⟨ps.map pmSh, Sx.Ytppiiahjnglcnaa.pre_tableApart.ents⟩ : Shape).es (Sx.Ytppiiahjnglcnaa.zApart x)) (by kernel_rfl) q hq) Sx.Ytppiiahjnglcnaa.ok_tableApart) bulks hsz
    (fun ys hok hs hb => anyRun_true (Sx.Ytppiiahjnglcnaa.tableApart_f ys.1)) ⟨base, hval⟩ hW (Nat.le_refl _) rfl (by kernel_rfl) (by kernel_rfl) Try.underlying4 (fun l hl => ?_)
  match l, hl with
  | [_], _ => exact ⟨rfl, rfl, rfl⟩
set_option maxRecDepth 100000 in
theorem lifted (os : Os) (started : os.Started) (H : Type) (enc : TypeId × Value → H) :
    ReturnsInHanded {} Try.checked os 4 .any (Rows.tableApartSpec.pre6 enc Try.prog Try.f4 Rows.tableApartRow.domain false) (Rows.tableApartSpec.post enc Try.prog Try.f4 false true false false) := by
  refine returnsInHanded_of_change_sized (C := Try.checked) own started (by kernel_rfl) Try.func4
    (ChangeSpec.witness6 (enc := enc) (C := Try.checked) false ⟨#[], #[.slice none 0 0], []⟩ 8 (by kernel_rfl) (by kernel_rfl) (by kernel_rfl) (by kernel_rfl)) ?_
  intro W base args ds gs before hval0 hW hcnd hsz _
  exact contract H enc W base args ds gs before hval0 hW hsz
theorem over : Rows.tableApartRow.holds Try.pinned (OpenSpec.ofChange Rows.tableApartSpec) :=
  OpenClaim.holds_of_wide 4 Try.f4 rfl rfl rfl rfl rfl rfl rfl ⟨rfl, rfl, rfl, rfl, rfl⟩ rfl rfl rfl rfl rfl (by kernel_rfl) Try.func4 (by kernel_rfl)
    (of_decide_eq_true (by kernel_rfl)) (by unfold Func.isWrapper; first | (rw [if_pos (by decide +kernel)]; kernel_rfl) | (rw [if_neg (by decide +kernel)]; exact ⟨rfl, rfl⟩))
    (fun os started H enc _ => lifted os started H enc)
theorem proved : Rows.TableApartSaid :=
  over
end Go.Proofs.Ytppiiahjnglcnaa.tableApart
#print axioms Go.Proofs.Ytppiiahjnglcnaa.tableApart.proved
