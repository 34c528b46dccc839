/- TableMost answers true at every input and leaves its arguments as they were. -/
import Derived.Test.YtppiiahjnglcnaaWq
import Derived.Test.YtppiiahjnglcnaaRows
import Derived.WalkKit
import Derived.ProofKit
import Derived.OpenShut
import Derived.SizedLaws
namespace Go.Proofs.Ytppiiahjnglcnaa.tableMost
open Go.ChangeShapes Go.WideShapes Go.ChangeAt Go.RowKit Go.Sx
set_option linter.unusedVariables false
theorem own : ownKnob Try.prog.godebug = none := by kernel_rfl
def ps : List Pm := [(.pair (.int .i64) (.pair (.int .i64) (.pair (.int .i64) (.pair (.int .i64) .unit))), true), (.list (.int .i64), false)]
theorem bulks {H : Type} : BulkLaw (H := H) Rows.uptoBulk Rows.uptoBulkAll :=
  ⟨fun _ => by simp [Rows.uptoBulk], fun _ _ => by simp [Rows.uptoBulk], fun _ => by simp [Rows.uptoBulk], by simp [Rows.uptoBulk], fun _ _ => by simp [Rows.uptoBulk], fun _ => by simp [Rows.uptoBulk], by simp [Rows.uptoBulkAll], fun _ _ => by simp [Rows.uptoBulkAll]⟩
theorem contract (H : Type) (enc : TypeId × Value → H) (W : World) (base : Nat) (args : Array Value) (ds gs : List (DataW H)) (before : List MemPlace)
    (hval : ∀ (j : Nat) t v, Try.f3.params[j]? = some t → args[j]? = some v → Value.okWide Try.prog W .any base t v)
    (hW : DataW.Whole enc Try.prog Try.f3.params.toList Rows.tableMostSpec.vars false W args.toList ds gs before)
    (hsz : (DataW.weightsEach Try.prog Try.f3.params.toList (ds ++ gs)).all (· ≤ reachBytes) = true) :
    Calls Try.prog 3 args W fun e W' => ∃ v, e = .returned v ∧ Rows.tableMostSpec.post enc Try.prog Try.f3 false true false false W args v W' := by
  refine law_post (E := 68) (L := L0) (hL := fun _ _ => trivial) (fn := Try.f3) (ps := ps) (tb := 4) (run := anyRun fun n x => Sx.Ytppiiahjnglcnaa.tableMost n (Sx.Ytppiiahjnglcnaa.zMost x)) (bound := Rows.uptoBulkAll (ds ++ gs)) (any_pools (vs0 := ps.map pmSh) (es := Sx.Ytppiiahjnglcnaa.pre_tableMost.ents) Sx.Ytppiiahjnglcnaa.tableMost Sx.Ytppiiahjnglcnaa.zMost (fun _ => rfl) (fun x q hq => pools_empty (l := (⟨ps.map pmSh, Sx.Ytppiiahjnglcnaa.pre_tableMost.ents⟩ : Shape).es (Sx.Ytppiiahjnglcnaa.zMost x)) (by kernel_rfl) q hq) Sx.Ytppiiahjnglcnaa.ok_tableMost) bulks hsz
    (fun ys hok hs hb => anyRun_true (Sx.Ytppiiahjnglcnaa.tableMost_f ys.1.1 ys.1.2.1 ys.1.2.2.1 ys.1.2.2.2.1 ys.2.1)) ⟨base, hval⟩ hW (Nat.le_refl _) rfl (by kernel_rfl) (by kernel_rfl) Try.underlying4 (fun l hl => ?_)
  match l, hl with
  | [_, _], _ => exact ⟨rfl, rfl, rfl⟩
set_option maxRecDepth 100000 in
theorem lifted (os : Os) (started : os.Started) (H : Type) (enc : TypeId × Value → H) :
    ReturnsInHanded {} Try.checked os 3 .any (Rows.tableMostSpec.pre6 enc Try.prog Try.f3 Rows.tableMostRow.domain false) (Rows.tableMostSpec.post enc Try.prog Try.f3 false true false false) := by
  refine returnsInHanded_of_change_sized (C := Try.checked) own started (by kernel_rfl) Try.func3
    (ChangeSpec.witness6 (enc := enc) (C := Try.checked) false ⟨#[], #[.agg #[.int .i64 0, .int .i64 0, .int .i64 0, .int .i64 0], .slice none 0 0], []⟩ 8 (by kernel_rfl) (by kernel_rfl) (by kernel_rfl) (by kernel_rfl)) ?_
  intro W base args ds gs before hval0 hW hcnd hsz _
  exact contract H enc W base args ds gs before hval0 hW hsz
theorem over : Rows.tableMostRow.holds Try.pinned (OpenSpec.ofChange Rows.tableMostSpec) :=
  OpenClaim.holds_of_wide 3 Try.f3 rfl rfl rfl rfl rfl rfl rfl ⟨rfl, rfl, rfl, rfl, rfl⟩ rfl rfl rfl rfl rfl (by kernel_rfl) Try.func3 (by kernel_rfl)
    (of_decide_eq_true (by kernel_rfl)) (by unfold Func.isWrapper; first | (rw [if_pos (by decide +kernel)]; kernel_rfl) | (rw [if_neg (by decide +kernel)]; exact ⟨rfl, rfl⟩))
    (fun os started H enc _ => lifted os started H enc)
theorem proved : Rows.TableMostSaid :=
  over
end Go.Proofs.Ytppiiahjnglcnaa.tableMost
#print axioms Go.Proofs.Ytppiiahjnglcnaa.tableMost.proved
