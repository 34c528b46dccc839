/- RingRuns answers true at every input and leaves its arguments as they were; no condition. -/
import Derived.Test.YtojecfdacijcaaaWN1
import Derived.Test.YtojecfdacijcaaaRows
import Derived.WalkKit
import Derived.ProofKit
import Derived.OpenShut
import Derived.SizedLaws
namespace Go.Proofs.Ytojecfdacijcaaa.ringRuns
open Go.ChangeShapes Go.WideShapes Go.ChangeAt Go.RowKit Go.Sx
set_option linter.unusedVariables false
theorem own : ownKnob Try.prog.godebug = none := by kernel_rfl
def ps : List Pm := [(.int .i64, false), (.list (.pair (.int .i64) (.pair (.int .i64) (.pair (.list (.int .u8)) .unit))), false), (.int .i64, false)]
theorem bulks {H : Type} : BulkLaw (H := H) Rows.uptoBulk Rows.uptoBulkAll :=
  ⟨fun _ => by simp [Rows.uptoBulk], fun _ _ => by simp [Rows.uptoBulk], fun _ => by simp [Rows.uptoBulk], by simp [Rows.uptoBulk], fun _ _ => by simp [Rows.uptoBulk], fun _ => by simp [Rows.uptoBulk], by simp [Rows.uptoBulkAll], fun _ _ => by simp [Rows.uptoBulkAll]⟩
theorem contract (H : Type) (enc : TypeId × Value → H) (W : World) (base : Nat) (args : Array Value) (ds gs : List (DataW H)) (before : List MemPlace)
    (hval : ∀ (j : Nat) t v, Try.f4.params[j]? = some t → args[j]? = some v → Value.okWide Try.prog W .any base t v)
    (hW : DataW.Whole enc Try.prog Try.f4.params.toList Rows.ringRunsSpec.vars false W args.toList ds gs before)
    (hsz : (DataW.weightsEach Try.prog Try.f4.params.toList (ds ++ gs)).all (· ≤ reachBytes) = true) :
    Calls Try.prog 4 args W fun e W' => ∃ v, e = .returned v ∧ Rows.ringRunsSpec.post enc Try.prog Try.f4 false true false false W args v W' := by
  refine law_post (E := 54) (L := L0) (hL := fun _ _ => trivial) (fn := Try.f4) (ps := ps) (tb := 4) (run := Sx.Ytojecfdacijcaaa.ringRuns 2100000) (bound := Rows.uptoBulkAll (ds ++ gs)) (Sx.Ytojecfdacijcaaa.ok_ringRuns 2100000) bulks hsz
    (fun ys hok hs hb => Sx.Ytojecfdacijcaaa.ringRuns_true ys.1 ys.2.1 ys.2.2.1 (fun a ha => by simpa using bytes_le' (SzK_list Try.underlying22 (Sx.Ytojecfdacijcaaa.SzK_struct Try.underlying45 ((SzK_list Try.underlying37 hs.2.1).2 a ha)).2.2.1).1 (by kernel_rfl : Try.prog.bytesOf 5 = 1))) ⟨base, hval⟩ hW (Nat.le_refl _) rfl (by kernel_rfl) (by kernel_rfl) Try.underlying4 (fun l hl => ?_)
  match l, hl with
  | [_, _, _], _ => exact ⟨rfl, rfl, rfl⟩
set_option maxRecDepth 100000 in
theorem lifted (os : Os) (started : os.Started) (H : Type) (enc : TypeId × Value → H) :
    ReturnsInHanded {} Try.checked os 4 .any (Rows.ringRunsSpec.pre6 enc Try.prog Try.f4 Rows.ringRunsRow.domain false) (Rows.ringRunsSpec.post enc Try.prog Try.f4 false true false false) := by
  refine returnsInHanded_of_change_sized (C := Try.checked) own started (by kernel_rfl) Try.func4
    (ChangeSpec.witness6 (enc := enc) (C := Try.checked) false ⟨#[], #[.int .i64 0, .slice none 0 0, .int .i64 0], []⟩ 8 (by kernel_rfl) (by kernel_rfl) (by kernel_rfl) (by kernel_rfl)) ?_
  intro W base args ds gs before hval0 hW hcnd hsz _
  exact contract H enc W base args ds gs before hval0 hW hsz
theorem over : Rows.ringRunsRow.holds Try.pinned (OpenSpec.ofChange Rows.ringRunsSpec) :=
  OpenClaim.holds_of_wide 4 Try.f4 rfl rfl rfl rfl rfl rfl rfl ⟨rfl, rfl, rfl, rfl, rfl⟩ rfl rfl rfl rfl rfl (by kernel_rfl) Try.func4 (by kernel_rfl)
    (of_decide_eq_true (by kernel_rfl)) (by unfold Func.isWrapper; first | (rw [if_pos (by decide +kernel)]; kernel_rfl) | (rw [if_neg (by decide +kernel)]; exact ⟨rfl, rfl⟩))
    (fun os started H enc _ => lifted os started H enc)
theorem proved : Rows.RingRunsSaid :=
  over
end Go.Proofs.Ytojecfdacijcaaa.ringRuns
#print axioms Go.Proofs.Ytojecfdacijcaaa.ringRuns.proved
