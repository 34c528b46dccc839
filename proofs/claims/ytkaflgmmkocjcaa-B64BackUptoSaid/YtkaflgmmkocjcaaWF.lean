/- B64Back answers true where what it reads is of bulk at most 1048576, and leaves its arguments as they were. -/
import Derived.Test.YtkaflgmmkocjcaaWN1
import Derived.Test.YtkaflgmmkocjcaaRows
import Derived.WalkKit
import Derived.ProofKit
import Derived.OpenShut
import Derived.JoinedCond
import Derived.Deep.CondSized
namespace Go.Proofs.Ytkaflgmmkocjcaa.b64Back
open Go.ChangeShapes Go.WideShapes Go.ChangeAt Go.RowKit Go.Sx
set_option linter.unusedVariables false
theorem own : ownKnob Try.prog.godebug = none := by kernel_rfl
def ps : List Pm := [(.list (.int .u8), false), (.str, false)]
theorem bulks {H : Type} : BulkLaw (H := H) Rows.uptoBulk Rows.uptoBulkAll :=
  ⟨fun _ => by simp [Rows.uptoBulk], fun _ _ => by simp [Rows.uptoBulk], fun _ => by simp [Rows.uptoBulk], by simp [Rows.uptoBulk], fun _ _ => by simp [Rows.uptoBulk], fun _ => by simp [Rows.uptoBulk], by simp [Rows.uptoBulkAll], fun _ _ => by simp [Rows.uptoBulkAll]⟩
theorem contract (H : Type) (enc : TypeId × Value → H) (W : World) (base : Nat) (args : Array Value) (ds gs : List (DataW H)) (before : List MemPlace)
    (hval : ∀ (j : Nat) t v, Try.f3.params[j]? = some t → args[j]? = some v → Value.okWide Try.prog W .any base t v)
    (hW : DataW.Whole enc Try.prog Try.f3.params.toList Rows.b64BackSpec.vars false W args.toList ds gs before)
    (hsz : (DataW.weightsEach Try.prog Try.f3.params.toList (ds ++ gs)).all (· ≤ reachBytes) = true) (hk : Rows.uptoSmall H (ds ++ gs) = true) :
    Calls Try.prog 3 args W fun e W' => ∃ v, e = .returned v ∧ Rows.b64BackSpec.post enc Try.prog Try.f3 false true false false W args v W' := by
  refine law_post (E := 40) (L := L0) (hL := fun _ _ => trivial) (fn := Try.f3) (ps := ps) (tb := 4) (run := Sx.Ytkaflgmmkocjcaa.b64Back 9000000) (bound := 1048576) (Sx.Ytkaflgmmkocjcaa.ok_b64Back 9000000) bulks hsz
    (fun ys hok hs hb => Sx.Ytkaflgmmkocjcaa.b64Back_true ys.1 ys.2.1 (fun x hx => Sx.Ytkaflgmmkocjcaa.u8_of (hok.1.2 x hx)) (Sx.Ytkaflgmmkocjcaa.bulk_bytes ys.1 (by have : K.bulk (.list (.int .u8)) ys.1 + (K.bulk .str ys.2.1 + 0) ≤ 1048576 := hb; omega)) (by have : K.bulk (.list (.int .u8)) ys.1 + (K.bulk .str ys.2.1 + 0) ≤ 1048576 := hb; have e : K.bulk .str ys.2.1 = List.length ys.2.1 + 1 := rfl; omega)) ⟨base, hval⟩ hW (of_decide_eq_true hk) rfl (by kernel_rfl) (by kernel_rfl) Try.underlying4 (fun l hl => ?_)
  match l, hl with
  | [_, _], _ => exact ⟨rfl, rfl, rfl⟩
set_option maxRecDepth 100000 in
theorem lifted (os : Os) (started : os.Started) (H : Type) (enc : TypeId × Value → H) (F : Stop.Interp) :
    ReturnsInHanded {} Try.checked os 3 .any ((Rows.OpenSpec.upto Rows.b64BackSpec).pre6 enc Try.prog Try.f3 Rows.b64BackUptoRow.domain false) (((Rows.OpenSpec.upto Rows.b64BackSpec).at F).post enc Try.prog Try.f3 false true false false) := by
  refine returnsInHanded_of_cond_sized (C := Try.checked) (s := Rows.OpenSpec.upto Rows.b64BackSpec) (k := Rows.uptoSmall) rfl own started (by kernel_rfl) Try.func3
    (OpenSpec.witness (enc := enc) (C := Try.checked) (s := Rows.OpenSpec.upto Rows.b64BackSpec) (k := Rows.uptoSmall) rfl false ⟨#[], #[.slice none 0 0, .string ⟨#[]⟩], []⟩ 8 (by kernel_rfl) (by kernel_rfl) (by kernel_rfl)
      (x := ([.nil, .lit (.string [])], [], [])) (by kernel_rfl) rfl (by kernel_rfl)) ?_
  intro W base args ds gs before hval0 hW _ hk hsz _
  exact contract H enc W base args ds gs before hval0 hW hsz hk
theorem proved : Rows.B64BackUptoSaid :=
  OpenClaim.holds_of_cond 3 Try.f3 rfl rfl rfl rfl rfl rfl rfl ⟨rfl, rfl, rfl, rfl, rfl⟩ rfl rfl rfl rfl rfl (by kernel_rfl) Try.func3 (by kernel_rfl)
    (of_decide_eq_true (by kernel_rfl)) (by unfold Func.isWrapper; first | (rw [if_pos (by decide +kernel)]; kernel_rfl) | (rw [if_neg (by decide +kernel)]; exact ⟨rfl, rfl⟩))
    (fun os started H enc _ F => lifted os started H enc F)
end Go.Proofs.Ytkaflgmmkocjcaa.b64Back
#print axioms Go.Proofs.Ytkaflgmmkocjcaa.b64Back.proved
