/- JsonBack answers true at every argument, and leaves its arguments as they were; the listed variables are tied to the text. -/
import Derived.Test.YtmbakmdgmccgiaaDoorWg
import Derived.Test.YtmbakmdgmccgiaaDoorWm
import Derived.Test.YtmbakmdgmccgiaaDoorCards
import Derived.Test.YtmbakmdgmccgiaaDoorTie
import Derived.WalkKit
import Derived.ProofKit
import Derived.OpenShut
import Derived.JoinedCond
import Derived.Deep.DeepHandedRow
import Derived.Deep.DeepWitnessRowRef
import Derived.ChangeVars
import Derived.JoinedOf
import Derived.RowKit
import Derived.LaidLaws
import Derived.LaidHandle
import Derived.SevenTiedAt
set_option maxRecDepth 100000
namespace Go.Proofs.YtmbakmdgmccgiaaDoor.jsonBack
open Go.ChangeShapes Go.WideShapes Go.ChangeAt Go.RowKit Go.Sx
set_option linter.unusedVariables false
theorem own : ownKnob Tryd.prog.godebug = none := by kernel_rfl
theorem lay_of {W : World} (h : laidMetH Tryd.prog Rows.jsonBackRow.laid W) : ∀ R : Part, (∀ b o, W.heap[b]? = some o → R b = some o) → Sx.YtmbakmdgmccgiaaDoor.LS R := LS_of (show laidMet Tryd.prog LD W from h)
theorem laidWorld_met (os : Os) (args : Array Value) : laidMetH Tryd.prog Rows.jsonBackRow.laid ((laidWorld os).forCall (fun _ _ => 0) ⟨#[], args, []⟩).memory :=
  laidMetH_of_parts (laid_met os args) (by kernel_rfl)
def ps : List Pm := [(.str, false)]
theorem bulks {H : Type} : BulkLaw (H := H) Rows.uptoBulk Rows.uptoBulkAll :=
  ⟨fun _ => by simp [Rows.uptoBulk], fun _ _ => by simp [Rows.uptoBulk], fun _ => by simp [Rows.uptoBulk], by simp [Rows.uptoBulk], fun _ _ => by simp [Rows.uptoBulk], fun _ => by simp [Rows.uptoBulk], by simp [Rows.uptoBulkAll], fun _ _ => by simp [Rows.uptoBulkAll]⟩
theorem contract (H : Type) (enc : TypeId × Value → H) (W : World) (base : Nat) (args : Array Value) (ds gs : List (DataW H)) (before : List MemPlace)
    (hval : ∀ (j : Nat) t v, Tryd.f7.params[j]? = some t → args[j]? = some v → Value.okWide Tryd.prog W .any base t v)
    (hW : DataW.Whole enc Tryd.prog Tryd.f7.params.toList Rows.jsonBackSpec.vars false W args.toList ds gs before) (hL : laidMetH Tryd.prog Rows.jsonBackRow.laid W)
    (hsz : (DataW.weightsEach Tryd.prog Tryd.f7.params.toList (ds ++ gs)).all (· ≤ reachBytes) = true) :
    Calls Tryd.prog 7 args W fun e W' => ∃ v, e = .returned v ∧ Rows.jsonBackSpec.post enc Tryd.prog Tryd.f7 false true false false W args v W' := by
  refine law_post (E := 45) (L := Sx.YtmbakmdgmccgiaaDoor.LS) (hL := lay_of hL) (fn := Tryd.f7) (ps := ps) (tb := 4) (run := Sx.YtmbakmdgmccgiaaDoor.jsonBack 9223372036854776000) (bound := Rows.uptoBulkAll (ds ++ gs)) (LawOK.of (Sx.YtmbakmdgmccgiaaDoor.ok_jsonBack 9223372036854776000)) bulks hsz
    (fun ys hok hs hb => Sx.YtmbakmdgmccgiaaDoor.jsonBack_true ys.1 hok.1.2 (Nat.le_trans (show List.length ys.1 ≤ reachBytes from hs.1) (by decide))) ⟨base, hval⟩ hW (Nat.le_refl _) rfl (by kernel_rfl) (by kernel_rfl) Tryd.underlying4 (fun l hl => ?_)
  match l, hl with
  | [_], _ => exact ⟨rfl, rfl, rfl⟩
theorem reads (os : Os) {H : Type} (enc : TypeId × Value → H) : ∃ places, DataW.whole enc Tryd.prog ((laidWorld os).forCall (fun _ _ => 0) ⟨#[], #[.string ⟨#[]⟩], []⟩).memory Tryd.f7.params.toList Rows.jsonBackSpec.vars false (#[.string ⟨#[]⟩] : Array Value).toList 8 = some ([.lit (.string [])], [], places) :=
  ⟨[], by kernel_rfl⟩
set_option maxRecDepth 100000 in
theorem lifted (os : Os) (started : os.Started) (H : Type) (enc : TypeId × Value → H) (F : Stop.Interp) :
    ReturnsInHanded {} Tryd.checked os 7 .any ((OpenSpec.ofChange Rows.jsonBackSpec).preRow enc Tryd.prog Tryd.f7 Rows.jsonBackRow.domain false Rows.jsonBackRow.laid) (((OpenSpec.ofChange Rows.jsonBackSpec).at F).post enc Tryd.prog Tryd.f7 false true false false) := by
  obtain ⟨places, hx⟩ := reads os enc
  refine returnsInHanded_of_row (C := Tryd.checked) (s := OpenSpec.ofChange Rows.jsonBackSpec) own started (by kernel_rfl) Tryd.func7
    (witness_row_atRef (enc := enc) (C := Tryd.checked) false (laidWorld os) #[.string ⟨#[]⟩] rfl (by kernel_rfl) (by kernel_rfl) (by kernel_rfl)
      (OpenSpec.preRow_of_cond 8 hx (by kernel_rfl) (fun k hk => by cases hk) (by kernel_rfl) (laidWorld_met os _))) ?_
  intro W base args ds gs before hval hW _ hcond hsz hL _ _
  exact contract H enc W base args ds gs before hval hW hL hsz
theorem over : Rows.jsonBackRow.holds Tryd.pinned (OpenSpec.ofChange Rows.jsonBackSpec) :=
  OpenClaim.holds_of_cond 7 Tryd.f7 rfl rfl rfl rfl rfl rfl rfl ⟨rfl, rfl, rfl, rfl, rfl⟩ rfl rfl rfl rfl rfl (by kernel_rfl) Tryd.func7 (by kernel_rfl)
    (of_decide_eq_true (by kernel_rfl)) (by unfold Func.isWrapper; first | (rw [if_pos (by decide +kernel)]; kernel_rfl) | (rw [if_neg (by decide +kernel)]; exact ⟨rfl, rfl⟩))
    (fun os started H enc _ F => by rw [OpenClaim.pre_eq_preRow]; exact lifted os started H enc F)
theorem noStandIn : (Tryd.f7.params.toList.all fun t => Tryd.prog.wantsStandIn t == false) = true := by kernel_rfl
theorem proved : Rows.JsonBackCardSaid :=
  Claim7.holds_tied_plain_at .later [] [.data, .pinned] true (true, "66b374ba0caf312bb8efe5ea1d62d024f20d6b08ae8355a60fc60e4e3dc0219a") true
    over (fun _ h => by cases h) (by kernel_rfl) (fun _ h => by cases h) jsonBack_row_tie rfl ⟨rfl, rfl⟩ (by kernel_rfl) rfl
    (fun f fn hf hfn => by
      obtain rfl : f = 7 := Option.some.inj ((show Tryd.prog.funcNamed "turnstile/turnstilelaw06.JsonBack" = some 7 by kernel_rfl).symm.trans hf) |>.symm
      obtain rfl : fn = Tryd.f7 := (Option.some.inj (Tryd.func7.symm.trans hfn)).symm
      exact ⟨by kernel_rfl, fun j t ht => by
        have hm : t ∈ Tryd.f7.params.toList := Array.mem_toList_iff.2 (Array.mem_of_getElem? ht)
        have := List.all_eq_true.1 noStandIn t hm
        show Tryd.prog.wantsStandIn t = false
        exact eq_of_beq this⟩)
    (by kernel_rfl)
end Go.Proofs.YtmbakmdgmccgiaaDoor.jsonBack
#print axioms Go.Proofs.YtmbakmdgmccgiaaDoor.jsonBack.proved
