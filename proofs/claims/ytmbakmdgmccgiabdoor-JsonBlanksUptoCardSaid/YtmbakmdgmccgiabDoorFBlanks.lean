/- JsonBlanks answers true where what it reads is of bulk at most 1048576, and leaves its arguments as they were; the listed variables are tied to the text. -/
import Derived.Test.YtmbakmdgmccgiabDoorWm
import Derived.Test.YtmbakmdgmccgiabDoorWl
import Derived.Test.YtmbakmdgmccgiabDoorCards
import Derived.Test.YtmbakmdgmccgiabDoorTie
import Derived.WalkKit
import Derived.ProofKit
import Derived.OpenShut
import Derived.JoinedCond
import Derived.Deep.DeepHandedRow
import Derived.Deep.DeepWitnessRowRef
import Derived.ChangeVars
import Derived.JoinedOf
import Derived.RowKit
import Derived.LaidLaws
import Derived.LaidHandle
import Derived.SevenTiedAt
set_option maxRecDepth 100000
namespace Go.Proofs.YtmbakmdgmccgiabDoor.jsonBlanks
open Go.ChangeShapes Go.WideShapes Go.ChangeAt Go.RowKit Go.Sx
set_option linter.unusedVariables false
theorem own : ownKnob Tryd.prog.godebug = none := by kernel_rfl
theorem lay_of {W : World} (h : laidMetH Tryd.prog Rows.jsonBlanksUptoRow.laid W) : ∀ R : Part, (∀ b o, W.heap[b]? = some o → R b = some o) → Sx.YtmbakmdgmccgiabDoor.LS R := LS_of (show laidMet Tryd.prog LD W from h)
theorem laidWorld_met (os : Os) (args : Array Value) : laidMetH Tryd.prog Rows.jsonBlanksUptoRow.laid ((laidWorld os).forCall (fun _ _ => 0) ⟨#[], args, []⟩).memory :=
  laidMetH_of_parts (laid_met os args) (by kernel_rfl)
def ps : List Pm := [(.js, true), (.list (.int .i64), false)]
theorem bulks {H : Type} : BulkLaw (H := H) Rows.uptoBulk Rows.uptoBulkAll :=
  ⟨fun _ => by simp [Rows.uptoBulk], fun _ _ => by simp [Rows.uptoBulk], fun _ => by simp [Rows.uptoBulk], by simp [Rows.uptoBulk], fun _ _ => by simp [Rows.uptoBulk], fun _ => by simp [Rows.uptoBulk], by simp [Rows.uptoBulkAll], fun _ _ => by simp [Rows.uptoBulkAll]⟩
theorem contract (H : Type) (enc : TypeId × Value → H) (W : World) (base : Nat) (args : Array Value) (ds gs : List (DataW H)) (before : List MemPlace)
    (hval : ∀ (j : Nat) t v, Tryd.f3.params[j]? = some t → args[j]? = some v → Value.okWide Tryd.prog W .any base t v)
    (hW : DataW.Whole enc Tryd.prog Tryd.f3.params.toList Rows.jsonBlanksSpec.vars false W args.toList ds gs before) (hL : laidMetH Tryd.prog Rows.jsonBlanksUptoRow.laid W) (hbd : Rows.uptoBulkAll (ds ++ gs) ≤ 1048576)
    (hsz : (DataW.weightsEach Tryd.prog Tryd.f3.params.toList (ds ++ gs)).all (· ≤ reachBytes) = true) :
    Calls Tryd.prog 3 args W fun e W' => ∃ v, e = .returned v ∧ Rows.jsonBlanksSpec.post enc Tryd.prog Tryd.f3 false true false false W args v W' := by
  refine law_post (E := 46) (L := Sx.YtmbakmdgmccgiabDoor.LS) (hL := lay_of hL) (fn := Tryd.f3) (ps := ps) (tb := 4) (run := Sx.YtmbakmdgmccgiabDoor.jsonBlanks 9223372036854776000) (bound := 1048576) (LawOK.of (Sx.YtmbakmdgmccgiabDoor.ok_jsonBlanks 9223372036854776000)) bulks hsz
    (fun ys hok hs hb => Sx.YtmbakmdgmccgiabDoor.jsonBlanks_f ys.1 ys.2.1 hok.1 hb) ⟨base, hval⟩ hW hbd rfl (by kernel_rfl) (by kernel_rfl) Tryd.underlying4 (fun l hl => ?_)
  match l, hl with
  | [_, _], _ => exact ⟨rfl, rfl, rfl⟩
theorem reads (os : Os) {H : Type} (enc : TypeId × Value → H) : ∃ places, DataW.whole enc Tryd.prog ((laidWorld os).forCall (fun _ _ => 0) ⟨#[], #[.agg #[.int .i64 0, .bool false, .string ⟨#[]⟩, .int .i64 0, .bool false, .slice none 0 0, .slice none 0 0], .slice none 0 0], []⟩).memory Tryd.f3.params.toList Rows.jsonBlanksSpec.vars false (#[.agg #[.int .i64 0, .bool false, .string ⟨#[]⟩, .int .i64 0, .bool false, .slice none 0 0, .slice none 0 0], .slice none 0 0] : Array Value).toList 8 = some ([.agg [.lit (.int .i64 0), .lit (.bool false), .lit (.string []), .lit (.int .i64 0), .lit (.bool false), .nil, .nil], .nil], [], places) :=
  ⟨[], by kernel_rfl⟩
set_option maxRecDepth 100000 in
theorem lifted (os : Os) (started : os.Started) (H : Type) (enc : TypeId × Value → H) (F : Stop.Interp) :
    ReturnsInHanded {} Tryd.checked os 3 .any ((Rows.OpenSpec.upto Rows.jsonBlanksSpec).preRow enc Tryd.prog Tryd.f3 Rows.jsonBlanksUptoRow.domain false Rows.jsonBlanksUptoRow.laid) (((Rows.OpenSpec.upto Rows.jsonBlanksSpec).at F).post enc Tryd.prog Tryd.f3 false true false false) := by
  obtain ⟨places, hx⟩ := reads os enc
  refine returnsInHanded_of_row (C := Tryd.checked) (s := Rows.OpenSpec.upto Rows.jsonBlanksSpec) own started (by kernel_rfl) Tryd.func3
    (witness_row_atRef (enc := enc) (C := Tryd.checked) false (laidWorld os) #[.agg #[.int .i64 0, .bool false, .string ⟨#[]⟩, .int .i64 0, .bool false, .slice none 0 0, .slice none 0 0], .slice none 0 0] rfl (by kernel_rfl) (by kernel_rfl) (by kernel_rfl)
      (OpenSpec.preRow_of_cond 8 hx (by kernel_rfl) (fun k hk => by cases hk; kernel_rfl) (by kernel_rfl) (laidWorld_met os _))) ?_
  intro W base args ds gs before hval hW _ hcond hsz hL _ _
  exact contract H enc W base args ds gs before hval hW hL (of_decide_eq_true (hcond _ rfl)) hsz
theorem over : Rows.jsonBlanksUptoRow.holds Tryd.pinned (Rows.OpenSpec.upto Rows.jsonBlanksSpec) :=
  OpenClaim.holds_of_cond 3 Tryd.f3 rfl rfl rfl rfl rfl rfl rfl ⟨rfl, rfl, rfl, rfl, rfl⟩ rfl rfl rfl rfl rfl (by kernel_rfl) Tryd.func3 (by kernel_rfl)
    (of_decide_eq_true (by kernel_rfl)) (by unfold Func.isWrapper; first | (rw [if_pos (by decide +kernel)]; kernel_rfl) | (rw [if_neg (by decide +kernel)]; exact ⟨rfl, rfl⟩))
    (fun os started H enc _ F => by rw [OpenClaim.pre_eq_preRow]; exact lifted os started H enc F)
theorem noStandIn : (Tryd.f3.params.toList.all fun t => Tryd.prog.wantsStandIn t == false) = true := by kernel_rfl
theorem proved : Rows.JsonBlanksUptoCardSaid :=
  Claim7.holds_tied_plain_at .later [] [.data, .pinned] true (true, "6a3f757670a56f2379f1e1ff41c54d5c00584fbf2ae34dc2fcecccebcdb4c964") true
    over (fun _ h => by cases h) (by kernel_rfl) (fun _ h => by cases h) jsonBlanksUpto_row_tie rfl ⟨rfl, rfl⟩ (by kernel_rfl) rfl
    (fun f fn hf hfn => by
      obtain rfl : f = 3 := Option.some.inj ((show Tryd.prog.funcNamed "turnstile/turnstilelaw06.JsonBlanks" = some 3 by kernel_rfl).symm.trans hf) |>.symm
      obtain rfl : fn = Tryd.f3 := (Option.some.inj (Tryd.func3.symm.trans hfn)).symm
      exact ⟨by kernel_rfl, fun j t ht => by
        have hm : t ∈ Tryd.f3.params.toList := Array.mem_toList_iff.2 (Array.mem_of_getElem? ht)
        have := List.all_eq_true.1 noStandIn t hm
        show Tryd.prog.wantsStandIn t = false
        exact eq_of_beq this⟩)
    (by kernel_rfl)
end Go.Proofs.YtmbakmdgmccgiabDoor.jsonBlanks
#print axioms Go.Proofs.YtmbakmdgmccgiabDoor.jsonBlanks.proved
