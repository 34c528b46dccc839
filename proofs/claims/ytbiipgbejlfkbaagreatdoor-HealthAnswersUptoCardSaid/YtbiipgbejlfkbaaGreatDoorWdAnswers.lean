/- HealthAnswers answers true where what it reads is of bulk at most 1048576, and leaves its arguments as they were; the listed variables are tied to the text. -/
import Derived.Test.YtbiipgbejlfkbaaGreatDoorWy
import Derived.Test.YtbiipgbejlfkbaaGreatDoorCards
import Derived.Test.YtbiipgbejlfkbaaGreatDoorTie
import Derived.WalkKit
import Derived.ProofKit
import Derived.OpenShut
import Derived.JoinedCond
import Derived.Deep.DeepHandedRow
import Derived.Deep.DeepWitnessRowRef
import Derived.ChangeVars
import Derived.JoinedOf
import Derived.RowKit
import Derived.LaidLaws
import Derived.LaidHandle
import Derived.SevenTiedAt
set_option maxRecDepth 100000
namespace Go.Proofs.YtbiipgbejlfkbaaGreatDoor.healthAnswers
open Go.ChangeShapes Go.WideShapes Go.ChangeAt Go.RowKit Go.Sx
set_option linter.unusedVariables false
theorem own : ownKnob Tryz.prog.godebug = none := by kernel_rfl
theorem lay_of {W : World} (h : laidMetH Tryz.prog Rows.healthAnswersUptoRow.laid W) : ∀ R : Part, (∀ b o, W.heap[b]? = some o → R b = some o) → Sx.YtbiipgbejlfkbaaGreatDoor.LS R := LS_of (show laidMet Tryz.prog LD W from h)
theorem laidWorld_met (os : Os) (args : Array Value) : laidMetH Tryz.prog Rows.healthAnswersUptoRow.laid ((laidWorld os).forCall (fun _ _ => 0) ⟨#[], args, []⟩).memory :=
  laidMetH_of_parts (laid_met os args) (by kernel_rfl)
def ps : List Pm := [(.pair .bool (.pair (.int .i64) (.pair (.int .i64) (.pair (.int .i64) .unit))), true), (.pair .str (.pair (.int .i64) (.pair (.int .i64) (.pair (.int .i64) (.pair (.int .i64) .unit)))), true), (.int .i64, false)]
theorem bulks {H : Type} : BulkLaw (H := H) Rows.uptoBulk Rows.uptoBulkAll :=
  ⟨fun _ => by simp [Rows.uptoBulk], fun _ _ => by simp [Rows.uptoBulk], fun _ => by simp [Rows.uptoBulk], by simp [Rows.uptoBulk], fun _ _ => by simp [Rows.uptoBulk], fun _ => by simp [Rows.uptoBulk], by simp [Rows.uptoBulkAll], fun _ _ => by simp [Rows.uptoBulkAll]⟩
theorem contract (H : Type) (enc : TypeId × Value → H) (W : World) (base : Nat) (args : Array Value) (ds gs : List (DataW H)) (before : List MemPlace)
    (hval : ∀ (j : Nat) t v, Tryz.f3.params[j]? = some t → args[j]? = some v → Value.okWide Tryz.prog W .any base t v)
    (hW : DataW.Whole enc Tryz.prog Tryz.f3.params.toList Rows.healthAnswersSpec.vars false W args.toList ds gs before) (hL : laidMetH Tryz.prog Rows.healthAnswersUptoRow.laid W) (hbd : Rows.uptoBulkAll (ds ++ gs) ≤ 1048576)
    (hsz : (DataW.weightsEach Tryz.prog Tryz.f3.params.toList (ds ++ gs)).all (· ≤ reachBytes) = true) :
    Calls Tryz.prog 3 args W fun e W' => ∃ v, e = .returned v ∧ Rows.healthAnswersSpec.post enc Tryz.prog Tryz.f3 false true false false W args v W' := by
  refine law_post (E := 51) (L := Sx.YtbiipgbejlfkbaaGreatDoor.LS) (hL := lay_of hL) (fn := Tryz.f3) (ps := ps) (tb := 4) (run := Sx.YtbiipgbejlfkbaaGreatDoor.healthAnswers 281474976710700) (bound := 1048576) (Sx.YtbiipgbejlfkbaaGreatDoor.ok_healthAnswers 281474976710700) bulks hsz
    (fun ys hok hs hb => Sx.YtbiipgbejlfkbaaGreatDoor.healthAnswers_f (Sx.YtbiipgbejlfkbaaGreatDoor.tx_of hok.2.1 hb) (Sx.YtbiipgbejlfkbaaGreatDoor.i64_of hok.1.2.1) (Sx.YtbiipgbejlfkbaaGreatDoor.i64_of hok.1.2.2.1) (Sx.YtbiipgbejlfkbaaGreatDoor.i64_of hok.1.2.2.2.1)) ⟨base, hval⟩ hW hbd rfl (by kernel_rfl) (by kernel_rfl) Tryz.underlying4 (fun l hl => ?_)
  match l, hl with
  | [_, _, _], _ => exact ⟨rfl, rfl, rfl⟩
theorem reads (os : Os) {H : Type} (enc : TypeId × Value → H) : ∃ places, DataW.whole enc Tryz.prog ((laidWorld os).forCall (fun _ _ => 0) ⟨#[], #[.agg #[.bool false, .int .i64 0, .int .i64 0, .int .i64 0], .agg #[.string ⟨#[]⟩, .int .i64 0, .int .i64 0, .int .i64 0, .int .i64 0], .int .i64 0], []⟩).memory Tryz.f3.params.toList Rows.healthAnswersSpec.vars false (#[.agg #[.bool false, .int .i64 0, .int .i64 0, .int .i64 0], .agg #[.string ⟨#[]⟩, .int .i64 0, .int .i64 0, .int .i64 0, .int .i64 0], .int .i64 0] : Array Value).toList 8 = some ([.agg [.lit (.bool false), .lit (.int .i64 0), .lit (.int .i64 0), .lit (.int .i64 0)], .agg [.lit (.string []), .lit (.int .i64 0), .lit (.int .i64 0), .lit (.int .i64 0), .lit (.int .i64 0)], .lit (.int .i64 0)], [], places) :=
  ⟨[], by kernel_rfl⟩
set_option maxRecDepth 100000 in
theorem lifted (os : Os) (started : os.Started) (H : Type) (enc : TypeId × Value → H) (F : Stop.Interp) :
    ReturnsInHanded {} Tryz.checked os 3 .any ((Rows.OpenSpec.upto Rows.healthAnswersSpec).preRow enc Tryz.prog Tryz.f3 Rows.healthAnswersUptoRow.domain false Rows.healthAnswersUptoRow.laid) (((Rows.OpenSpec.upto Rows.healthAnswersSpec).at F).post enc Tryz.prog Tryz.f3 false true false false) := by
  obtain ⟨places, hx⟩ := reads os enc
  refine returnsInHanded_of_row (C := Tryz.checked) (s := Rows.OpenSpec.upto Rows.healthAnswersSpec) own started (by kernel_rfl) Tryz.func3
    (witness_row_atRef (enc := enc) (C := Tryz.checked) false (laidWorld os) #[.agg #[.bool false, .int .i64 0, .int .i64 0, .int .i64 0], .agg #[.string ⟨#[]⟩, .int .i64 0, .int .i64 0, .int .i64 0, .int .i64 0], .int .i64 0] rfl (by kernel_rfl) (by kernel_rfl) (by kernel_rfl)
      (OpenSpec.preRow_of_cond 8 hx (by kernel_rfl) (fun k hk => by cases hk; kernel_rfl) (by kernel_rfl) (laidWorld_met os _))) ?_
  intro W base args ds gs before hval hW _ hcond hsz hL _ _
  exact contract H enc W base args ds gs before hval hW hL (of_decide_eq_true (hcond _ rfl)) hsz
theorem over : Rows.healthAnswersUptoRow.holds Tryz.pinned (Rows.OpenSpec.upto Rows.healthAnswersSpec) :=
  OpenClaim.holds_of_cond 3 Tryz.f3 rfl rfl rfl rfl rfl rfl rfl ⟨rfl, rfl, rfl, rfl, rfl⟩ rfl rfl rfl rfl rfl (by kernel_rfl) Tryz.func3 (by kernel_rfl)
    (of_decide_eq_true (by kernel_rfl)) (by unfold Func.isWrapper; first | (rw [if_pos (by decide +kernel)]; kernel_rfl) | (rw [if_neg (by decide +kernel)]; exact ⟨rfl, rfl⟩))
    (fun os started H enc _ F => by rw [OpenClaim.pre_eq_preRow]; exact lifted os started H enc F)
theorem noStandIn : (Tryz.f3.params.toList.all fun t => Tryz.prog.wantsStandIn t == false) = true := by kernel_rfl
theorem proved : Rows.HealthAnswersUptoCardSaid :=
  Claim7.holds_tied_plain_at .later [] [.data, .data, .data, .data, .pinned, .pinned] true (true, "be167f2302ff9c853a4ad6bd92d63349115af377bba4f95fbaf988e51c19f284") true
    over (fun _ h => by cases h) (by kernel_rfl) (fun _ h => by cases h) healthAnswersUpto_row_tie rfl ⟨rfl, rfl⟩ (by kernel_rfl) rfl
    (fun f fn hf hfn => by
      obtain rfl : f = 3 := Option.some.inj ((show Tryz.prog.funcNamed "turnstile/turnstilelaw24.HealthAnswers" = some 3 by kernel_rfl).symm.trans hf) |>.symm
      obtain rfl : fn = Tryz.f3 := (Option.some.inj (Tryz.func3.symm.trans hfn)).symm
      exact ⟨by kernel_rfl, fun j t ht => by
        have hm : t ∈ Tryz.f3.params.toList := Array.mem_toList_iff.2 (Array.mem_of_getElem? ht)
        have := List.all_eq_true.1 noStandIn t hm
        show Tryz.prog.wantsStandIn t = false
        exact eq_of_beq this⟩)
    (by kernel_rfl)
end Go.Proofs.YtbiipgbejlfkbaaGreatDoor.healthAnswers
#print axioms Go.Proofs.YtbiipgbejlfkbaaGreatDoor.healthAnswers.proved
