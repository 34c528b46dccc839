/- MacHashes answers true where what it reads is of bulk at most 1048576, and leaves its arguments as they were; the listed variables are tied to the text. -/
import Derived.Test.YtfgkjcpcljfpdaaDoorSx25
import Derived.Test.YtfgkjcpcljfpdaaDoorWR
import Derived.Test.YtfgkjcpcljfpdaaDoorCards
import Derived.Test.YtfgkjcpcljfpdaaDoorTie
import Derived.WalkKit
import Derived.ProofKit
import Derived.OpenShut
import Derived.JoinedCond
import Derived.Deep.DeepHandedRow
import Derived.ChangeVars
import Derived.JoinedOf
import Derived.RowKit
import Derived.LaidLaws
import Derived.LaidHandle
import Derived.SevenTiedAt
set_option maxRecDepth 100000
namespace Go.Proofs.YtfgkjcpcljfpdaaDoor.macHashes
open Go.ChangeShapes Go.WideShapes Go.ChangeAt Go.RowKit Go.Sx
set_option linter.unusedVariables false
theorem own : ownKnob Tryd.prog.godebug = none := by kernel_rfl
theorem lay_of {W : World} (h : laidMetH Tryd.prog Rows.macHashesUptoRow.laid W) : ∀ R : Part, (∀ b o, W.heap[b]? = some o → R b = some o) → Sx.YtfgkjcpcljfpdaaDoor.LG R := by
  intro R hR p hp
  have h' : laidMet Tryd.prog [("turnstile/sha.constants", DataW.agg (Sx.YtfgkjcpcljfpdaaDoor.cK.map fun x => .lit (.int .u32 x))), ("turnstile/sha.first", DataW.agg (Sx.YtfgkjcpcljfpdaaDoor.cF.map fun x => .lit (.int .u32 x)))] W := h
  rcases List.mem_cons.1 hp with rfl | hp
  · obtain ⟨hl, ty, fr, hh⟩ := laid_ints h' (n := "turnstile/sha.constants") (xs := Sx.YtfgkjcpcljfpdaaDoor.cK) (g := 1) (N := 64) (t := 71) (e := 59) (k := .u32) (List.mem_cons_self ..) (by kernel_rfl) (by kernel_rfl) (by kernel_rfl) (by kernel_rfl) (by kernel_rfl) (by kernel_rfl)
    exact ⟨_, ty, fr, hR _ _ hh, ints_rd hl (by decide +kernel)⟩
  rcases List.mem_cons.1 hp with rfl | hp
  · obtain ⟨hl, ty, fr, hh⟩ := laid_ints h' (n := "turnstile/sha.first") (xs := Sx.YtfgkjcpcljfpdaaDoor.cF) (g := 0) (N := 8) (t := 60) (e := 59) (k := .u32) (List.mem_cons_of_mem _ (List.mem_cons_self ..)) (by kernel_rfl) (by kernel_rfl) (by kernel_rfl) (by kernel_rfl) (by kernel_rfl) (by kernel_rfl)
    exact ⟨_, ty, fr, hR _ _ hh, ints_rd hl (by decide +kernel)⟩
  cases hp
/-- a world that meets the condition. -/
noncomputable def laidWorld (os : Os) : World :=
  let w0 := World.holding Tryd.prog os ⟨#[], #[], []⟩
  { w0 with heap := ((w0.heap.modify 1 fun
      | .cells _ t frozen => .cells (Sx.YtfgkjcpcljfpdaaDoor.cK.map (Value.int .u32)).toArray t frozen
      | o => o).modify 0 fun
      | .cells _ t frozen => .cells (Sx.YtfgkjcpcljfpdaaDoor.cF.map (Value.int .u32)).toArray t frozen
      | o => o) }
theorem laidWorld_met (os : Os) (args : Array Value) : laidMetH Tryd.prog Rows.macHashesUptoRow.laid ((laidWorld os).forCall (fun _ _ => 0) ⟨#[], args, []⟩).memory :=
  laidMetH_of_parts (laidMet_of_run' 8 (by kernel_rfl) (by kernel_rfl)) (by kernel_rfl)
theorem le_reach {n : Nat} (h : n * Tryd.prog.bytesOf 5 ≤ reachBytes) : n ≤ 140737488351232 := by
  have e : Tryd.prog.bytesOf 5 = 1 := by kernel_rfl
  rw [e] at h
  have : reachBytes = 140737488351232 := by decide
  omega
def ps : List Pm := [(.str, false), (.list .str, false), (.int .u64, false)]
theorem bulks {H : Type} : BulkLaw (H := H) Rows.uptoBulk Rows.uptoBulkAll :=
  ⟨fun _ => by simp [Rows.uptoBulk], fun _ _ => by simp [Rows.uptoBulk], fun _ => by simp [Rows.uptoBulk], by simp [Rows.uptoBulk], fun _ _ => by simp [Rows.uptoBulk], fun _ => by simp [Rows.uptoBulk], by simp [Rows.uptoBulkAll], fun _ _ => by simp [Rows.uptoBulkAll]⟩
theorem contract (H : Type) (enc : TypeId × Value → H) (W : World) (base : Nat) (args : Array Value) (ds gs : List (DataW H)) (before : List MemPlace)
    (hval : ∀ (j : Nat) t v, Tryd.f3.params[j]? = some t → args[j]? = some v → Value.okWide Tryd.prog W .any base t v)
    (hW : DataW.Whole enc Tryd.prog Tryd.f3.params.toList Rows.macHashesSpec.vars false W args.toList ds gs before) (hL : laidMetH Tryd.prog Rows.macHashesUptoRow.laid W) (hbd : Rows.uptoBulkAll (ds ++ gs) ≤ 1048576)
    (hsz : (DataW.weightsEach Tryd.prog Tryd.f3.params.toList (ds ++ gs)).all (· ≤ reachBytes) = true) :
    Calls Tryd.prog 3 args W fun e W' => ∃ v, e = .returned v ∧ Rows.macHashesSpec.post enc Tryd.prog Tryd.f3 false true false false W args v W' := by
  refine law_post (E := 74) (L := Sx.YtfgkjcpcljfpdaaDoor.LG) (hL := lay_of hL) (fn := Tryd.f3) (ps := ps) (tb := 4) (run := Sx.YtfgkjcpcljfpdaaDoor.macHashes 281474976710700) (bound := 1048576) (Sx.YtfgkjcpcljfpdaaDoor.ok_macHashes 281474976710700) bulks hsz
    (fun ys hok hs hb => Sx.YtfgkjcpcljfpdaaDoor.macHashes_true ys.1 ys.2.1 ys.2.2.1 (by have : K.bulk .str ys.1 + (K.bulk (.list .str) ys.2.1 + (1 + 0)) ≤ 1048576 := hb; have e : K.bulk .str ys.1 = List.length ys.1 + 1 := rfl; omega) (by have : K.bulk .str ys.1 + (K.bulk (.list .str) ys.2.1 + (1 + 0)) ≤ 1048576 := hb; have e : K.bulk (.list .str) ys.2.1 = (List.map (fun s => K.bulk .str s) ys.2.1).sum + 1 := rfl; have := (Sx.YtfgkjcpcljfpdaaDoor.bulk_flat ys.2.1).1; omega) (by have : K.bulk .str ys.1 + (K.bulk (.list .str) ys.2.1 + (1 + 0)) ≤ 1048576 := hb; have e : K.bulk (.list .str) ys.2.1 = (List.map (fun s => K.bulk .str s) ys.2.1).sum + 1 := rfl; have := Sx.YtfgkjcpcljfpdaaDoor.bulk_flat ys.2.1; omega) (Sx.YtfgkjcpcljfpdaaDoor.u64_of hok.2.2.1)) ⟨base, hval⟩ hW hbd rfl (by kernel_rfl) (by kernel_rfl) Tryd.underlying4 (fun l hl => ?_)
  match l, hl with
  | [_, _, _], _ => exact ⟨rfl, rfl, rfl⟩
theorem reads (os : Os) {H : Type} (enc : TypeId × Value → H) : ∃ places, DataW.whole enc Tryd.prog ((laidWorld os).forCall (fun _ _ => 0) ⟨#[], #[.string ⟨#[]⟩, .slice none 0 0, .int .u64 0], []⟩).memory Tryd.f3.params.toList Rows.macHashesSpec.vars false (#[.string ⟨#[]⟩, .slice none 0 0, .int .u64 0] : Array Value).toList 8 = some ([.lit (.string []), .nil, .lit (.int .u64 0)], [], places) :=
  ⟨[], by kernel_rfl⟩
set_option maxRecDepth 100000 in
theorem lifted (os : Os) (started : os.Started) (H : Type) (enc : TypeId × Value → H) (F : Stop.Interp) :
    ReturnsInHanded {} Tryd.checked os 3 .any ((Rows.OpenSpec.upto Rows.macHashesSpec).preRow enc Tryd.prog Tryd.f3 Rows.macHashesUptoRow.domain false Rows.macHashesUptoRow.laid) (((Rows.OpenSpec.upto Rows.macHashesSpec).at F).post enc Tryd.prog Tryd.f3 false true false false) := by
  obtain ⟨places, hx⟩ := reads os enc
  refine returnsInHanded_of_row (C := Tryd.checked) (s := Rows.OpenSpec.upto Rows.macHashesSpec) own started (by kernel_rfl) Tryd.func3
    (witness_row_at (enc := enc) (C := Tryd.checked) false (laidWorld os) #[.string ⟨#[]⟩, .slice none 0 0, .int .u64 0] rfl (by kernel_rfl) (by kernel_rfl) (by kernel_rfl)
      (OpenSpec.preRow_of_cond 8 hx (by kernel_rfl) (fun k hk => by cases hk; kernel_rfl) (by kernel_rfl) (laidWorld_met os _))) ?_
  intro W base args ds gs before hval hW _ hcond hsz hL _ _
  exact contract H enc W base args ds gs before hval hW hL (of_decide_eq_true (hcond _ rfl)) hsz
theorem over : Rows.macHashesUptoRow.holds Tryd.pinned (Rows.OpenSpec.upto Rows.macHashesSpec) :=
  OpenClaim.holds_of_cond 3 Tryd.f3 rfl rfl rfl rfl rfl rfl rfl ⟨rfl, rfl, rfl, rfl, rfl⟩ rfl rfl rfl rfl rfl (by kernel_rfl) Tryd.func3 (by kernel_rfl)
    (of_decide_eq_true (by kernel_rfl)) (by unfold Func.isWrapper; first | (rw [if_pos (by decide +kernel)]; kernel_rfl) | (rw [if_neg (by decide +kernel)]; exact ⟨rfl, rfl⟩))
    (fun os started H enc _ F => by rw [OpenClaim.pre_eq_preRow]; exact lifted os started H enc F)
theorem noStandIn : (Tryd.f3.params.toList.all fun t => Tryd.prog.wantsStandIn t == false) = true := by kernel_rfl
theorem proved : Rows.MacHashesUptoCardSaid :=
  Claim7.holds_tied_plain_at .later [] [.data, .data] true (true, "c055b08ee5acabcf9dd69e06153c5b39aa08476141560794c5375d7bb7efe7e5") false
    over (fun _ h => by cases h) (by kernel_rfl) (fun _ h => by cases h) macHashesUpto_row_tie rfl ⟨rfl, rfl⟩ (by kernel_rfl) rfl
    (fun f fn hf hfn => by
      obtain rfl : f = 3 := Option.some.inj ((show Tryd.prog.funcNamed "turnstile/turnstilelaw04.MacHashes" = some 3 by kernel_rfl).symm.trans hf) |>.symm
      obtain rfl : fn = Tryd.f3 := (Option.some.inj (Tryd.func3.symm.trans hfn)).symm
      exact ⟨by kernel_rfl, fun j t ht => by
        have hm : t ∈ Tryd.f3.params.toList := Array.mem_toList_iff.2 (Array.mem_of_getElem? ht)
        have := List.all_eq_true.1 noStandIn t hm
        show Tryd.prog.wantsStandIn t = false
        exact eq_of_beq this⟩)
    (by kernel_rfl)
end Go.Proofs.YtfgkjcpcljfpdaaDoor.macHashes
#print axioms Go.Proofs.YtfgkjcpcljfpdaaDoor.macHashes.proved
