/- MacPieces answers true at every input and leaves its arguments as they were; the listed variables are tied to the text. -/
import Derived.Test.YtfgkjcpcljfpdaaDoorSx25
import Derived.Test.YtfgkjcpcljfpdaaDoorWQ
import Derived.Test.YtfgkjcpcljfpdaaDoorCards
import Derived.Test.YtfgkjcpcljfpdaaDoorTie
import Derived.WalkKit
import Derived.ProofKit
import Derived.OpenShut
import Derived.ChangeVars
import Derived.JoinedOf
import Derived.RowKit
import Derived.LaidLaws
import Derived.LaidHandle
import Derived.SevenTiedAt
set_option maxRecDepth 100000
namespace Go.Proofs.YtfgkjcpcljfpdaaDoor.macPieces
open Go.ChangeShapes Go.WideShapes Go.ChangeAt Go.RowKit Go.Sx
set_option linter.unusedVariables false
theorem own : ownKnob Tryd.prog.godebug = none := by kernel_rfl
theorem lay_of {W : World} (h : laidMetH Tryd.prog Rows.macPiecesRow.laid W) : ∀ R : Part, (∀ b o, W.heap[b]? = some o → R b = some o) → Sx.YtfgkjcpcljfpdaaDoor.LG R := by
  intro R hR p hp
  have h' : laidMet Tryd.prog [("turnstile/sha.constants", DataW.agg (Sx.YtfgkjcpcljfpdaaDoor.cK.map fun x => .lit (.int .u32 x))), ("turnstile/sha.first", DataW.agg (Sx.YtfgkjcpcljfpdaaDoor.cF.map fun x => .lit (.int .u32 x)))] W := h
  rcases List.mem_cons.1 hp with rfl | hp
  · obtain ⟨hl, ty, fr, hh⟩ := laid_ints h' (n := "turnstile/sha.constants") (xs := Sx.YtfgkjcpcljfpdaaDoor.cK) (g := 1) (N := 64) (t := 71) (e := 59) (k := .u32) (List.mem_cons_self ..) (by kernel_rfl) (by kernel_rfl) (by kernel_rfl) (by kernel_rfl) (by kernel_rfl) (by kernel_rfl)
    exact ⟨_, ty, fr, hR _ _ hh, ints_rd hl (by decide +kernel)⟩
  rcases List.mem_cons.1 hp with rfl | hp
  · obtain ⟨hl, ty, fr, hh⟩ := laid_ints h' (n := "turnstile/sha.first") (xs := Sx.YtfgkjcpcljfpdaaDoor.cF) (g := 0) (N := 8) (t := 60) (e := 59) (k := .u32) (List.mem_cons_of_mem _ (List.mem_cons_self ..)) (by kernel_rfl) (by kernel_rfl) (by kernel_rfl) (by kernel_rfl) (by kernel_rfl) (by kernel_rfl)
    exact ⟨_, ty, fr, hR _ _ hh, ints_rd hl (by decide +kernel)⟩
  cases hp
/-- a world that meets the condition. -/
noncomputable def laidWorld (os : Os) : World :=
  let w0 := World.holding Tryd.prog os ⟨#[], #[], []⟩
  { w0 with heap := ((w0.heap.modify 1 fun
      | .cells _ t frozen => .cells (Sx.YtfgkjcpcljfpdaaDoor.cK.map (Value.int .u32)).toArray t frozen
      | o => o).modify 0 fun
      | .cells _ t frozen => .cells (Sx.YtfgkjcpcljfpdaaDoor.cF.map (Value.int .u32)).toArray t frozen
      | o => o) }
theorem laidWorld_met (os : Os) (args : Array Value) : laidMetH Tryd.prog Rows.macPiecesRow.laid ((laidWorld os).forCall (fun _ _ => 0) ⟨#[], args, []⟩).memory :=
  laidMetH_of_parts (laidMet_of_run' 8 (by kernel_rfl) (by kernel_rfl)) (by kernel_rfl)
theorem le_reach {n : Nat} (h : n * Tryd.prog.bytesOf 5 ≤ reachBytes) : n ≤ 140737488351232 := by
  have e : Tryd.prog.bytesOf 5 = 1 := by kernel_rfl
  rw [e] at h
  have : reachBytes = 140737488351232 := by decide
  omega
def ps : List Pm := [(.list (.int .u8), false), (.list (.int .u8), false), (.list (.int .i64), false)]
theorem bulks {H : Type} : BulkLaw (H := H) Rows.uptoBulk Rows.uptoBulkAll :=
  ⟨fun _ => by simp [Rows.uptoBulk], fun _ _ => by simp [Rows.uptoBulk], fun _ => by simp [Rows.uptoBulk], by simp [Rows.uptoBulk], fun _ _ => by simp [Rows.uptoBulk], fun _ => by simp [Rows.uptoBulk], by simp [Rows.uptoBulkAll], fun _ _ => by simp [Rows.uptoBulkAll]⟩
theorem contract (H : Type) (enc : TypeId × Value → H) (W : World) (base : Nat) (args : Array Value) (ds gs : List (DataW H)) (before : List MemPlace)
    (hval : ∀ (j : Nat) t v, Tryd.f4.params[j]? = some t → args[j]? = some v → Value.okWide Tryd.prog W .any base t v)
    (hW : DataW.Whole enc Tryd.prog Tryd.f4.params.toList Rows.macPiecesSpec.vars false W args.toList ds gs before) (hL : laidMetH Tryd.prog Rows.macPiecesRow.laid W)
    (hsz : (DataW.weightsEach Tryd.prog Tryd.f4.params.toList (ds ++ gs)).all (· ≤ reachBytes) = true) :
    Calls Tryd.prog 4 args W fun e W' => ∃ v, e = .returned v ∧ Rows.macPiecesSpec.post enc Tryd.prog Tryd.f4 false true false false W args v W' := by
  refine law_post (E := 74) (L := Sx.YtfgkjcpcljfpdaaDoor.LG) (hL := lay_of hL) (fn := Tryd.f4) (ps := ps) (tb := 4) (run := Sx.YtfgkjcpcljfpdaaDoor.macPieces 281474976710700) (bound := Rows.uptoBulkAll (ds ++ gs)) (Sx.YtfgkjcpcljfpdaaDoor.ok_macPieces 281474976710700) bulks hsz
    (fun ys hok hs hb => Sx.YtfgkjcpcljfpdaaDoor.macPieces_true ys.1 ys.2.1 ys.2.2.1 (le_reach (show List.length ys.1 * Tryd.prog.bytesOf 5 ≤ reachBytes from hs.1.1)) (le_reach (show List.length ys.2.1 * Tryd.prog.bytesOf 5 ≤ reachBytes from hs.2.1.1))) ⟨base, hval⟩ hW (Nat.le_refl _) rfl (by kernel_rfl) (by kernel_rfl) Tryd.underlying4 (fun l hl => ?_)
  match l, hl with
  | [_, _, _], _ => exact ⟨rfl, rfl, rfl⟩
set_option maxRecDepth 100000 in
theorem lifted (os : Os) (started : os.Started) (H : Type) (enc : TypeId × Value → H) :
    ReturnsInHanded {} Tryd.checked os 4 .any (fun w args => (Rows.macPiecesSpec.pre enc Tryd.prog Tryd.f4 [] false w args ∧ laidMetH Tryd.prog Rows.macPiecesRow.laid w) ∧ sizedMet enc Tryd.prog Tryd.f4 (OpenSpec.ofChange Rows.macPiecesSpec) false w args)
      (Rows.macPiecesSpec.post enc Tryd.prog Tryd.f4 false true false false) := by
  refine returnsInHanded_of_change_and (C := Tryd.checked) (X := fun w _ => laidMetH Tryd.prog Rows.macPiecesRow.laid w) (fun _ _ _ hh h => h.of_heap hh) own started (by kernel_rfl) Tryd.func4
    (ChangeSpec.witness_at (enc := enc) (C := Tryd.checked) (os := os) (X := fun w _ => laidMetH Tryd.prog Rows.macPiecesRow.laid w) false (laidWorld os) #[.slice none 0 0, .slice none 0 0, .slice none 0 0] 8 rfl (by kernel_rfl) (by kernel_rfl) (by kernel_rfl) (by kernel_rfl) (by kernel_rfl) (laidWorld_met os _)) ?_
  intro W base args ds gs before hval0 hW _ hsz hL _
  exact contract H enc W base args ds gs before hval0 hW hL hsz
theorem over : Rows.macPiecesRow.holds Tryd.pinned (OpenSpec.ofChange Rows.macPiecesSpec) :=
  OpenClaim.holds_of_wide 4 Tryd.f4 rfl rfl rfl rfl rfl rfl rfl ⟨rfl, rfl, rfl, rfl, rfl⟩ rfl rfl rfl rfl rfl (by kernel_rfl) Tryd.func4 (by kernel_rfl)
    (of_decide_eq_true (by kernel_rfl)) (by unfold Func.isWrapper; first | (rw [if_pos (by decide +kernel)]; kernel_rfl) | (rw [if_neg (by decide +kernel)]; exact ⟨rfl, rfl⟩))
    (fun os started H enc _ => lifted os started H enc)
theorem noStandIn : (Tryd.f4.params.toList.all fun t => Tryd.prog.wantsStandIn t == false) = true := by kernel_rfl
theorem proved : Rows.MacPiecesCardSaid :=
  Claim7.holds_tied_plain_at .later [] [.data, .data] true (true, "c055b08ee5acabcf9dd69e06153c5b39aa08476141560794c5375d7bb7efe7e5") false
    over (fun _ h => by cases h) (by kernel_rfl) (fun _ h => by cases h) macPieces_row_tie rfl ⟨rfl, rfl⟩ (by kernel_rfl) rfl
    (fun f fn hf hfn => by
      obtain rfl : f = 4 := Option.some.inj ((show Tryd.prog.funcNamed "turnstile/turnstilelaw04.MacPieces" = some 4 by kernel_rfl).symm.trans hf) |>.symm
      obtain rfl : fn = Tryd.f4 := (Option.some.inj (Tryd.func4.symm.trans hfn)).symm
      exact ⟨by kernel_rfl, fun j t ht => by
        have hm : t ∈ Tryd.f4.params.toList := Array.mem_toList_iff.2 (Array.mem_of_getElem? ht)
        have := List.all_eq_true.1 noStandIn t hm
        show Tryd.prog.wantsStandIn t = false
        exact eq_of_beq this⟩)
    (by kernel_rfl)
end Go.Proofs.YtfgkjcpcljfpdaaDoor.macPieces
#print axioms Go.Proofs.YtfgkjcpcljfpdaaDoor.macPieces.proved
