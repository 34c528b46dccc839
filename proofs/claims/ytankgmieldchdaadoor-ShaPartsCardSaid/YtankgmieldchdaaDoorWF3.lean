/- ShaParts answers true at every input and leaves its arguments as they were; the listed variables are tied to the text. -/
import Derived.Test.YtankgmieldchdaaDoorSx25
import Derived.Test.YtankgmieldchdaaDoorWQ
import Derived.Test.YtankgmieldchdaaDoorCards
import Derived.Test.YtankgmieldchdaaDoorTie
import Derived.WalkKit
import Derived.ProofKit
import Derived.OpenShut
import Derived.ChangeVars
import Derived.JoinedOf
import Derived.RowKit
import Derived.LaidLaws
import Derived.LaidHandle
import Derived.SevenTiedAt
set_option maxRecDepth 100000
namespace Go.Proofs.YtankgmieldchdaaDoor.shaParts
open Go.ChangeShapes Go.WideShapes Go.ChangeAt Go.RowKit Go.Sx
set_option linter.unusedVariables false
theorem own : ownKnob Tryd.prog.godebug = none := by kernel_rfl
theorem et : Tryd.prog.globalNamed "errors.errorType" = some 2 := by kernel_rfl
theorem rt : (Tryd.prog.cutTypes.find? (·.1 == "internal/reflectlite.rtype")).map (·.2) = some 78 := by kernel_rfl
theorem oneRow : ((List.range 119).filter fun t => Tryd.prog.rowNamed t [101, 114, 114, 111, 114]) = [43] := by kernel_rfl
theorem tsize : Tryd.prog.types.size = 119 := by kernel_rfl
/-- what the condition says of the variable's one cell. -/
theorem handle_of_laid {W : World} (h : laidMetH Tryd.prog Rows.shaPartsRow.laid W) : W.cell? ⟨2, 0, none⟩ = some Sx.YtankgmieldchdaaDoor.HND := by
  have h' : laidMet Tryd.prog [("turnstile/sha.constants", DataW.agg (Sx.YtankgmieldchdaaDoor.cK.map fun x => .lit (.int .u32 x))), ("turnstile/sha.first", DataW.agg (Sx.YtankgmieldchdaaDoor.cF.map fun x => .lit (.int .u32 x)))] W ∧ handlesMet Tryd.prog [("errors.errorType", Rows.laid_errors_errorType)] W := h
  obtain ⟨name, u, ty, e1, e2, e3, e4, e5⟩ := h'.2 _ (List.mem_singleton.2 rfl)
  have en : name = [101, 114, 114, 111, 114] := (Option.some.inj e1).symm
  subst en
  obtain rfl := Option.some.inj (rt.symm.trans e2)
  have hm : ty ∈ (List.range 119).filter fun t => Tryd.prog.rowNamed t [101, 114, 114, 111, 114] := List.mem_filter.2 ⟨List.mem_range.2 (by rw [← tsize]; exact e3), e4⟩
  rw [oneRow] at hm
  obtain rfl := List.mem_singleton.1 hm
  have hh : typeHandle Tryd.prog 43 = .pointer (some ⟨3, 43, none⟩) := by kernel_rfl
  rw [hh] at e5
  simpa using World.var?_cell et e5 0
theorem lay_hnd {W : World} (h : laidMetH Tryd.prog Rows.shaPartsRow.laid W) : ∀ R : Part, (∀ b o, W.heap[b]? = some o → R b = some o) → Sx.YtankgmieldchdaaDoor.LD R := by
  intro R hR
  have hc := handle_of_laid h
  unfold World.cell? at hc
  simp only [Option.isSome_none, Bool.false_eq_true, if_false] at hc
  split at hc
  · rename_i arr t fr hb
    exact ⟨arr, t, fr, hR _ _ hb, hc⟩
  · cases hc
theorem lay_of {W : World} (h : laidMetH Tryd.prog Rows.shaPartsRow.laid W) : ∀ R : Part, (∀ b o, W.heap[b]? = some o → R b = some o) → Sx.YtankgmieldchdaaDoor.P.LP R := by
  intro R hR
  refine ⟨lay_hnd h R hR, ?_⟩
  intro p hp
  have h' : laidMet Tryd.prog [("turnstile/sha.constants", DataW.agg (Sx.YtankgmieldchdaaDoor.cK.map fun x => .lit (.int .u32 x))), ("turnstile/sha.first", DataW.agg (Sx.YtankgmieldchdaaDoor.cF.map fun x => .lit (.int .u32 x)))] W := (show laidMet Tryd.prog [("turnstile/sha.constants", DataW.agg (Sx.YtankgmieldchdaaDoor.cK.map fun x => .lit (.int .u32 x))), ("turnstile/sha.first", DataW.agg (Sx.YtankgmieldchdaaDoor.cF.map fun x => .lit (.int .u32 x)))] W ∧ handlesMet Tryd.prog [("errors.errorType", Rows.laid_errors_errorType)] W from h).1
  rcases List.mem_cons.1 hp with rfl | hp
  · obtain ⟨hl, ty, fr, hh⟩ := laid_ints h' (n := "turnstile/sha.constants") (xs := Sx.YtankgmieldchdaaDoor.cK) (g := 1) (N := 64) (t := 38) (e := 37) (k := .u32) (List.mem_cons_self ..) (by kernel_rfl) (by kernel_rfl) (by kernel_rfl) (by kernel_rfl) (by kernel_rfl) (by kernel_rfl)
    exact ⟨_, ty, fr, hR _ _ hh, ints_rd hl (by decide +kernel)⟩
  rcases List.mem_cons.1 hp with rfl | hp
  · obtain ⟨hl, ty, fr, hh⟩ := laid_ints h' (n := "turnstile/sha.first") (xs := Sx.YtankgmieldchdaaDoor.cF) (g := 0) (N := 8) (t := 52) (e := 37) (k := .u32) (List.mem_cons_of_mem _ (List.mem_cons_self ..)) (by kernel_rfl) (by kernel_rfl) (by kernel_rfl) (by kernel_rfl) (by kernel_rfl) (by kernel_rfl)
    exact ⟨_, ty, fr, hR _ _ hh, ints_rd hl (by decide +kernel)⟩
  cases hp
/-- a world that meets the condition. -/
noncomputable def laidWorld (os : Os) : World :=
  let w0 := World.holding Tryd.prog os ⟨#[], #[], []⟩
  { w0 with heap := (((w0.heap.modify 1 fun
      | .cells _ t frozen => .cells (Sx.YtankgmieldchdaaDoor.cK.map (Value.int .u32)).toArray t frozen
      | o => o).modify 0 fun
      | .cells _ t frozen => .cells (Sx.YtankgmieldchdaaDoor.cF.map (Value.int .u32)).toArray t frozen
      | o => o).modify 2 fun
      | .cells _ t frozen => .cells #[Sx.YtankgmieldchdaaDoor.HND] t frozen
      | o => o) }
theorem laidWorld_met (os : Os) (args : Array Value) : laidMetH Tryd.prog Rows.shaPartsRow.laid ((laidWorld os).forCall (fun _ _ => 0) ⟨#[], args, []⟩).memory :=
  laidMetH_of_parts (laidMet_of_run' 8 (by kernel_rfl) (by kernel_rfl)) (by kernel_rfl)
theorem le_reach {n : Nat} (h : n * Tryd.prog.bytesOf 5 ≤ reachBytes) : n ≤ 140737488351232 := by
  have e : Tryd.prog.bytesOf 5 = 1 := by kernel_rfl
  rw [e] at h
  have : reachBytes = 140737488351232 := by decide
  omega
def ps : List Pm := [(.arr 64 (.int .u8), true), (.int .i64, false)]
theorem bulks {H : Type} : BulkLaw (H := H) Rows.uptoBulk Rows.uptoBulkAll :=
  ⟨fun _ => by simp [Rows.uptoBulk], fun _ _ => by simp [Rows.uptoBulk], fun _ => by simp [Rows.uptoBulk], by simp [Rows.uptoBulk], fun _ _ => by simp [Rows.uptoBulk], fun _ => by simp [Rows.uptoBulk], by simp [Rows.uptoBulkAll], fun _ _ => by simp [Rows.uptoBulkAll]⟩
theorem contract (H : Type) (enc : TypeId × Value → H) (W : World) (base : Nat) (args : Array Value) (ds gs : List (DataW H)) (before : List MemPlace)
    (hval : ∀ (j : Nat) t v, Tryd.f5.params[j]? = some t → args[j]? = some v → Value.okWide Tryd.prog W .any base t v)
    (hW : DataW.Whole enc Tryd.prog Tryd.f5.params.toList Rows.shaPartsSpec.vars false W args.toList ds gs before) (hL : laidMetH Tryd.prog Rows.shaPartsRow.laid W)
    (hsz : (DataW.weightsEach Tryd.prog Tryd.f5.params.toList (ds ++ gs)).all (· ≤ reachBytes) = true) :
    Calls Tryd.prog 5 args W fun e W' => ∃ v, e = .returned v ∧ Rows.shaPartsSpec.post enc Tryd.prog Tryd.f5 false true false false W args v W' := by
  refine law_post (E := 57) (L := Sx.YtankgmieldchdaaDoor.P.LP) (hL := lay_of hL) (fn := Tryd.f5) (ps := ps) (tb := 4) (run := Sx.YtankgmieldchdaaDoor.P.shaParts 281474976710700) (bound := Rows.uptoBulkAll (ds ++ gs)) (Sx.YtankgmieldchdaaDoor.P.ok_shaParts 281474976710700) bulks hsz
    (fun ys hok hs hb => Sx.YtankgmieldchdaaDoor.P.shaParts_true ys.1 ys.2.1 hok.1.1) ⟨base, hval⟩ hW (Nat.le_refl _) rfl (by kernel_rfl) (by kernel_rfl) Tryd.underlying4 (fun l hl => ?_)
  match l, hl with
  | [_, _], _ => exact ⟨rfl, rfl, rfl⟩
set_option maxRecDepth 100000 in
theorem lifted (os : Os) (started : os.Started) (H : Type) (enc : TypeId × Value → H) :
    ReturnsInHanded {} Tryd.checked os 5 .any (fun w args => (Rows.shaPartsSpec.pre enc Tryd.prog Tryd.f5 [] false w args ∧ laidMetH Tryd.prog Rows.shaPartsRow.laid w) ∧ sizedMet enc Tryd.prog Tryd.f5 (OpenSpec.ofChange Rows.shaPartsSpec) false w args)
      (Rows.shaPartsSpec.post enc Tryd.prog Tryd.f5 false true false false) := by
  refine returnsInHanded_of_change_and (C := Tryd.checked) (X := fun w _ => laidMetH Tryd.prog Rows.shaPartsRow.laid w) (fun _ _ _ hh h => h.of_heap hh) own started (by kernel_rfl) Tryd.func5
    (ChangeSpec.witness_at (enc := enc) (C := Tryd.checked) (os := os) (X := fun w _ => laidMetH Tryd.prog Rows.shaPartsRow.laid w) false (laidWorld os) #[.agg #[.int .u8 0, .int .u8 0, .int .u8 0, .int .u8 0, .int .u8 0, .int .u8 0, .int .u8 0, .int .u8 0, .int .u8 0, .int .u8 0, .int .u8 0, .int .u8 0, .int .u8 0, .int .u8 0, .int .u8 0, .int .u8 0, .int .u8 0, .int .u8 0, .int .u8 0, .int .u8 0, .int .u8 0, .int .u8 0, .int .u8 0, .int .u8 0, .int .u8 0, .int .u8 0, .int .u8 0, .int .u8 0, .int .u8 0, .int .u8 0, .int .u8 0, .int .u8 0, .int .u8 0, .int .u8 0, .int .u8 0, .int .u8 0, .int .u8 0, .int .u8 0, .int .u8 0, .int .u8 0, .int .u8 0, .int .u8 0, .int .u8 0, .int .u8 0, .int .u8 0, .int .u8 0, .int .u8 0, .int .u8 0, .int .u8 0, .int .u8 0, .int .u8 0, .int .u8 0, .int .u8 0, .int .u8 0, .int .u8 0, .int .u8 0, .int .u8 0, .int .u8 0, .int .u8 0, .int .u8 0, .int .u8 0, .int .u8 0, .int .u8 0, .int .u8 0], .int .i64 0] 8 rfl (by kernel_rfl) (by kernel_rfl) (by kernel_rfl) (by kernel_rfl) (by kernel_rfl) (laidWorld_met os _)) ?_
  intro W base args ds gs before hval0 hW _ hsz hL _
  exact contract H enc W base args ds gs before hval0 hW hL hsz
theorem over : Rows.shaPartsRow.holds Tryd.pinned (OpenSpec.ofChange Rows.shaPartsSpec) :=
  OpenClaim.holds_of_wide 5 Tryd.f5 rfl rfl rfl rfl rfl rfl rfl ⟨rfl, rfl, rfl, rfl, rfl⟩ rfl rfl rfl rfl rfl (by kernel_rfl) Tryd.func5 (by kernel_rfl)
    (of_decide_eq_true (by kernel_rfl)) (by unfold Func.isWrapper; first | (rw [if_pos (by decide +kernel)]; kernel_rfl) | (rw [if_neg (by decide +kernel)]; exact ⟨rfl, rfl⟩))
    (fun os started H enc _ => lifted os started H enc)
theorem noStandIn : (Tryd.f5.params.toList.all fun t => Tryd.prog.wantsStandIn t == false) = true := by kernel_rfl
theorem proved : Rows.ShaPartsCardSaid :=
  Claim7.holds_tied_plain_at .later [] [.handle, .data, .data] true (true, "ea33e248f4b51f4eda9ff056c80c3f4445e7c9b98ba7598b42eed52af71f2758") true
    over (fun _ h => by cases h) (by kernel_rfl) (fun _ h => by cases h) shaParts_row_tie rfl ⟨rfl, rfl⟩ (by kernel_rfl) rfl
    (fun f fn hf hfn => by
      obtain rfl : f = 5 := Option.some.inj ((show Tryd.prog.funcNamed "turnstile/turnstilelaw03.ShaParts" = some 5 by kernel_rfl).symm.trans hf) |>.symm
      obtain rfl : fn = Tryd.f5 := (Option.some.inj (Tryd.func5.symm.trans hfn)).symm
      exact ⟨by kernel_rfl, fun j t ht => by
        have hm : t ∈ Tryd.f5.params.toList := Array.mem_toList_iff.2 (Array.mem_of_getElem? ht)
        have := List.all_eq_true.1 noStandIn t hm
        show Tryd.prog.wantsStandIn t = false
        exact eq_of_beq this⟩)
    (by kernel_rfl)
end Go.Proofs.YtankgmieldchdaaDoor.shaParts
#print axioms Go.Proofs.YtankgmieldchdaaDoor.shaParts.proved
