/- Part of a proof by a small interpreter on plain values; no condition. -/
import Derived.Test.YtmbakmdgmccgiabDoorSx31
import Derived.Test.YtmbakmdgmccgiabDoorSx36
import Derived.Shelf.Unicode.ValidAny
/-! Sx37: utf8.ValidString out of the shelf. -/
namespace Go.Sx
open Go
set_option autoImplicit false
set_option linter.unusedVariables false
set_option linter.unusedSimpArgs false
def validL (x : List Int) : Bool := Lib.validD (u8s x)
def validRun (x : List Int) : Option Bool := some (validL x)
def blPost : List Shape := [⟨[.c (.dat .bool)], []⟩]
theorem valid_ok {P : Program} {E : TypeId} {L : Part → Prop} {f : FuncId} {X : World → Prop} (hent : ∃ fn, P.funcs[f]? = some fn ∧ fn.body.isNone = false ∧ (fn.name == "runtime.NumGoroutine") = false)
    (hL : ∀ R : Part, L R → ∀ w : World, (∀ b o, R b = some o → w.heap[b]? = some o) → X w)
    (hcall : ∀ (s : ByteArray) (w : World), s.size ≤ 9223372036854775807 → X w → Calls P f #[.string s] w fun e w' => e = .returned (.bool (Lib.validD s.data.toList)) ∧ Go.RowKit.Below w.heap.size w w') :
    FnOK P E L f ⟨ssPre1, blPost, validRun⟩ := by
  refine ⟨hent, fun (x : List Int) y W0 R0 g0 vals hrun hen hlay => ?_⟩
  have hrun' : validRun x = some y := hrun
  injection hrun' with hrun'
  subst hrun'
  have hv : All2 (RVRel E R0 g0) [RV.c (.dat .str x)] vals := hen.vals
  cases hv with
  | cons ha hr =>
  cases hr
  obtain ⟨s, e, hs, hlim⟩ := ha
  injection e with e _
  subst e
  have hxe : (x : List Int) = bytesL s := hs
  refine (hcall s W0 hlim (hL R0 (hlay R0 (Part.le_refl R0)) W0 hen.sub)).mono fun e w' ⟨h1, h2⟩ => ⟨R0, fun _ => none, [.bool (Lib.validD s.data.toList)], by rw [h1]; rfl, ?_⟩
  have hlow : validL x = Lib.validD s.data.toList := by unfold validL; rw [hxe, u8s_bytes]
  exact Exited.gone hen [.c (.dat .bool)] (validL x) (.cons (show RVRel E R0 (fun _ => none) (.c (.dat .bool (validL x))) (.bool (Lib.validD s.data.toList)) from by rw [hlow]; exact rfl) .nil) h2.os h2.tape h2.output h2.size (fun b hb _ => h2.block b hb)
end Go.Sx
