/- Part of a proof by a small interpreter on plain values; no condition. -/
import Derived.Test.YtmbakmdgmccgiabDoorSx23
import Derived.Test.YtmbakmdgmccgiabDoorSx22
import Derived.Shelf.Strings.CaseAny
import Derived.Shelf.Strconv.Itoa3
import Derived.Lib.AppendIntMem
/-! Sx31: contracts out of the shelf's: strings.ToLower, strconv.Itoa. -/
namespace Go.Sx
open Go
set_option autoImplicit false
set_option linter.unusedVariables false
set_option linter.unusedSimpArgs false
def u8s (x : List Int) : List UInt8 := x.map fun z => z.toNat.toUInt8
def i8s (x : List UInt8) : List Int := x.map fun b => (b.toNat : Int)
theorem i8s_bytes (l : List UInt8) : bytesL ⟨l.toArray⟩ = i8s l := by simp [bytesL, i8s]
theorem u8s_bytes (s : ByteArray) : u8s (bytesL s) = s.data.toList := by
  unfold u8s bytesL
  rw [List.map_map]
  conv => rhs; rw [← List.map_id s.data.toList]
  apply List.map_congr_left
  intro b _
  simp [Nat.toUInt8]
def toLowerL (x : List Int) : List Int := i8s (Lib.toLowerD (u8s x))
def lowRun (x : List Int) : Option (List Int) := if x.length < 35184372088832 ∧ (toLowerL x).length ≤ 9223372036854775807 then some (toLowerL x) else none
def itoaL (n : Int) : List Int := i8s (Lib.itoa n)
def itoaRun (n : Int) : Option (List Int) := if (itoaL n).length ≤ 9223372036854775807 then some (itoaL n) else none
def ssPre1 : Shape := ⟨[.c (.dat .str)], []⟩
def siPre : Shape := ⟨[.c (.dat (.int .i64))], []⟩
section
variable {P : Program} {E : TypeId} {L : Part → Prop} {f : FuncId}
theorem toLower_ok {X : World → Prop} (hent : ∃ fn, P.funcs[f]? = some fn ∧ fn.body.isNone = false ∧ (fn.name == "runtime.NumGoroutine") = false)
    (hL : ∀ R : Part, L R → ∀ w : World, (∀ b o, R b = some o → w.heap[b]? = some o) → X w)
    (hcall : ∀ (s : ByteArray) (w : World), s.size < 35184372088832 → X w → Calls P f #[.string s] w fun e w' => e = .returned (.string ⟨(Lib.toLowerD s.data.toList).toArray⟩) ∧ Go.RowKit.Below w.heap.size w w') :
    FnOK P E L f ⟨ssPre1, strPost, lowRun⟩ := by
  refine ⟨hent, fun (x : List Int) y W0 R0 g0 vals hrun hen hlay => ?_⟩
  have hrun' : lowRun x = some y := hrun
  unfold lowRun at hrun'
  split at hrun'
  · rename_i hx
    injection hrun' with hrun'
    subst hrun'
    have hv : All2 (RVRel E R0 g0) [RV.c (.dat .str x)] vals := hen.vals
    cases hv with
    | cons ha hr =>
    cases hr
    obtain ⟨s, e, hs, hlim⟩ := ha
    injection e with e _
    subst e
    have hxe : (x : List Int) = bytesL s := hs
    have hsz : s.size < 35184372088832 := by have h1 := hx.1; rw [hxe, bytesL_len] at h1; exact h1
    refine (hcall s W0 hsz (hL R0 (hlay R0 (Part.le_refl R0)) W0 hen.sub)).mono fun e w' ⟨h1, h2⟩ => ⟨R0, fun _ => none, [.string ⟨(Lib.toLowerD s.data.toList).toArray⟩], by rw [h1]; rfl, ?_⟩
    have hlow : toLowerL x = bytesL ⟨(Lib.toLowerD s.data.toList).toArray⟩ := by rw [i8s_bytes]; unfold toLowerL; rw [hxe, u8s_bytes]
    refine Exited.gone hen [.c (.dat .str)] (toLowerL x) (.cons ⟨_, rfl, hlow, ?_⟩ .nil) h2.os h2.tape h2.output h2.size (fun b hb _ => h2.block b hb)
    have h3 := hx.2
    rw [hlow] at h3
    have : (bytesL ⟨(Lib.toLowerD s.data.toList).toArray⟩).length = ByteArray.size ⟨(Lib.toLowerD s.data.toList).toArray⟩ := bytesL_len _
    rw [this] at h3
    exact h3
  · cases hrun'
theorem itoa_ok {X : World → Prop} (hent : ∃ fn, P.funcs[f]? = some fn ∧ fn.body.isNone = false ∧ (fn.name == "runtime.NumGoroutine") = false)
    (hL : ∀ R : Part, L R → ∀ w : World, (∀ b o, R b = some o → w.heap[b]? = some o) → X w)
    (hcall : ∀ (n : Int) (w : World), -9223372036854775808 ≤ n → n ≤ 9223372036854775807 → X w → Calls P f #[.int .i64 n] w fun e w' => e = .returned (.string ⟨(Lib.itoa n).toArray⟩) ∧ Go.RowKit.Below w.heap.size w w') :
    FnOK P E L f ⟨siPre, strPost, itoaRun⟩ := by
  refine ⟨hent, fun (x : Int) y W0 R0 g0 vals hrun hen hlay => ?_⟩
  have hrun' : itoaRun x = some y := hrun
  unfold itoaRun at hrun'
  split at hrun'
  · rename_i hx
    injection hrun' with hrun'
    subst hrun'
    have hv : All2 (RVRel E R0 g0) [RV.c (.dat (.int .i64) x)] vals := hen.vals
    cases hv with
    | cons ha hr =>
    cases hr
    have ha' : (K.int .i64).Rd E R0 x [_] := ha
    obtain ⟨e, h1, h2⟩ := ha'
    injection e with e _
    subst e
    rw [k_min_eq] at h1
    rw [k_max_eq] at h2
    refine (hcall x W0 h1 h2 (hL R0 (hlay R0 (Part.le_refl R0)) W0 hen.sub)).mono fun e w' ⟨h1, h2⟩ => ⟨R0, fun _ => none, [.string ⟨(Lib.itoa x).toArray⟩], by rw [h1]; rfl, ?_⟩
    have hlow : itoaL x = bytesL ⟨(Lib.itoa x).toArray⟩ := by rw [i8s_bytes]; rfl
    refine Exited.gone hen [.c (.dat .str)] (itoaL x) (.cons ⟨_, rfl, hlow, ?_⟩ .nil) h2.os h2.tape h2.output h2.size (fun b hb _ => h2.block b hb)
    have h3 := hx
    rw [hlow] at h3
    have : (bytesL ⟨(Lib.itoa x).toArray⟩).length = ByteArray.size ⟨(Lib.itoa x).toArray⟩ := bytesL_len _
    rw [this] at h3
    exact h3
  · cases hrun'
end
end Go.Sx
