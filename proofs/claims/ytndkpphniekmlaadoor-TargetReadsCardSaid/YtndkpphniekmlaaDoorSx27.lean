/- Part of a proof by a small interpreter on plain values; no condition. -/
import Derived.Test.YtndkpphniekmlaaDoorSx22
import Derived.Lib.Bytealg
/-! Sx27: the contract of strings.Count at a text of one byte. -/
namespace Go.Sx
open Go
set_option autoImplicit false
set_option linter.unusedVariables false
set_option linter.unusedSimpArgs false
def cnb (xs : List Int) (c : Int) : Int := (xs.count c : Int)
def ssPre : Shape := ⟨[.c (.dat .str), .c (.dat .str)], []⟩
def cntRun (x : List Int × List Int) : Option Int := match x.2 with
  | [c] => some (cnb x.1 c)
  | _ => none
theorem count_bytes (c : UInt8) : ∀ l : List UInt8, (l.map fun b => (b.toNat : Int)).count (c.toNat : Int) = l.count c
  | [] => rfl
  | a :: l => by
    rw [List.map_cons, List.count_cons, List.count_cons, count_bytes c l]
    congr 1
    by_cases h : a = c
    · subst h; simp
    · have h2 : ¬ ((a.toNat : Int) = (c.toNat : Int)) := fun e => h (UInt8.toNat_inj.1 (by omega))
      rw [if_neg (by simpa using h2), if_neg (by simpa using h)]
theorem cntStr_ok {P : Program} {E : TypeId} {L : Part → Prop} {f : FuncId} (hent : ∃ fn, P.funcs[f]? = some fn ∧ fn.body.isNone = false ∧ (fn.name == "runtime.NumGoroutine") = false)
    (hcall : ∀ (s : ByteArray) (c : UInt8) (w : World), Calls P f #[.string s, .string ⟨#[c]⟩] w fun e w' => e = .returned (.int .i64 (Lib.countByte s.data.toList c)) ∧ w' = w) :
    FnOK P E L f ⟨ssPre, ixPost, cntRun⟩ := by
  refine ⟨hent, fun x y W0 R0 g0 vals hrun hen hlay => ?_⟩
  obtain ⟨xs, ys⟩ := x
  have hrun' : cntRun (xs, ys) = some y := hrun
  unfold cntRun at hrun'
  split at hrun'
  · rename_i c hys
    injection hrun' with hrun'
    subst hrun'
    have hv : All2 (RVRel E R0 g0) [RV.c (.dat .str xs), RV.c (.dat .str ys)] vals := hen.vals
    cases hv with
    | cons ha hr =>
      cases hr with
      | cons hb hr =>
        cases hr
        obtain ⟨s, e, hs, hlim⟩ := ha
        injection e with e _
        subst e
        obtain ⟨t, e, ht, _⟩ := hb
        injection e with e _
        subst e
        have hxe : (xs : List Int) = bytesL s := hs
        have hte : [c] = bytesL t := (show (ys : List Int) = [c] from hys).symm.trans ht
        obtain ⟨c', ht'⟩ : ∃ c' : UInt8, t = ⟨#[c']⟩ ∧ (c'.toNat : Int) = c := by
          cases t with
          | mk d =>
            cases d with
            | mk l =>
              unfold bytesL at hte
              match l, hte with
              | [c'], h => exact ⟨c', rfl, by simpa using h.symm⟩
              | [], h => cases h
              | _ :: _ :: _, h => simp at h
        obtain ⟨rfl, rfl⟩ := ht'
        have hval : ((Lib.countByte s.data.toList c' : Nat) : Int) = cnb xs (c'.toNat : Int) := by
          rw [hxe]
          unfold cnb bytesL Lib.countByte
          exact congrArg Nat.cast (count_bytes c' _).symm
        have hle : (cnb xs (c'.toNat : Int)) ≤ (lim : Int) := by
          have h1 : (xs : List Int).count (c'.toNat : Int) ≤ (xs : List Int).length := List.count_le_length
          have h2 : (xs : List Int).length ≤ lim := by rw [hxe, bytesL_len]; exact hlim
          unfold cnb
          omega
        have h0 : 0 ≤ cnb xs (c'.toNat : Int) := by unfold cnb; omega
        refine (hcall s c' W0).mono fun e w' ⟨h1, h2⟩ => ⟨R0, fun _ => none, [.int .i64 (cnb xs (c'.toNat : Int))], by rw [h1, hval]; rfl, ?_⟩
        subst h2
        have : (lim : Int) = 9223372036854775807 := rfl
        exact Exited.still hen [.c (.dat (.int .i64))] (cnb xs (c'.toNat : Int)) (.cons (show RVRel E R0 (fun _ => none) (.c (.dat (.int .i64) (cnb xs (c'.toNat : Int)))) (.int .i64 (cnb xs (c'.toNat : Int))) from i64_rel (by omega) (by omega)) .nil) (Still.refl _)
  · cases hrun'
end Go.Sx
