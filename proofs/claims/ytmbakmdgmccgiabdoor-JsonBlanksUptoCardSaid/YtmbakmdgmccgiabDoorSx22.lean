/- Part of a proof by a small interpreter on plain values; no condition. -/
import Derived.Test.YtmbakmdgmccgiabDoorSx21
import Derived.Lib.BytesEntry
/-! Sx22: the first place of a byte: the library's two functions, by the model's entry. -/
namespace Go.Sx
open Go
set_option autoImplicit false
set_option linter.unusedVariables false
set_option linter.unusedSimpArgs false
/-- the first place of a byte; -1: none. -/
def ixb : List Int → Int → Int
  | [], _ => -1
  | b :: l, c => if b = c then 0 else if ixb l c = -1 then -1 else ixb l c + 1
theorem u8_eq {b c : Int} (hb : 0 ≤ b ∧ b ≤ 255) (hc : 0 ≤ c ∧ c ≤ 255) : (b.toNat.toUInt8 == c.toNat.toUInt8) = decide (b = c) := by
  rw [Bool.eq_iff_iff, beq_iff_eq, decide_eq_true_eq]
  constructor
  · intro h
    have := congrArg UInt8.toNat h
    simp only [Nat.toUInt8, UInt8.toNat_ofNat'] at this
    omega
  · rintro rfl; rfl
theorem ixb_of : ∀ (xs : List Int) (c : Int), (∀ x ∈ xs, 0 ≤ x ∧ x ≤ 255) → (0 ≤ c ∧ c ≤ 255) → Lib.indexByte (Lib.bytesOf xs) c.toNat.toUInt8 = ixb xs c
  | [], c, _, _ => rfl
  | b :: l, c, hx, hc => by
    have ih := ixb_of l c (fun x hx' => hx x (List.mem_cons_of_mem _ hx')) hc
    have e : Lib.bytesOf (b :: l) = b.toNat.toUInt8 :: Lib.bytesOf l := rfl
    rw [e]
    simp only [Lib.indexByte, ixb, ih, u8_eq (hx b (by simp)) hc, decide_eq_true_eq, beq_iff_eq]
def ixPre : Shape := ⟨[.c (.dat (.list (.int .u8))), .c (.dat (.int .u8))], []⟩
def ixsPre : Shape := ⟨[.c (.dat .str), .c (.dat (.int .u8))], []⟩
def ixPost : List Shape := [⟨[.c (.dat (.int .i64))], []⟩]
theorem ixb_range : ∀ (xs : List Int) (c : Int), -1 ≤ ixb xs c ∧ ixb xs c < (xs.length : Int)
  | [], c => by simp [ixb]
  | b :: l, c => by
    have := ixb_range l c
    unfold ixb
    split
    · constructor
      · omega
      · rw [List.length_cons]; omega
    · rw [List.length_cons]; split <;> constructor <;> omega
theorem u8_in {E : TypeId} {R : Part} {c : Int} {v : Value} (h : (K.int .u8).Rd E R c [v]) : v = .int .u8 c ∧ 0 ≤ c ∧ c ≤ 255 := by
  obtain ⟨e, h1, h2⟩ := h
  injection e with e _
  rw [k_min_eq] at h1
  rw [k_max_eq] at h2
  exact ⟨e, h1, h2⟩
theorem i64_rel {E : TypeId} {R : Part} {g : Gh} {n : Int} (h1 : -9223372036854775808 ≤ n) (h2 : n ≤ 9223372036854775807) : RVRel E R g (.c (.dat (.int .i64) n)) (.int .i64 n) := ⟨rfl, by rw [k_min_eq]; exact h1, by rw [k_max_eq]; exact h2⟩
theorem ixSlice_ok {P : Program} {E : TypeId} {L : Part → Prop} {f : FuncId} (hent : ∃ fn, P.funcs[f]? = some fn ∧ fn.body.isNone = false ∧ (fn.name == "runtime.NumGoroutine") = false)
    (hcall : ∀ (u : Value) (c r : Int) (w : World), (Extern.BytealgIndexByte.indexByte #[u, .int .u8 c]).run P w = .ok (.int .i64 r) w → Calls P f #[u, .int .u8 c] w fun e w' => e = .returned (.int .i64 r) ∧ w' = w) :
    FnOK P E L f ⟨ixPre, ixPost, fun x => some (ixb x.1 x.2)⟩ := by
  refine ⟨hent, fun x y W0 R0 g0 vals hrun hen hlay => ?_⟩
  obtain ⟨xs, c⟩ := x
  injection hrun with hrun
  subst hrun
  have hv : All2 (RVRel E R0 g0) [RV.c (.dat (.list (.int .u8)) xs), RV.c (.dat (.int .u8) c)] vals := hen.vals
  cases hv with
  | cons ha hr =>
    cases hr with
    | cons hb hr =>
      cases hr
      rename_i u v
      obtain ⟨rfl, hc1, hc2⟩ := u8_in (E := E) (R := R0) hb
      have ha' : (K.list (.int .u8)).Rd E R0 xs [u] := ha
      have hok := K.Ok_of_rd (.list (.int .u8)) xs _ ha'
      have hlim : List.length xs ≤ lim := hok.1
      have hx255 : ∀ x ∈ (xs : List Int), 0 ≤ x ∧ x ≤ 255 := fun x hx => by
        have := hok.2 x hx
        obtain ⟨h1, h2⟩ := this
        rw [k_min_eq] at h1
        rw [k_max_eq] at h2
        exact ⟨h1, h2⟩
      have hrun2 : (Extern.BytealgIndexByte.indexByte #[u, .int .u8 c]).run P W0 = .ok (.int .i64 (ixb xs c)) W0 := by
        obtain ⟨A, cp, e, hl, hx⟩ := ha'
        injection e with e _
        subst e
        cases A with
        | none =>
          have hx0 : xs = ([] : List Int) := by
            by_cases hne : (xs : List Int) = []
            · exact hne
            · obtain ⟨_, _, _, _, _, hA, _⟩ := hx hne; cases hA
          rw [hx0]
          rfl
        | some a =>
          by_cases hne : (xs : List Int) = []
          · rw [hne]
            obtain ⟨b, off, sp⟩ := a
            rfl
          · obtain ⟨b, off, arr, ty, fr, hA, hR, hcell⟩ := hx hne
            injection hA with hA
            subst hA
            rw [Lib.run_indexByteSlice W0 b off _ cp xs rfl (fun i hi => ?_) c]
            · rw [ixb_of xs c hx255 ⟨hc1, hc2⟩]
            · have hget : (xs : List Int)[i]? = some ((xs : List Int).getD i 0) := by rw [List.getD_eq_getElem?_getD, List.getElem?_eq_getElem hi]; rfl
              have := (hcell i _ hget).1
              rw [show (K.int IntKind.u8).sz = 1 from rfl, Nat.mul_one] at this
              unfold World.cell?
              simp only [hen.sub b _ hR, Option.isSome_none, Bool.false_eq_true, if_false]
              have h0 := congrArg (fun l => l[0]?) this
              simp only [List.getElem?_take, List.getElem?_drop, Nat.add_zero, List.getElem?_cons_zero, show (0 : Nat) < 1 from by decide, if_true] at h0
              rw [← h0, Array.getElem?_toList]
      refine (hcall u c _ W0 hrun2).mono fun e w' ⟨h1, h2⟩ => ⟨R0, fun _ => none, [.int .i64 (ixb xs c)], by rw [h1]; rfl, ?_⟩
      subst h2
      have hrg := ixb_range xs c
      have : (lim : Int) = 9223372036854775807 := rfl
      exact Exited.still hen [.c (.dat (.int .i64))] (ixb xs c) (.cons (show RVRel E R0 (fun _ => none) (.c (.dat (.int .i64) (ixb xs c))) (.int .i64 (ixb xs c)) from i64_rel (by omega) (by omega)) .nil) (Still.refl _)
theorem ixStr_ok {P : Program} {E : TypeId} {L : Part → Prop} {f : FuncId} (hent : ∃ fn, P.funcs[f]? = some fn ∧ fn.body.isNone = false ∧ (fn.name == "runtime.NumGoroutine") = false)
    (hcall : ∀ (s : ByteArray) (c : Int) (w : World), Calls P f #[.string s, .int .u8 c] w fun e w' => e = .returned (.int .i64 (Lib.indexByte s.data.toList c.toNat.toUInt8)) ∧ w' = w) :
    FnOK P E L f ⟨ixsPre, ixPost, fun x => some (ixb x.1 x.2)⟩ := by
  refine ⟨hent, fun x y W0 R0 g0 vals hrun hen hlay => ?_⟩
  obtain ⟨xs, c⟩ := x
  injection hrun with hrun
  subst hrun
  have hv : All2 (RVRel E R0 g0) [RV.c (.dat .str xs), RV.c (.dat (.int .u8) c)] vals := hen.vals
  cases hv with
  | cons ha hr =>
    cases hr with
    | cons hb hr =>
      cases hr
      rename_i u v
      obtain ⟨rfl, hc1, hc2⟩ := u8_in (E := E) (R := R0) hb
      obtain ⟨s, e, hs, hlim⟩ := ha
      injection e with e _
      subst e
      have hxe : (xs : List Int) = bytesL s := hs
      have hval : Lib.indexByte s.data.toList c.toNat.toUInt8 = ixb xs c := by
        have h1 := ixb_of (bytesL s) c (fun x hx => by
          obtain ⟨b, _, rfl⟩ := List.mem_map.1 hx
          have := b.toNat_lt
          omega) ⟨hc1, hc2⟩
        have h2 : Lib.bytesOf (bytesL s) = s.data.toList := by
          unfold Lib.bytesOf bytesL
          rw [List.map_map]
          conv => rhs; rw [← List.map_id s.data.toList]
          apply List.map_congr_left
          intro b _
          simp [Nat.toUInt8]
        rw [h2] at h1
        rw [hxe]; exact h1
      refine (hcall s c W0).mono fun e w' ⟨h1, h2⟩ => ⟨R0, fun _ => none, [.int .i64 (ixb xs c)], by rw [h1, hval]; rfl, ?_⟩
      subst h2
      have hrg := ixb_range xs c
      have hl : List.length xs ≤ lim := by rw [hxe, bytesL_len]; exact hlim
      have : (lim : Int) = 9223372036854775807 := rfl
      exact Exited.still hen [.c (.dat (.int .i64))] (ixb xs c) (.cons (show RVRel E R0 (fun _ => none) (.c (.dat (.int .i64) (ixb xs c))) (.int .i64 (ixb xs c)) from i64_rel (by omega) (by omega)) .nil) (Still.refl _)
end Go.Sx
