/- Part of a proof by a small interpreter on plain values; no condition. -/
import Derived.Test.YtmbakmdgmccgiabDoorSx23
import Derived.Lib.MakeNoZero
/-! Sx28: bytealg.MakeNoZero, its bytes one cell each. -/
namespace Go.Sx
open Go Go.Lib
set_option autoImplicit false
set_option linter.unusedVariables false
set_option linter.unusedSimpArgs false
theorem digits_one : ∀ (n b : Nat) (acc : Array Value), acc.toList.all Value.oneCell' = true → (Extern.BytealgMakeNoZero.digits n b acc).toList.all Value.oneCell' = true
  | 0, b, acc, h => by unfold Extern.BytealgMakeNoZero.digits; exact h
  | n + 1, b, acc, h => by
    unfold Extern.BytealgMakeNoZero.digits
    refine digits_one n _ _ ?_
    rw [Array.toList_push, List.all_append, h]
    rfl
theorem run_makeNoZero1 {P : Program} (w : World) (ps : Array TypeId) (t e : TypeId) (ht : P.underlying t = some (.slice e)) (n : Nat) (hn : n ≤ 281474976710656) :
    ∃ cs : Array Value, (Extern.BytealgMakeNoZero.makeNoZero ps #[t] #[.int .i64 n]).run P w = .ok (.slice (some ⟨w.heap.size, 0, none⟩) n cs.size) (w.drew.drew.alloc (.cells cs e)) ∧ n ≤ cs.size ∧ (n ≤ maxLen → cs.size ≤ maxLen) ∧ cs.toList.all Value.oneCell' = true := by
  have hdef : Extern.BytealgMakeNoZero.makeNoZero ps #[t] #[.int .i64 n] =
      (do
        let .slice elem ← underlying t | stuck "bytealg.MakeNoZero: slice type expected"
        if (n : Int) < 0 || (n : Int) > 2 ^ 48 then runtimePanic (.error "makeslice: len out of range")
        let cap ← choose (.appendCap (n : Int).toNat 0 elem)
        askRoom cap
        let bytes ← choose (.extern "internal/bytealg.MakeNoZero.bytes" 0)
        let a ← Go.newRow elem (Extern.BytealgMakeNoZero.digits cap bytes #[])
        pure (.slice (some a) (n : Int).toNat cap)) := rfl
  refine ⟨Extern.BytealgMakeNoZero.digits (grownCap w n 0 e) ((Question.extern "internal/bytealg.MakeNoZero.bytes" 0).cut (w.tape (w.drawn + 1) (.extern "internal/bytealg.MakeNoZero.bytes" 0))) #[], ?_, ?_, ?_, digits_one _ _ _ rfl⟩
  · rw [hdef]
    have h1 : ¬ (n : Int) < 0 := by omega
    have h2 : ¬ (281474976710656 : Int) < (n : Int) := by omega
    simp [run_underlying ht, h1, h2, Question.forced, Go.newRow, size_digits, grownCap]
  · rw [size_digits]
    simpa using grownCap_ge w n 0 e
  · intro hm
    rw [size_digits]
    simpa using grownCap_le_maxLen w n 0 e hm
end Go.Sx
