/- Part of a proof by a small interpreter on plain values; no condition. -/
import Derived.Test.YtmhimaefondndaaDoorWl
namespace Go.Sx.YtmhimaefondndaaDoor
open Go Go.Sx Go.Proofs
set_option autoImplicit false
/-- an argument of a law is a row of texts that can be. -/
theorem txs_of {P : Program} {t e d : Nat} {x : List (List Int)} (hu : P.underlying t = some (.slice e)) (hb : 1 ≤ P.bytesOf e) (h : K.Ok (.list .str) x) (hs : SzK P (d + 2) t (.list .str) x) : TXs x := by
  have h2 := SzK_list (a := .str) hu hs
  have hl : List.length x ≤ List.length x * P.bytesOf e := Nat.le_mul_of_pos_right _ hb
  exact ⟨fun y hy => tx_of (h.2 y hy) (h2.2 y hy), Nat.le_trans (Nat.le_trans hl h2.1) (show reachBytes ≤ 140737488355327 by decide)⟩
theorem i64_of {z : Int} (h : K.Ok (.int .i64) z) : -9223372036854775808 ≤ z ∧ z ≤ 9223372036854775807 := by
  have h' : IntKind.min .i64 ≤ z ∧ z ≤ IntKind.max .i64 := h
  rw [k_min_eq, k_max_eq] at h'
  exact h'
end Go.Sx.YtmhimaefondndaaDoor
