/- Part of a proof by a small interpreter on plain values; no condition. -/
import Derived.Test.YtdcogkfjnlpidaaDoorWm
/-! W07N: the laws, as the rows ask. -/
namespace Go.Sx.YtdcogkfjnlpidaaDoor
open Go Go.Sx
set_option autoImplicit false
theorem strs_len : ∀ (l : List (List Int)), l.length ≤ (List.map (K.bulk .str) l).sum
  | [] => by simp
  | s :: r => by
    have := strs_len r
    have e : K.bulk .str s = s.length + 1 := rfl
    simp only [List.map_cons, List.sum_cons, List.length_cons]
    omega
theorem pickOnly_f (x : JV) (p : List Int) (names : List (List Int)) (hp : K.Ok .str p) (hb : K.bulk .js x + (K.bulk .str p + (K.bulk (.list .str) names + 0)) ≤ 1048576) :
    ∃ n, pickOnly n (x.kind, x.b, x.text, x.n, x.whole, x.list, x.names, p, names) = some true := by
  have e1 : K.bulk .str p = p.length + 1 := rfl
  have e2 : K.bulk (.list .str) names = (List.map (K.bulk .str) names).sum + 1 := rfl
  have e3 := strs_len names
  have e4 : K.bulk .js x = JV.bulk x := rfl
  exact ⟨_, pickOnly_true x p names (by omega) hp.2 (by omega) (by omega)⟩
theorem pickBehind_f (x : JV) (a b : List Int) (ha : K.Ok .str a) (hb : K.Ok .str b) (hl : K.bulk .js x + (K.bulk .str a + (K.bulk .str b + 0)) ≤ 1048576) :
    ∃ n, pickBehind n (x.kind, x.b, x.text, x.n, x.whole, x.list, x.names, a, b) = some true := by
  have e1 : K.bulk .str a = a.length + 1 := rfl
  have e2 : K.bulk .str b = b.length + 1 := rfl
  have e4 : K.bulk .js x = JV.bulk x := rfl
  exact ⟨_, pickBehind_true x a b (by omega) ha.2 hb.2 (by omega)⟩
end Go.Sx.YtdcogkfjnlpidaaDoor
