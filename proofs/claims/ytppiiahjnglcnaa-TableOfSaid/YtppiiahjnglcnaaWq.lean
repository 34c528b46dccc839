/- Part of a proof by a small interpreter on plain values; no condition. -/
import Derived.Test.YtppiiahjnglcnaaWp
/-! W22Q: the laws, as the rows ask. -/
namespace Go.Sx.Ytppiiahjnglcnaa
open Go Go.Sx
set_option autoImplicit false
theorem tableRuns_f (room : Int) (acts : List Act22) : ∃ n, tableRuns n (room, acts, []) = some true := ⟨5000, tableRuns_true room acts⟩
theorem tableApart_f (acts : List Act22) : ∃ n, tableApart n (acts, []) = some true := ⟨5000, tableApart_true acts⟩
theorem tableMost_f (b R P B : Int) (steps : List Int) : ∃ n, tableMost n (b, R, P, B, steps, []) = some true := ⟨5000, tableMost_true b R P B steps⟩
theorem tableOf_f (k w1 w2 : Int) (w3 : List Int) (b R P B t : Int) (c s : List Int) : ∃ n, tableOf n (k, w1, w2, w3, b, R, P, B, t, c, s) = some true := ⟨5000, tableOf_true k w1 w2 w3 b R P B t c s⟩
def zRuns (x : Int × List Act22) : Int × List Act22 × List Ent := (x.1, x.2, [])
def zMost (x : Int × Int × Int × Int × List Int) : Int × Int × Int × Int × List Int × List Ent := (x.1, x.2.1, x.2.2.1, x.2.2.2.1, x.2.2.2.2, [])
def zApart (x : List Act22) : List Act22 × List Ent := (x, [])
end Go.Sx.Ytppiiahjnglcnaa
