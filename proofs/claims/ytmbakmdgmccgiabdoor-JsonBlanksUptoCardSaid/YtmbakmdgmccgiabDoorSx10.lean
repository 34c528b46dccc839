/- Part of a proof by a small interpreter on plain values; no condition. -/
import Derived.Test.YtmbakmdgmccgiabDoorSx26
import Derived.Test.YtmbakmdgmccgiabDoorSx30
/-! Sx10: one operation, whichever it is. -/
namespace Go.Sx
open Go
set_option autoImplicit false
set_option linter.unusedSimpArgs false
set_option linter.unusedVariables false
section
variable {C : Ctx} {env : Env} {kn : List (Nat × Bool)} {base : Nat} {o : Oper} {v : VSt} {A : Type} {f : Delta → Option A} {r : A}
theorem stepO_ok (hd : ∀ t, o.dst = some t → t < C.N) (henv : ∀ fid, ∀ sp ∈ env fid, FnOK C.P C.E C.L fid sp) (h : stepO C.P C.E env kn base o v f = some r) : Done C kn o v f r := by
  cases hop : o.op with
  | move x => exact ok_move hd (.inl hop) (by unfold stepO at h; rw [hop] at h; exact h)
  | assign x => exact ok_move hd (.inr hop) (by unfold stepO at h; rw [hop] at h; exact h)
  | pick c x y => exact ok_pick hd hop h
  | nilCheck x => exact ok_nilCheck hd hop h
  | fieldAddr t x i => exact ok_fieldAddr hd hop h
  | load t x => exact ok_load hd hop h
  | store t x y => exact ok_store hd hop h
  | binOp op t x y t' => exact ok_binOp hd hop h
  | unOp op t x => exact ok_unOp hd hop h
  | convert s d x => exact ok_convert hd hop h
  | makeInterface t x => exact ok_makeInterface hd hop h
  | extract x i => exact ok_extract hd hop h
  | makeFunc fn first cap => exact ok_makeFunc hd hop h
  | field t x i => exact ok_field hd hop h
  | index t x y => exact ok_index hd hop h
  | indexAddr t x y => exact ok_indexAddr hd hop h
  | slice t x lo hi m =>
    cases m with
    | none => exact ok_slice hd hop h
    | some m => unfold stepO at h; rw [hop] at h; cases h
  | makeSlice t l c => exact ok_makeSlice hd hop h
  | buildSlice t len parts => exact ok_buildSlice hd hop h
  | alloc t => exact ok_alloc hd hop h
  | box t x => exact ok_box hd hop h
  | build t parts => exact ok_build hd hop h
  | typeAssert x xt t ok => exact ok_typeAssert hd hop h
  | makeMap t r =>
    cases r with
    | none => exact ok_makeMap hd hop h
    | some r => unfold stepO at h; rw [hop] at h; cases h
  | lookup t x y ok => exact ok_lookup hd hop h
  | mapUpdate t x y z => exact ok_mapUpdate hd hop h
  | range t x => exact ok_range hd hop h
  | next x b => exact ok_next hd hop h
  | call c =>
    cases hcal : c.callee with
    | value x => exact ok_call hd hop hcal henv h
    | builtin b =>
      cases b with
      | len => exact ok_len hd hop hcal h
      | min => exact ok_minmax hd false hop hcal h
      | max => exact ok_minmax hd true hop hcal h
      | append => exact ok_append hd hop hcal h
      | copy => exact ok_copy hd hop hcal h
      | _ => unfold stepO at h; rw [hop] at h; simp only [hcal] at h; cases h
    | _ => unfold stepO at h; rw [hop] at h; simp only [hcal] at h; cases h
  | _ => unfold stepO at h; rw [hop] at h; cases h
end
end Go.Sx
