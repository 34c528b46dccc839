/- The sum of all bytes: the document's, the program's; their texts. -/
import Derived.Test.YtankgmieldchdaaDoorWM
namespace Go.Sx.YtankgmieldchdaaDoor
open Go Go.Sx
set_option autoImplicit false
set_option maxRecDepth 1000000
set_option linter.unusedVariables false
set_option linter.unusedSimpArgs false
/-- the bytes of a state. -/
def dig (h : List Int) : List Int := (List.range 32).map fun i => IntKind.wrap .u8 (Int.fdiv (h.getD (i / 4) 0) (2 ^ (24 - 8 * (i % 4))))
theorem dig_len (h : List Int) : (dig h).length = 32 := by simp [dig]
abbrev Z32 : List Int := [(0 : Int), (0 : Int), (0 : Int), (0 : Int), (0 : Int), (0 : Int), (0 : Int), (0 : Int), (0 : Int), (0 : Int), (0 : Int), (0 : Int), (0 : Int), (0 : Int), (0 : Int), (0 : Int), (0 : Int), (0 : Int), (0 : Int), (0 : Int), (0 : Int), (0 : Int), (0 : Int), (0 : Int), (0 : Int), (0 : Int), (0 : Int), (0 : Int), (0 : Int), (0 : Int), (0 : Int), (0 : Int)]
theorem out_ref (h : List Int) (hh : h.length = 8) : (loopF (X := (List Int) × Int × (List Int) × List Int) (A := List Int) (fun rec16 y17 => match y17 with
  | (a18, (a19, (a20, a21))) =>
  (if (decide (a19 < (32 : Int))) = true then
  (let u22 : Int := (IntKind.wrap .i64 (Int.tdiv a19 (4 : Int)))
  (Option.bind (idx a18 u22) fun v23 =>
  (let u24 : Int := (IntKind.wrap .i64 ((8 : Int) * (Int.tmod a19 (4 : Int))))
  (let u25 : Int := (IntKind.wrap .i64 ((24 : Int) - u24))
  (if (IntKind.wrap .u64 u25) < 0 then none else (let u26 : Int := (Int.fdiv v23 (2 ^ (min (IntKind.wrap .u64 u25).toNat 32)))
  (if 32 = a21.length then
  (if 0 ≤ a19 ∧ a19 < (a21.length : Int) then
  (let u27 : List Int := (a21.set a19.toNat (IntKind.wrap .u8 u26))
  (let u28 : Int := (IntKind.wrap .i64 (a19 + (1 : Int)))
  rec16 (a18, (u28, (a20, u27)))))
  else none)
  else none)))))))
  else
  (if 32 = a21.length then
  (if 32 = a20.length ∧ 32 = a21.length then
  (if 32 = a21.length then
  some a21
  else none)
  else none)
  else none))) FU (h, ((0 : Int), (Z32, Z32)))) = some (dig h) := by
  obtain ⟨a, b, c, d, e, f, g, i, rfl⟩ := eight hh
  have e1 : dig [a, b, c, d, e, f, g, i] = [IntKind.wrap .u8 (Int.fdiv a (2 ^ 24)), IntKind.wrap .u8 (Int.fdiv a (2 ^ 16)), IntKind.wrap .u8 (Int.fdiv a (2 ^ 8)), IntKind.wrap .u8 (Int.fdiv a (2 ^ 0)), IntKind.wrap .u8 (Int.fdiv b (2 ^ 24)), IntKind.wrap .u8 (Int.fdiv b (2 ^ 16)), IntKind.wrap .u8 (Int.fdiv b (2 ^ 8)), IntKind.wrap .u8 (Int.fdiv b (2 ^ 0)), IntKind.wrap .u8 (Int.fdiv c (2 ^ 24)), IntKind.wrap .u8 (Int.fdiv c (2 ^ 16)), IntKind.wrap .u8 (Int.fdiv c (2 ^ 8)), IntKind.wrap .u8 (Int.fdiv c (2 ^ 0)), IntKind.wrap .u8 (Int.fdiv d (2 ^ 24)), IntKind.wrap .u8 (Int.fdiv d (2 ^ 16)), IntKind.wrap .u8 (Int.fdiv d (2 ^ 8)), IntKind.wrap .u8 (Int.fdiv d (2 ^ 0)), IntKind.wrap .u8 (Int.fdiv e (2 ^ 24)), IntKind.wrap .u8 (Int.fdiv e (2 ^ 16)), IntKind.wrap .u8 (Int.fdiv e (2 ^ 8)), IntKind.wrap .u8 (Int.fdiv e (2 ^ 0)), IntKind.wrap .u8 (Int.fdiv f (2 ^ 24)), IntKind.wrap .u8 (Int.fdiv f (2 ^ 16)), IntKind.wrap .u8 (Int.fdiv f (2 ^ 8)), IntKind.wrap .u8 (Int.fdiv f (2 ^ 0)), IntKind.wrap .u8 (Int.fdiv g (2 ^ 24)), IntKind.wrap .u8 (Int.fdiv g (2 ^ 16)), IntKind.wrap .u8 (Int.fdiv g (2 ^ 8)), IntKind.wrap .u8 (Int.fdiv g (2 ^ 0)), IntKind.wrap .u8 (Int.fdiv i (2 ^ 24)), IntKind.wrap .u8 (Int.fdiv i (2 ^ 16)), IntKind.wrap .u8 (Int.fdiv i (2 ^ 8)), IntKind.wrap .u8 (Int.fdiv i (2 ^ 0))] := rfl
  refine Eq.trans ?_ (congrArg some e1.symm)
  kernel_rfl
theorem out_prog (h : List Int) (hh : h.length = 8) : (loopF (X := (List Int) × Int × (List Int) × List Int) (A := List Int) (fun rec4 y5 => match y5 with
  | (a6, (a7, (a8, a9))) =>
  (if (decide (a7 < (8 : Int))) = true then
  (Option.bind (idx a6 a7) fun v10 =>
  (loopF (X := Int × Int × (List Int) × Int × Int × (List Int) × List Int) (A := List Int) (fun rec11 y12 => match y12 with
  | (a13, (a14, (a15, (a16, (a17, (a18, a19)))))) =>
  (if (decide (a17 < (4 : Int))) = true then
  (let u20 : Int := (IntKind.wrap .i64 ((4 : Int) * a13))
  (let u21 : Int := (IntKind.wrap .i64 ((8 : Int) * a17))
  (let u22 : Int := (IntKind.wrap .i64 ((24 : Int) - u21))
  (if u22 < 0 then none else (let u23 : Int := (Int.fdiv a14 (2 ^ (min u22.toNat 32)))
  (if 32 = a19.length then
  (if 0 ≤ (IntKind.wrap .i64 (u20 + a17)) ∧ (IntKind.wrap .i64 (u20 + a17)) < (a19.length : Int) then
  (let u24 : List Int := (a19.set (IntKind.wrap .i64 (u20 + a17)).toNat (IntKind.wrap .u8 u23))
  (let u25 : Int := (IntKind.wrap .i64 (a17 + (1 : Int)))
  rec11 (a13, (a14, (a15, (a16, (u25, (a18, u24))))))))
  else none)
  else none))))))
  else
  (let u26 : Int := (IntKind.wrap .i64 (a16 + (1 : Int)))
  rec4 (a15, (u26, (a18, a19)))))) FU (a7, (v10, (a6, (a7, ((0 : Int), (a8, a9))))))))
  else
  (if 32 = a9.length then
  (if 32 = a8.length ∧ 32 = a9.length then
  (if 32 = a9.length then
  some a9
  else none)
  else none)
  else none))) FU (h, ((0 : Int), (Z32, Z32)))) = some (dig h) := by
  obtain ⟨a, b, c, d, e, f, g, i, rfl⟩ := eight hh
  have e1 : dig [a, b, c, d, e, f, g, i] = [IntKind.wrap .u8 (Int.fdiv a (2 ^ 24)), IntKind.wrap .u8 (Int.fdiv a (2 ^ 16)), IntKind.wrap .u8 (Int.fdiv a (2 ^ 8)), IntKind.wrap .u8 (Int.fdiv a (2 ^ 0)), IntKind.wrap .u8 (Int.fdiv b (2 ^ 24)), IntKind.wrap .u8 (Int.fdiv b (2 ^ 16)), IntKind.wrap .u8 (Int.fdiv b (2 ^ 8)), IntKind.wrap .u8 (Int.fdiv b (2 ^ 0)), IntKind.wrap .u8 (Int.fdiv c (2 ^ 24)), IntKind.wrap .u8 (Int.fdiv c (2 ^ 16)), IntKind.wrap .u8 (Int.fdiv c (2 ^ 8)), IntKind.wrap .u8 (Int.fdiv c (2 ^ 0)), IntKind.wrap .u8 (Int.fdiv d (2 ^ 24)), IntKind.wrap .u8 (Int.fdiv d (2 ^ 16)), IntKind.wrap .u8 (Int.fdiv d (2 ^ 8)), IntKind.wrap .u8 (Int.fdiv d (2 ^ 0)), IntKind.wrap .u8 (Int.fdiv e (2 ^ 24)), IntKind.wrap .u8 (Int.fdiv e (2 ^ 16)), IntKind.wrap .u8 (Int.fdiv e (2 ^ 8)), IntKind.wrap .u8 (Int.fdiv e (2 ^ 0)), IntKind.wrap .u8 (Int.fdiv f (2 ^ 24)), IntKind.wrap .u8 (Int.fdiv f (2 ^ 16)), IntKind.wrap .u8 (Int.fdiv f (2 ^ 8)), IntKind.wrap .u8 (Int.fdiv f (2 ^ 0)), IntKind.wrap .u8 (Int.fdiv g (2 ^ 24)), IntKind.wrap .u8 (Int.fdiv g (2 ^ 16)), IntKind.wrap .u8 (Int.fdiv g (2 ^ 8)), IntKind.wrap .u8 (Int.fdiv g (2 ^ 0)), IntKind.wrap .u8 (Int.fdiv i (2 ^ 24)), IntKind.wrap .u8 (Int.fdiv i (2 ^ 16)), IntKind.wrap .u8 (Int.fdiv i (2 ^ 8)), IntKind.wrap .u8 (Int.fdiv i (2 ^ 0))] := rfl
  refine Eq.trans ?_ (congrArg some e1.symm)
  kernel_rfl
/-- the sum of bytes. -/
def shaL (m : List Int) : List Int := dig (blks ((m ++ padL m.length).length / 64) cF (m ++ padL m.length))
theorem shaL_len (m : List Int) : (shaL m).length = 32 := dig_len _
theorem all_len (m : List Int) : (m ++ padL m.length).length = 64 * ((m ++ padL m.length).length / 64) := by
  have : (m ++ padL m.length).length = m.length + (64 - (m.length + 8) % 64 + 8) := by rw [List.length_append, padL_len]
  have h2 : (m.length + 8) % 64 < 64 := Nat.mod_lt _ (by omega)
  omega
theorem rSum_gives {m : List Int} (hm : m.length ≤ 140737488355000) : Gives (rSum FU m) (· = shaL m) := by
  unfold rSum
  refine Gives.pos (by omega) ?_
  refine Gives.bind_eq (rPad_gives m.length (by omega)).eq ?_
  have hpl := padL_len m.length
  have h2 : (m.length + 8) % 64 < 64 := Nat.mod_lt _ (by omega)
  refine Gives.pos (by show (m.length + (padL m.length).length) * 1 ≤ _; omega) ?_
  refine Gives.bind_eq rFirst_eq (Gives.bind_eq rConstants_eq ?_)
  dsimp only
  have hall := all_len m
  have hlen : (m ++ padL m.length).length = m.length + (padL m.length).length := List.length_append
  generalize hM : m ++ padL m.length = M at *
  refine Gives.loop (fun x => x.1 = M ∧ x.2.2.1 = cK ∧ x.2.2.2.2 = Z32 ∧ ∃ k : Nat, x.2.2.2.1 = ((64 * k : Nat) : Int) ∧ 64 * k ≤ M.length ∧ x.2.1 = blks k cF M) (fun x => (M.length - x.2.2.2.1.toNat)) ?_ _ _ ⟨rfl, rfl, rfl, 0, rfl, by omega, rfl⟩ (by show M.length - 0 < 281474976710700; omega)
  rintro rec ⟨a7, a8, a9, a10, a11⟩ ⟨k1, k2, k3, k, k4, k5, k6⟩ hrec
  dsimp only at k1 k2 k3 k4 k5 k6 hrec ⊢
  subst k1 k2 k3
  have h8 : a8.length = 8 := by rw [k6]; exact blks_len _ _ _ cF_len
  refine Gives.dite (fun hlt => ?_) (fun hge => ?_)
  · have hk : 64 * k + 64 ≤ a7.length := by omega
    rw [wrap64 (n := a10 + 64) (by omega) (by omega)]
    refine Gives.pos (by omega) ?_
    have ec : (a7.drop a10.toNat).take ((a10 + 64).toNat - a10.toNat) = (a7.drop (64 * k)).take 64 := by
      rw [show a10.toNat = 64 * k from by omega, show (a10 + 64).toNat - 64 * k = 64 from by omega]
    rw [ec]
    refine Gives.bind_eq (rBlock_gives h8 (by rw [List.length_take, List.length_drop]; omega)).eq ?_
    refine hrec _ ⟨rfl, rfl, rfl, k + 1, by show a10 + 64 = _; omega, by omega, ?_⟩ (by show a7.length - (a10 + 64).toNat < a7.length - a10.toNat; omega)
    show blk a8 _ = _
    rw [blks_snoc, k6]
  · refine Gives.of_eq (out_ref a8 h8) ?_
    unfold shaL
    rw [hM, k6]
    congr 2
    omega
theorem hsum_gives {s b m : List Int} {h l : Int} (r : Rep s b h l m) (hm : m.length ≤ 140737488355000) : Gives (hsum FU (s, b, h, l, ())) (· = shaL m) := by
  unfold hsum
  dsimp only
  rw [r.len]
  refine Gives.bind_eq (pad_gives m.length (by omega)).eq ?_
  have hpl := padL_len m.length
  have h2 : (m.length + 8) % 64 < 64 := Nat.mod_lt _ (by omega)
  have r' := r
  rw [r.len] at r'
  refine Gives.bind (hwrite_gives r' (padL m.length) (by omega)) ?_
  rintro ⟨s', b', h', l'⟩ r2
  dsimp only at r2 ⊢
  refine Gives.of_eq (out_prog s' r2.slen) ?_
  unfold shaL
  rw [r2.st]
theorem sum_gives {m : List Int} (hm : m.length ≤ 140737488355000) : Gives (sum FU m) (· = shaL m) := by
  unfold sum
  refine Gives.bind_eq hnew_eq ?_
  dsimp only
  refine Gives.bind (hwrite_gives rep_new m (by simp; omega)) ?_
  rintro ⟨s', b', h', l'⟩ r2
  dsimp only at r2 ⊢
  rw [List.nil_append] at r2
  refine Gives.bind (hsum_gives r2 hm) ?_
  rintro x rfl
  exact Gives.pos ⟨rfl, (shaL_len m).symm⟩ (Gives.pos (shaL_len m).symm (Gives.of_some rfl))
end Go.Sx.YtankgmieldchdaaDoor
