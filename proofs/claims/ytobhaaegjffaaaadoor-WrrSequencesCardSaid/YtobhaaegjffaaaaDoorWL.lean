/- Part of a proof by a small interpreter on plain values; no condition. -/
import Derived.Test.YtobhaaegjffaaaaDoorSx20
import Derived.Test.YtobhaaegjffaaaaDoorW
namespace Go.Sx.YtobhaaegjffaaaaDoor
open Go Go.Sx
set_option autoImplicit false
set_option linter.unusedVariables false
set_option linter.unusedSimpArgs false
theorem sure_100 : sure 100 () = some true := by kernel_rfl
theorem num_v (n : Nat) (x : Int) : num n x = some x := rfl
theorem numbers_same (n : Nat) (a : List Int) (hn : a.length < n) (ha : a.length < 1000000) : numbers n (a, a) = some true := by
  apply Gives.eq
  unfold numbers
  refine Gives.nneg rfl ?_
  refine Gives.loop (X := List Int × List Int × Int) (fun y => ∃ k : Nat, k ≤ a.length ∧ y = (a, a, (k : Int))) (fun y => ((a.length : Int) - y.2.2).toNat) ?_ n _ ⟨0, by omega, rfl⟩ (by dsimp only; omega)
  rintro rec y ⟨k, hk, rfl⟩ hr
  dsimp only
  refine Gives.dite (fun h => ?_) (fun h => Gives.of_some rfl)
  refine Gives.idx 0 (by omega) h (Gives.idx 0 (by omega) h (Gives.nneg rfl ?_))
  rw [wrap64 (by omega) (by omega)]
  exact hr _ ⟨k + 1, by omega, rfl⟩ (by dsimp only; omega)
/-! ### the weights -/
def okW (x : List Int) : Prop := (1 ≤ x.length ∧ x.length ≤ 64) ∧ ∀ j, j < x.length → 1 ≤ x.getD j 0 ∧ x.getD j 0 ≤ 1048576
open Classical in
theorem wnew_v (n : Nat) (hn : 64 < n) (x : List Int) : (okW x ∧ wnew n x = some (Sum.inr (x, List.replicate x.length 0)) ∧ rNew n x = some (x, List.replicate x.length 0, 0)) ∨ (wnew n x = some (Sum.inl ()) ∧ rNew n x = some ([], [], 1)) := by
  by_cases h1 : (x.length : Int) < 1
  · right
    unfold wnew rNew
    refine ⟨Gives.eq ?_, Gives.eq ?_⟩
    · exact Gives.dpos h1 (Gives.of_some rfl)
    · exact Gives.dpos h1 (Gives.of_some rfl)
  by_cases h2 : (x.length : Int) > 64
  · right
    unfold wnew rNew
    refine ⟨Gives.eq ?_, Gives.eq ?_⟩
    · exact Gives.dneg h1 (Gives.dpos h2 (Gives.of_some rfl))
    · exact Gives.dneg h1 (Gives.dpos h2 (Gives.of_some rfl))
  by_cases h3 : ∀ j, j < x.length → 1 ≤ x.getD j 0 ∧ x.getD j 0 ≤ 1048576
  · left
    refine ⟨⟨by omega, h3⟩, Gives.eq ?_, Gives.eq ?_⟩
    · unfold wnew
      refine Gives.dneg h1 (Gives.dneg h2 ?_)
      refine Gives.loop (X := List Int × List Int × Int × Int) (fun y => ∃ k : Nat, k ≤ x.length ∧ y = (x, x, (x.length : Int), (k : Int))) (fun y => ((x.length : Int) - y.2.2.2).toNat) ?_ n _ ⟨0, by omega, rfl⟩ (by dsimp only; omega)
      rintro rec y ⟨k, hk, rfl⟩ hr
      dsimp only
      refine Gives.dite (fun h => ?_) (fun h => ?_)
      · have hb := h3 k (by omega)
        refine Gives.idx 0 (by omega) h ?_
        rw [Int.toNat_natCast]
        refine Gives.dneg (by omega) (Gives.dneg (by omega) ?_)
        rw [wrap64 (by omega) (by omega)]
        exact hr _ ⟨k + 1, by omega, rfl⟩ (by dsimp only; omega)
      · refine Gives.pos (by omega) (Gives.pos (by omega) (Gives.of_some ?_))
        rw [Int.toNat_natCast]
    · unfold rNew
      refine Gives.dneg h1 (Gives.dneg h2 ?_)
      refine Gives.loop (X := List Int × Int × List Int × List Int × List Int × List Int) (fun y => ∃ k : Nat, k ≤ x.length ∧ y = (x, (k : Int), [], [], x.take k, List.replicate k 0)) (fun y => ((x.length : Int) - y.2.1).toNat) ?_ n _ ⟨0, by omega, rfl⟩ (by dsimp only; omega)
      rintro rec y ⟨k, hk, rfl⟩ hr
      dsimp only
      refine Gives.dite (fun h => ?_) (fun h => ?_)
      · have hb := h3 k (by omega)
        refine Gives.idx 0 (by omega) h ?_
        rw [Int.toNat_natCast]
        refine Gives.dneg (by omega) (Gives.idx 0 (by omega) h ?_)
        rw [Int.toNat_natCast]
        refine Gives.dneg (by omega) (Gives.idx 0 (by omega) h ?_)
        rw [Int.toNat_natCast]
        refine Gives.pos (by simp; omega) (Gives.pos (by simp; omega) ?_)
        rw [wrap64 (by omega) (by omega)]
        refine hr _ ⟨k + 1, by omega, ?_⟩ (by dsimp only; omega)
        have e1 : x.take k ++ [x.getD k 0] = x.take (k + 1) := by
          rw [List.take_add_one]; congr 1
          simp [List.getD_eq_getElem?_getD, show k < x.length by omega]
        rw [e1, List.replicate_succ']; rfl
      · have : k = x.length := by omega
        subst this
        refine Gives.of_some ?_
        rw [List.take_length]
  · right
    rw [Classical.not_forall] at h3
    have hex : ∃ j, j < x.length ∧ ¬ (1 ≤ x.getD j 0 ∧ x.getD j 0 ≤ 1048576) := by
      obtain ⟨j, hj⟩ := h3
      rw [Classical.not_imp] at hj
      exact ⟨j, hj⟩
    obtain ⟨j, hj, hbad⟩ := hex
    refine ⟨Gives.eq ?_, Gives.eq ?_⟩
    · unfold wnew
      refine Gives.dneg h1 (Gives.dneg h2 ?_)
      refine Gives.loop (X := List Int × List Int × Int × Int) (fun y => ∃ k : Nat, k ≤ j ∧ y = (x, x, (x.length : Int), (k : Int))) (fun y => ((x.length : Int) - y.2.2.2).toNat) ?_ n _ ⟨0, by omega, rfl⟩ (by dsimp only; omega)
      rintro rec y ⟨k, hk, rfl⟩ hr
      dsimp only
      refine Gives.dpos (by omega) ?_
      refine Gives.idx 0 (by omega) (by omega) ?_
      rw [Int.toNat_natCast]
      refine Gives.dite (fun _ => Gives.of_some rfl) (fun c1 => Gives.dite (fun _ => Gives.of_some rfl) (fun c2 => ?_))
      have : k ≠ j := by rintro rfl; omega
      rw [wrap64 (by omega) (by omega)]
      exact hr _ ⟨k + 1, by omega, rfl⟩ (by dsimp only; omega)
    · unfold rNew
      refine Gives.dneg h1 (Gives.dneg h2 ?_)
      refine Gives.loop (X := List Int × Int × List Int × List Int × List Int × List Int) (fun y => ∃ (k : Nat) (p q : List Int), k ≤ j ∧ p.length = k ∧ q.length = k ∧ y = (x, (k : Int), [], [], p, q)) (fun y => ((x.length : Int) - y.2.1).toNat) ?_ n _ ⟨0, [], [], by omega, rfl, rfl, rfl⟩ (by dsimp only; omega)
      rintro rec y ⟨k, p, q, hk, hp, hq, rfl⟩ hr
      dsimp only
      refine Gives.dpos (by omega) ?_
      refine Gives.idx 0 (by omega) (by omega) ?_
      rw [Int.toNat_natCast]
      refine Gives.dite (fun _ => Gives.of_some rfl) (fun c1 => ?_)
      refine Gives.idx 0 (by omega) (by omega) ?_
      rw [Int.toNat_natCast]
      refine Gives.dite (fun _ => Gives.of_some rfl) (fun c2 => ?_)
      have : k ≠ j := by rintro rfl; omega
      refine Gives.idx 0 (by omega) (by omega) (Gives.pos (by omega) (Gives.pos (by omega) ?_))
      rw [wrap64 (by omega) (by omega)]
      exact hr _ ⟨k + 1, _, _, by omega, by simp [hp], by simp [hq], rfl⟩ (by dsimp only; omega)
/-! ### whose turn -/
def stp (w : List Int) (may : List Bool) (k : Nat) (s : Int × Int × List Int) : Int × Int × List Int :=
  if may.getD k false = true then
    (if s.1 < 0 then ((k : Int), IntKind.wrap .i64 (s.2.1 + w.getD k 0), s.2.2.set k (IntKind.wrap .i64 (s.2.2.getD k 0 + w.getD k 0)))
    else if (s.2.2.set k (IntKind.wrap .i64 (s.2.2.getD k 0 + w.getD k 0))).getD k 0 > (s.2.2.set k (IntKind.wrap .i64 (s.2.2.getD k 0 + w.getD k 0))).getD s.1.toNat 0 then ((k : Int), IntKind.wrap .i64 (s.2.1 + w.getD k 0), s.2.2.set k (IntKind.wrap .i64 (s.2.2.getD k 0 + w.getD k 0)))
    else (s.1, IntKind.wrap .i64 (s.2.1 + w.getD k 0), s.2.2.set k (IntKind.wrap .i64 (s.2.2.getD k 0 + w.getD k 0))))
  else s
def rn (w : List Int) (may : List Bool) (now : List Int) : Nat → Int × Int × List Int
  | 0 => (-1, 0, now)
  | k + 1 => stp w may k (rn w may now k)
structure RnInv (may : List Bool) (now : List Int) (k : Nat) (s : Int × Int × List Int) : Prop where
  lo : -1 ≤ s.1
  hi : s.1 < (k : Int)
  len : s.2.2.length = now.length
  no : s.1 < 0 → s.2.2 = now ∧ ∀ j, j < k → may.getD j false = false
  yes : 0 ≤ s.1 → may.getD s.1.toNat false = true
theorem rn_inv (w : List Int) (may : List Bool) (now : List Int) : ∀ k, RnInv may now k (rn w may now k)
  | 0 => ⟨by simp [rn], by simp [rn], rfl, fun _ => ⟨rfl, fun j hj => by omega⟩, fun h => by simp [rn] at h⟩
  | k + 1 => by
    have ih := rn_inv w may now k
    simp only [rn]
    generalize rn w may now k = s at ih
    have hlo := ih.lo
    have hhi := ih.hi
    unfold stp
    by_cases hm : may.getD k false = true
    · rw [if_pos hm]
      have new : RnInv may now (k + 1) ((k : Int), IntKind.wrap .i64 (s.2.1 + w.getD k 0), s.2.2.set k (IntKind.wrap .i64 (s.2.2.getD k 0 + w.getD k 0))) :=
        ⟨by dsimp only; omega, by dsimp only; omega, by simp [ih.len], fun h => by dsimp only at h; omega, fun _ => by simpa using hm⟩
      split
      · exact new
      · split
        · exact new
        · rename_i h _
          exact ⟨hlo, by dsimp only; omega, by simp [ih.len], fun h' => absurd h' h, fun h' => ih.yes h'⟩
    · rw [if_neg hm]
      refine ⟨hlo, by omega, ih.len, fun h => ⟨(ih.no h).1, fun j hj => ?_⟩, ih.yes⟩
      by_cases e : j = k
      · subst e; simpa using hm
      · exact (ih.no h).2 j (by omega)
/-- who is picked (or 0), the error, the numbers behind it. -/
def pkR (w now : List Int) (may : List Bool) : Int × Int × List Int :=
  if may.length = w.length then
    (if (rn w may now w.length).1 < 0 then (0, 8, now)
    else ((rn w may now w.length).1, 0, (rn w may now w.length).2.2.set (rn w may now w.length).1.toNat (IntKind.wrap .i64 ((rn w may now w.length).2.2.getD (rn w may now w.length).1.toNat 0 - (rn w may now w.length).2.1))))
  else (0, 1, now)
theorem pkR_len (w now : List Int) (may : List Bool) : (pkR w now may).2.2.length = now.length := by
  unfold pkR
  split
  · split
    · rfl
    · simp [(rn_inv w may now w.length).len]
  · rfl
theorem getDb {α : Type} (xs : List α) (d : α) (k : Nat) (h : k < xs.length) : idx xs (k : Int) = some (xs.getD k d) := by
  rw [idx_eq d (by omega) (by omega), Int.toNat_natCast]
theorem pick_v (n : Nat) (w now : List Int) (may : List Bool) (hn : now.length = w.length) (hf : w.length < n) (h64 : w.length ≤ 64) : pick n (may, w, now) = some ((pkR w now may).1, (pkR w now may).2.1, w, (pkR w now may).2.2) := by
  apply Gives.eq
  unfold pick
  dsimp only
  refine Gives.nite (fun h => Gives.of_some ?_) (fun h => ?_)
  · unfold pkR
    rw [if_neg (by omega)]
  have hm : may.length = w.length := by omega
  refine Gives.loop (X := Int × Int × List Bool × Int × Int × List Int × List Int) (fun y => ∃ k : Nat, k ≤ w.length ∧ y = ((rn w may now k).1, (rn w may now k).2.1, may, (may.length : Int), (k : Int), w, (rn w may now k).2.2)) (fun y => ((w.length : Int) - y.2.2.2.2.1).toNat) ?_ n _ ⟨0, by omega, rfl⟩ (by dsimp only; omega)
  rintro rec y ⟨k, hk, rfl⟩ hr
  have inv := rn_inv w may now k
  dsimp only
  refine Gives.dite (fun h => ?_) (fun h => ?_)
  · have hkm : k < may.length := by omega
    refine Gives.bind_eq (getDb may false k hkm) ?_
    have hw1 : IntKind.wrap .i64 ((k : Int) + 1) = ((k + 1 : Nat) : Int) := wrap64 (by omega) (by omega)
    have next : ∀ s, rn w may now (k + 1) = s → Gives (rec (s.1, s.2.1, may, (may.length : Int), ((k + 1 : Nat) : Int), w, s.2.2)) (· = ((pkR w now may).1, (pkR w now may).2.1, w, (pkR w now may).2.2)) := by
      rintro s rfl
      exact hr _ ⟨k + 1, by omega, rfl⟩ (by dsimp only; omega)
    rw [hw1]
    simp only [Int.toNat_natCast]
    cases hb : may.getD k false with
    | false =>
      refine Gives.pos rfl ?_
      exact next _ (by show stp w may k _ = _; unfold stp; rw [if_neg (by rw [hb]; decide)])
    | true =>
      have hlen := inv.len
      have hlo := inv.lo
      have hhi := inv.hi
      refine Gives.neg (by simp) (Gives.pos (by omega) (Gives.pos (by omega) (Gives.pos (by omega) (Gives.pos (by omega) ?_))))
      refine Gives.dite (fun c => ?_) (fun c => ?_)
      · exact next (_, _, _) (by simp only [rn, stp, hb, if_true, if_pos c]; try rfl)
      · refine Gives.pos (by simp; omega) (Gives.pos (by simp; omega) ?_)
        refine Gives.dite (fun c2 => ?_) (fun c2 => ?_)
        · exact next (_, _, _) (by simp only [rn, stp, hb, if_true, if_neg c, if_pos c2]; try rfl)
        · exact next (_, _, _) (by simp only [rn, stp, hb, if_true, if_neg c, if_neg c2]; try rfl)
  · have hk2 : k = w.length := by omega
    subst hk2
    have hlo := inv.lo
    have hhi := inv.hi
    have hlen := inv.len
    unfold pkR
    rw [if_pos hm]
    refine Gives.dite (fun c => Gives.of_some ?_) (fun c => ?_)
    · rw [if_pos c, (inv.no c).1]
    · refine Gives.pos (by omega) (Gives.pos (by omega) (Gives.of_some ?_))
      rw [if_neg c]
theorem rPick_v (n : Nat) (w now : List Int) (may : List Bool) (hn : now.length = w.length) (hf : w.length < n) (h64 : w.length ≤ 64) : rPick n (w, now, may) = some (w, (pkR w now may).2.2, (pkR w now may).1, (pkR w now may).2.1) := by
  apply Gives.eq
  unfold rPick
  dsimp only
  refine Gives.nite (fun h => Gives.of_some ?_) (fun h => ?_)
  · unfold pkR
    rw [if_neg (by omega)]
  have hm : may.length = w.length := by omega
  refine Gives.pos (by omega) ?_
  refine Gives.loop (X := List Bool × Int × Int × Int × List Int × List Int × List Int × List Int × List Int) (fun y => ∃ k : Nat, k ≤ w.length ∧ y = (may, (rn w may now k).1, (rn w may now k).2.1, (k : Int), w, now, (rn w may now k).2.2, [], [])) (fun y => ((w.length : Int) - y.2.2.2.1).toNat) ?_ n _ ⟨0, by omega, rfl⟩ (by dsimp only; omega)
  rintro rec y ⟨k, hk, rfl⟩ hr
  have inv := rn_inv w may now k
  dsimp only
  refine Gives.dite (fun h => ?_) (fun h => ?_)
  · have hkm : k < may.length := by omega
    refine Gives.bind_eq (getDb may false k hkm) ?_
    have hw1 : IntKind.wrap .i64 ((k : Int) + 1) = ((k + 1 : Nat) : Int) := wrap64 (by omega) (by omega)
    have next : ∀ s, rn w may now (k + 1) = s → Gives (rec (may, s.1, s.2.1, ((k + 1 : Nat) : Int), w, now, s.2.2, [], [])) (· = (w, (pkR w now may).2.2, (pkR w now may).1, (pkR w now may).2.1)) := by
      rintro s rfl
      exact hr _ ⟨k + 1, by omega, rfl⟩ (by dsimp only; omega)
    rw [hw1]
    simp only [Int.toNat_natCast]
    cases hb : may.getD k false with
    | false =>
      refine Gives.pos rfl ?_
      exact next _ (by show stp w may k _ = _; unfold stp; rw [if_neg (by rw [hb]; decide)])
    | true =>
      have hlen := inv.len
      have hlo := inv.lo
      have hhi := inv.hi
      refine Gives.neg (by simp) (Gives.pos (by omega) (Gives.bind_eq (getDb w 0 k (by omega)) (Gives.pos (by omega) (Gives.bind_eq (getDb w 0 k (by omega)) ?_))))
      refine Gives.dite (fun c => ?_) (fun c => ?_)
      · exact next (_, _, _) (by simp only [rn, stp, hb, if_true, if_pos c]; try rfl)
      · refine Gives.pos (by simp; omega) (Gives.pos (by simp; omega) ?_)
        refine Gives.dite (fun c2 => ?_) (fun c2 => ?_)
        · exact next (_, _, _) (by simp only [rn, stp, hb, if_true, if_neg c, if_pos c2]; try rfl)
        · exact next (_, _, _) (by simp only [rn, stp, hb, if_true, if_neg c, if_neg c2]; try rfl)
  · have hk2 : k = w.length := by omega
    subst hk2
    have hlo := inv.lo
    have hhi := inv.hi
    have hlen := inv.len
    unfold pkR
    rw [if_pos hm]
    refine Gives.dite (fun c => Gives.of_some ?_) (fun c => ?_)
    · rw [if_pos c]
    · refine Gives.pos (by omega) (Gives.pos (by omega) (Gives.of_some ?_))
      rw [if_neg c]
theorem state_v (n : Nat) (w now : List Int) (h : now.length ≤ 64) : state n (w, now) = some (w, now, now) := by
  unfold state
  dsimp only
  rw [if_pos (by omega)]
theorem clone_v (n : Nat) (w now : List Int) (hw : w.length ≤ 64) (h : now.length ≤ 64) : clone n (w, now) = some (w, now, w, now) := by
  unfold clone
  dsimp only
  rw [if_pos (by omega), state_v n w now h]
  rfl
end Go.Sx.YtobhaaegjffaaaaDoor
