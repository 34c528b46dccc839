/- Codes of keys: the program's, the document's. -/
import Derived.Test.YtfgkjcpcljfpdaaDoorWN1
namespace Go.Sx.YtfgkjcpcljfpdaaDoor
open Go Go.Sx
set_option autoImplicit false
set_option maxRecDepth 1000000
set_option linter.unusedVariables false
set_option linter.unusedSimpArgs false
theorem hwriteK_gives {s b m : List Int} {h l : Int} (r : Rep s b h l m) (x : List Int) (hx : m.length + x.length ≤ 281474976710600) : Gives (hwriteK FU (s, b, h, l, x)) (fun y => Rep y.1 y.2.1 y.2.2.1 y.2.2.2.1 (m ++ x) ∧ y.2.2.2.2 = x) := by
  unfold hwriteK
  dsimp only
  rw [r.len, wrap64 (by omega) (by omega)]
  refine Gives.loop (fun y => ∃ m', m ++ x = m' ++ x.drop y.1.toNat ∧ Rep y.2.2.1 y.2.2.2.1 y.2.2.2.2.1 (m'.length : Int) m' ∧ y.2.2.2.2.2.1 = (m.length : Int) + x.length ∧ y.2.2.2.2.2.2 = x ∧ 0 ≤ y.1 ∧ 0 ≤ y.2.1 ∧ y.1 + y.2.1 = (x.length : Int)) (fun y => y.2.1.toNat) ?_ _ _ ⟨m, rfl, ⟨r.st, r.bl, r.hv, r.rest, rfl⟩, rfl, rfl, by simp, by simp, by simp⟩ (by show (x.length : Int).toNat < FU; show _ < 281474976710700; omega)
  rintro rec ⟨lo, cn, a10, a11, a12, a13, row⟩ ⟨m', e1, r1, e2, e3, e4, e5, e6⟩ hrec
  dsimp only at e1 r1 e2 e3 e4 e5 e6 hrec ⊢
  subst e3
  have hlen := congrArg List.length e1
  rw [List.length_append, List.length_append, List.length_drop] at hlen
  have h1 := r1.hv
  have h2 := r1.bl
  have hmod : m'.length % 64 < 64 := Nat.mod_lt _ (by omega)
  have ht : a12.toNat = m'.length % 64 := by omega
  refine Gives.dite (fun hgt => ?_) (fun hle => ?_)
  · have hsl : (row.drop lo.toNat).take cn.toNat = row.drop lo.toNat := List.take_of_length_le (by rw [List.length_drop]; omega)
    rw [hsl]
    have hql : (row.drop lo.toNat).length = cn.toNat := by rw [List.length_drop]; omega
    have hqd : ∀ k : Nat, row.drop (lo.toNat + k) = (row.drop lo.toNat).drop k := fun k => by rw [List.drop_drop]
    generalize hq : row.drop lo.toNat = a9 at *
    refine Gives.pos (by omega) (Gives.pos (by omega) ?_)
    refine Gives.pos (by omega) ?_
    rw [ht]
    have ek : ((min (64 - m'.length % 64) a9.length : Nat) : Int).toNat = min (64 - m'.length % 64) a9.length := by simp
    have e64 : IntKind.wrap .i64 (a12 + ((min (64 - m'.length % 64) a9.length : Nat) : Int)) = ((m'.length % 64 + min (64 - m'.length % 64) a9.length : Nat) : Int) := by rw [wrap64 (by omega) (by omega)]; omega
    rw [e64, ek]
    generalize hk : min (64 - m'.length % 64) a9.length = k at *
    have hk0 : 0 < k := by omega
    have htake : a9.take (64 - m'.length % 64) = a9.take k := by
      rcases Nat.le_total (64 - m'.length % 64) a9.length with q | q
      · rw [← hk, Nat.min_eq_left q]
      · rw [← hk, Nat.min_eq_right q, List.take_of_length_le q, List.take_of_length_le (Nat.le_refl _)]
    rw [htake]
    have hb2 : (List.take (m'.length % 64) a11 ++ a9.take k ++ List.drop (m'.length % 64 + k) a11).length = 64 := by
      simp only [List.length_append, List.length_take, List.length_drop]; omega
    have hm2 : (m' ++ a9.take k).length = m'.length + k := by rw [List.length_append, List.length_take]; omega
    have happ : m ++ row = (m' ++ a9.take k) ++ row.drop (((lo.toNat + k : Nat) : Int)).toNat := by
      rw [show (((lo.toNat + k : Nat) : Int)).toNat = lo.toNat + k from Int.toNat_natCast _, hqd k, e1, List.append_assoc, List.take_append_drop]
    have hpre : (List.take (m'.length % 64) a11 ++ a9.take k ++ List.drop (m'.length % 64 + k) a11).take (m'.length % 64 + k) = (m' ++ a9.take k).drop (64 * (m'.length / 64)) := by
      rw [List.take_append_of_le_length (by simp only [List.length_append, List.length_take]; omega), List.take_of_length_le (by simp only [List.length_append, List.length_take]; omega)]
      rw [r1.rest, List.drop_append_of_le_length (by omega)]
    refine Gives.eite (fun heq => ?_) (fun hne => ?_)
    · refine Gives.bind_eq (mix_gives r1.slen hb2 _ _).eq ?_
      dsimp only
      have hfull : m'.length % 64 + k = 64 := by omega
      refine hrec _ ⟨m' ++ a9.take k, happ, ?_, e2, rfl, by dsimp only; omega, by dsimp only; omega, by dsimp only; omega⟩ (by dsimp only; omega)
      have hd : (m' ++ a9.take k).length / 64 = m'.length / 64 + 1 := by rw [hm2]; omega
      have hmm : (m' ++ a9.take k).length % 64 = 0 := by rw [hm2]; omega
      refine ⟨?_, hb2, by rw [hmm]; rfl, ?_, rfl⟩
      · show blk a10 _ = _
        rw [hd, blks_snoc, r1.st]
        congr 1
        · exact blks_pre _ _ _ _ (by rw [List.take_append_of_le_length (by omega)])
        · have hB := List.take_of_length_le (i := 64) (Nat.le_of_eq hb2)
          rw [← hpre, hfull]
          rw [hfull] at hB
          rw [hB, hB]
      · rw [hmm, hd, List.take_zero, List.drop_eq_nil_of_le (by rw [hm2]; omega)]
    · refine hrec _ ⟨m' ++ a9.take k, happ, ?_, e2, rfl, by dsimp only; omega, by dsimp only; omega, by dsimp only; omega⟩ (by dsimp only; omega)
      have hd : (m' ++ a9.take k).length / 64 = m'.length / 64 := by rw [hm2]; omega
      have hmm : (m' ++ a9.take k).length % 64 = m'.length % 64 + k := by rw [hm2]; omega
      refine ⟨?_, hb2, by rw [hmm], by rw [hmm, hd]; exact hpre, rfl⟩
      show a10 = _
      rw [hd, r1.st]
      exact blks_pre _ _ _ _ (by rw [List.take_append_of_le_length (by omega)])
  · have h9 : row.drop lo.toNat = [] := List.drop_eq_nil_of_le (by omega)
    rw [h9, List.append_nil] at e1
    subst e1
    refine Gives.of_some ⟨⟨r1.st, r1.bl, r1.hv, r1.rest, ?_⟩, rfl⟩
    show a13 = _
    rw [e2, List.length_append]
    omega
/-- the sum of bytes in a row of one's own. -/
theorem sumK_gives {m : List Int} (hm : m.length ≤ 140737488355000) : Gives (shaSumK FU m) (· = (shaL m, m)) := by
  unfold shaSumK
  refine Gives.bind_eq hnew_eq ?_
  dsimp only
  refine Gives.bind (hwriteK_gives rep_new m (by simp; omega)) ?_
  rintro ⟨s, b, h, l, y⟩ ⟨r2, e⟩
  dsimp only at r2 e ⊢
  subst e
  rw [List.nil_append] at r2
  refine Gives.bind (hsum_gives r2 hm) ?_
  rintro _ rfl
  exact Gives.pos ⟨rfl, (shaL_len _).symm⟩ (Gives.pos (shaL_len _).symm (Gives.of_some rfl))
/-! ### keys -/
def xk (c : Int) (k : List Int) : List Int := k.map fun v => bits .xor .u8 v c
def fil (r : List Int) : List Int := r ++ List.replicate (64 - r.length) 0
def kb (key : List Int) : List Int := fil (if key.length > 64 then shaL key else key)
/-- the code of a key and a text. -/
def hm (key text : List Int) : List Int := shaL (xk 92 (kb key) ++ shaL (xk 54 (kb key) ++ text))
theorem xk_len (c : Int) (k : List Int) : (xk c k).length = k.length := by simp [xk]
theorem fil_len (r : List Int) (h : r.length ≤ 64) : (fil r).length = 64 := by simp [fil]; omega
theorem kb_len (key : List Int) : (kb key).length = 64 := by
  unfold kb
  split
  · exact fil_len _ (by rw [shaL_len]; omega)
  · exact fil_len _ (by omega)
theorem mid_get (p r : List Int) (v : Int) (i : Nat) (h : p.length = i) : (p ++ v :: r).getD i 0 = v := by
  subst h
  rw [List.getD_eq_getElem?_getD, List.getElem?_append_right (Nat.le_refl _)]
  simp
theorem mid_set (p r : List Int) (v w : Int) (i : Nat) (h : p.length = i) : (p ++ v :: r).set i w = (p ++ [w]) ++ r := by
  subst h
  rw [List.set_append_right _ _ (Nat.le_refl _), Nat.sub_self, List.set_cons_zero, List.append_assoc]
  rfl
theorem take_snoc (k : List Int) (i : Nat) (h : i < k.length) : k.take (i + 1) = k.take i ++ [k.getD i 0] := by
  rw [List.take_add_one, List.getElem?_eq_getElem h, List.getD_eq_getElem?_getD, List.getElem?_eq_getElem h]
  rfl
theorem with_gives {k : List Int} (hk : k.length = 64) (c : Int) : Gives (with_ FU (k, c)) (· = xk c k) := by
  unfold with_
  dsimp only
  refine Gives.pos hk.symm ?_
  refine Gives.loop (fun y => y.1 = c ∧ 0 ≤ y.2.1 ∧ y.2.1 ≤ 64 ∧ y.2.2 = xk c (k.take y.2.1.toNat) ++ k.drop y.2.1.toNat) (fun y => (64 - y.2.1).toNat) ?_ _ _ ⟨rfl, by simp, by simp, by simp [xk]⟩ (by show 64 < FU; decide)
  rintro rec ⟨a5, i, a7⟩ ⟨k1, k2, k3, k4⟩ hrec
  dsimp only at k1 k2 k3 k4 hrec ⊢
  subst k1
  have hl : a7.length = 64 := by rw [k4, List.length_append, xk_len, List.length_take, List.length_drop]; omega
  refine Gives.dite (fun hlt => ?_) (fun hge => ?_)
  · iterate 4 refine Gives.pos (by omega) ?_
    have hi : i.toNat < k.length := by omega
    have hp : (xk a5 (k.take i.toNat)).length = i.toNat := by rw [xk_len, List.length_take]; omega
    rw [List.drop_eq_getElem_cons hi] at k4
    rw [k4, mid_get _ _ _ _ hp, mid_set _ _ _ _ _ hp, wrap64 (by omega) (by omega)]
    refine hrec _ ⟨rfl, by show (0 : Int) ≤ i + 1; omega, by show i + 1 ≤ 64; omega, ?_⟩ (by show (64 - (i + 1)).toNat < (64 - i).toNat; omega)
    show _ = xk a5 (k.take (i + 1).toNat) ++ k.drop (i + 1).toNat
    rw [show (i + 1).toNat = i.toNat + 1 from by omega, take_snoc _ _ hi]
    unfold xk
    rw [List.map_append]
    congr 2
    rw [List.getD_eq_getElem?_getD, List.getElem?_eq_getElem hi]
    rfl
  · refine Gives.pos hl.symm (Gives.of_some ?_)
    rw [k4, show i.toNat = 64 from by omega, List.take_of_length_le (by omega), List.drop_eq_nil_of_le (by omega), List.append_nil]
/-- a code under way: its key, what it has. -/
def MR (y : List Int × List Int × List Int × Int × Int) (k m : List Int) : Prop := y.1 = k ∧ Rep y.2.1 y.2.2.1 y.2.2.2.1 y.2.2.2.2 m
theorem mresetN_gives {u : List Int} (hu : u.length = 64) : Gives (mresetN FU u) (fun y => MR y u (xk 54 u)) := by
  unfold mresetN
  refine Gives.bind_eq hnew_eq (Gives.bind_eq (with_gives hu 54).eq ?_)
  dsimp only
  refine Gives.bind (hwrite_gives rep_new (xk 54 u) (by rw [xk_len]; simp; omega)) ?_
  rintro ⟨s, b, h, l⟩ r2
  rw [List.nil_append] at r2
  exact Gives.of_some ⟨rfl, r2⟩
theorem mreset_gives {u : List Int} (hu : u.length = 64) (s b : List Int) (h l : Int) : Gives (mreset FU (u, s, b, h, l)) (fun y => MR y u (xk 54 u)) := by
  unfold mreset
  dsimp only
  refine Gives.bind_eq hnew_eq (Gives.bind_eq (with_gives hu 54).eq ?_)
  dsimp only
  refine Gives.bind (hwrite_gives rep_new (xk 54 u) (by rw [xk_len]; simp; omega)) ?_
  rintro ⟨s, b, h, l⟩ r2
  rw [List.nil_append] at r2
  exact Gives.of_some ⟨rfl, r2⟩
theorem fill_eq (r : List Int) (hr : r.length ≤ 64) : List.take 0 (List.replicate 64 (0 : Int)) ++ r.take (64 - 0) ++ List.drop (0 + min (64 - 0) r.length) (List.replicate 64 (0 : Int)) = fil r := by
  rw [List.take_zero, List.nil_append, Nat.sub_zero, List.take_of_length_le hr, Nat.zero_add, Nat.min_eq_right hr, List.drop_replicate]
  rfl
theorem all32 {r : List Int} (h : r.length = 32) : (r.drop 0).take (32 - 0) = r := by
  rw [List.drop_zero, List.take_of_length_le (by omega)]
theorem mnew_gives {key : List Int} (hk : key.length ≤ 140737488355000) : Gives (mnew FU key) (fun y => MR y (kb key) (xk 54 (kb key))) := by
  unfold mnew
  refine Gives.dite (fun hgt => ?_) (fun hle => ?_)
  · refine Gives.bind_eq (sum_gives hk).eq ?_
    have hl := shaL_len key
    refine Gives.pos ⟨rfl, hl.symm⟩ (Gives.pos hl.symm (Gives.pos (by simp) ?_))
    dsimp only
    rw [all32 hl, fill_eq _ (by omega)]
    have e : fil (shaL key) = kb key := by unfold kb; rw [if_pos (by omega)]
    rw [e]
    refine Gives.bind (mresetN_gives (kb_len key)) ?_
    rintro ⟨k, s, b, h, l⟩ r
    exact Gives.of_some r
  · refine Gives.pos (by simp) ?_
    dsimp only
    rw [fill_eq _ (by omega)]
    have e : fil key = kb key := by unfold kb; rw [if_neg (by omega)]
    rw [e]
    refine Gives.bind (mresetN_gives (kb_len key)) ?_
    rintro ⟨k, s, b, h, l⟩ r
    exact Gives.of_some r
theorem mnewK_gives {key : List Int} (hk : key.length ≤ 140737488355000) : Gives (mnewK FU key) (fun y => MR (y.1, y.2.1, y.2.2.1, y.2.2.2.1, y.2.2.2.2.1) (kb key) (xk 54 (kb key)) ∧ y.2.2.2.2.2 = key) := by
  unfold mnewK
  refine Gives.dite (fun hgt => ?_) (fun hle => ?_)
  · refine Gives.bind_eq (sumK_gives hk).eq ?_
    have hl := shaL_len key
    refine Gives.pos ⟨rfl, hl.symm⟩ (Gives.pos hl.symm (Gives.pos (by simp) ?_))
    dsimp only
    rw [all32 hl, fill_eq _ (by omega)]
    have e : fil (shaL key) = kb key := by unfold kb; rw [if_pos (by omega)]
    rw [e]
    refine Gives.bind (mresetN_gives (kb_len key)) ?_
    rintro ⟨k, s, b, h, l⟩ r
    exact Gives.of_some ⟨r, rfl⟩
  · refine Gives.pos (by simp) ?_
    dsimp only
    rw [fill_eq _ (by omega)]
    have e : fil key = kb key := by unfold kb; rw [if_neg (by omega)]
    rw [e]
    refine Gives.bind (mresetN_gives (kb_len key)) ?_
    rintro ⟨k, s, b, h, l⟩ r
    exact Gives.of_some ⟨r, rfl⟩
theorem mwrite_gives {k s b q m : List Int} {h l : Int} (r : MR (q, s, b, h, l) k m) (x : List Int) (hx : m.length + x.length ≤ 281474976710600) : Gives (mwrite FU (x, q, s, b, h, l)) (fun y => MR y k (m ++ x)) := by
  unfold mwrite
  dsimp only
  refine Gives.bind (hwrite_gives r.2 x hx) ?_
  rintro ⟨s', b', h', l'⟩ r2
  exact Gives.of_some ⟨r.1, r2⟩
theorem msum_gives {k s b q m : List Int} {h l : Int} (r : MR (q, s, b, h, l) k m) (hk : k.length = 64) (hm' : m.length ≤ 140737488355000) : Gives (msum FU (q, s, b, h, l)) (· = (shaL (xk 92 k ++ shaL m), q, s, b, h, l)) := by
  unfold msum
  have hl := shaL_len m
  obtain ⟨e, r⟩ := r
  dsimp only at e
  subst e
  dsimp only
  refine Gives.bind_eq (hsum_gives r hm').eq (Gives.pos ⟨rfl, hl.symm⟩ (Gives.bind_eq (with_gives hk 92).eq (Gives.pos hl.symm ?_)))
  rw [all32 hl]
  refine Gives.pos ⟨by rw [xk_len]; omega, by omega⟩ ?_
  refine Gives.bind_eq (sumK_gives (by rw [List.length_append, xk_len]; omega)).eq ?_
  exact Gives.pos ⟨rfl, (shaL_len _).symm⟩ (Gives.pos (shaL_len _).symm (Gives.of_some rfl))
theorem msumP_gives {key text : List Int} (hk : key.length ≤ 140737488351232) (ht : text.length ≤ 140737488351232) : Gives (sum FU (key, text)) (· = hm key text) := by
  unfold sum
  dsimp only
  refine Gives.bind (mnew_gives (by omega)) ?_
  rintro ⟨q, s, b, h, l⟩ r
  dsimp only
  refine Gives.bind (mwrite_gives r text (by rw [xk_len, kb_len]; omega)) ?_
  rintro ⟨q, s, b, h, l⟩ r
  dsimp only
  refine Gives.bind_eq (msum_gives r (kb_len _) (by rw [List.length_append, xk_len, kb_len]; omega)).eq ?_
  exact Gives.pos ⟨rfl, (shaL_len _).symm⟩ (Gives.pos (shaL_len _).symm (Gives.of_some rfl))
end Go.Sx.YtfgkjcpcljfpdaaDoor
