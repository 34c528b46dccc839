/- Part of a proof by a small interpreter on plain values; no condition. -/
import Derived.Test.YtppiiahjnglcnaaWa
/-! W22K: maps as lists, entries in a row. -/
namespace Go.Sx.Ytppiiahjnglcnaa
open Go Go.Sx
set_option autoImplicit false
set_option linter.unusedVariables false
set_option linter.unusedSimpArgs false
abbrev Wh := Int × (Int × (List Int × Unit))
abbrev Bk := Int × (Int × Unit)
abbrev Ent := Wh × (Bk × (Int × (Int × Unit)))
abbrev REnt := Wh × (Bk × Unit)
abbrev eqW : Wh → Wh → Bool := K.eqb (.pair (.int .i64) (.pair (.int .i64) (.pair .str .unit)))
theorem eqW_iff (a b : Wh) : eqW a b = true ↔ a = b := by
  obtain ⟨a1, a2, a3, _⟩ := a
  obtain ⟨b1, b2, b3, _⟩ := b
  simp [eqW, K.eqb, eqI, eqS]
/-! ### maps -/
section
variable {α β : Type} {eq : α → α → Bool}
theorem mget_none_iff (heq : ∀ a b, eq a b = true ↔ a = b) {k : α} : ∀ {l : List (α × β)}, mget eq k l = none ↔ ∀ p ∈ l, p.1 ≠ k
  | [] => by simp [mget]
  | p :: r => by
    unfold mget
    by_cases h : eq k p.1 = true
    · rw [if_pos h]
      have := (heq _ _).1 h
      simp [this]
    · rw [if_neg h, mget_none_iff heq]
      have hn : p.1 ≠ k := fun e => h ((heq _ _).2 e.symm)
      simp [hn]
theorem mget_some_iff (heq : ∀ a b, eq a b = true ↔ a = b) {k : α} {v : β} : ∀ {l : List (α × β)}, (l.map (·.1)).Nodup → (mget eq k l = some v ↔ (k, v) ∈ l)
  | [], _ => by simp [mget]
  | p :: r, nd => by
    simp only [List.map_cons, List.nodup_cons] at nd
    unfold mget
    by_cases h : eq k p.1 = true
    · rw [if_pos h]
      have e := (heq _ _).1 h
      subst e
      constructor
      · intro h2; injection h2 with h2; subst h2; simp
      · intro h2
        rcases List.mem_cons.1 h2 with h2 | h2
        · rw [← h2]
        · exact absurd (List.mem_map.2 ⟨_, h2, rfl⟩) nd.1
    · rw [if_neg h, mget_some_iff heq nd.2]
      have hn : (k, v) ≠ p := fun e => h ((heq _ _).2 (by rw [← e]))
      simp [hn]
theorem mput_new {k : α} {v : β} : ∀ {l : List (α × β)}, mget eq k l = none → mput eq k v l = l ++ [(k, v)]
  | [], _ => rfl
  | p :: r, h => by
    unfold mget at h
    unfold mput
    split at h
    · cases h
    · rename_i hn
      rw [if_neg hn, mput_new h]
      rfl
theorem mdel_perm (heq : ∀ a b, eq a b = true ↔ a = b) {k : α} {v : β} : ∀ {l : List (α × β)}, mget eq k l = some v → l.Perm ((k, v) :: mdel eq k l)
  | [], h => by cases h
  | p :: r, h => by
    unfold mget at h
    unfold mdel
    split at h
    · rename_i he
      injection h with h
      subst h
      rw [if_pos he, (heq _ _).1 he]
      
    · rename_i hn
      rw [if_neg hn]
      exact ((mdel_perm heq h).cons p).trans (List.Perm.swap _ _ _)
end
/-! ### rows of nodes -/
def hd : List Nat → Int → Int
  | [], n => n
  | i :: _, _ => (i : Int)
def lst (p : Int) : List Nat → Int
  | [] => p
  | i :: r => lst (i : Int) r
def Seg (xs : List Ent) : Int → List Nat → Int → Prop
  | _, [], _ => True
  | p, i :: r, n => (∃ e, xs[i]? = some e ∧ e.2.2.1 = p ∧ e.2.2.2.1 = hd r n) ∧ Seg xs (i : Int) r n
theorem hd_app (a b : List Nat) (n : Int) : hd (a ++ b) n = hd a (hd b n) := by cases a <;> rfl
theorem lst_app (p : Int) : ∀ (a b : List Nat), lst p (a ++ b) = lst (lst p a) b
  | [], b => rfl
  | i :: a, b => lst_app (i : Int) a b
theorem seg_app {xs : List Ent} {n : Int} {b : List Nat} : ∀ {a : List Nat} {p : Int}, Seg xs p (a ++ b) n ↔ Seg xs p a (hd b n) ∧ Seg xs (lst p a) b n
  | [], p => by simp [Seg, lst]
  | i :: a, p => by
    simp only [List.cons_append, Seg, lst, seg_app (a := a), hd_app]
    exact ⟨fun ⟨h1, h2, h3⟩ => ⟨⟨h1, h2⟩, h3⟩, fun ⟨⟨h1, h2⟩, h3⟩ => ⟨h1, h2, h3⟩⟩
theorem seg_imp {xs ys : List Ent} {n : Int} : ∀ {o : List Nat} {p : Int}, (∀ i ∈ o, ∀ e, xs[i]? = some e → ∃ e', ys[i]? = some e' ∧ e'.2.2 = e.2.2) → Seg xs p o n → Seg ys p o n
  | [], _, _, _ => trivial
  | i :: o, p, h, ⟨⟨e, h1, h2, h3⟩, h4⟩ => by
    obtain ⟨e', q1, q2⟩ := h i (by simp) e h1
    exact ⟨⟨e', q1, by rw [q2]; exact h2, by rw [q2]; exact h3⟩, seg_imp (fun j hj => h j (by simp [hj])) h4⟩
theorem seg_out {xs : List Ent} {p n : Int} {o : List Nat} {y : Nat} (e : Ent) (hy : y ∉ o) (h : Seg xs p o n) : Seg (xs.set y e) p o n :=
  seg_imp (fun i hi e' he => ⟨e', by rw [List.getElem?_set_ne (fun q => hy (by rw [q]; exact hi))]; exact he, rfl⟩) h
theorem set_get {xs : List Ent} {y : Nat} {e e' : Ent} (h : xs[y]? = some e) : (xs.set y e')[y]? = some e' := by
  rw [List.getElem?_set_self (List.getElem?_eq_some_iff.1 h).1]
theorem seg_next {xs : List Ent} {p n n' : Int} {a : List Nat} {y : Nat} {e : Ent} (h : Seg xs p (a ++ [y]) n) (he : xs[y]? = some e) (hy : y ∉ a) : Seg (xs.set y (e.1, (e.2.1, (e.2.2.1, (n', ()))))) p (a ++ [y]) n' := by
  rw [seg_app] at h ⊢
  obtain ⟨h1, ⟨e', h2, h3, h4⟩, _⟩ := h
  rw [he] at h2
  injection h2 with h2
  subst h2
  exact ⟨seg_out _ hy h1, ⟨_, set_get he, h3, rfl⟩, trivial⟩
theorem seg_prev {xs : List Ent} {p p' n : Int} {b : List Nat} {z : Nat} {e : Ent} (h : Seg xs p (z :: b) n) (he : xs[z]? = some e) (hz : z ∉ b) : Seg (xs.set z (e.1, (e.2.1, (p', (e.2.2.2.1, ()))))) p' (z :: b) n := by
  obtain ⟨⟨e', h2, h3, h4⟩, h5⟩ := h
  rw [he] at h2
  injection h2 with h2
  subst h2
  exact ⟨⟨_, set_get he, rfl, h4⟩, seg_out _ hz h5⟩
theorem seg_lt {xs : List Ent} {n : Int} : ∀ {o : List Nat} {p : Int}, Seg xs p o n → ∀ i ∈ o, i < xs.length
  | i :: o, p, ⟨⟨e, h1, _⟩, h4⟩, j, hj => by
    rcases List.mem_cons.1 hj with rfl | hj
    · exact (List.getElem?_eq_some_iff.1 h1).1
    · exact seg_lt h4 j hj
def dE : Ent := ((0, 0, [], ()), (0, 0, ()), -1, -1, ())
def who (xs : List Ent) (i : Nat) : Wh := (xs.getD i dE).1
def bk (xs : List Ent) (i : Nat) : Bk := (xs.getD i dE).2.1
/-- the same entries, but for their links. -/
def Same (xs ys : List Ent) : Prop := ys.length = xs.length ∧ ∀ i, who ys i = who xs i ∧ bk ys i = bk xs i
theorem Same.refl (xs : List Ent) : Same xs xs := ⟨rfl, fun _ => ⟨rfl, rfl⟩⟩
theorem Same.trans {xs ys zs : List Ent} (h : Same xs ys) (k : Same ys zs) : Same xs zs := ⟨k.1.trans h.1, fun i => ⟨(k.2 i).1.trans (h.2 i).1, (k.2 i).2.trans (h.2 i).2⟩⟩
theorem Same.set {xs : List Ent} {y : Nat} {e e' : Ent} (h : xs[y]? = some e) (h1 : e'.1 = e.1) (h2 : e'.2.1 = e.2.1) : Same xs (xs.set y e') := by
  refine ⟨by simp, fun i => ?_⟩
  unfold who bk
  rw [List.getD_eq_getElem?_getD, List.getD_eq_getElem?_getD]
  by_cases hi : y = i
  · subst hi
    rw [set_get h, h]
    exact ⟨h1, h2⟩
  · rw [List.getElem?_set_ne hi]
    exact ⟨rfl, rfl⟩
theorem who_of {xs : List Ent} {y : Nat} {e : Ent} (h : xs[y]? = some e) : who xs y = e.1 ∧ bk xs y = e.2.1 := by
  unfold who bk
  rw [List.getD_eq_getElem?_getD, h]
  exact ⟨rfl, rfl⟩
theorem snoc_of {a : List Nat} : a = [] ∨ ∃ a' y, a = a' ++ [y] := by
  rcases List.eq_nil_or_concat a with h | ⟨a', y, h⟩
  · exact .inl h
  · exact .inr ⟨a', y, by simpa using h⟩
/-! ### taking out -/
theorem unlink_ok (n : Nat) (r f l : Int) (m : List (Wh × Int)) {xs : List Ent} {a b : List Nat} {x : Nat} (h : Seg xs (-1) (a ++ x :: b) (-1)) (nd : (a ++ x :: b).Nodup) (hf : f = hd (a ++ x :: b) (-1)) (hl : l = lst (-1) (a ++ x :: b)) :
    ∃ xs', tUnlink n ((x : Int), r, f, l, m, xs) = some (r, hd (a ++ b) (-1), lst (-1) (a ++ b), m, xs') ∧ Seg xs' (-1) (a ++ b) (-1) ∧ Same xs xs' ∧ ∃ e, xs'[x]? = some e ∧ e.2.2.2.1 = -1 := by
  rw [seg_app] at h
  obtain ⟨hA, ⟨e, he, hp, hn⟩, hB⟩ := h
  have nd' := nd
  rw [List.nodup_append] at nd
  obtain ⟨nda, ndxb, ndab⟩ := nd
  rw [List.nodup_cons] at ndxb
  have hxa : x ∉ a := fun hx => ndab x hx x (by simp) rfl
  have hxb : x ∉ b := ndxb.1
  have hx0 : ¬ ((x : Nat) : Int) < 0 := by omega
  -- the one ahead
  have s1 : ∃ xs1 f1, (∀ (A : Type) (k : List Ent → Int → Option A), (if (decide (e.2.2.1 < 0)) = true then k xs e.2.2.2.1 else (if e.2.2.1 < 0 then none else Option.bind (xs[e.2.2.1.toNat]?) fun d => k (xs.set e.2.2.1.toNat (d.1, (d.2.1, (d.2.2.1, (e.2.2.2.1, ()))))) f)) = k xs1 f1) ∧
      f1 = hd (a ++ b) (-1) ∧ Seg xs1 (-1) a (hd b (-1)) ∧ Seg xs1 (x : Int) b (-1) ∧ Same xs xs1 ∧ xs1[x]? = some e := by
    rcases snoc_of (a := a) with rfl | ⟨a', y, rfl⟩
    · refine ⟨xs, e.2.2.2.1, fun A k => ?_, hn, trivial, hB, Same.refl _, he⟩
      rw [hp]
      rfl
    · rw [lst_app] at hp
      simp only [lst] at hp
      have hy := (seg_app.1 hA).2
      obtain ⟨⟨d, hd1, _⟩, _⟩ := hy
      have hyx : y ≠ x := fun q => hxa (by rw [q]; simp)
      have hya : y ∉ a' := by
        rw [List.nodup_append] at nda
        exact fun hq => nda.2.2 y hq y (by simp) rfl
      have hyb : y ∉ b := fun hq => ndab y (by simp) y (by simp [hq]) rfl
      refine ⟨xs.set y (d.1, (d.2.1, (d.2.2.1, (e.2.2.2.1, ())))), f, fun A k => ?_, ?_, ?_, seg_out _ hyb hB, Same.set hd1 rfl rfl, by rw [List.getElem?_set_ne hyx]; exact he⟩
      · rw [hp, if_neg (by simp), if_neg (by omega)]
        simp only [Int.toNat_natCast, hd1, Option.bind_some]
      · rw [hf]
        cases a' <;> rfl
      · rw [hn]
        exact seg_next hA hd1 hya
  obtain ⟨xs1, f1, k1, hf1, hA1, hB1, sm1, he1⟩ := s1
  -- the one behind
  have s2 : ∃ xs2 l2, (∀ (A : Type) (k : List Ent → Int → Option A), (if (decide (e.2.2.2.1 < 0)) = true then k xs1 e.2.2.1 else (if e.2.2.2.1 < 0 then none else Option.bind (xs1[e.2.2.2.1.toNat]?) fun d => k (xs1.set e.2.2.2.1.toNat (d.1, (d.2.1, (e.2.2.1, (d.2.2.2.1, ()))))) l)) = k xs2 l2) ∧
      l2 = lst (-1) (a ++ b) ∧ Seg xs2 (-1) a (hd b (-1)) ∧ Seg xs2 (lst (-1) a) b (-1) ∧ Same xs1 xs2 ∧ xs2[x]? = some e := by
    cases b with
    | nil =>
      refine ⟨xs1, e.2.2.1, fun A k => ?_, by rw [List.append_nil, hp], hA1, trivial, Same.refl _, he1⟩
      rw [hn]
      rfl
    | cons z b =>
      obtain ⟨⟨d, hd1, _⟩, _⟩ := id hB1
      have hzx : z ≠ x := fun q => hxb (by rw [q]; simp)
      have hza : z ∉ a := fun hq => ndab z hq z (by simp) rfl
      have hzb : z ∉ b := (List.nodup_cons.1 ndxb.2).1
      have hn' : e.2.2.2.1 = (z : Int) := hn
      refine ⟨xs1.set z (d.1, (d.2.1, (e.2.2.1, (d.2.2.2.1, ())))), l, fun A k => ?_, ?_, seg_out _ hza hA1, ?_, Same.set hd1 rfl rfl, by rw [List.getElem?_set_ne hzx]; exact he1⟩
      · rw [hn', if_neg (by simp), if_neg (by omega)]
        simp only [Int.toNat_natCast, hd1, Option.bind_some]
      · rw [hl, lst_app, lst_app]
        rfl
      · rw [hp]
        exact seg_prev hB1 hd1 hzb
  obtain ⟨xs2, l2, k2, hl2, hA2, hB2, sm2, he2⟩ := s2
  refine ⟨(xs2.set x (e.1, (e.2.1, (-1, (e.2.2.2.1, ()))))).set x (e.1, (e.2.1, (-1, (-1, ())))), ?_, ?_, ?_, ?_⟩
  · unfold tUnlink
    simp only [if_neg hx0, Int.toNat_natCast, he, Option.bind_some]
    have t1 := k1 (Out (Int × Int × Int × Int × (List (Wh × Int)) × List Ent) (Int × Int × Int × (List (Wh × Int)) × List Ent)) (fun ys g => some (.go ((x : Int), (r, (g, (l, (m, ys)))))))
    have t2 := k2 (Out (Int × Int × Int × Int × (List (Wh × Int)) × List Ent) (Int × Int × Int × (List (Wh × Int)) × List Ent)) (fun ys g => some (.go ((x : Int), (r, (f1, (g, (m, ys)))))))
    refine (congrArg (fun o => Option.bind o _) t1).trans ?_
    simp only [Option.bind_some, if_neg hx0, Int.toNat_natCast, he1]
    refine (congrArg (fun o => Option.bind o _) t2).trans ?_
    simp only [Option.bind_some, if_neg hx0, Int.toNat_natCast, he2, set_get he2]
    rw [hf1, hl2]
  · rw [seg_app]
    exact ⟨seg_out _ hxa (seg_out _ hxa hA2), seg_out _ hxb (seg_out _ hxb hB2)⟩
  · have q1 : Same xs2 (xs2.set x (e.1, (e.2.1, (-1, (e.2.2.2.1, ()))))) := Same.set he2 rfl rfl
    have q2 : Same (xs2.set x (e.1, (e.2.1, (-1, (e.2.2.2.1, ()))))) ((xs2.set x (e.1, (e.2.1, (-1, (e.2.2.2.1, ()))))).set x (e.1, (e.2.1, (-1, (-1, ()))))) := Same.set (set_get he2) rfl rfl
    exact ((sm1.trans sm2).trans q1).trans q2
  · exact ⟨_, set_get (set_get he2), rfl⟩
/-! ### laying in -/
theorem behind_ok (n : Nat) (r f l : Int) (m : List (Wh × Int)) {xs : List Ent} {o : List Nat} {x : Nat} {e : Ent} (h : Seg xs (-1) o (-1)) (hx : x ∉ o) (nd : o.Nodup) (he : xs[x]? = some e) (hn : e.2.2.2.1 = -1) (hf : f = hd o (-1)) (hl : l = lst (-1) o) :
    ∃ xs', tBehind n ((x : Int), r, f, l, m, xs) = some (r, hd (o ++ [x]) (-1), lst (-1) (o ++ [x]), m, xs') ∧ Seg xs' (-1) (o ++ [x]) (-1) ∧ Same xs xs' ∧ ∀ i, i ∉ o → i ≠ x → xs'[i]? = xs[i]? := by
  have hx0 : ¬ ((x : Nat) : Int) < 0 := by omega
  have he1 : (xs.set x (e.1, (e.2.1, (l, (e.2.2.2.1, ())))))[x]? = some (e.1, (e.2.1, (l, (e.2.2.2.1, ())))) := set_get he
  have hs1 := seg_out (e.1, (e.2.1, (l, (e.2.2.2.1, ())))) hx h
  rcases snoc_of (a := o) with rfl | ⟨o', y, rfl⟩
  · refine ⟨xs.set x (e.1, (e.2.1, (l, (e.2.2.2.1, ())))), ?_, ⟨⟨_, he1, hl, hn⟩, trivial⟩, Same.set he rfl rfl, fun i _ hi => by rw [List.getElem?_set_ne (fun q => hi q.symm)]⟩
    unfold tBehind
    simp only [if_neg hx0, Int.toNat_natCast, he, Option.bind_some]
    rw [if_pos (by rw [hl]; rfl)]
    rfl
  · have hl' : l = (y : Int) := by rw [hl, lst_app]; rfl
    have hyx : y ≠ x := fun q => hx (by rw [q]; simp)
    have hyo : y ∉ o' := by
      rw [List.nodup_append] at nd
      exact fun hq => nd.2.2 y hq y (by simp) rfl
    obtain ⟨⟨d, hd1, _⟩, _⟩ := (seg_app.1 hs1).2
    have q1 : Same xs (xs.set x (e.1, (e.2.1, (l, (e.2.2.2.1, ()))))) := Same.set he rfl rfl
    have q2 : Same (xs.set x (e.1, (e.2.1, (l, (e.2.2.2.1, ()))))) ((xs.set x (e.1, (e.2.1, (l, (e.2.2.2.1, ()))))).set y (d.1, (d.2.1, (d.2.2.1, ((x : Int), ()))))) := Same.set hd1 rfl rfl
    refine ⟨(xs.set x (e.1, (e.2.1, (l, (e.2.2.2.1, ()))))).set y (d.1, (d.2.1, (d.2.2.1, ((x : Int), ())))), ?_, ?_, q1.trans q2, fun i hio hi => by rw [List.getElem?_set_ne (fun q => hio (by rw [← q]; simp)), List.getElem?_set_ne (fun q => hi q.symm)]⟩
    · unfold tBehind
      simp only [if_neg hx0, Int.toNat_natCast, he, Option.bind_some]
      rw [hl'] at hd1 ⊢
      rw [if_neg (by simp), if_neg (by omega)]
      simp only [Int.toNat_natCast, hd1, Option.bind_some]
      rw [hf, lst_app]
      cases o' <;> rfl
    · rw [seg_app]
      exact ⟨seg_next hs1 hd1 hyo, ⟨(e.1, (e.2.1, (l, (e.2.2.2.1, ())))), by rw [List.getElem?_set_ne hyx]; exact he1, hl, hn⟩, trivial⟩
end Go.Sx.Ytppiiahjnglcnaa
