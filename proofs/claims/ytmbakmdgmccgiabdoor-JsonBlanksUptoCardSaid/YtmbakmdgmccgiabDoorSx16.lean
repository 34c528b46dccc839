/- Part of a proof by a small interpreter on plain values; no condition. -/
import Derived.Test.YtmbakmdgmccgiabDoorSx15
import Derived.ChangeStays
import Derived.ChangeSame
import Derived.RowKit3
import Derived.DataShut
/-! Sx16: a law's arguments as pure values. -/
namespace Go.Sx
open Go Go.ChangeShapes
set_option autoImplicit false
set_option linter.unusedSimpArgs false
set_option linter.unusedVariables false

/-! ### kinds and types -/
def okF (P : Program) (r : TypeId → K → Bool) : List Field → Nat → K → Nat → Bool
  | [], off, .unit, tot => off == tot
  | f :: fs, off, .pair a b, tot => f.offset == off && (P.cellsOf f.type == a.sz && (r f.type a && okF P r fs (off + a.sz) b tot))
  | _, _, _, _ => false
/-- the type's values are the kind's. -/
def okK (P : Program) : Nat → TypeId → K → Bool
  | 0, _, _ => false
  | d + 1, t, κ => match P.underlying t with
    | some .bool => (match κ with | .bool => true | _ => false)
    | some (.int k) => (match κ with | .int k' => decide (k = k') | _ => false)
    | some .string => (match κ with | .str => true | _ => false)
    | some (.slice e) => (match κ with | .list a => okK P d e a && (P.cellsOf e == a.sz && decide (0 < a.sz)) | _ => false)
    | some (.struct fs) => (match κ with | .js => jsT P t | κ => okF P (okK P d) fs.toList 0 κ (P.cellsOf t))
    | some (.array n e) => (match κ with | .arr m a => (n == m) && (okK P d e a && ((P.cellsOf e == a.sz) && (P.cellsOf t == n * a.sz))) | _ => false)
    | _ => false
/-- the kind of a tree's seven parts. -/
@[reducible] def jsP : K := .pair (.int .i64) (.pair .bool (.pair .str (.pair (.int .i64) (.pair .bool (.pair (.list .js) (.pair (.list .str) .unit))))))
def JV.ofP (x : jsP.T) : JV := .mk x.1 x.2.1 x.2.2.1 x.2.2.2.1 x.2.2.2.2.1 x.2.2.2.2.2.1 x.2.2.2.2.2.2.1
theorem jsT_ok {P : Program} {t : TypeId} {fs : Array Field} (hu : P.underlying t = some (.struct fs)) (h : jsT P t = true) : okF P (okK P 3) fs.toList 0 jsP (P.cellsOf t) = true := by
  have h0 := h
  unfold jsT at h
  rw [hu] at h
  simp only at h
  split at h
  · rename_i a b c d e f g hfs
    split at h
    · rename_i x y ha hb hc hd he hf hg
      simp only [Bool.and_eq_true] at h
      obtain ⟨⟨⟨⟨⟨hx, hy⟩, ⟨⟨⟨⟨⟨⟨o1, o2⟩, o3⟩, o4⟩, o5⟩, o6⟩, o7⟩⟩, ⟨⟨⟨⟨⟨⟨z1, z2⟩, z3⟩, z4⟩, z5⟩, z6⟩, z7⟩⟩, ht⟩, hy1⟩ := h
      have hxt : x = t := Nat.eq_of_beq_eq_true hx
      subst hxt
      have hyu : P.underlying y = some .string := by
        split at hy
        · assumption
        · cases hy
      rw [hfs]
      simp only [okF, Nat.eq_of_beq_eq_true o1, Nat.eq_of_beq_eq_true o2, Nat.eq_of_beq_eq_true o3, Nat.eq_of_beq_eq_true o4, Nat.eq_of_beq_eq_true o5, Nat.eq_of_beq_eq_true o6, Nat.eq_of_beq_eq_true o7,
        Nat.eq_of_beq_eq_true z1, Nat.eq_of_beq_eq_true z2, Nat.eq_of_beq_eq_true z3, Nat.eq_of_beq_eq_true z4, Nat.eq_of_beq_eq_true z5, Nat.eq_of_beq_eq_true z6, Nat.eq_of_beq_eq_true z7, Nat.eq_of_beq_eq_true ht, okK, ha, hb, hc, hd, he, hf, hg, hu, hyu, h0, Nat.eq_of_beq_eq_true hy1, K.sz]
      rfl
    · cases h
  · cases h
mutual
def JV.Ok : JV → Prop
  | .mk k b t n w l ns => (IntKind.i64.min ≤ k ∧ k ≤ IntKind.i64.max) ∧ (t.length ≤ lim ∧ ∀ b ∈ t, 0 ≤ b ∧ b ≤ 255) ∧ (IntKind.i64.min ≤ n ∧ n ≤ IntKind.i64.max) ∧ (l.length ≤ lim ∧ JV.OkL l) ∧ (ns.length ≤ lim ∧ ∀ s ∈ ns, s.length ≤ lim ∧ ∀ b ∈ s, 0 ≤ b ∧ b ≤ 255)
def JV.OkL : List JV → Prop
  | [] => True
  | x :: r => JV.Ok x ∧ JV.OkL r
end
mutual
def JV.bulk : JV → Nat
  | .mk k b t n w l ns => 1 + (1 + (t.length + 1 + (1 + (1 + (JV.bulkL l + 1 + ((ns.map fun s => s.length + 1).sum + 1 + 0))))))
def JV.bulkL : List JV → Nat
  | [] => 0
  | x :: r => JV.bulk x + JV.bulkL r
end
theorem JV.bulkL_sum : ∀ (l : List JV), JV.bulkL l = (l.map JV.bulk).sum
  | [] => by rw [JV.bulkL]; rfl
  | x :: r => by rw [JV.bulkL, JV.bulkL_sum r]; rfl
theorem JV.OkL_iff : ∀ {l : List JV}, JV.OkL l ↔ ∀ x ∈ l, JV.Ok x
  | [] => by rw [JV.OkL]; simp
  | x :: r => by rw [JV.OkL, JV.OkL_iff]; simp
/-- the bounds that every value of a kind keeps. -/
def K.Ok : (κ : K) → κ.T → Prop
  | .int k, x => k.min ≤ x ∧ x ≤ k.max
  | .bool, _ => True
  | .str, l => List.length l ≤ lim ∧ ∀ b ∈ (l : List Int), 0 ≤ b ∧ b ≤ 255
  | .err, _ => True
  | .unit, _ => True
  | .pair a b, x => a.Ok x.1 ∧ b.Ok x.2
  | .nd _, _ => True
  | .js, x => JV.Ok x
  | .list a, xs => List.length xs ≤ lim ∧ ∀ x ∈ (xs : List a.T), a.Ok x
  | .arr n a, xs => List.length xs = n ∧ ∀ x ∈ (xs : List a.T), a.Ok x
/-- the bytes that each part takes. -/
def SzF (r : TypeId → (κ : K) → κ.T → Prop) : List Field → (κ : K) → κ.T → Prop
  | f :: fs, .pair a b, x => r f.type a x.1 ∧ SzF r fs b x.2
  | _, _, _ => True
def SzK (P : Program) : Nat → TypeId → (κ : K) → κ.T → Prop
  | 0, _, _, _ => True
  | _ + 1, _, .str, l => List.length l ≤ reachBytes
  | d + 1, t, .list a, xs => match P.underlying t with
    | some (.slice e) => List.length xs * P.bytesOf e ≤ reachBytes ∧ ∀ x ∈ (xs : List a.T), SzK P d e a x
    | _ => True
  | d + 1, t, .arr _ a, xs => match P.underlying t with
    | some (.array _ e) => ∀ x ∈ (xs : List a.T), SzK P d e a x
    | _ => True
  | d + 1, t, .pair a b, x => match P.underlying t with
    | some (.struct fs) => SzF (SzK P d) fs.toList (.pair a b) x
    | _ => True
  | _ + 1, _, _, _ => True
/-- how much there is. -/
def K.bulk : (κ : K) → κ.T → Nat
  | .int _, _ => 1
  | .bool, _ => 1
  | .str, l => List.length l + 1
  | .err, _ => 1
  | .unit, _ => 0
  | .pair a b, x => a.bulk x.1 + b.bulk x.2
  | .nd _, _ => 1
  | .js, x => JV.bulk x
  | .list a, xs => (List.map a.bulk (xs : List a.T)).sum + 1
  | .arr _ a, xs => (List.map a.bulk (xs : List a.T)).sum
mutual
theorem JV.Ok_of_rd {E : TypeId} {R : Part} : ∀ (x : JV) (cs : List Value), JV.Rd E R x cs → JV.Ok x
  | .mk k b t n w l ns, cs, h => by
    rw [JV.Rd] at h
    obtain ⟨s, A, A', c, c', _, h1, ⟨rfl, hl⟩, h3, ⟨h4, h5⟩, ⟨h6, h7⟩⟩ := h
    have str : ∀ s : ByteArray, s.size ≤ lim → (bytesL s).length ≤ lim ∧ ∀ b ∈ bytesL s, 0 ≤ b ∧ b ≤ 255 := fun s hs => by
      refine ⟨by rw [bytesL_len]; exact hs, fun b hb => ?_⟩
      obtain ⟨c, _, rfl⟩ := List.mem_map.1 hb
      have := c.toNat_lt
      omega
    rw [JV.Ok]
    refine ⟨h1, str s hl, h3, ⟨h4.1, ?_⟩, ⟨h6.1, fun s hs => ?_⟩⟩
    · by_cases hne : l = []
      · rw [hne, JV.OkL]; trivial
      · obtain ⟨_, _, _, _, _, _, _, hL⟩ := h5 hne
        exact JV.OkL_of_rd l _ hL
    · obtain ⟨j, hj⟩ := List.getElem?_of_mem hs
      obtain ⟨_, _, _, _, _, _, _, hx⟩ := h7 (fun e => by rw [e] at hs; cases hs)
      obtain ⟨s', _, rfl, hs'⟩ := hx j s hj
      exact str s' hs'
theorem JV.OkL_of_rd {E : TypeId} {R : Part} : ∀ (l : List JV) (cs : List Value), JV.RdL E R l cs → JV.OkL l
  | [], cs, h => by rw [JV.OkL]; trivial
  | x :: r, cs, h => by
    rw [JV.RdL] at h
    rw [JV.OkL]
    exact ⟨JV.Ok_of_rd x _ h.1, JV.OkL_of_rd r _ h.2⟩
end
theorem K.Ok_of_rd {E : TypeId} {R : Part} : ∀ (κ : K) (x : κ.T) (cs : List Value), κ.Rd E R x cs → κ.Ok x
  | .int k, x, cs, h => h.2
  | .bool, x, cs, h => trivial
  | .str, x, cs, h => by
    obtain ⟨s, _, rfl, hl⟩ := h
    refine ⟨by rw [bytesL_len]; exact hl, fun b hb => ?_⟩
    obtain ⟨c, _, rfl⟩ := List.mem_map.1 hb
    have := c.toNat_lt
    omega
  | .err, x, cs, h => trivial
  | .unit, x, cs, h => trivial
  | .nd _, _, _, _ => trivial
  | .js, x, cs, h => JV.Ok_of_rd x cs h
  | .pair a b, x, cs, h => by
    obtain ⟨c1, c2, _, h1, h2⟩ := h
    exact ⟨K.Ok_of_rd a _ _ h1, K.Ok_of_rd b _ _ h2⟩
  | .list a, xs, cs, h => by
    obtain ⟨A, c, _, hl, h⟩ := h
    refine ⟨hl.1, fun x hx => ?_⟩
    obtain ⟨j, hj⟩ := List.getElem?_of_mem hx
    obtain ⟨b, off, arr, ty, fr, _, _, h⟩ := h (fun e => by rw [e] at hx; cases hx)
    exact K.Ok_of_rd a _ _ (h j x hj)
  | .arr n a, xs, cs, h => ⟨h.1, fun x hx => by
    obtain ⟨j, hj⟩ := List.getElem?_of_mem hx
    exact K.Ok_of_rd a _ _ (h.2.2.2 j x hj)⟩

/-- what the rows' own count says. -/
structure BulkLaw {H : Type} (B : DataW H → Nat) (BA : List (DataW H) → Nat) : Prop where
  str : ∀ l, B (.lit (.string l)) = l.length + 1
  int : ∀ k n, B (.lit (.int k n)) = 1
  bool : ∀ b, B (.lit (.bool b)) = 1
  nil : B .nil = 1
  slice : ∀ x y, B (.slice x y) = BA x + BA y + 1
  agg : ∀ x, B (.agg x) = BA x + 1
  nilA : BA [] = 0
  consA : ∀ d r, BA (d :: r) = B d + BA r

theorem mapM_rel {β γ : Type} {f : Nat → Option β} {V : γ → β → Prop} {U : Nat → γ → Prop} (hf : ∀ i y, f i = some y → ∃ x, V x y ∧ U i x) : ∀ (n s : Nat) (r : List β), (List.range' s n).mapM f = some r →
    ∃ xs : List γ, All2 V xs r ∧ xs.length = n ∧ ∀ (j : Nat) x, xs[j]? = some x → U (s + j) x
  | 0, s, r, h => by
    simp [List.mapM_nil] at h
    subst h
    exact ⟨[], .nil, rfl, by simp⟩
  | n + 1, s, r, h => by
    rw [List.range'_succ, List.mapM_cons] at h
    simp only [Option.bind_eq_bind, Option.bind_eq_some_iff, Option.pure_def, Option.some.injEq] at h
    obtain ⟨y, hy, r', hr', rfl⟩ := h
    obtain ⟨x, hV, hU⟩ := hf s y hy
    obtain ⟨xs, h1, h2, h3⟩ := mapM_rel hf n (s + 1) r' hr'
    refine ⟨x :: xs, .cons hV h1, by simp [h2], fun j z hz => ?_⟩
    cases j with
    | zero => simp at hz; subst hz; exact hU
    | succ j =>
      rw [show s + (j + 1) = s + 1 + j from by omega]
      exact h3 j z (by simpa using hz)
section
variable {H : Type} {enc : TypeId × Value → H} {P : Program} {w : World} {B : DataW H → Nat} {BA : List (DataW H) → Nat} {E : TypeId}
theorem bulk_sum (hB : BulkLaw B BA) {a : K} {xs : List a.T} {r : List (DataW H × List MemPlace)} (h : All2 (fun (x : a.T) (y : DataW H × List MemPlace) => a.bulk x ≤ B y.1) xs r) : (xs.map a.bulk).sum ≤ BA (r.map (·.1)) := by
  induction h with
  | nil => simp
  | cons hx _ ih =>
    simp only [List.map_cons, List.sum_cons, hB.consA]
    omega
theorem jsP_rd {E : TypeId} {R : Part} {x : jsP.T} {cs : List Value} (h : jsP.Rd E R x cs) : K.js.Rd E R (JV.ofP x) cs := by
  obtain ⟨c1, r1, rfl, h1, c2, r2, rfl, h2, c3, r3, rfl, h3, c4, r4, rfl, h4, c5, r5, rfl, h5, c6, r6, rfl, h6, c7, r7, rfl, h7, h8⟩ := h
  have one : ∀ {cs : List Value}, cs.length = 1 → ∃ v, cs = [v] := fun {cs} h => by
    cases cs with
    | nil => cases h
    | cons v r => cases r with
      | nil => exact ⟨v, rfl⟩
      | cons => cases h
  obtain ⟨v1, rfl⟩ := one (K.Rd_len _ _ _ h1)
  obtain ⟨v2, rfl⟩ := one (K.Rd_len _ _ _ h2)
  obtain ⟨v3, rfl⟩ := one (K.Rd_len _ _ _ h3)
  obtain ⟨v4, rfl⟩ := one (K.Rd_len _ _ _ h4)
  obtain ⟨v5, rfl⟩ := one (K.Rd_len _ _ _ h5)
  obtain ⟨v6, rfl⟩ := one (K.Rd_len _ _ _ h6)
  obtain ⟨v7, rfl⟩ := one (K.Rd_len _ _ _ h7)
  have e8 : r7 = [] := h8
  subst e8
  exact js_rd.2 ⟨v1, v2, v3, v4, v5, v6, v7, rfl, h1, h2, h3, h4, h5, h6, h7⟩
theorem jsP_bulk (x : jsP.T) : K.js.bulk (JV.ofP x) = jsP.bulk x := by
  show JV.bulk (JV.ofP x) = _
  unfold JV.ofP
  rw [JV.bulk, JV.bulkL_sum]
  rfl
/-- A READING IN THE FORM'S SENSE IS ONE BY THE KIND. -/
theorem trod_rd (hB : BulkLaw B BA) : ∀ (n dep : Nat) (t : TypeId) (κ : K) (cs : List Value) (d : DataW H) (ps : List MemPlace), okK P dep t κ = true → DataW.trod enc P w 0 (fun _ => true) true n t cs = some (d, ps) →
    ∃ x : κ.T, κ.Rd E (heapP w) x cs ∧ κ.bulk x ≤ B d ∧ ((d.weights P t).all (· ≤ reachBytes) = true → SzK P dep t κ x) := by
  intro n
  induction n with
  | zero => intro dep t κ cs d ps _ h; simp [DataW.trod] at h
  | succ n ih =>
    intro dep t κ cs d ps hk h
    cases dep with
    | zero => simp [okK] at hk
    | succ dep =>
    unfold okK at hk
    split at hk
    · -- bool
      rename_i hu
      split at hk
      · simp only [DataW.trod, hu] at h
        split at h <;> first | (simp_all; done) | skip
        rename_i b _ _
        simp only [Option.some.injEq, Prod.mk.injEq] at h
        obtain ⟨rfl, rfl⟩ := h
        exact ⟨_, rfl, by rw [hB.bool]; exact Nat.le_refl _, fun _ => trivial⟩
      · cases hk
    · -- int
      rename_i k hu
      split at hk
      · rename_i k'
        obtain rfl : k = k' := by simpa using hk
        simp only [DataW.trod, hu] at h
        split at h <;> first | (simp_all; done) | skip
        rename_i l ka kb z he
        split at h
        · rename_i hc
          obtain ⟨rfl, hw⟩ := hc
          simp only [Option.some.injEq, TypeDesc.int.injEq] at he
          subst he
          simp only [Option.some.injEq, Prod.mk.injEq] at h
          obtain ⟨rfl, rfl⟩ := h
          refine ⟨z, ⟨rfl, ?_⟩, by rw [hB.int]; exact Nat.le_refl _, fun _ => trivial⟩
          rw [Lit.wf_int_iff] at hw
          exact hw
        · cases h
      · cases hk
    · -- string
      rename_i hu
      split at hk
      · simp only [DataW.trod, hu] at h
        split at h <;> first | (simp_all; done) | skip
        rename_i l s he
        split at h
        · rename_i hs
          simp only [Option.some.injEq, Prod.mk.injEq] at h
          obtain ⟨rfl, rfl⟩ := h
          refine ⟨bytesL s, ⟨s, rfl, rfl, hs⟩, ?_, fun hw => ?_⟩
          · rw [hB.str]
            show List.length (bytesL s) + 1 ≤ _
            simp [bytesL]
          · show List.length (bytesL s) ≤ reachBytes
            simp only [DataW.weights, List.all_cons, List.all_nil, Bool.and_true, decide_eq_true_eq] at hw
            simpa [bytesL] using hw
        · cases h
      · cases hk
    · -- slice
      rename_i e hu
      split at hk
      · rename_i a
        simp only [Bool.and_eq_true, decide_eq_true_eq, beq_iff_eq] at hk
        obtain ⟨hke, hsz, hpos⟩ := hk
        simp only [DataW.trod, hu] at h
        split at h <;> first | (simp_all; done) | skip
        · simp only [Option.some.injEq, Prod.mk.injEq] at h
          obtain ⟨rfl, rfl⟩ := h
          refine ⟨([] : List a.T), ⟨none, 0, rfl, ⟨by simp [lim], by simp⟩, fun h => absurd rfl h⟩, ?_, fun _ => ?_⟩
          · rw [hB.nil]; exact Nat.le_refl _
          · simp only [SzK, hu]
            exact ⟨by simp, fun x hx => by simp at hx⟩
        · rename_i l e2 A len cap he2
          simp only [Option.some.injEq, TypeDesc.slice.injEq] at he2
          subst he2
          split at h
          · rename_i hc
            obtain ⟨_, hlc, hcm⟩ := hc
            simp only [Option.bind_eq_some_iff, Option.map_eq_some_iff] at h
            obtain ⟨els, hels, rest, hrest, h⟩ := h
            simp only [Prod.mk.injEq] at h
            obtain ⟨rfl, rfl⟩ := h
            rw [List.range_eq_range'] at hels
            obtain ⟨xs, h1, h2, h3⟩ := mapM_rel (γ := a.T) (V := fun x y => a.bulk x ≤ B y.1 ∧ ((y.1.weights P e).all (· ≤ reachBytes) = true → SzK P dep e a x)) (U := fun i x => ∃ cs : List Value, w.cells? 0 (A.add (i * P.cellsOf e)) (P.cellsOf e) = some cs ∧ a.Rd E (heapP w) x cs) (fun i y hy => by
              rw [Option.bind_eq_some_iff] at hy
              obtain ⟨cs, hcs, hy⟩ := hy
              obtain ⟨x, hx, hb⟩ := ih dep e a cs y.1 y.2 hke hy
              exact ⟨x, hb, cs, hcs, hx⟩) len 0 els hels
            have hlim : xs.length ≤ lim := by
              rw [h2]
              have : maxLen = lim := by decide
              omega
            refine ⟨xs, ⟨some A, cap, by rw [h2], ⟨hlim, by rw [h2]; exact hlc⟩, fun hne => ?_⟩, ?_, fun hw => ?_⟩
            · have h0 : 0 < xs.length := List.length_pos_iff.2 hne
              obtain ⟨cs0, hc0, _⟩ := h3 0 xs[0] (by simp)
              rw [hsz] at hc0
              obtain ⟨_, hl0, hcell0⟩ := World.cells?_some hc0
              have hv0 := hcell0 0 hpos
              obtain ⟨v0, hv0'⟩ : ∃ v, cs0[0]? = some v := ⟨cs0[0]'(by omega), by simp⟩
              rw [hv0'] at hv0
              simp only [Nat.zero_add, Nat.zero_mul] at hv0
              have hA : (A.add 0).add 0 = A := by simp [Addr.add]
              rw [hA] at hv0
              have hspot := World.cell?_spot hv0
              obtain ⟨b, off, sp⟩ := A
              simp only at hspot
              subst hspot
              have hobj : ∃ arr ty fr, w.heap[b]? = some (.cells arr ty fr) := by
                unfold World.cell? at hv0
                split at hv0
                · rename_i arr ty fr hh; exact ⟨arr, ty, fr, hh⟩
                · cases hv0
              obtain ⟨arr, ty, fr, hobj⟩ := hobj
              refine ⟨b, off, arr, ty, fr, rfl, hobj, fun j x hx => ?_⟩
              obtain ⟨cs, hcs, hrd⟩ := h3 j x hx
              rw [hsz] at hcs
              obtain ⟨_, hl, hcell⟩ := World.cells?_some hcs
              have : (arr.toList.drop (off + j * a.sz)).take a.sz = cs := by
                apply List.ext_getElem?
                intro i
                by_cases hi : i < a.sz
                · rw [List.getElem?_take_of_lt hi, List.getElem?_drop, ← hcell i hi, addr_add, addr_add]
                  simp only [Nat.zero_add]
                  rw [cell_at hobj]
                · rw [List.getElem?_eq_none (by rw [List.length_take]; omega), List.getElem?_eq_none (by omega)]
              rw [this]
              exact hrd
            · rw [hB.slice]
              have := bulk_sum hB (h1.imp fun _ _ h => h.1)
              show (List.map a.bulk xs).sum + 1 ≤ _
              omega
            · simp only [SzK, hu]
              simp only [DataW.weights, hu, List.all_cons, List.all_append, Bool.and_eq_true, decide_eq_true_eq] at hw
              obtain ⟨hw1, hw2, _⟩ := hw
              refine ⟨Nat.le_trans (Nat.mul_le_mul_right _ ?_) hw1, ?_⟩
              · rw [List.length_map, ← h1.len]; exact Nat.le_add_right _ _
              · clear hels h3 h2 hlim hw1 hrest
                generalize hr : els = els' at h1 hw2
                clear hr els
                induction h1 with
                | nil => intro x hx; cases hx
                | cons hx hrest ih2 =>
                  simp only [List.map_cons, DataW.weightsAll, List.all_append, Bool.and_eq_true] at hw2
                  intro z hz
                  rcases List.mem_cons.1 hz with rfl | hz
                  · exact hx.2 hw2.1
                  · exact ih2 hw2.2 z hz
          · cases h
      · cases hk
    · -- struct
      rename_i fs hu
      simp only [DataW.trod, hu] at h
      have h' : (if cs.length = P.cellsOf t then (fs.toList.mapM fun f => DataW.trod enc P w 0 (fun _ => true) true n f.type ((cs.drop f.offset).take (P.cellsOf f.type))).map fun xs => ((.agg (xs.map (·.1)) : DataW H), xs.flatMap (·.2)) else none) = some (d, ps) := by
        split at h <;> first | (simp_all; done) | skip
      clear h
      split at h'
      · rename_i hlen
        rw [Option.map_eq_some_iff] at h'
        obtain ⟨xs, hxs, h'⟩ := h'
        simp only [Prod.mk.injEq] at h'
        obtain ⟨rfl, rfl⟩ := h'
        have key : ∀ (dep : Nat) (l : List Field) (off : Nat) (κ : K) (ys : List (DataW H × List MemPlace)), okF P (okK P dep) l off κ (P.cellsOf t) = true → (l.mapM fun f => DataW.trod enc P w 0 (fun _ => true) true n f.type ((cs.drop f.offset).take (P.cellsOf f.type))) = some ys →
            ∃ x : κ.T, κ.Rd E (heapP w) x (cs.drop off) ∧ κ.bulk x ≤ BA (ys.map (·.1)) ∧ ((DataW.weightsEach P (l.map (·.type)) (ys.map (·.1))).all (· ≤ reachBytes) = true → SzF (SzK P dep) l κ x) := by
          intro dep l
          induction l with
          | nil =>
            intro off κ ys hk hm
            cases κ <;> simp [okF] at hk
            simp [List.mapM_nil] at hm
            subst hm
            refine ⟨(), ?_, Nat.zero_le _, fun _ => trivial⟩
            show cs.drop off = []
            exact List.drop_eq_nil_of_le (by omega)
          | cons f l ihl =>
            intro off κ ys hk hm
            cases κ <;> simp only [okF, Bool.and_eq_true, beq_iff_eq] at hk <;> first | (cases hk; done) | skip
            rename_i a b
            obtain ⟨hoff, hsz, hka, hkb⟩ := hk
            rw [List.mapM_cons] at hm
            simp only [Option.bind_eq_bind, Option.bind_eq_some_iff, Option.pure_def, Option.some.injEq] at hm
            obtain ⟨y, hy, ys', hys, rfl⟩ := hm
            obtain ⟨x1, hx1, hb1, hw1⟩ := ih dep f.type a _ y.1 y.2 hka hy
            obtain ⟨x2, hx2, hb2, hw2⟩ := ihl _ b ys' hkb hys
            rw [hoff, hsz] at hx1
            refine ⟨(x1, x2), ⟨(cs.drop off).take a.sz, cs.drop (off + a.sz), ?_, hx1, hx2⟩, ?_, fun hw => ?_⟩
            · rw [← List.drop_drop, List.take_append_drop]
            · simp only [List.map_cons, hB.consA]
              show a.bulk x1 + b.bulk x2 ≤ _
              omega
            · simp only [List.map_cons, DataW.weightsEach, List.all_append, Bool.and_eq_true] at hw
              exact ⟨hw1 hw.1, hw2 hw.2⟩
        by_cases hjs : κ = .js
        · subst hjs
          have hk' : jsT P t = true := hk
          obtain ⟨x, hx, hb, hsz⟩ := key 3 fs.toList 0 jsP xs (jsT_ok hu hk') hxs
          refine ⟨JV.ofP x, jsP_rd (by simpa using hx), ?_, fun hw => trivial⟩
          rw [hB.agg, jsP_bulk]
          omega
        replace hk : okF P (okK P dep) fs.toList 0 κ (P.cellsOf t) = true := by
          cases κ <;> first | exact hk | exact absurd rfl hjs
        obtain ⟨x, hx, hb, hsz⟩ := key dep fs.toList 0 κ xs hk hxs
        refine ⟨x, by simpa using hx, ?_, fun hw => ?_⟩
        · rw [hB.agg]
          omega
        · simp only [DataW.weights, hu] at hw
          have this' := hsz hw
          clear hsz hx hb
          cases κ <;> first | exact trivial | (exfalso; revert hk; cases fs.toList <;> simp [okF]; done) | skip
          rename_i a b
          simp only [SzK, hu]
          exact this'
      · cases h'
    · -- array
      rename_i m e hu
      split at hk
      · rename_i m' a
        simp only [Bool.and_eq_true, beq_iff_eq] at hk
        obtain ⟨rfl, hke, hsz, htz⟩ := hk
        simp only [DataW.trod, hu] at h
        have h' : (if cs.length = P.cellsOf t then ((List.range m).mapM fun i => DataW.trod enc P w 0 (fun _ => true) true n e ((cs.drop (i * P.cellsOf e)).take (P.cellsOf e))).map fun xs => ((.agg (xs.map (·.1)) : DataW H), xs.flatMap (·.2)) else none) = some (d, ps) := by
          split at h <;> first | (simp_all; done) | skip
        clear h
        split at h'
        · rename_i hlen
          rw [Option.map_eq_some_iff] at h'
          obtain ⟨els, hels, h'⟩ := h'
          simp only [Prod.mk.injEq] at h'
          obtain ⟨rfl, rfl⟩ := h'
          rw [List.range_eq_range'] at hels
          obtain ⟨xs, h1, h2, h3⟩ := mapM_rel (γ := a.T) (V := fun x y => a.bulk x ≤ B y.1 ∧ ((y.1.weights P e).all (· ≤ reachBytes) = true → SzK P dep e a x)) (U := fun i x => a.Rd E (heapP w) x ((cs.drop (i * P.cellsOf e)).take (P.cellsOf e))) (fun i y hy => by
            obtain ⟨x, hx, hb⟩ := ih dep e a _ y.1 y.2 hke hy
            exact ⟨x, hb, hx⟩) m 0 els hels
          have h3' : ∀ (j : Nat) (x : a.T), xs[j]? = some x → a.Rd E (heapP w) x ((cs.drop (j * a.sz)).take a.sz) := fun j x hx => by
            have := h3 j x hx
            rwa [Nat.zero_add, hsz] at this
          refine ⟨xs, ⟨h2, by rw [hlen, htz], fun v hv => ?_, h3'⟩, ?_, fun hw => ?_⟩
          · obtain ⟨p, hp⟩ := List.getElem?_of_mem hv
            have hpl : p < m * a.sz := by rw [← htz, ← hlen]; exact (List.getElem?_eq_some_iff.1 hp).1
            have hpos : 0 < a.sz := by
              rcases Nat.eq_zero_or_pos a.sz with h0 | h0
              · rw [h0] at hpl; simp at hpl
              · exact h0
            have hj : p / a.sz < xs.length := by rw [h2]; exact (Nat.div_lt_iff_lt_mul hpos).2 hpl
            have hrd := h3' _ _ (List.getElem?_eq_getElem hj)
            refine K.Rd_one _ _ _ hrd v (List.mem_iff_getElem?.2 ⟨p % a.sz, ?_⟩)
            rw [List.getElem?_take_of_lt (Nat.mod_lt _ hpos), List.getElem?_drop, Nat.mul_comm, Nat.div_add_mod]
            exact hp
          · rw [hB.agg]
            have := bulk_sum hB (h1.imp fun _ _ h => h.1)
            show (List.map a.bulk xs).sum ≤ _
            omega
          · simp only [SzK, hu]
            simp only [DataW.weights, hu] at hw
            clear hels h3 h3' h2
            generalize hr : els = els' at h1 hw
            clear hr els
            induction h1 with
            | nil => intro x hx; cases hx
            | cons hx hrest ih2 =>
              simp only [List.map_cons, DataW.weightsAll, List.all_append, Bool.and_eq_true] at hw
              intro z hz
              rcases List.mem_cons.1 hz with rfl | hz
              · exact hx.2 hw.1
              · exact ih2 hw.2 z hz
        · cases h'
      · cases hk
    · cases hk
end
end Go.Sx
