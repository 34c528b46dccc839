/- Part of a proof by a small interpreter on plain values; no condition. -/
import Derived.Test.YtobhaaegjffaaaaDoorSx7
import Derived.Laws.BytesString
/-! Sx8: conversions, stores, literals, appends, calls. -/
namespace Go.Sx
open Go
set_option autoImplicit false
set_option linter.unusedVariables false
set_option linter.unusedSimpArgs false
section
variable {C : Ctx} {env : FuncId → List Spec} {kn : List (Nat × Bool)} {base : Nat} {o : Oper} {v : VSt} {A : Type} {f : Delta → Option A} {r : A}
theorem pushes (l : List UInt8) (acc : ByteArray) : (l.foldl (fun (s : ByteArray) b => s.push b) acc).data.toList = acc.data.toList ++ l := by
  induction l generalizing acc with
  | nil => simp
  | cons b l ih => rw [List.foldl_cons, ih]; simp [ByteArray.push]
theorem bytesStr_run {P : Program} {E : TypeId} {R : Part} {w : World} {l : List Int} {x : Value} (hx : Els E R w (.int .u8) l x) : ∃ s : ByteArray, (Conv.bytesToString x).run P w = .ok (.string s) w ∧ l = bytesL s := by
  obtain ⟨cs, hl, hrun, h1, hrd⟩ := hx.cells P
  obtain ⟨A, c, rfl, _, _, _⟩ := hx
  have hsz : (K.int .u8).sz = 1 := rfl
  rw [hsz, Nat.mul_one] at hl
  -- each cell is a byte
  have hb : ∃ bs : List UInt8, cs = bs.map (fun b => Value.int .u8 b.toNat) ∧ l = bs.map (fun b => (b.toNat : Int)) := by
    clear hrun
    have key : ∀ (l : List Int) (cs : List Value), cs.length = l.length → (∀ (j : Nat) (x : Int), l[j]? = some x → (K.int .u8).Rd E R x ((cs.drop (j * 1)).take 1)) → ∃ bs : List UInt8, cs = bs.map (fun b => Value.int .u8 b.toNat) ∧ l = bs.map (fun b => (b.toNat : Int)) := by
      intro l
      induction l with
      | nil => intro cs hl _; exact ⟨[], by simpa using hl, rfl⟩
      | cons y l ih =>
        intro cs hl hrd
        cases cs with
        | nil => simp at hl
        | cons u cs =>
          obtain ⟨bs, e1, e2⟩ := ih cs (by simpa using hl) (fun j x hj => by
            have := hrd (j + 1) x (by simpa using hj)
            rw [Nat.mul_one] at this ⊢
            simpa using this)
          obtain ⟨h0, hlo, hhi⟩ := hrd 0 y (by simp)
          simp only [Nat.zero_mul, List.drop_zero, List.take_succ_cons, List.take_zero] at h0
          injection h0 with h0 _
          rw [k_min_eq] at hlo
          rw [k_max_eq] at hhi
          change (0 : Int) ≤ y at hlo
          change y ≤ (255 : Int) at hhi
          refine ⟨UInt8.ofNat y.toNat :: bs, ?_, ?_⟩
          · rw [List.map_cons, ← e1, h0]
            congr 2
            rw [UInt8.toNat_ofNat']
            omega
          · rw [List.map_cons, ← e2]
            congr 1
            rw [UInt8.toNat_ofNat']
            omega
    exact key l cs hl hrd
  obtain ⟨bs, rfl, rfl⟩ := hb
  cases A with
  | none =>
    have : bs = [] := by
      have hl0 : (Builtin.firstCells (K.int .u8).sz (bs.map (fun b => (b.toNat : Int))).length (.slice none (bs.map (fun b => (b.toNat : Int))).length c)).run P w = .ok #[] w := by simp [Builtin.firstCells]
      rw [hl0] at hrun
      injection hrun with hrun
      have := congrArg Array.size hrun
      simp at this
      exact List.eq_nil_of_length_eq_zero (by omega)
    subst this
    exact ⟨.empty, rfl, rfl⟩
  | some a =>
    refine ⟨⟨bs.toArray⟩, ?_, by simp [bytesL]⟩
    have hload : (loadCells a bs.length).run P w = .ok (bs.map (fun b => Value.int .u8 b.toNat)).toArray w := by
      have := hrun
      simp only [Builtin.firstCells, hsz, Nat.mul_one, List.length_map] at this
      exact this
    have hload2 : (loadCells a bs.length).run P w = .ok ((bs.map (fun b => (b.toNat : Int))).map (Value.int .u8)).toArray w := by rw [hload, List.map_map]; rfl
    have hrun2 := run_bytesToString w a bs.length c (bs.map (fun b => (b.toNat : Int))) hload2
    rw [List.length_map, hrun2]
    congr 2
    apply ByteArray.ext
    apply Array.ext'
    have : ∀ (bs : List UInt8) (acc : ByteArray), ((bs.map (fun b => (b.toNat : Int))).foldl (fun (r : ByteArray) n => r.push (UInt8.ofNat n.toNat)) acc).data.toList = acc.data.toList ++ bs := by
      intro bs
      induction bs with
      | nil => intro acc; simp
      | cons b bs ih =>
        intro acc
        rw [List.map_cons, List.foldl_cons, ih]
        have hb : UInt8.ofNat ((b.toNat : Int)).toNat = b := by simp
        rw [hb]
        simp [ByteArray.push]
    rw [this]
    simp
theorem ok_convert (hd : ∀ t, o.dst = some t → t < C.N) {src dst : TypeId} {x : Operand} (hop : o.op = .convert src dst x) (h : stepD C.P C.E env kn base o v f = some r) : Done C kn o v f r := by
  unfold stepD at h
  rw [hop] at h
  simp only [Option.bind_eq_some_iff] at h
  obtain ⟨c, hc, h⟩ := h
  split at h
  · rename_i k0 k hs hdst
    split at h
    · rename_i k1 n
      refine ⟨_, h, .pure hd rfl fun s a w R g hv hk hr => ?_⟩
      have e : a.eval x = .int k1 n := by have := (evc_rel hv hr hc).1; injection this
      refine ⟨.int k (k.wrap n), ?_, some_r (rel_wrap k _)⟩
      simp only [execOp, hop, e]
      exact run_v (by simp [convert, run_under hs, run_under hdst, Conv.intToInt])
    · cases h
  · rename_i hs hdst
    split at h
    · rename_i l
      refine ⟨_, h, .pure hd rfl fun s a w R g hv hk hr => ?_⟩
      have hrel := evc_rel hv hr hc
      obtain ⟨b, e, rfl, hl⟩ := hrel
      injection e with e _
      refine ⟨.string b, ?_, some_r ⟨b, rfl, rfl, hl⟩⟩
      simp only [execOp, hop, e]
      exact run_v (by simp [convert, run_under hs, run_under hdst])
    · cases h
  · rename_i e hs hdst
    split at h
    · rename_i l he
      split at h
      · rename_i hk
        obtain ⟨i, z, hi, hz, hsize, hsz, hby, hzero⟩ := rowKind_spec hk
        obtain ⟨δ, hδ, h⟩ := Option.bind_eq_some_iff.1 h
        obtain ⟨hfree, rfl⟩ := newRow_spec hδ
        refine ⟨_, h, fun s a w R g hv hkn hr next Q hnx => ?_⟩
        obtain ⟨b, eb, rfl, hl⟩ := evc_rel hv hr hc
        injection eb with eb _
        obtain ⟨cap, arr, w', hrun, h1, h2, h3, h4, h5, h6, h7, h8, h9⟩ := strBytes_run (P := C.P) e b w hl
        refine wp_val (u := .slice (some ⟨w.heap.size, 0, none⟩) b.size cap) (w' := w') ?_ (hnx _ _ (row_end (base := base) hd hr (Part.le_refl R) hr.inv (log := []) (fun i => .inl rfl) (en_free hv hfree) _ (fun b hb => Nat.le_of_eq (by injection hb)) (by omega) h6 h7 h8 h4 (fun g' => ?_)))
        · simp only [execOp, hop, eb]
          exact run_v (by simp [convert, run_under hs, run_under hdst, run_under he, hrun])
        · refine .inr ⟨w.heap.size, cap, arr, (arr.size, arr.size + 1), by rw [bytesL_len], h3, fun o ho => by simp; omega, by rw [bytesL_len]; exact h1, ?_, by rw [bytesL_len]; exact hl, ?_, fun j x hx => ?_⟩
          · show cap * 1 ≤ arr.size; omega
          · rw [h9, List.all_append, Bool.and_eq_true]
            constructor
            · rw [List.all_eq_true]; intro u hu; obtain ⟨b, _, rfl⟩ := List.mem_map.1 hu; rfl
            · rw [List.all_eq_true]; intro u hu; rw [List.mem_replicate] at hu; rw [hu.2]; rfl
          · obtain ⟨y, hy, rfl⟩ := bytesL_get b j x hx
            have hj : j < b.data.toList.length := (List.getElem?_eq_some_iff.1 hy).1
            show (K.int .u8).Rd C.E R _ ((arr.toList.drop (j * 1)).take 1)
            rw [h9, Nat.mul_one, List.drop_append_of_le_length (by rw [List.length_map]; omega)]
            have : ((b.data.toList.map fun b => Value.int .u8 (b.toNat : Int)).drop j) = Value.int .u8 (y.toNat : Int) :: ((b.data.toList.map fun b => Value.int .u8 (b.toNat : Int)).drop (j + 1)) := by
              rw [List.drop_eq_getElem_cons (by rw [List.length_map]; exact hj)]
              congr 1
              rw [List.getElem_map]
              have := (List.getElem?_eq_some_iff.1 hy).2
              rw [this]
            rw [this]
            exact ⟨rfl, byte_range y⟩
      · cases h
    · cases h
  · rename_i e hs hdst
    split at h
    · rename_i he
      rw [Option.bind_eq_some_iff] at h
      obtain ⟨l, hl, h⟩ := h
      refine ⟨_, h, .pure hd rfl fun s a w R g hv hk hr => ?_⟩
      have hels := elems_sound hv hr hl (evc_rel hv hr hc)
      obtain ⟨b, hrun, rfl⟩ := bytesStr_run (P := C.P) hels
      obtain ⟨A, c', ex, hlim, _, _⟩ := hels
      rw [bytesL_len] at hlim
      refine ⟨.string b, ?_, some_r ⟨b, rfl, rfl, hlim⟩⟩
      simp only [execOp, hop]
      rw [ex] at hrun ⊢
      exact run_v (by rw [run_convert_bytes_string w src dst e A _ c' hs he hdst]; exact hrun)
    · cases h
  · cases h
/-! ### stores -/
theorem set_seg {L vs : List Value} {i sz j : Nat} (hvs : vs.length = sz) (hi : i * sz + sz ≤ L.length) : ((L.take (i * sz) ++ vs ++ L.drop (i * sz + vs.length)).drop (j * sz)).take sz = if j = i then vs else (L.drop (j * sz)).take sz := by
  have hl1 : (L.take (i * sz)).length = i * sz := by rw [List.length_take]; omega
  split
  · rename_i e
    subst e
    rw [List.append_assoc, List.drop_append, List.drop_eq_nil_of_le (by omega), List.nil_append, hl1, Nat.sub_self, List.drop_zero, List.take_append_of_le_length (by omega), List.take_of_length_le (by omega)]
  · rename_i hne
    apply List.ext_getElem?
    intro k
    rw [List.getElem?_take, List.getElem?_take]
    split
    · rename_i hk
      rw [List.getElem?_drop, List.getElem?_drop]
      rcases Nat.lt_or_ge j i with hji | hji
      · have : (j + 1) * sz ≤ i * sz := Nat.mul_le_mul_right _ hji
        rw [Nat.add_mul] at this
        rw [List.append_assoc, List.getElem?_append_left (by omega), List.getElem?_take, if_pos (by omega)]
      · have : (i + 1) * sz ≤ j * sz := Nat.mul_le_mul_right _ (by omega)
        rw [Nat.add_mul] at this
        rw [List.append_assoc, List.getElem?_append_right (by omega), hl1, List.getElem?_append_right (by omega), List.getElem?_drop]
        congr 1
        omega
    · rfl
theorem ok_store (hd : ∀ t, o.dst = some t → t < C.N) {t : TypeId} {x y : Operand} (hop : o.op = .store t x y) (h : stepD C.P C.E env kn base o v f = some r) : Done C kn o v f r := by
  unfold stepD at h
  rw [hop] at h
  simp only [Option.bind_eq_some_iff] at h
  obtain ⟨rv, hrv, h⟩ := h
  split at h
  · rename_i hsz
    obtain ⟨ti, hti, htsz⟩ := info_of_cells hsz.2
    -- the store's run
    have srun : ∀ {w w' : World} {b off : Nat} {u : Value} (hu : u.cells.toList.length = rv.cells.length) (hst : (storeCells ⟨b, off, none⟩ u.cells.toList).run C.P w = .ok () w'), (Instr.storeAt t (.pointer (some ⟨b, off, none⟩)) u).run C.P w = .ok () w' := by
      intro w w' b off u hu hst
      have : u.cells.size = C.P.cellsOf t := by rw [← hsz.1, ← hu]; simp
      simp [Instr.storeAt, Instr.sureAddr, storeVar, run_size hti, this, hst]
    split at h
    · rename_i hh off hc
      split at h
      · rename_i ty cs hen
        split at h
        · rename_i hfit
          refine ⟨_, h, fun s a w R g hv hkn hr next Q hnx => ?_⟩
          obtain ⟨b, hg, ex⟩ := evc_rel hv hr hc
          have hcells := (evr_rel hv hr hrv).cells
          obtain ⟨arr, fr, h1, h2, h3⟩ := live_cells hr (en_live hv hen) hg
          have hal : arr.toList.length = arr.size := Array.length_toList
          obtain ⟨w', arr', hst, hb', harr, hoth, hsz', g1, g2, g3⟩ := store_run (P := C.P) b ty fr (a.eval y).cells.toList off 0 arr w h1 h2 (by rw [← hcells.len, ← hal, ← h3.len]; omega) hcells.cv_one
          rw [Nat.add_zero] at harr
          have hasz : arr'.size = arr.size := by
            have := congrArg List.length harr
            have e1 : arr'.toList.length = arr'.size := Array.length_toList
            have e2 := hcells.len
            have e3 := h3.len
            simp only [List.length_append, List.length_take, List.length_drop] at this
            omega
          have hgu : updg g hh (.pointer (some ⟨b, 0, none⟩)) = g := by
            funext j; unfold updg; split
            · rename_i e; rw [e, hg]
            · rfl
          have hput := hr.inv.put hh (.cells ty (cs.take off ++ rv.cells ++ cs.drop (off + rv.cells.length))) (.pointer (some ⟨b, 0, none⟩)) (w' := w') (.inr hg) (Nat.le_of_eq hsz'.symm) g1 g2 g3 (fun b' hlt hne => hoth b' (fun e => hne (by rw [e]; rfl)))
            (fun b' hb => by
              obtain ⟨m1, m2⟩ := hr.inv.mine hh _ _ b' (en_live hv hen) hg hb
              exact ⟨m1, m2, fun j e' u hj hl hgj hbl => hr.inv.sep j hh e' _ u _ b' hj hl (en_live hv hen) hgj hg hbl hb⟩)
            (by
              rw [hgu]
              refine ⟨b, arr', fr, rfl, hb', by rw [hasz]; exact h2, ?_⟩
              rw [harr, ← hcells.len]
              exact ((h3.take _).app hcells).app (h3.drop _))
          rw [hgu] at hput
          refine wp_skp (w' := w') ?_ (hnx _ _ (hr.app (δ := ⟨none, [(hh, .live (.cells ty (cs.take off ++ rv.cells ++ cs.drop (off + rv.cells.length))))]⟩) hd (Part.le_refl R) (Gh.le_refl g) hput (fun sv hsv => by cases hsv)))
          simp only [execOp, hop, ex]
          exact run_u (srun hcells.len.symm hst)
        · cases h
      · cases h
    · rename_i hh sz i off hc
      split at h
      · rename_i ety κ xs hen
        split at h
        · rename_i hcond
          obtain ⟨rfl, rfl, hlen⟩ := hcond
          rw [Option.bind_eq_some_iff] at h
          obtain ⟨p, hp, h⟩ := h
          split at h
          · rename_i ety2 κ2 xs2 hen2
            refine ⟨_, h, fun s a w R g hv hkn hr next Q hnx => ?_⟩
            obtain ⟨b, n, c, hg, hlt, ex⟩ := evc_rel hv hr hc
            have hcells := (evr_rel hv hr hrv).cells
            obtain ⟨rfl, arr, fr, h1, h2, h3, h4, h5, h6, h7⟩ := live_row hr (en_live hv hen) hg
            have G0 : GInv C s.en g w ⟨v.en, [], [], []⟩ R s.en (fun _ => False) := ⟨hr.inv, hv.en, fun i => .inl rfl, fun i h => h.elim, fun h h' i x => by simp at x, fun h x e => by simp at e⟩
            obtain ⟨R', enS, G', hle, v1, v2, hv12, hrd, hrest⟩ := implode_sound κ _ R s.en G0 _ _ hcells p hp
            have hl1 := K.Rd_len _ _ _ hrd
            have hv2 : v2 = [] := by
              have e1 := hcells.len
              rw [hv12, List.length_append] at e1
              exact List.eq_nil_of_length_eq_zero (by omega)
            subst hv2
            rw [List.append_nil] at hv12
            -- the row is still the call's own
            have hliveS : enS hh = .live (.row ety κ xs) := by
              have hγ : p.2.2.en hh = v.en hh := by
                have := hle.lv hh _ hen2
                rw [hen2]; exact this.symm
              rcases G'.le hh with q | q
              · rw [← q, hγ]; exact hen
              · rw [hγ, hen] at q; cases q
            have hi : i * κ.sz + κ.sz ≤ arr.size := by
              have : (i + 1) * κ.sz ≤ c * κ.sz := Nat.mul_le_mul_right _ (by omega)
              rw [Nat.add_mul] at this
              omega
            have hvl : (a.eval y).cells.toList.length = κ.sz := by rw [hv12]; exact hl1
            obtain ⟨w', arr', hst, hb', harr, hoth, hsz', g1, g2, g3⟩ := store_run (P := C.P) b ety fr (a.eval y).cells.toList (i * κ.sz) 0 arr w h1 h2 (by omega) hcells.cv_one
            rw [Nat.add_zero] at harr
            have hal : arr.toList.length = arr.size := Array.length_toList
            have hasz : arr'.size = arr.size := by
              have := congrArg List.length harr
              have e1 : arr'.toList.length = arr'.size := Array.length_toList
              simp only [List.length_append, List.length_take, List.length_drop] at this
              omega
            have hgu : updg g hh (.slice (some ⟨b, 0, none⟩) xs.length c) = g := by
              funext j; unfold updg; split
              · rename_i e; rw [e, hg]
              · rfl
            have hput := G'.inv.put hh (.row ety κ (xs.set i p.1)) (.slice (some ⟨b, 0, none⟩) xs.length c) (w' := w') (.inr hg) (Nat.le_of_eq hsz'.symm) g1 g2 g3 (fun b' hlt hne => hoth b' (fun e => hne (by rw [e]; rfl)))
              (fun b' hb => by
                obtain ⟨m1, m2⟩ := G'.inv.mine hh _ _ b' hliveS hg hb
                exact ⟨m1, m2, fun j e' u hj hl hgj hbl => G'.inv.sep j hh e' _ u _ b' hj hl hliveS hgj hg hbl hb⟩)
              (by
                rw [hgu]
                refine .inr ⟨b, c, arr', fr, by rw [List.length_set], hb', by rw [hasz]; exact h2, by rw [List.length_set]; exact h3, by rw [hasz]; exact h4, by rw [List.length_set]; exact h5, ?_, fun j x hx => ?_⟩
                · rw [harr, List.all_append, List.all_append, Bool.and_eq_true, Bool.and_eq_true]
                  refine ⟨⟨?_, List.all_eq_true.2 hcells.cv_one⟩, ?_⟩
                  · rw [List.all_eq_true] at h6 ⊢; exact fun u hu => h6 u (List.mem_of_mem_take hu)
                  · rw [List.all_eq_true] at h6 ⊢; exact fun u hu => h6 u (List.mem_of_mem_drop hu)
                · rw [harr, set_seg hvl (by omega)]
                  rw [List.getElem?_set] at hx
                  by_cases hji : i = j
                  · subst hji
                    rw [if_pos rfl, if_pos hlt] at hx
                    injection hx with hx
                    subst hx
                    rw [if_pos rfl, hv12]
                    exact hrd
                  · rw [if_neg hji] at hx
                    rw [if_neg (fun e => hji e.symm)]
                    exact K.Rd_mono hle.part κ _ _ (h7 j x hx))
            rw [hgu] at hput
            refine wp_skp (w' := w') ?_ (hnx _ _ (hr.app (δ := ⟨none, p.2.2.log ++ [(hh, .live (.row ety κ (xs.set i p.1)))]⟩) hd hle.part (Gh.le_refl g) (hput.less fun j => ?_) (fun sv hsv => by cases hsv)))
            · simp only [execOp, hop, ex, Nat.add_zero]
              exact run_u (srun hcells.len.symm hst)
            · show upds s.en (p.2.2.log ++ [(hh, .live (.row ety κ (xs.set i p.1)))]) j = _ ∨ upds s.en (p.2.2.log ++ [(hh, .live (.row ety κ (xs.set i p.1)))]) j = _
              rw [upds_snoc]
              by_cases hj : j = hh
              · subst hj; rw [upd_same, upd_same]; exact .inl rfl
              · rw [upd_ne _ _ hj, upd_ne _ _ hj]; exact G'.log j
          · cases h
        · cases h
      · cases h
    · cases h
  · cases h
/-! ### a slice's literal -/
theorem fill_one {place : Nat → Option (Nat × Nat)} {z : Array Value} {i off sz : Nat} {u : Value} {r : List (Nat × Value)} (hp : place i = some (off, sz)) (hu : u.cells.size = sz) (hle : off + sz ≤ z.size) :
    ∃ z' : Array Value, Instr.fill place z ((i, u) :: r) = Instr.fill place z' r ∧ z'.toList = z.toList.take off ++ u.cells.toList ++ z.toList.drop (off + u.cells.toList.length) := by
  refine ⟨u.cells.zipIdx.foldl (fun cs (c, j) => cs.setIfInBounds (off + j) c) z, ?_, ?_⟩
  · simp only [Instr.fill, hp, hu, ne_eq, not_true, decide_false, Bool.false_or]
    rw [if_neg (by simp; omega)]
  · have hle' : off + u.cells.toList.length ≤ z.toList.length := by simp; omega
    rw [← take_app_drop z.toList u.cells.toList off hle', ← Array.foldl_toList, Array.toList_zipIdx]
    generalize u.cells.toList.zipIdx = l
    clear hle hle'
    induction l generalizing z with
    | nil => rfl
    | cons x l ih => rw [List.foldl_cons, List.foldl_cons, ih]; simp
theorem partsRow_run {s : VSt} {a : Act} {w : World} {R0 : Part} {g : Gh} (hv : View v s) (hr : Rel C s a w R0 g) (κ : K) : ∀ (parts : List (Nat × Operand)) (γ : GSt) (R : Part) (enS : Nat → EnS) (xs : List κ.T) (arr : Array Value), R0.le R → GInv C s.en g w γ R enS (fun _ => False) →
    arr.size = xs.length * κ.sz → (∀ u ∈ arr.toList, u.oneCell' = true) → RowRd C.E R κ xs arr.toList → ∀ p : List κ.T × GSt, partsRow v κ γ parts xs = some p →
    ∃ R' enS' arr', GInv C s.en g w p.2 R' enS' (fun _ => False) ∧ GLe γ p.2 R R' ∧ Instr.fill (fun i => some (i * κ.sz, κ.sz)) arr (parts.map fun q => (q.1, a.eval q.2)) = some arr' ∧ p.1.length = xs.length ∧ arr'.size = p.1.length * κ.sz ∧ (∀ u ∈ arr'.toList, u.oneCell' = true) ∧ RowRd C.E R' κ p.1 arr'.toList := by
  intro parts
  induction parts with
  | nil =>
    intro γ R enS xs arr h0 G h1 h2 h3 p hp
    simp only [partsRow, Option.some.injEq] at hp
    subst hp
    exact ⟨R, enS, arr, G, GLe.refl _ _, rfl, rfl, h1, h2, h3⟩
  | cons q parts ih =>
    intro γ R enS xs arr h0 G h1 h2 h3 p hp
    obtain ⟨i, x⟩ := q
    simp only [partsRow, Option.bind_eq_some_iff] at hp
    obtain ⟨rv, hrv, y, hy, hp⟩ := hp
    split at hp
    · rename_i hnil
      split at hp
      · rename_i hlt
        have hcells := (evr_rel hv hr hrv).cells.cv_mono h0 (Gh.le_refl g)
        obtain ⟨R1, en1, G1, l1, v1, v2, hv12, hrd, hrest⟩ := implode_sound κ _ R enS G _ _ hcells y hy
        have hv2 : v2 = [] := by
          rw [hnil] at hrest
          cases hrest
          rfl
        subst hv2
        rw [List.append_nil] at hv12
        have hl1 := K.Rd_len _ _ _ hrd
        have hvl : (a.eval x).cells.toList.length = κ.sz := by rw [hv12]; exact hl1
        have hi : i * κ.sz + κ.sz ≤ arr.size := by
          have : (i + 1) * κ.sz ≤ xs.length * κ.sz := Nat.mul_le_mul_right _ hlt
          rw [Nat.add_mul] at this
          omega
        obtain ⟨z', hf, hz'⟩ := fill_one (place := fun i => some (i * κ.sz, κ.sz)) (z := arr) (i := i) (u := a.eval x) (r := parts.map fun q => (q.1, a.eval q.2)) rfl (by simpa using hvl) hi
        have hal : arr.toList.length = arr.size := Array.length_toList
        have hzs : z'.size = arr.size := by
          have := congrArg List.length hz'
          have e1 : z'.toList.length = z'.size := Array.length_toList
          simp only [List.length_append, List.length_take, List.length_drop] at this
          omega
        have hone : ∀ u ∈ z'.toList, u.oneCell' = true := by
          intro u hu
          rw [hz'] at hu
          rcases List.mem_append.1 hu with hu | hu
          · rcases List.mem_append.1 hu with hu | hu
            · exact h2 u (List.mem_of_mem_take hu)
            · exact hcells.cv_one u hu
          · exact h2 u (List.mem_of_mem_drop hu)
        have hrow : RowRd C.E R1 κ (xs.set i y.1) z'.toList := by
          intro j e he
          rw [hz', set_seg hvl (by omega)]
          rw [List.getElem?_set] at he
          by_cases hji : i = j
          · subst hji
            rw [if_pos rfl, if_pos hlt] at he
            injection he with he
            subst he
            rw [if_pos rfl, hv12]
            exact hrd
          · rw [if_neg hji] at he
            rw [if_neg (fun e => hji e.symm)]
            exact K.Rd_mono l1.part κ _ _ (h3 j e he)
        obtain ⟨R2, en2, arr', G2, l2, hfill, hlen, hsz, hone', hrd'⟩ := ih y.2.2 R1 en1 (xs.set i y.1) z' (h0.trans l1.part) G1 (by rw [List.length_set, hzs, h1]) hone hrow p hp
        refine ⟨R2, en2, arr', G2, l1.trans l2, ?_, by rw [hlen, List.length_set], hsz, hone', hrd'⟩
        rw [List.map_cons, hf]
        exact hfill
      · cases hp
    · cases hp
theorem ok_buildSlice (hd : ∀ t, o.dst = some t → t < C.N) {t : TypeId} {len : Nat} {parts : Array (Nat × Operand)} (hop : o.op = .buildSlice t len parts) (h : stepD C.P C.E env kn base o v f = some r) : Done C kn o v f r := by
  unfold stepD at h
  rw [hop] at h
  simp only [Option.bind_eq_some_iff] at h
  obtain ⟨e, he, κ, hk, h⟩ := h
  have hu := slice_elem he
  obtain ⟨i, z, hi, hz, hsize, hsz, hby, hzero⟩ := rowKind_spec hk
  split at h
  · rename_i hbig
    rw [Option.bind_eq_some_iff] at h
    obtain ⟨p, hp, h⟩ := h
    obtain ⟨δ, hδ, h⟩ := Option.bind_eq_some_iff.1 h
    obtain ⟨hfree, rfl⟩ := newRow_spec hδ
    refine ⟨_, h, fun s a w R g hv hkn hr next Q hnx => ?_⟩
    have hzsz : z.cells.size = κ.sz := by have := K.Rd_len κ _ _ (hzero (fun _ => none)); simpa using this
    have hcs : C.P.cellsOf e = κ.sz := by simp [Program.cellsOf, hi, hsize]
    have hz1 : ∀ u ∈ z.cells.toList, u.oneCell' = true := fun u hu => K.Rd_one κ _ _ (hzero R) u hu
    let arr : Array Value := (Array.range (len * κ.sz)).map (z.cells[· % z.cells.size]!)
    have G0 : GInv C s.en g w ⟨v.en, [], [], []⟩ R s.en (fun _ => False) := ⟨hr.inv, hv.en, fun i => .inl rfl, fun i h => h.elim, fun h h' i x => by simp at x, fun h x e => by simp at e⟩
    have hrd0 : RowRd C.E R κ (List.replicate len κ.zero) arr.toList := by
      intro j x hx
      have hj := (List.getElem?_eq_some_iff.1 hx).1
      rw [List.length_replicate] at hj
      have hx' : x = κ.zero := by
        have := (List.getElem?_eq_some_iff.1 hx).2
        simpa using this.symm
      subst hx'
      show κ.Rd C.E R κ.zero (((((Array.range (len * κ.sz)).map (z.cells[· % z.cells.size]!)).toList.drop (j * κ.sz)).take κ.sz))
      rw [zeros_seg hzsz hsz len j hj]
      exact hzero R
    obtain ⟨R', enS', arr', G', hle, hfill, hlen, hasz, hone, hrd⟩ := partsRow_run hv hr κ parts.toList _ R s.en (List.replicate len κ.zero) arr (Part.le_refl R) G0 (by simp [arr]) (fun u hu => List.all_eq_true.1 (zeros_one hz1 (by omega)) u hu) hrd0 p hp
    rw [List.length_replicate] at hlen
    have hfreeS : enS' base = .free := by
      rcases G'.le base with q | q
      · rw [← q]; exact hfree
      · rw [hfree] at q; cases q
    have hrun : (Instr.buildSlice t len (parts.map fun (i, x) => (i, a.eval x))).run C.P w = .ok (.slice (some ⟨w.heap.size, 0, none⟩) len len) (w.alloc (.cells arr' e)) := by
      have hparts : (parts.map fun (i, x) => (i, a.eval x)).toList = parts.toList.map fun q => (q.1, a.eval q.2) := by simp
      have hbig' : ¬ (len * κ.sz > 2 ^ 24) := by simpa using hbig
      simp only [Instr.buildSlice, Sem.run_bind, run_under hu, Result.andThen_ok, run_size hi, hcs, if_neg hbig', Sem.run_pure, hparts]
      by_cases h0 : len * κ.sz = 0
      · have harr : arr = #[] := by simp [arr, h0]
        rw [harr] at hfill
        have e0 : (Array.map (fun x : Nat => (#[] : Array Value)[x % (#[] : Array Value).size]!) (Array.range 0)) = #[] := by simp
        simp only [h0, if_true, Sem.run_pure, Result.andThen_ok, e0, hfill, Go.newRow, Sem.run_bind, run_newObj]
        rfl
      · have hfill' : Instr.fill (fun i => some (i * κ.sz, κ.sz)) ((Array.range (len * κ.sz)).map (z.cells[· % z.cells.size]!)) (parts.toList.map fun q => (q.1, a.eval q.2)) = some arr' := hfill
        simp only [if_neg h0, Sem.run_bind, run_zero hi hz, Result.andThen_ok, Sem.run_pure, hfill', Go.newRow, run_newObj]
        rfl
    refine wp_val (u := .slice (some ⟨w.heap.size, 0, none⟩) len len) (w' := w.alloc (.cells arr' e)) ?_ (hnx _ _ (row_end (base := base) hd hr hle.part G'.inv (log := p.2.log) G'.log hfreeS _ (fun b hb => Nat.le_of_eq (by injection hb)) (by simp) rfl rfl rfl (fun b hb => heap_alloc_old w _ hb) (fun g' => ?_)))
    · simp only [execOp, hop]
      exact run_v hrun
    · have hlim : len ≤ lim := by
        have : len * 1 ≤ len * κ.sz := Nat.mul_le_mul_left _ hsz
        unfold lim; omega
      exact .inr ⟨w.heap.size, len, arr', (0, 0), by rw [hlen], heap_alloc_new w _, Unf_zero _, by omega, by rw [hasz, hlen]; exact Nat.le_refl _, by omega, List.all_eq_true.2 hone, hrd⟩
  · cases h
theorem ok_append (hd : ∀ t, o.dst = some t → t < C.N) {c : Call} (hop : o.op = .call c) (hcal : c.callee = .builtin .append) (h : stepD C.P C.E env kn base o v f = some r) : Done C kn o v f r := by
  unfold stepD at h
  rw [hop] at h
  simp only [hcal] at h
  split at h
  · rename_i t t2 x y hty hargs
    simp only [Option.bind_eq_some_iff] at h
    obtain ⟨e, he, e2, he2, κ, hk, cb, hcb, ys, hys, ca, hca, h⟩ := h
    have hu := slice_elem he
    have hu2 := slice_elem he2
    obtain ⟨i, z, hi, hz, hsize, hsz, hby, hzero⟩ := rowKind_spec hk
    have hbytes : C.P.bytesOf e = i.bytes := by simp [Program.bytesOf, hi]
    have hat : c.argTypes = #[t, t2] := by rw [← Array.toArray_toList (xs := c.argTypes), hty]
    have haa : c.args = #[x, y] := by rw [← Array.toArray_toList (xs := c.args), hargs]
    -- the call's run out of the builtin's
    have crun : ∀ {a : Act} {w w' : World} {u : Value}, (Builtin.append_ #[t, t2] o.type #[a.eval x, a.eval y]).run C.P w = .ok u w' → (execOp a.eval o).run C.P w = .ok (.value u) w' := by
      intro a w w' u hrun
      simp [execOp, hop, resolve, hcal, invoke, builtin, hat, haa, hrun]
    split at h
    · split at h
      · rename_i hroom
        obtain ⟨δ, hδ, h⟩ := Option.bind_eq_some_iff.1 h
        obtain ⟨hfree, rfl⟩ := newRow_spec hδ
        refine ⟨_, h, fun s a w R g hv hkn hr next Q hnx => ?_⟩
        have hx : a.eval x = .slice none 0 0 := evc_rel hv hr hca
        have hels := elems_sound hv hr hys (evc_rel hv hr hcb)
        obtain ⟨s', w', hrun, hent, hblk, h1, h2, h3, h4, h5⟩ := append_run (P := C.P) (ty := o.type) hu hu2 hi hz hsize hsz hby hzero (g := g) (xs := ([] : List κ.T)) (.inl ⟨rfl, rfl⟩ : EntRel C.E R g w (.row e κ []) (.slice none 0 0)) hels (by rw [hbytes] at hroom; simpa [bound] using hroom)
        rw [← hx] at hrun
        refine wp_val (crun hrun) (hnx _ _ (row_end (base := base) hd hr (Part.le_refl R) hr.inv (log := []) (fun i => .inl rfl) (en_free hv hfree) s' (fun b hb => ?_) h1 h2 h3 h4 (fun b hb => h5 b hb (fun e => by rcases hblk b e with q | q; (· cases q); (· omega))) (fun g' => ?_)))
        · rcases hblk b hb with q | q
          · cases q
          · exact q
        · exact hent
      · cases h
    · rename_i hh
      split at h
      · rename_i e' κ' xs hen
        split at h
        · rename_i ee
          subst ee
          rw [Option.bind_eq_some_iff] at h
          obtain ⟨xs', hconv, h⟩ := h
          obtain ⟨ek, hconv⟩ := K.conv_eq hconv
          injection ek with ek
          subst ek
          obtain rfl : xs' = xs := hconv
          split at h
          · rename_i hroom
            obtain ⟨δ, hδ, h⟩ := Option.bind_eq_some_iff.1 h
            obtain ⟨hfree, rfl⟩ := newRow_spec hδ
            refine ⟨_, h, fun s a w R g hv hkn hr next Q hnx => ?_⟩
            obtain ⟨hg, _⟩ := evc_rel hv hr hca
            have hlive := en_live hv hen
            obtain ⟨u, hgu, hE⟩ := hr.inv.live hh _ hlive
            rw [hg] at hgu
            injection hgu with hgu
            have hels := elems_sound hv hr hys (evc_rel hv hr hcb)
            obtain ⟨s', w', hrun, hent, hblk, h1, h2, h3, h4, h5⟩ := append_run (P := C.P) (ty := o.type) hu hu2 hi hz hsize hsz hby hzero hE hels (by rw [hbytes] at hroom; exact hroom)
            rw [← hgu] at hrun
            -- the elder row is gone
            have hne : base ≠ hh := fun e => by
              subst e
              have := en_free hv hfree
              rw [hlive] at this
              cases this
            have hdead : Inv C R g (upd s.en hh .dead) w := hr.inv.less (fun j => by
              by_cases hj : j = hh
              · subst hj; exact .inr (upd_same _ _ _)
              · exact .inl (upd_ne _ _ hj))
            have hfree' : upd s.en hh .dead base = .free := by rw [upd_ne _ _ hne]; exact en_free hv hfree
            have hput := hdead.put base (.row e κ' (xs' ++ ys)) s' (w' := w') (.inl (hr.inv.free base (en_free hv hfree))) h1 h2 h3 h4
              (fun b hlt hb => h5 b hlt hb)
              (fun b hb => by
                rcases hblk b hb with q | q
                · obtain ⟨m1, m2⟩ := hr.inv.mine hh _ _ b hlive (by rw [hg, hgu]) q
                  refine ⟨m1, m2, fun j e' y hj hl hgj hbl => ?_⟩
                  by_cases hjh : j = hh
                  · subst hjh; rw [upd_same] at hl; cases hl
                  · rw [upd_ne _ _ hjh] at hl
                    exact hr.inv.sep j hh e' _ y u b hjh hl hlive hgj (by rw [hg, hgu]) hbl q
                · refine ⟨?_, .inl (Nat.le_trans hr.inv.kept.size q), fun j e' y hj hl hgj hbl => ?_⟩
                  · cases hR : R b with
                    | none => rfl
                    | some ob =>
                      have := (Array.getElem?_eq_some_iff.1 (hr.inv.sub b ob hR)).1
                      omega
                  · obtain ⟨y', hy', hEy⟩ := hdead.live j e' hl
                    rw [hgj] at hy'
                    injection hy' with hy'
                    subst hy'
                    have := hEy.lt hbl
                    omega)
              (hent.mono (Part.le_refl R) (updg_le (.inl (hr.inv.free base (en_free hv hfree)))) (fun _ _ => rfl))
            refine wp_val (crun hrun) (hnx _ _ (hr.app (δ := ⟨some (.r (.c (.own base))), [(hh, .dead)] ++ [(base, .live (.row e κ' (xs' ++ ys)))]⟩) hd (Part.le_refl R) (updg_le (.inl (hr.inv.free base (en_free hv hfree)))) hput (some_r ⟨updg_same _ _ _, hent.one⟩)))
          · cases h
        · cases h
      · cases h
    · cases h
  · cases h
end
end Go.Sx
