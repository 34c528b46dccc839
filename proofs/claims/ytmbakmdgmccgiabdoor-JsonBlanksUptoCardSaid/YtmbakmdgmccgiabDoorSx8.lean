/- Part of a proof by a small interpreter on plain values; no condition. -/
import Derived.Test.YtmbakmdgmccgiabDoorSx7
import Derived.Laws.BytesString
/-! Sx8: conversions, stores, literals, appends, calls. -/
namespace Go.Sx
open Go
set_option autoImplicit false
set_option linter.unusedVariables false
set_option linter.unusedSimpArgs false
section
variable {C : Ctx} {env : Env} {kn : List (Nat × Bool)} {base : Nat} {o : Oper} {v : VSt} {A : Type} {f : Delta → Option A} {r : A}
theorem pushes (l : List UInt8) (acc : ByteArray) : (l.foldl (fun (s : ByteArray) b => s.push b) acc).data.toList = acc.data.toList ++ l := by
  induction l generalizing acc with
  | nil => simp
  | cons b l ih => rw [List.foldl_cons, ih]; simp [ByteArray.push]
theorem bytesStr_run {P : Program} {E : TypeId} {R : Part} {w : World} {l : List Int} {x : Value} (hx : Els E R w (.int .u8) l x) : ∃ s : ByteArray, (Conv.bytesToString x).run P w = .ok (.string s) w ∧ l = bytesL s := by
  obtain ⟨cs, hl, hrun, h1, hrd⟩ := hx.cells P
  obtain ⟨A, c, rfl, _, _, _⟩ := hx
  have hsz : (K.int .u8).sz = 1 := rfl
  rw [hsz, Nat.mul_one] at hl
  -- each cell is a byte
  have hb : ∃ bs : List UInt8, cs = bs.map (fun b => Value.int .u8 b.toNat) ∧ l = bs.map (fun b => (b.toNat : Int)) := by
    clear hrun
    have key : ∀ (l : List Int) (cs : List Value), cs.length = l.length → (∀ (j : Nat) (x : Int), l[j]? = some x → (K.int .u8).Rd E R x ((cs.drop (j * 1)).take 1)) → ∃ bs : List UInt8, cs = bs.map (fun b => Value.int .u8 b.toNat) ∧ l = bs.map (fun b => (b.toNat : Int)) := by
      intro l
      induction l with
      | nil => intro cs hl _; exact ⟨[], by simpa using hl, rfl⟩
      | cons y l ih =>
        intro cs hl hrd
        cases cs with
        | nil => simp at hl
        | cons u cs =>
          obtain ⟨bs, e1, e2⟩ := ih cs (by simpa using hl) (fun j x hj => by
            have := hrd (j + 1) x (by simpa using hj)
            rw [Nat.mul_one] at this ⊢
            simpa using this)
          obtain ⟨h0, hlo, hhi⟩ := hrd 0 y (by simp)
          simp only [Nat.zero_mul, List.drop_zero, List.take_succ_cons, List.take_zero] at h0
          injection h0 with h0 _
          rw [k_min_eq] at hlo
          rw [k_max_eq] at hhi
          change (0 : Int) ≤ y at hlo
          change y ≤ (255 : Int) at hhi
          refine ⟨UInt8.ofNat y.toNat :: bs, ?_, ?_⟩
          · rw [List.map_cons, ← e1, h0]
            congr 2
            rw [UInt8.toNat_ofNat']
            omega
          · rw [List.map_cons, ← e2]
            congr 1
            rw [UInt8.toNat_ofNat']
            omega
    exact key l cs hl hrd
  obtain ⟨bs, rfl, rfl⟩ := hb
  cases A with
  | none =>
    have : bs = [] := by
      have hl0 : (Builtin.firstCells (K.int .u8).sz (bs.map (fun b => (b.toNat : Int))).length (.slice none (bs.map (fun b => (b.toNat : Int))).length c)).run P w = .ok #[] w := by simp [Builtin.firstCells]
      rw [hl0] at hrun
      injection hrun with hrun
      have := congrArg Array.size hrun
      simp at this
      exact List.eq_nil_of_length_eq_zero (by omega)
    subst this
    exact ⟨.empty, rfl, rfl⟩
  | some a =>
    refine ⟨⟨bs.toArray⟩, ?_, by simp [bytesL]⟩
    have hload : (loadCells a bs.length).run P w = .ok (bs.map (fun b => Value.int .u8 b.toNat)).toArray w := by
      have := hrun
      simp only [Builtin.firstCells, hsz, Nat.mul_one, List.length_map] at this
      exact this
    have hload2 : (loadCells a bs.length).run P w = .ok ((bs.map (fun b => (b.toNat : Int))).map (Value.int .u8)).toArray w := by rw [hload, List.map_map]; rfl
    have hrun2 := run_bytesToString w a bs.length c (bs.map (fun b => (b.toNat : Int))) hload2
    rw [List.length_map, hrun2]
    congr 2
    apply ByteArray.ext
    apply Array.ext'
    have : ∀ (bs : List UInt8) (acc : ByteArray), ((bs.map (fun b => (b.toNat : Int))).foldl (fun (r : ByteArray) n => r.push (UInt8.ofNat n.toNat)) acc).data.toList = acc.data.toList ++ bs := by
      intro bs
      induction bs with
      | nil => intro acc; simp
      | cons b bs ih =>
        intro acc
        rw [List.map_cons, List.foldl_cons, ih]
        have hb : UInt8.ofNat ((b.toNat : Int)).toNat = b := by simp
        rw [hb]
        simp [ByteArray.push]
    rw [this]
    simp
theorem ok_convert (hd : ∀ t, o.dst = some t → t < C.N) {src dst : TypeId} {x : Operand} (hop : o.op = .convert src dst x) (h : stepO C.P C.E env kn base o v f = some r) : Done C kn o v f r := by
  unfold stepO at h
  rw [hop] at h
  simp only [Option.bind_eq_some_iff] at h
  obtain ⟨c, hc, h⟩ := h
  split at h
  · rename_i k0 k hs hdst
    split at h
    · rename_i k1 n
      refine ⟨_, h, .pure hd rfl fun s a w R g hv hk hr => ?_⟩
      have e : a.eval x = .int k1 n := by have := (evc_rel hv hr hc).1; injection this
      refine ⟨.int k (k.wrap n), ?_, some_r (rel_wrap k _)⟩
      simp only [execOp, hop, e]
      exact run_v (by simp [convert, run_under hs, run_under hdst, Conv.intToInt])
    · cases h
  · rename_i k0 hs hdst
    split at h
    · rename_i k1 n
      refine ⟨_, h, .pure hd rfl fun s a w R g hv hk hr => ?_⟩
      have e : a.eval x = .int k1 n := by have := (evc_rel hv hr hc).1; injection this
      refine ⟨.string (Utf8.encode n), ?_, some_r ⟨Utf8.encode n, rfl, rfl, ?_⟩⟩
      · simp only [execOp, hop, e]
        exact run_v (by simp [convert, run_under hs, run_under hdst, Conv.intToString])
      · have : (Utf8.encode n).size ≤ 4 := by
          unfold Utf8.encode
          dsimp only
          repeat' split
          all_goals simp [ByteArray.size]
        exact Nat.le_trans this (by decide)
    · cases h
  · rename_i hs hdst
    split at h
    · rename_i l
      refine ⟨_, h, .pure hd rfl fun s a w R g hv hk hr => ?_⟩
      have hrel := evc_rel hv hr hc
      obtain ⟨b, e, rfl, hl⟩ := hrel
      injection e with e _
      refine ⟨.string b, ?_, some_r ⟨b, rfl, rfl, hl⟩⟩
      simp only [execOp, hop, e]
      exact run_v (by simp [convert, run_under hs, run_under hdst])
    · cases h
  · rename_i e hs hdst
    split at h
    · rename_i l he
      split at h
      · rename_i hk
        obtain ⟨i, z, hi, hz, hsize, hsz, hby, hzero⟩ := rowKind_spec hk
        obtain ⟨δ, hδ, h⟩ := Option.bind_eq_some_iff.1 h
        obtain ⟨hfree, rfl⟩ := newRow_spec hδ
        refine ⟨_, h, fun s a w R g hv hkn hr next Q hnx => ?_⟩
        obtain ⟨b, eb, rfl, hl⟩ := evc_rel hv hr hc
        injection eb with eb _
        obtain ⟨cap, arr, w', hrun, h1, h2, h3, h4, h5, h6, h7, h8, h9⟩ := strBytes_run (P := C.P) e b w hl
        refine wp_val (u := .slice (some ⟨w.heap.size, 0, none⟩) b.size cap) (w' := w') ?_ (hnx _ _ (row_end (base := base) hd hr (Part.le_refl R) hr.inv (log := []) (fun i => .inl rfl) (en_free hv hfree) _ (fun b hb => Nat.le_of_eq (by injection hb)) (by omega) h6 h7 h8 h4 (fun g' => ?_)))
        · simp only [execOp, hop, eb]
          exact run_v (by simp [convert, run_under hs, run_under hdst, run_under he, hrun])
        · refine .inr ⟨w.heap.size, cap, arr, (arr.size, arr.size + 1), by rw [bytesL_len], h3, .inr (Nat.le_refl _), by rw [bytesL_len]; exact h1, ?_, by rw [bytesL_len]; exact hl, ?_, fun j x hx => ?_⟩
          · show cap * 1 ≤ arr.size; omega
          · rw [h9, List.all_append, Bool.and_eq_true]
            constructor
            · rw [List.all_eq_true]; intro u hu; obtain ⟨b, _, rfl⟩ := List.mem_map.1 hu; rfl
            · rw [List.all_eq_true]; intro u hu; rw [List.mem_replicate] at hu; rw [hu.2]; rfl
          · obtain ⟨y, hy, rfl⟩ := bytesL_get b j x hx
            have hj : j < b.data.toList.length := (List.getElem?_eq_some_iff.1 hy).1
            show (K.int .u8).Rd C.E R _ ((arr.toList.drop (j * 1)).take 1)
            rw [h9, Nat.mul_one, List.drop_append_of_le_length (by rw [List.length_map]; omega)]
            have : ((b.data.toList.map fun b => Value.int .u8 (b.toNat : Int)).drop j) = Value.int .u8 (y.toNat : Int) :: ((b.data.toList.map fun b => Value.int .u8 (b.toNat : Int)).drop (j + 1)) := by
              rw [List.drop_eq_getElem_cons (by rw [List.length_map]; exact hj)]
              congr 1
              rw [List.getElem_map]
              have := (List.getElem?_eq_some_iff.1 hy).2
              rw [this]
            rw [this]
            exact ⟨rfl, byte_range y⟩
      · cases h
    · cases h
  · rename_i e hs hdst
    split at h
    · rename_i he
      rw [Option.bind_eq_some_iff] at h
      obtain ⟨l, hl, h⟩ := h
      refine ⟨_, h, .pure hd rfl fun s a w R g hv hk hr => ?_⟩
      have hels := elems_sound hv hr hl (evc_rel hv hr hc)
      obtain ⟨b, hrun, rfl⟩ := bytesStr_run (P := C.P) hels
      obtain ⟨A, c', ex, hlim, _, _⟩ := hels
      rw [bytesL_len] at hlim
      refine ⟨.string b, ?_, some_r ⟨b, rfl, rfl, hlim⟩⟩
      simp only [execOp, hop]
      rw [ex] at hrun ⊢
      exact run_v (by rw [run_convert_bytes_string w src dst e A _ c' hs he hdst]; exact hrun)
    · cases h
  · rename_i e0 e hs hdst
    split at h
    · rename_i ee
      split at h
      · rename_i hh
        split at h
        · rename_i ety κ xs hen
          split at h
          · cases h
          · rename_i hne
            refine ⟨_, h, fun s a w R g hv hkn hr next Q hnx => ?_⟩
            obtain ⟨hg, h1⟩ := evc_rel hv hr hc
            have hlive := en_live hv hen
            obtain ⟨u, hgu, hE⟩ := hr.inv.live hh _ hlive
            rw [hg] at hgu
            injection hgu with hgu
            rcases hE with ⟨_, e1⟩ | ⟨b, c, arr, fr, e1, q1, q2, q3, q4, q5, q6, q7⟩
            · rw [e1] at hne; exact absurd rfl hne
            · have hshape : w.shape? b = some (ety, arr.size) := by simp [World.shape?, q1]
              have hw' : (w.freeze ⟨b, arr.size, none⟩ 1).heap[b]? = some (.cells arr ety (if fr.1 == fr.2 then (arr.size, arr.size + 1) else (min fr.1 arr.size, max fr.2 (arr.size + 1)))) := by
                simp only [World.freeze, Nat.one_ne_zero, if_false, Array.getElem?_modify, if_true, q1, Option.map_some]
              have hunf : Unf (if fr.1 == fr.2 then (arr.size, arr.size + 1) else (min fr.1 arr.size, max fr.2 (arr.size + 1))) arr.size := by
                split
                · exact .inr (Nat.le_refl _)
                · rename_i hx
                  rcases q2 with h | h
                  · exact absurd (by simpa using h) hx
                  · right; show arr.size ≤ min fr.1 arr.size; omega
              have hrun : (convert src dst (a.eval x)).run C.P w = .ok (a.eval x) (w.freeze ⟨b, arr.size, none⟩ 1) := by
                rw [hgu, e1]
                have hd' : C.P.underlying dst = some (.slice e) := hdst
                rw [ee.1] at hs ⊢
                have hu8 : C.P.underlying e = some (.int .u8) := by
                  have := ee.2
                  unfold isU8D at this
                  split at this
                  · assumption
                  · cases this
                simp [convert, run_under hd', run_under hu8, markStringish, hshape]
              refine wp_val (u := a.eval x) (w' := w.freeze ⟨b, arr.size, none⟩ 1) ?_ (hnx _ _ ?_)
              · simp only [execOp, hop]
                exact run_v hrun
              · have hgu2 : updg g hh (.slice (some ⟨b, 0, none⟩) (List.length xs) c) = g := by
                  funext j; unfold updg; split
                  · rename_i e; rw [e, hg, hgu, e1]
                  · rfl
                have hput := hr.inv.put hh (.row ety κ xs) (.slice (some ⟨b, 0, none⟩) (List.length xs) c) (w' := w.freeze ⟨b, arr.size, none⟩ 1) (.inr (by rw [hg, hgu, e1])) (by simp [World.freeze]) rfl rfl rfl
                  (fun b' hlt hne' => by
                    have hbb : ¬ b = b' := fun e => hne' (by rw [e]; rfl)
                    simp only [World.freeze, Nat.one_ne_zero, if_false, Array.getElem?_modify, if_neg hbb])
                  (fun b' hb => by
                    obtain ⟨m1, m2⟩ := hr.inv.mine hh _ _ b' hlive (by rw [hg, hgu, e1]) (.inl hb)
                    exact ⟨m1, m2, fun j e' u hj hl hgj hbl => hr.inv.sep j hh e' _ u _ b' hj hl hlive hgj (by rw [hg, hgu, e1]) hbl (.inl hb)⟩)
                  (by rw [hgu2]; exact .inr ⟨b, c, arr, _, rfl, hw', hunf, q3, q4, q5, q6, q7⟩)
                rw [hgu2] at hput
                exact hr.app (δ := ⟨some (.r (.c (.own hh))), [(hh, .live (.row ety κ xs))]⟩) hd (Part.le_refl R) (Gh.le_refl g) hput (some_r ⟨hg, h1⟩)
        · cases h
      · cases h
    · cases h
  · cases h
/-! ### stores -/
theorem set_seg {L vs : List Value} {i sz j : Nat} (hvs : vs.length = sz) (hi : i * sz + sz ≤ L.length) : ((L.take (i * sz) ++ vs ++ L.drop (i * sz + vs.length)).drop (j * sz)).take sz = if j = i then vs else (L.drop (j * sz)).take sz := by
  have hl1 : (L.take (i * sz)).length = i * sz := by rw [List.length_take]; omega
  split
  · rename_i e
    subst e
    rw [List.append_assoc, List.drop_append, List.drop_eq_nil_of_le (by omega), List.nil_append, hl1, Nat.sub_self, List.drop_zero, List.take_append_of_le_length (by omega), List.take_of_length_le (by omega)]
  · rename_i hne
    apply List.ext_getElem?
    intro k
    rw [List.getElem?_take, List.getElem?_take]
    split
    · rename_i hk
      rw [List.getElem?_drop, List.getElem?_drop]
      rcases Nat.lt_or_ge j i with hji | hji
      · have : (j + 1) * sz ≤ i * sz := Nat.mul_le_mul_right _ hji
        rw [Nat.add_mul] at this
        rw [List.append_assoc, List.getElem?_append_left (by omega), List.getElem?_take, if_pos (by omega)]
      · have : (i + 1) * sz ≤ j * sz := Nat.mul_le_mul_right _ (by omega)
        rw [Nat.add_mul] at this
        rw [List.append_assoc, List.getElem?_append_right (by omega), hl1, List.getElem?_append_right (by omega), List.getElem?_drop]
        congr 1
        omega
    · rfl
/-- a store into an object in parts. -/
theorem segs_store {w : World} {R' : Part} {g : Gh} {enS : Nat → EnS} (hi : Inv C R' g enS w) {hh : Nat} {ty : TypeId} {ss ss' : List Seg} (hl : enS hh = .live (.segs ty ss)) {b : Nat} (hg : g hh = some (.pointer (some ⟨b, 0, none⟩))) {arr : Array Value} {fr : Nat × Nat}
    (h1 : w.heap[b]? = some (.cells arr ty fr)) (h2 : Unf fr arr.size) {off : Nat} {vs : List Value} (hle : off + vs.length ≤ arr.toList.length) (hone : ∀ v ∈ vs, v.oneCell' = true) (hss : SegsRel C.E R' g ss' (arr.toList.take off ++ vs ++ arr.toList.drop (off + vs.length))) :
    ∃ w', (storeCells ⟨b, off, none⟩ vs).run C.P w = .ok () w' ∧ Inv C R' g (upd enS hh (.live (.segs ty ss'))) w' := by
  have hal : arr.toList.length = arr.size := Array.length_toList
  obtain ⟨w', arr', hst, hb', harr, hoth, hsz', g1, g2, g3⟩ := store_run (P := C.P) b ty fr vs off 0 arr w h1 h2 (by omega) hone
  rw [Nat.add_zero] at harr
  have hasz : arr'.size = arr.size := by
    have := congrArg List.length harr
    have e1 : arr'.toList.length = arr'.size := Array.length_toList
    simp only [List.length_append, List.length_take, List.length_drop] at this
    omega
  have hgu : updg g hh (.pointer (some ⟨b, 0, none⟩)) = g := by
    funext j; unfold updg; split
    · rename_i e; rw [e, hg]
    · rfl
  have hput := hi.put hh (.segs ty ss') (.pointer (some ⟨b, 0, none⟩)) (w' := w') (.inr hg) (Nat.le_of_eq hsz'.symm) g1 g2 g3 (fun b' hlt hne => hoth b' (fun e => hne (by rw [e]; rfl)))
    (fun b' hb => by
      obtain ⟨m1, m2⟩ := hi.mine hh _ _ b' hl hg (.inl hb)
      exact ⟨m1, m2, fun j e' u hj hlj hgj hbl => hi.sep j hh e' _ u _ b' hj hlj hl hgj hg hbl (.inl hb)⟩)
    (by
      rw [hgu]
      refine ⟨b, arr', fr, rfl, hb', by rw [hasz]; exact h2, ?_⟩
      rw [harr]
      exact hss)
  rw [hgu] at hput
  exact ⟨w', hst, hput⟩
theorem sizeS_app (a b : List Seg) : sizeS (a ++ b) = sizeS a + sizeS b := by
  induction a with
  | nil => simp [sizeS]
  | cons x a ih => simp [sizeS, ih, Nat.add_assoc]
/-- one element of an array is another. -/
theorem arr_set {E : TypeId} {R R' : Part} {n i : Nat} {κ : K} {xs : List κ.T} {y : κ.T} {cs vs : List Value} (hR : R.le R') (h : (K.arr n κ).Rd E R xs cs) (hi : i < List.length xs) (hy : κ.Rd E R' y vs) : (K.arr n κ).Rd E R' (List.set xs i y) (cs.take (i * κ.sz) ++ vs ++ cs.drop (i * κ.sz + vs.length)) := by
  obtain ⟨h1, h2, h3, h4⟩ := h
  have hvl := K.Rd_len _ _ _ hy
  have hle : (i + 1) * κ.sz ≤ n * κ.sz := Nat.mul_le_mul_right _ (by omega)
  rw [Nat.add_mul, Nat.one_mul] at hle
  refine ⟨by rw [List.length_set]; exact h1, ?_, fun v hv => ?_, fun j x hx => ?_⟩
  · simp only [List.length_append, List.length_take, List.length_drop]; omega
  · rcases List.mem_append.1 hv with hv | hv
    · rcases List.mem_append.1 hv with hv | hv
      · exact h3 v (List.mem_of_mem_take hv)
      · exact K.Rd_one _ _ _ hy v hv
    · exact h3 v (List.mem_of_mem_drop hv)
  · rw [set_seg hvl (by omega)]
    rw [List.getElem?_set] at hx
    by_cases hji : i = j
    · subst hji
      rw [if_pos rfl, if_pos hi] at hx
      injection hx with hx
      subst hx
      rw [if_pos rfl]
      exact hy
    · rw [if_neg hji] at hx
      rw [if_neg (fun e => hji e.symm)]
      exact K.Rd_mono hR κ _ _ (h4 j x hx)
theorem ok_store (hd : ∀ t, o.dst = some t → t < C.N) {t : TypeId} {x y : Operand} (hop : o.op = .store t x y) (h : stepO C.P C.E env kn base o v f = some r) : Done C kn o v f r := by
  unfold stepO at h
  rw [hop] at h
  simp only [Option.bind_eq_some_iff] at h
  obtain ⟨rv, hrv, h⟩ := h
  -- the store's run
  have srun : ∀ {w w' : World} {b off : Nat} {u : Value} (hn : C.P.cellsOf t ≠ 0) (hu : u.cells.toList.length = C.P.cellsOf t) (hst : (storeCells ⟨b, off, none⟩ u.cells.toList).run C.P w = .ok () w'), (Instr.storeAt t (.pointer (some ⟨b, off, none⟩)) u).run C.P w = .ok () w' := by
    intro w w' b off u hn hu hst
    obtain ⟨ti, hti, htsz⟩ := info_of_cells hn
    have : u.cells.size = C.P.cellsOf t := by rw [← hu]; simp
    simp [Instr.storeAt, Instr.sureAddr, storeVar, run_size hti, this, hst]
  split at h
  · rename_i hh off sz i hc
    rw [Option.bind_eq_some_iff] at h
    obtain ⟨⟨ty, a0, ⟨n, κ, xs⟩, r0⟩, hat, h⟩ := h
    simp only at h
    split at h
    · cases h
    rename_i hnv
    split at h
    rotate_left
    · cases h
    rename_i hcond
    split at h
    · rename_i hlt
      obtain ⟨rfl, hlen, hct, hk0⟩ := hcond
      rw [Option.bind_eq_some_iff] at h
      obtain ⟨p, hp, h⟩ := h
      split at h
      · rename_i ty2 ss2 hen2
        obtain ⟨ss, hen, hcut⟩ := arrAt_spec hat
        refine ⟨_, h, fun s a w R g hv hkn hr next Q hnx => ?_⟩
        obtain ⟨b, hg, ex⟩ := evc_rel hv hr hc
        have hcells := (evr_rel hv hr hrv).cells
        obtain ⟨arr, fr, h1, h2, h3⟩ := live_segs hr (en_live hv hen) hg
        have G0 : GInv C s.en g w ⟨v.en, [], [], []⟩ R s.en (fun _ => False) := ⟨hr.inv, hv.en, fun i => .inl rfl, fun i h => h.elim, fun h h' i x => by simp at x, fun h x e => by simp at e⟩
        obtain ⟨R', enS, G', hle, v1, v2, hv12, hrd, hrest⟩ := implode_sound κ _ R s.en G0 _ _ hcells p hp
        have hl1 := K.Rd_len _ _ _ hrd
        have hv2 : v2 = [] := by
          have e1 := hcells.len
          rw [hv12, List.length_append] at e1
          exact List.eq_nil_of_length_eq_zero (by omega)
        subst hv2
        rw [List.append_nil] at hv12
        have hliveS : enS hh = .live (.segs ty ss) := by
          have hγ : p.2.2.en hh = v.en hh := by
            have := hle.lv hh _ hen2
            rw [hen2]; exact this.symm
          rcases G'.le hh with q | q
          · rw [← q, hγ]; exact hen
          · rw [hγ, hen] at q; cases q
        obtain ⟨m1, m2, m3, m4⟩ := segs_at (h3.mono hle.part (Gh.le_refl g)) hcut
        have hie : (i + 1) * κ.sz ≤ n * κ.sz := Nat.mul_le_mul_right _ (by have := m2.1; omega)
        rw [Nat.add_mul, Nat.one_mul] at hie
        have hset := arr_set (Part.le_refl R') m2 hlt hrd
        have hss : SegsRel C.E R' g (a0 ++ .blk (.arr n κ) (List.set xs i p.1) :: r0) (arr.toList.take (off + i * κ.sz) ++ v1 ++ arr.toList.drop (off + i * κ.sz + v1.length)) := by
          have e : arr.toList.take (off + i * κ.sz) ++ v1 ++ arr.toList.drop (off + i * κ.sz + v1.length) = arr.toList.take off ++ ((((arr.toList.drop off).take (n * κ.sz)).take (i * κ.sz) ++ v1 ++ ((arr.toList.drop off).take (n * κ.sz)).drop (i * κ.sz + v1.length)) ++ arr.toList.drop (off + n * κ.sz)) := by
            rw [List.take_take, Nat.min_eq_left (by omega), List.drop_take, List.drop_drop]
            have e1 : arr.toList.take (off + i * κ.sz) = arr.toList.take off ++ (arr.toList.drop off).take (i * κ.sz) := List.take_add
            have e2 : arr.toList.drop (off + i * κ.sz + v1.length) = (arr.toList.drop (off + (i * κ.sz + v1.length))).take (n * κ.sz - (i * κ.sz + v1.length)) ++ arr.toList.drop (off + n * κ.sz) := by
              conv => lhs; rw [← List.take_append_drop (n * κ.sz - (i * κ.sz + v1.length)) (arr.toList.drop (off + i * κ.sz + v1.length))]
              rw [List.drop_drop]
              congr 2
              · rw [Nat.add_assoc]
              · omega
            rw [e1, e2]
            simp only [List.append_assoc]
          rw [e]
          exact SegsRel.app m1 (.blk hset m3)
        obtain ⟨w', hst, hput⟩ := segs_store G'.inv hliveS hg h1 h2 (by omega) (by rw [← hv12]; exact hcells.cv_one) hss
        refine wp_skp (w' := w') ?_ (hnx _ _ (hr.app (δ := ⟨none, p.2.2.log ++ [(hh, .live (.segs ty (a0 ++ .blk (.arr n κ) (List.set xs i p.1) :: r0)))]⟩) hd hle.part (Gh.le_refl g) (hput.less fun j => ?_) (fun sv hsv => by cases hsv)))
        · simp only [execOp, hop, ex]
          exact run_u (srun (by omega) (by rw [← hcells.len]; exact hlen) (by rw [hv12]; exact hst))
        · show upds s.en (p.2.2.log ++ [(hh, .live (.segs ty (a0 ++ .blk (.arr n κ) (List.set xs i p.1) :: r0)))]) j = _ ∨ upds s.en (p.2.2.log ++ [(hh, .live (.segs ty (a0 ++ .blk (.arr n κ) (List.set xs i p.1) :: r0)))]) j = _
          rw [upds_snoc]
          by_cases hj : j = hh
          · subst hj; rw [upd_same, upd_same]; exact .inl rfl
          · rw [upd_ne _ _ hj, upd_ne _ _ hj]; exact G'.log j
      · cases h
    · cases h
  · rename_i hh off hc
    split at h
    · rename_i ty ss hen
      rw [Option.bind_eq_some_iff] at h
      obtain ⟨p, hp, h⟩ := h
      split at h
      · rename_i hsz
        refine ⟨_, h, fun s a w R g hv hkn hr next Q hnx => ?_⟩
        obtain ⟨b, hg, ex⟩ := evc_rel hv hr hc
        have hsegs := (evr_rel hv hr hrv).segs
        obtain ⟨arr, fr, h1, h2, h3⟩ := live_segs hr (en_live hv hen) hg
        obtain ⟨m1, _, m3, m4⟩ := h3.mid hp
        have hvl : (a.eval y).cells.toList.length = C.P.cellsOf t := by rw [hsegs.len]; exact hsz.1
        obtain ⟨w', hst, hput⟩ := segs_store hr.inv (en_live hv hen) hg h1 h2 (ss' := p.1 ++ rv.segs ++ p.2.2) (off := off) (vs := (a.eval y).cells.toList) (by omega) hsegs.oneC (SegsRel.app (SegsRel.app m1 hsegs) (by rw [hvl]; exact m3))
        refine wp_skp (w' := w') ?_ (hnx _ _ (hr.app (δ := ⟨none, [(hh, .live (.segs ty (p.1 ++ rv.segs ++ p.2.2)))]⟩) hd (Part.le_refl R) (Gh.le_refl g) hput (fun sv hsv => by cases hsv)))
        simp only [execOp, hop, ex]
        exact run_u (srun hsz.2 hvl hst)
      · cases h
    · rename_i ty cs hen
      split at h
      · cases h
      split at h
      · rename_i hsz
        split at h
        · rename_i hfit
          refine ⟨_, h, fun s a w R g hv hkn hr next Q hnx => ?_⟩
          obtain ⟨b, hg, ex⟩ := evc_rel hv hr hc
          have hcells := (evr_rel hv hr hrv).cells
          obtain ⟨arr, fr, h1, h2, h3⟩ := live_cells hr (en_live hv hen) hg
          have hal : arr.toList.length = arr.size := Array.length_toList
          obtain ⟨w', arr', hst, hb', harr, hoth, hsz', g1, g2, g3⟩ := store_run (P := C.P) b ty fr (a.eval y).cells.toList off 0 arr w h1 h2 (by rw [← hcells.len, ← hal, ← h3.len]; omega) hcells.cv_one
          rw [Nat.add_zero] at harr
          have hasz : arr'.size = arr.size := by
            have := congrArg List.length harr
            have e1 : arr'.toList.length = arr'.size := Array.length_toList
            have e2 := hcells.len
            have e3 := h3.len
            simp only [List.length_append, List.length_take, List.length_drop] at this
            omega
          have hgu : updg g hh (.pointer (some ⟨b, 0, none⟩)) = g := by
            funext j; unfold updg; split
            · rename_i e; rw [e, hg]
            · rfl
          have hput := hr.inv.put hh (.cells ty (cs.take off ++ rv.cells ++ cs.drop (off + rv.cells.length))) (.pointer (some ⟨b, 0, none⟩)) (w' := w') (.inr hg) (Nat.le_of_eq hsz'.symm) g1 g2 g3 (fun b' hlt hne => hoth b' (fun e => hne (by rw [e]; rfl)))
            (fun b' hb => by
              obtain ⟨m1, m2⟩ := hr.inv.mine hh _ _ b' (en_live hv hen) hg (.inl hb)
              exact ⟨m1, m2, fun j e' u hj hl hgj hbl => hr.inv.sep j hh e' _ u _ b' hj hl (en_live hv hen) hgj hg hbl (.inl hb)⟩)
            (by
              rw [hgu]
              refine ⟨b, arr', fr, rfl, hb', by rw [hasz]; exact h2, ?_⟩
              rw [harr, ← hcells.len]
              exact ((h3.take _).app hcells).app (h3.drop _))
          rw [hgu] at hput
          refine wp_skp (w' := w') ?_ (hnx _ _ (hr.app (δ := ⟨none, [(hh, .live (.cells ty (cs.take off ++ rv.cells ++ cs.drop (off + rv.cells.length))))]⟩) hd (Part.le_refl R) (Gh.le_refl g) hput (fun sv hsv => by cases hsv)))
          simp only [execOp, hop, ex]
          exact run_u (srun hsz.2 (by rw [← hcells.len]; exact hsz.1) hst)
        · cases h
      · cases h
    · cases h
  · rename_i hh sz i off hc
    split at h
    · rename_i n κ' ys
      split at h
      · rename_i ety κ xs hen
        split at h
        · rename_i m e harr
          split at h
          · rename_i hcond
            obtain ⟨rfl, rfl, rfl, hk0, hct, hn0⟩ := hcond
            split at h
            · rename_i hlens
              rw [Option.bind_eq_some_iff] at h
              obtain ⟨zs, hconv, h⟩ := h
              obtain ⟨ek, hconv⟩ := K.conv_eq hconv
              injection ek with ek
              subst ek
              have hconv : zs = ys := hconv
              subst hconv
              refine ⟨_, h, fun s a w R g hv hkn hr next Q hnx => ?_⟩
              obtain ⟨b, n', c, hg, hlt, ex⟩ := evc_rel hv hr hc
              obtain ⟨us, eu, hus⟩ : RVRel C.E R g (.sg [.blk (.arr n κ') zs]) (a.eval y) := evr_rel hv hr hrv
              have hrd : (K.arr n κ').Rd C.E R zs us := by
                cases hus with
                | blk hrd hn => cases hn; rw [List.append_nil]; exact hrd
              obtain ⟨hnl, arr, fr, h1, h2, h3, h4, h5, h6, h7⟩ := live_row hr (en_live hv hen) hg
              subst hnl
              have hal : arr.toList.length = arr.size := Array.length_toList
              have hul : us.length = n * κ'.sz := hrd.2.1
              have hfit : us.length ≤ arr.size := by
                have := Nat.mul_le_mul_right κ'.sz h3
                rw [hul, hlens.1]; omega
              obtain ⟨w', arr', hst, hb', harr', hoth, hsz', g1, g2, g3⟩ := store_run (P := C.P) b ety fr us 0 0 arr w h1 h2 (by omega) hrd.2.2.1
              simp only [Nat.add_zero, Nat.zero_add, List.take_zero, List.nil_append] at harr'
              have hasz : arr'.size = arr.size := by
                have := congrArg List.length harr'
                have e1 : arr'.toList.length = arr'.size := Array.length_toList
                simp only [List.length_append, List.length_drop] at this
                omega
              have hgu : updg g hh (.slice (some ⟨b, 0, none⟩) xs.length c) = g := by
                funext j; unfold updg; split
                · rename_i e; rw [e, hg]
                · rfl
              have hll : List.length zs = xs.length := by rw [← hlens.2]; exact hlens.1
              have hput := hr.inv.put hh (.row ety κ' zs) (.slice (some ⟨b, 0, none⟩) xs.length c) (w' := w') (.inr hg) (Nat.le_of_eq hsz'.symm) g1 g2 g3 (fun b' hlt hne => hoth b' (fun e => hne (by rw [e]; rfl)))
                (fun b' hb => by
                  obtain ⟨m1, m2⟩ := hr.inv.mine hh _ _ b' (en_live hv hen) hg (.inl hb)
                  exact ⟨m1, m2, fun j e' u hj hl hgj hbl => hr.inv.sep j hh e' _ u _ b' hj hl (en_live hv hen) hgj hg hbl (.inl hb)⟩)
                (by
                  rw [hgu]
                  refine .inr ⟨b, c, arr', fr, by rw [hll], hb', by rw [hasz]; exact h2, by omega, by rw [hasz]; exact h4, by omega, ?_, fun j x hx => ?_⟩
                  · rw [harr', List.all_append, Bool.and_eq_true]
                    refine ⟨List.all_eq_true.2 hrd.2.2.1, ?_⟩
                    rw [List.all_eq_true] at h6 ⊢; exact fun u hu => h6 u (List.mem_of_mem_drop hu)
                  · rw [harr']
                    have hjl : j < n := by rw [hlens.2]; exact (List.getElem?_eq_some_iff.1 hx).1
                    have hie : (j + 1) * κ'.sz ≤ n * κ'.sz := Nat.mul_le_mul_right _ hjl
                    rw [Nat.add_mul, Nat.one_mul] at hie
                    rw [List.drop_append_of_le_length (by omega), List.take_append_of_le_length (by rw [List.length_drop]; omega)]
                    exact hrd.2.2.2 j x hx)
              rw [hgu] at hput
              refine wp_skp (w' := w') ?_ (hnx _ _ (hr.app (δ := ⟨none, [(hh, .live (.row ety κ' zs))]⟩) hd (Part.le_refl R) (Gh.le_refl g) hput (fun sv hsv => by cases hsv)))
              have ex' : a.eval x = .pointer (some ⟨b, 0, none⟩) := by rw [ex]; simp
              simp only [execOp, hop, ex']
              have hne : C.P.cellsOf t ≠ 0 := by
                rw [hct]; exact Nat.mul_ne_zero hn0 hk0
              exact run_u (srun (u := a.eval y) hne (by rw [eu]; simpa [Value.cells] using hul.trans hct.symm) (by rw [eu]; simpa [Value.cells] using hst))
            · cases h
          · cases h
        · cases h
      · cases h
    · cases h
    · split at h
      · rename_i hsz
        split at h
        · rename_i ety κ xs hen
          split at h
          · rename_i hcond
            obtain ⟨rfl, rfl, hlen⟩ := hcond
            rw [Option.bind_eq_some_iff] at h
            obtain ⟨p, hp, h⟩ := h
            split at h
            · rename_i ety2 κ2 xs2 hen2
              refine ⟨_, h, fun s a w R g hv hkn hr next Q hnx => ?_⟩
              obtain ⟨b, n, c, hg, hlt, ex⟩ := evc_rel hv hr hc
              have hcells := (evr_rel hv hr hrv).cells
              obtain ⟨rfl, arr, fr, h1, h2, h3, h4, h5, h6, h7⟩ := live_row hr (en_live hv hen) hg
              have G0 : GInv C s.en g w ⟨v.en, [], [], []⟩ R s.en (fun _ => False) := ⟨hr.inv, hv.en, fun i => .inl rfl, fun i h => h.elim, fun h h' i x => by simp at x, fun h x e => by simp at e⟩
              obtain ⟨R', enS, G', hle, v1, v2, hv12, hrd, hrest⟩ := implode_sound κ _ R s.en G0 _ _ hcells p hp
              have hl1 := K.Rd_len _ _ _ hrd
              have hv2 : v2 = [] := by
                have e1 := hcells.len
                rw [hv12, List.length_append] at e1
                exact List.eq_nil_of_length_eq_zero (by omega)
              subst hv2
              rw [List.append_nil] at hv12
              -- the row is still the call's own
              have hliveS : enS hh = .live (.row ety κ xs) := by
                have hγ : p.2.2.en hh = v.en hh := by
                  have := hle.lv hh _ hen2
                  rw [hen2]; exact this.symm
                rcases G'.le hh with q | q
                · rw [← q, hγ]; exact hen
                · rw [hγ, hen] at q; cases q
              have hi : i * κ.sz + κ.sz ≤ arr.size := by
                have : (i + 1) * κ.sz ≤ c * κ.sz := Nat.mul_le_mul_right _ (by omega)
                rw [Nat.add_mul] at this
                omega
              have hvl : (a.eval y).cells.toList.length = κ.sz := by rw [hv12]; exact hl1
              obtain ⟨w', arr', hst, hb', harr, hoth, hsz', g1, g2, g3⟩ := store_run (P := C.P) b ety fr (a.eval y).cells.toList (i * κ.sz) 0 arr w h1 h2 (by omega) hcells.cv_one
              rw [Nat.add_zero] at harr
              have hal : arr.toList.length = arr.size := Array.length_toList
              have hasz : arr'.size = arr.size := by
                have := congrArg List.length harr
                have e1 : arr'.toList.length = arr'.size := Array.length_toList
                simp only [List.length_append, List.length_take, List.length_drop] at this
                omega
              have hgu : updg g hh (.slice (some ⟨b, 0, none⟩) xs.length c) = g := by
                funext j; unfold updg; split
                · rename_i e; rw [e, hg]
                · rfl
              have hput := G'.inv.put hh (.row ety κ (xs.set i p.1)) (.slice (some ⟨b, 0, none⟩) xs.length c) (w' := w') (.inr hg) (Nat.le_of_eq hsz'.symm) g1 g2 g3 (fun b' hlt hne => hoth b' (fun e => hne (by rw [e]; rfl)))
                (fun b' hb => by
                  obtain ⟨m1, m2⟩ := G'.inv.mine hh _ _ b' hliveS hg (.inl hb)
                  exact ⟨m1, m2, fun j e' u hj hl hgj hbl => G'.inv.sep j hh e' _ u _ b' hj hl hliveS hgj hg hbl (.inl hb)⟩)
                (by
                  rw [hgu]
                  refine .inr ⟨b, c, arr', fr, by rw [List.length_set], hb', by rw [hasz]; exact h2, by rw [List.length_set]; exact h3, by rw [hasz]; exact h4, by rw [List.length_set]; exact h5, ?_, fun j x hx => ?_⟩
                  · rw [harr, List.all_append, List.all_append, Bool.and_eq_true, Bool.and_eq_true]
                    refine ⟨⟨?_, List.all_eq_true.2 hcells.cv_one⟩, ?_⟩
                    · rw [List.all_eq_true] at h6 ⊢; exact fun u hu => h6 u (List.mem_of_mem_take hu)
                    · rw [List.all_eq_true] at h6 ⊢; exact fun u hu => h6 u (List.mem_of_mem_drop hu)
                  · rw [harr, set_seg hvl (by omega)]
                    rw [List.getElem?_set] at hx
                    by_cases hji : i = j
                    · subst hji
                      rw [if_pos rfl, if_pos hlt] at hx
                      injection hx with hx
                      subst hx
                      rw [if_pos rfl, hv12]
                      exact hrd
                    · rw [if_neg hji] at hx
                      rw [if_neg (fun e => hji e.symm)]
                      exact K.Rd_mono hle.part κ _ _ (h7 j x hx))
              rw [hgu] at hput
              refine wp_skp (w' := w') ?_ (hnx _ _ (hr.app (δ := ⟨none, p.2.2.log ++ [(hh, .live (.row ety κ (xs.set i p.1)))]⟩) hd hle.part (Gh.le_refl g) (hput.less fun j => ?_) (fun sv hsv => by cases hsv)))
              · simp only [execOp, hop, ex, Nat.add_zero]
                exact run_u (srun hsz.2 (by rw [← hcells.len]; exact hsz.1) hst)
              · show upds s.en (p.2.2.log ++ [(hh, .live (.row ety κ (xs.set i p.1)))]) j = _ ∨ upds s.en (p.2.2.log ++ [(hh, .live (.row ety κ (xs.set i p.1)))]) j = _
                rw [upds_snoc]
                by_cases hj : j = hh
                · subst hj; rw [upd_same, upd_same]; exact .inl rfl
                · rw [upd_ne _ _ hj, upd_ne _ _ hj]; exact G'.log j
            · cases h
          · cases h
        · cases h
      · cases h
  · cases h
/-! ### a slice's literal -/
theorem partsRow_run {s : VSt} {a : Act} {w : World} {R0 : Part} {g : Gh} (hv : View v s) (hr : Rel C s a w R0 g) (κ : K) : ∀ (parts : List (Nat × Operand)) (γ : GSt) (R : Part) (enS : Nat → EnS) (xs : List κ.T) (arr : Array Value), R0.le R → GInv C s.en g w γ R enS (fun _ => False) →
    arr.size = xs.length * κ.sz → (∀ u ∈ arr.toList, u.oneCell' = true) → RowRd C.E R κ xs arr.toList → ∀ p : List κ.T × GSt, partsRow v κ γ parts xs = some p →
    ∃ R' enS' arr', GInv C s.en g w p.2 R' enS' (fun _ => False) ∧ GLe γ p.2 R R' ∧ Instr.fill (fun i => some (i * κ.sz, κ.sz)) arr (parts.map fun q => (q.1, a.eval q.2)) = some arr' ∧ p.1.length = xs.length ∧ arr'.size = p.1.length * κ.sz ∧ (∀ u ∈ arr'.toList, u.oneCell' = true) ∧ RowRd C.E R' κ p.1 arr'.toList := by
  intro parts
  induction parts with
  | nil =>
    intro γ R enS xs arr h0 G h1 h2 h3 p hp
    simp only [partsRow, Option.some.injEq] at hp
    subst hp
    exact ⟨R, enS, arr, G, GLe.refl _ _, rfl, rfl, h1, h2, h3⟩
  | cons q parts ih =>
    intro γ R enS xs arr h0 G h1 h2 h3 p hp
    obtain ⟨i, x⟩ := q
    simp only [partsRow, Option.bind_eq_some_iff] at hp
    obtain ⟨rv, hrv, y, hy, hp⟩ := hp
    split at hp
    · rename_i hnil
      split at hp
      · rename_i hlt
        have hcells := (evr_rel hv hr hrv).cells.cv_mono h0 (Gh.le_refl g)
        obtain ⟨R1, en1, G1, l1, v1, v2, hv12, hrd, hrest⟩ := implode_sound κ _ R enS G _ _ hcells y hy
        have hv2 : v2 = [] := by
          rw [hnil] at hrest
          cases hrest
          rfl
        subst hv2
        rw [List.append_nil] at hv12
        have hl1 := K.Rd_len _ _ _ hrd
        have hvl : (a.eval x).cells.toList.length = κ.sz := by rw [hv12]; exact hl1
        have hi : i * κ.sz + κ.sz ≤ arr.size := by
          have : (i + 1) * κ.sz ≤ xs.length * κ.sz := Nat.mul_le_mul_right _ hlt
          rw [Nat.add_mul] at this
          omega
        obtain ⟨z', hf, hz'⟩ := fill_one (place := fun i => some (i * κ.sz, κ.sz)) (z := arr) (i := i) (u := a.eval x) (r := parts.map fun q => (q.1, a.eval q.2)) rfl (by simpa using hvl) hi
        have hal : arr.toList.length = arr.size := Array.length_toList
        have hzs : z'.size = arr.size := by
          have := congrArg List.length hz'
          have e1 : z'.toList.length = z'.size := Array.length_toList
          simp only [List.length_append, List.length_take, List.length_drop] at this
          omega
        have hone : ∀ u ∈ z'.toList, u.oneCell' = true := by
          intro u hu
          rw [hz'] at hu
          rcases List.mem_append.1 hu with hu | hu
          · rcases List.mem_append.1 hu with hu | hu
            · exact h2 u (List.mem_of_mem_take hu)
            · exact hcells.cv_one u hu
          · exact h2 u (List.mem_of_mem_drop hu)
        have hrow : RowRd C.E R1 κ (xs.set i y.1) z'.toList := by
          intro j e he
          rw [hz', set_seg hvl (by omega)]
          rw [List.getElem?_set] at he
          by_cases hji : i = j
          · subst hji
            rw [if_pos rfl, if_pos hlt] at he
            injection he with he
            subst he
            rw [if_pos rfl, hv12]
            exact hrd
          · rw [if_neg hji] at he
            rw [if_neg (fun e => hji e.symm)]
            exact K.Rd_mono l1.part κ _ _ (h3 j e he)
        obtain ⟨R2, en2, arr', G2, l2, hfill, hlen, hsz, hone', hrd'⟩ := ih y.2.2 R1 en1 (xs.set i y.1) z' (h0.trans l1.part) G1 (by rw [List.length_set, hzs, h1]) hone hrow p hp
        refine ⟨R2, en2, arr', G2, l1.trans l2, ?_, by rw [hlen, List.length_set], hsz, hone', hrd'⟩
        rw [List.map_cons, hf]
        exact hfill
      · cases hp
    · cases hp
theorem ok_buildSlice (hd : ∀ t, o.dst = some t → t < C.N) {t : TypeId} {len : Nat} {parts : Array (Nat × Operand)} (hop : o.op = .buildSlice t len parts) (h : stepO C.P C.E env kn base o v f = some r) : Done C kn o v f r := by
  unfold stepO at h
  rw [hop] at h
  simp only [Option.bind_eq_some_iff] at h
  obtain ⟨e, he, κ, hk, h⟩ := h
  have hu := slice_elem he
  obtain ⟨i, z, hi, hz, hsize, hsz, hby, hzero⟩ := rowKind_spec hk
  split at h
  · rename_i hbig
    rw [Option.bind_eq_some_iff] at h
    obtain ⟨p, hp, h⟩ := h
    obtain ⟨δ, hδ, h⟩ := Option.bind_eq_some_iff.1 h
    obtain ⟨hfree, rfl⟩ := newRow_spec hδ
    refine ⟨_, h, fun s a w R g hv hkn hr next Q hnx => ?_⟩
    have hzsz : z.cells.size = κ.sz := by have := K.Rd_len κ _ _ (hzero Part.nil); simpa using this
    have hcs : C.P.cellsOf e = κ.sz := by simp [Program.cellsOf, hi, hsize]
    have hz1 : ∀ u ∈ z.cells.toList, u.oneCell' = true := fun u hu => K.Rd_one κ _ _ (hzero R) u hu
    let arr : Array Value := (Array.range (len * κ.sz)).map (z.cells[· % z.cells.size]!)
    have G0 : GInv C s.en g w ⟨v.en, [], [], []⟩ R s.en (fun _ => False) := ⟨hr.inv, hv.en, fun i => .inl rfl, fun i h => h.elim, fun h h' i x => by simp at x, fun h x e => by simp at e⟩
    have hrd0 : RowRd C.E R κ (List.replicate len κ.zero) arr.toList := by
      intro j x hx
      have hj := (List.getElem?_eq_some_iff.1 hx).1
      rw [List.length_replicate] at hj
      have hx' : x = κ.zero := by
        have := (List.getElem?_eq_some_iff.1 hx).2
        simpa using this.symm
      subst hx'
      show κ.Rd C.E R κ.zero (((((Array.range (len * κ.sz)).map (z.cells[· % z.cells.size]!)).toList.drop (j * κ.sz)).take κ.sz))
      rw [zeros_seg hzsz hsz len j hj]
      exact hzero R
    obtain ⟨R', enS', arr', G', hle, hfill, hlen, hasz, hone, hrd⟩ := partsRow_run hv hr κ parts.toList _ R s.en (List.replicate len κ.zero) arr (Part.le_refl R) G0 (by simp [arr]) (fun u hu => List.all_eq_true.1 (zeros_one hz1 (by omega)) u hu) hrd0 p hp
    rw [List.length_replicate] at hlen
    have hfreeS : enS' base = .free := by
      rcases G'.le base with q | q
      · rw [← q]; exact hfree
      · rw [hfree] at q; cases q
    have hrun : (Instr.buildSlice t len (parts.map fun (i, x) => (i, a.eval x))).run C.P w = .ok (.slice (some ⟨w.heap.size, 0, none⟩) len len) (w.alloc (.cells arr' e)) := by
      have hparts : (parts.map fun (i, x) => (i, a.eval x)).toList = parts.toList.map fun q => (q.1, a.eval q.2) := by simp
      have hbig' : ¬ (len * κ.sz > 2 ^ 24) := by simpa using hbig
      simp only [Instr.buildSlice, Sem.run_bind, run_under hu, Result.andThen_ok, run_size hi, hcs, if_neg hbig', Sem.run_pure, hparts]
      by_cases h0 : len * κ.sz = 0
      · have harr : arr = #[] := by simp [arr, h0]
        rw [harr] at hfill
        have e0 : (Array.map (fun x : Nat => (#[] : Array Value)[x % (#[] : Array Value).size]!) (Array.range 0)) = #[] := by simp
        simp only [h0, if_true, Sem.run_pure, Result.andThen_ok, e0, hfill, Go.newRow, Sem.run_bind, run_newObj]
        rfl
      · have hfill' : Instr.fill (fun i => some (i * κ.sz, κ.sz)) ((Array.range (len * κ.sz)).map (z.cells[· % z.cells.size]!)) (parts.toList.map fun q => (q.1, a.eval q.2)) = some arr' := hfill
        simp only [if_neg h0, Sem.run_bind, run_zero hi hz, Result.andThen_ok, Sem.run_pure, hfill', Go.newRow, run_newObj]
        rfl
    refine wp_val (u := .slice (some ⟨w.heap.size, 0, none⟩) len len) (w' := w.alloc (.cells arr' e)) ?_ (hnx _ _ (row_end (base := base) hd hr hle.part G'.inv (log := p.2.log) G'.log hfreeS _ (fun b hb => Nat.le_of_eq (by injection hb)) (by simp) rfl rfl rfl (fun b hb => heap_alloc_old w _ hb) (fun g' => ?_)))
    · simp only [execOp, hop]
      exact run_v hrun
    · have hlim : len ≤ lim := by
        have : len * 1 ≤ len * κ.sz := Nat.mul_le_mul_left _ hsz
        unfold lim; omega
      exact .inr ⟨w.heap.size, len, arr', (0, 0), by rw [hlen], heap_alloc_new w _, Unf_zero _, by omega, by rw [hasz, hlen]; exact Nat.le_refl _, by omega, List.all_eq_true.2 hone, hrd⟩
  · cases h
theorem RowRd.cut {E : TypeId} {R : Part} {κ : K} {xs : List κ.T} {cs : List Value} (h : RowRd E R κ xs cs) (i n : Nat) : RowRd E R κ ((xs.drop i).take n) ((cs.drop (i * κ.sz)).take (n * κ.sz)) := by
  intro j x hx
  rw [List.getElem?_take] at hx
  split at hx
  · rename_i hj
    rw [List.getElem?_drop] at hx
    have := h (i + j) x hx
    have hle : (j + 1) * κ.sz ≤ n * κ.sz := Nat.mul_le_mul_right _ hj
    rw [Nat.add_mul] at hle
    rw [List.drop_take, List.take_take, List.drop_drop, Nat.min_eq_left (by omega), ← Nat.add_mul]
    exact this
  · cases hx
theorem Els.take {E : TypeId} {R : Part} {w : World} {κ : K} {xs : List κ.T} {A : Option Addr} {m c : Nat} (h : Els E R w κ xs (.slice A m c)) (n : Nat) (hn : n ≤ xs.length) : Els E R w κ (xs.take n) (.slice A n c) := by
  obtain ⟨A', c', e, h1, h2, h3⟩ := h
  injection e with e1 e2 e3
  subst e1; subst e3
  have hl : (xs.take n).length = n := by rw [List.length_take]; omega
  refine ⟨A, c, by rw [hl], by omega, by omega, fun hne => ?_⟩
  have hxne : xs ≠ [] := by
    intro e; subst e; simp at hne
  obtain ⟨b, off, arr, ty, fr, hA, hb, hj⟩ := h3 hxne
  refine ⟨b, off, arr, ty, fr, hA, hb, fun j x hx => hj j x ?_⟩
  rw [List.getElem?_take] at hx
  split at hx
  · exact hx
  · cases hx
theorem firstCells_len {P : Program} {w : World} (sz n : Nat) (A : Option Addr) (m m' c : Nat) : (Builtin.firstCells sz n (.slice A m c)).run P w = (Builtin.firstCells sz n (.slice A m' c)).run P w := by
  cases A <;> rfl
/-- a part of a row is written over. -/
theorem row_copy {P : Program} {E : TypeId} {R : Part} {g : Gh} {w : World} {κ : K} {xs ys : List κ.T} {ety : TypeId} {b c lo n : Nat} {arr : Array Value} {fr : Nat × Nat} (hb : w.heap[b]? = some (.cells arr ety fr)) (hf : Unf fr arr.size) (hc : xs.length ≤ c) (hcap : c * κ.sz ≤ arr.size) (hlim : xs.length ≤ lim)
    (hone : arr.toList.all Value.oneCell' = true) (hrow : RowRd E R κ xs arr.toList) (hle : lo + n ≤ xs.length) (hn : ys.length = n) {cs : List Value} (hcs : cs.length = n * κ.sz) (hcs1 : ∀ v ∈ cs, v.oneCell' = true) (hcrow : RowRd E R κ ys cs) :
    ∃ w', (storeCells ⟨b, lo * κ.sz, none⟩ cs).run P w = .ok () w' ∧ (∀ g', EntRel E R g' w' (.row ety κ (xs.take lo ++ ys ++ xs.drop (lo + n))) (.slice (some ⟨b, 0, none⟩) xs.length c)) ∧ w'.heap.size = w.heap.size ∧ w'.os = w.os ∧ w'.tape = w.tape ∧ w'.output = w.output ∧ (∀ b', b' ≠ b → w'.heap[b']? = w.heap[b']?) := by
  have hal : arr.toList.length = arr.size := Array.length_toList
  have h1 : (lo + n) * κ.sz ≤ c * κ.sz := Nat.mul_le_mul_right _ (by omega)
  have h1' : (lo + n) * κ.sz ≤ xs.length * κ.sz := Nat.mul_le_mul_right _ hle
  have h1'' : xs.length * κ.sz ≤ c * κ.sz := Nat.mul_le_mul_right _ hc
  rw [Nat.add_mul] at h1 h1'
  obtain ⟨w', arr', hst, hb', harr, hoth, hsz', g1, g2, g3⟩ := store_run (P := P) b ety fr cs (lo * κ.sz) 0 arr w hb hf (by omega) hcs1
  rw [Nat.add_zero] at harr
  have hasz : arr'.size = arr.size := by
    have := congrArg List.length harr
    have e1 : arr'.toList.length = arr'.size := Array.length_toList
    simp only [List.length_append, List.length_take, List.length_drop] at this
    omega
  have hlen : (xs.take lo ++ ys ++ xs.drop (lo + n)).length = xs.length := by simp; omega
  refine ⟨w', hst, fun g' => .inr ⟨b, c, arr', fr, by rw [hlen], hb', by rw [hasz]; exact hf, by rw [hlen]; exact hc, by rw [hasz]; exact hcap, by rw [hlen]; exact hlim, ?_, ?_⟩, hsz', g1, g2, g3, hoth⟩
  · rw [harr, List.all_append, List.all_append, Bool.and_eq_true, Bool.and_eq_true]
    rw [List.all_eq_true] at hone
    refine ⟨⟨?_, List.all_eq_true.2 hcs1⟩, ?_⟩
    · rw [List.all_eq_true]; exact fun u hu => hone u (List.mem_of_mem_take hu)
    · rw [List.all_eq_true]; exact fun u hu => hone u (List.mem_of_mem_drop hu)
  · have r1 : RowRd E R κ (xs.take lo) (arr.toList.take (lo * κ.sz)) := by
      have := hrow.cut 0 lo
      simpa using this
    have r3 : RowRd E R κ (xs.drop (lo + n)) ((arr.toList.drop ((lo + n) * κ.sz)).take ((xs.length - (lo + n)) * κ.sz)) := by
      have := hrow.cut (lo + n) (xs.length - (lo + n))
      rwa [List.take_of_length_le (by rw [List.length_drop]; omega)] at this
    have l1 : (arr.toList.take (lo * κ.sz)).length = (xs.take lo).length * κ.sz := by
      rw [List.length_take, List.length_take, Nat.min_eq_left (by omega), Nat.min_eq_left (by omega)]
    have r12 := r1.app l1 hcrow (by rw [hn]; exact hcs) []
    rw [List.append_nil] at r12
    have l12 : (arr.toList.take (lo * κ.sz) ++ cs).length = (xs.take lo ++ ys).length * κ.sz := by
      rw [List.length_append, List.length_append, Nat.add_mul, l1, hn, hcs]
    have e3 : (xs.length - (lo + n)) * κ.sz + (lo + n) * κ.sz = xs.length * κ.sz := by rw [← Nat.add_mul]; congr 1; omega
    rw [Nat.add_mul lo n] at e3
    have l3 : ((arr.toList.drop ((lo + n) * κ.sz)).take ((xs.length - (lo + n)) * κ.sz)).length = (xs.drop (lo + n)).length * κ.sz := by
      rw [List.length_take, List.length_drop, List.length_drop, Nat.min_eq_left (by rw [Nat.add_mul]; omega)]
    have r := r12.app l12 r3 l3 ((arr.toList.drop ((lo + n) * κ.sz)).drop ((xs.length - (lo + n)) * κ.sz))
    rw [List.append_assoc (arr.toList.take (lo * κ.sz) ++ cs), List.take_append_drop] at r
    rw [harr, hcs, ← Nat.add_mul]
    exact r
theorem copy_run {P : Program} {t t2 ty e : TypeId} (hu : P.underlying t = some (.slice e)) {i : TypeInfo} (hi : P.info? e = some i) {κ : K} (hsz : i.size = κ.sz) {w w' : World} {E : TypeId} {R : Part} {ys : List κ.T} {x : Value} (hx : Els E R w κ ys x) {A : Option Addr} {n c : Nat} {cs : List Value}
    (hcs : (Builtin.firstCells κ.sz (min ys.length n) x).run P w = .ok cs.toArray w) (hst : ∀ a, A = some a → (storeCells a cs).run P w = .ok () w') (hno : A = none → w' = w) :
    (Builtin.copy_ #[t, t2] ty #[.slice A n c, x]).run P w = .ok (.int .i64 (min ys.length n : Nat)) w' := by
  obtain ⟨A2, c2, rfl, _⟩ := hx
  have hcs' : (Builtin.firstCells κ.sz (Nat.min ys.length n) (.slice A2 ys.length c2)).run P w = .ok cs.toArray w := hcs
  cases A with
  | none =>
    rw [hno rfl]
    simp [Builtin.copy_, run_under hu, Builtin.lenOf, sizeOf, typeInfo, hi, hsz, hcs', goInt]
  | some a =>
    have := hst a rfl
    simp [Builtin.copy_, run_under hu, Builtin.lenOf, sizeOf, typeInfo, hi, hsz, hcs', goInt, this]
theorem copy_end {s : VSt} {a : Act} {w w' : World} {R : Part} {g : Gh} (hd : ∀ t, o.dst = some t → t < C.N) (hr : Rel C s a w R g) {hh : Nat} {ety : TypeId} {κ : K} {xs XS : List κ.T} (hlive : s.en hh = .live (.row ety κ xs)) {b c : Nat} (hg : g hh = some (.slice (some ⟨b, 0, none⟩) xs.length c))
    (he : EntRel C.E R g w' (.row ety κ XS) (.slice (some ⟨b, 0, none⟩) xs.length c)) (h1 : w'.heap.size = w.heap.size) (h2 : w'.os = w.os) (h3 : w'.tape = w.tape) (h4 : w'.output = w.output) (h5 : ∀ b', b' ≠ b → w'.heap[b']? = w.heap[b']?) {n : Nat} (hn : n ≤ lim) :
    RelE C (s.app o.dst ⟨dI .i64 n, [(hh, .live (.row ety κ XS))]⟩) (a.put o.dst (.int .i64 n)) w' := by
  have hgu : updg g hh (.slice (some ⟨b, 0, none⟩) xs.length c) = g := by
    funext j; unfold updg; split
    · rename_i e; rw [e, hg]
    · rfl
  have hput := hr.inv.put hh (.row ety κ XS) (.slice (some ⟨b, 0, none⟩) xs.length c) (w' := w') (.inr hg) (Nat.le_of_eq h1.symm) h2 h3 h4 (fun b' hlt hne => h5 b' (fun e => hne (by rw [e]; rfl)))
    (fun b' hb => by
      obtain ⟨m1, m2⟩ := hr.inv.mine hh _ _ b' hlive hg (.inl hb)
      exact ⟨m1, m2, fun j e' u hj hl hgj hbl => hr.inv.sep j hh e' _ u _ b' hj hl hlive hgj hg hbl (.inl hb)⟩)
    (by rw [hgu]; exact he)
  rw [hgu] at hput
  exact hr.app (δ := ⟨dI .i64 n, [(hh, .live (.row ety κ XS))]⟩) hd (Part.le_refl R) (Gh.le_refl g) hput (some_r (rel_len hn))
theorem copy_same {s : VSt} {a : Act} {w : World} {R : Part} {g : Gh} (hd : ∀ t, o.dst = some t → t < C.N) (hr : Rel C s a w R g) {hh : Nat} {e : Ent} (hlive : s.en hh = .live e) {n : Nat} (hn : n ≤ lim) :
    RelE C (s.app o.dst ⟨dI .i64 n, [(hh, .live e)]⟩) (a.put o.dst (.int .i64 n)) w := by
  refine hr.app (δ := ⟨dI .i64 n, [(hh, .live e)]⟩) hd (Part.le_refl R) (Gh.le_refl g) (hr.inv.less fun j => .inl ?_) (some_r (rel_len hn))
  show upds s.en [(hh, .live e)] j = s.en j
  show upd s.en hh (.live e) j = s.en j
  by_cases hj : j = hh
  · subst hj; rw [upd_same, hlive]
  · rw [upd_ne _ _ hj]
theorem splice_mid {α : Type} (L v : List α) (off N p : Nat) (h : p + v.length ≤ N) : L.take (off + p) ++ v ++ L.drop (off + p + v.length) = L.take off ++ ((((L.drop off).take N).take p ++ v ++ ((L.drop off).take N).drop (p + v.length)) ++ L.drop (off + N)) := by
  rw [List.take_take, Nat.min_eq_left (by omega), List.drop_take, List.drop_drop]
  have e1 : L.take (off + p) = L.take off ++ (L.drop off).take p := List.take_add
  have e2 : L.drop (off + p + v.length) = (L.drop (off + (p + v.length))).take (N - (p + v.length)) ++ L.drop (off + N) := by
    conv => lhs; rw [← List.take_append_drop (N - (p + v.length)) (L.drop (off + p + v.length))]
    rw [List.drop_drop]
    congr 2
    · rw [Nat.add_assoc]
    · omega
  rw [e1, e2]
  simp only [List.append_assoc]
theorem arr_splice {E : TypeId} {R : Part} {m lo : Nat} {κ : K} {xs ys : List κ.T} {vs cs : List Value} (h : (K.arr m κ).Rd E R xs vs) (hy : RowRd E R κ ys cs) (hc : cs.length = ys.length * κ.sz) (h1 : ∀ v ∈ cs, v.oneCell' = true) (hle : lo + ys.length ≤ List.length xs) :
    (K.arr m κ).Rd E R (List.take lo xs ++ ys ++ List.drop (lo + ys.length) xs) (vs.take (lo * κ.sz) ++ cs ++ vs.drop (lo * κ.sz + cs.length)) := by
  obtain ⟨k1, k2, k3, k4⟩ := h
  have hrow : RowRd E R κ xs vs := k4
  have h2 : (lo + ys.length) * κ.sz ≤ m * κ.sz := Nat.mul_le_mul_right _ (by omega)
  rw [Nat.add_mul] at h2
  refine ⟨?_, ?_, fun v hv => ?_, ?_⟩
  · simp only [List.length_append, List.length_take, List.length_drop]; omega
  · simp only [List.length_append, List.length_take, List.length_drop]; omega
  · rcases List.mem_append.1 hv with hv | hv
    · rcases List.mem_append.1 hv with hv | hv
      · exact k3 v (List.mem_of_mem_take hv)
      · exact h1 v hv
    · exact k3 v (List.mem_of_mem_drop hv)
  · have r1 : RowRd E R κ (List.take lo xs) (vs.take (lo * κ.sz)) := by
      have := hrow.cut 0 lo
      simpa using this
    have r3 : RowRd E R κ (List.drop (lo + ys.length) xs) ((vs.drop ((lo + ys.length) * κ.sz)).take ((List.length xs - (lo + ys.length)) * κ.sz)) := by
      have := hrow.cut (lo + ys.length) (List.length xs - (lo + ys.length))
      rwa [List.take_of_length_le (by rw [List.length_drop]; omega)] at this
    have l1 : (vs.take (lo * κ.sz)).length = (List.take lo xs).length * κ.sz := by
      rw [List.length_take, List.length_take, Nat.min_eq_left (by omega), Nat.min_eq_left (by omega)]
    have r12 := r1.app l1 hy hc []
    rw [List.append_nil] at r12
    have l12 : (vs.take (lo * κ.sz) ++ cs).length = (List.take lo xs ++ ys).length * κ.sz := by
      rw [List.length_append, List.length_append, Nat.add_mul, l1, hc]
    have e3 : (List.length xs - (lo + ys.length)) * κ.sz + (lo + ys.length) * κ.sz = m * κ.sz := by rw [← Nat.add_mul]; congr 1; omega
    rw [Nat.add_mul lo] at e3
    have l3 : ((vs.drop ((lo + ys.length) * κ.sz)).take ((List.length xs - (lo + ys.length)) * κ.sz)).length = (List.drop (lo + ys.length) xs).length * κ.sz := by
      rw [List.length_take, List.length_drop, List.length_drop, Nat.min_eq_left (by rw [Nat.add_mul]; omega)]
    have r := r12.app l12 r3 l3 ((vs.drop ((lo + ys.length) * κ.sz)).drop ((List.length xs - (lo + ys.length)) * κ.sz))
    rw [List.append_assoc (vs.take (lo * κ.sz) ++ cs), List.take_append_drop, Nat.add_mul, ← hc] at r
    exact r
theorem ok_copy (hd : ∀ t, o.dst = some t → t < C.N) {c : Call} (hop : o.op = .call c) (hcal : c.callee = .builtin .copy) (h : stepO C.P C.E env kn base o v f = some r) : Done C kn o v f r := by
  unfold stepO at h
  rw [hop] at h
  simp only [hcal] at h
  split at h
  · rename_i t t2 x y hty hargs
    rw [Option.bind_eq_some_iff] at h
    obtain ⟨e, he, h⟩ := h
    have hu := slice_elem he
    split at h
    · cases h
    rename_i hne
    obtain ⟨ti, hinfo, hts⟩ := info_of_cells hne
    rw [Option.bind_eq_some_iff] at h
    obtain ⟨ca, hca, h⟩ := h
    have hat : c.argTypes = #[t, t2] := by rw [← Array.toArray_toList (xs := c.argTypes), hty]
    have haa : c.args = #[x, y] := by rw [← Array.toArray_toList (xs := c.args), hargs]
    have crun : ∀ {a : Act} {w w' : World} {u : Value}, (Builtin.copy_ #[t, t2] o.type #[a.eval x, a.eval y]).run C.P w = .ok u w' → (execOp a.eval o).run C.P w = .ok (.value u) w' := by
      intro a w w' u hrun
      simp [execOp, hop, resolve, hcal, invoke, builtin, hat, haa, hrun]
    -- what is copied
    have src : ∀ {κ : K} {ys : List κ.T} {cb : CV} {s : VSt} {a : Act} {w : World} {R : Part} {g : Gh} (n : Nat), View v s → Rel C s a w R g → svCV (v.ev y) = some cb → elems v.en κ cb = some ys →
        ∃ cs : List Value, Els C.E R w κ ys (a.eval y) ∧ (Builtin.firstCells κ.sz (min ys.length n) (a.eval y)).run C.P w = .ok cs.toArray w ∧ cs.length = min ys.length n * κ.sz ∧ (∀ v ∈ cs, v.oneCell' = true) ∧ RowRd C.E R κ (ys.take n) cs := by
      intro κ ys cb s a w R g n hv hr hcb hys
      have hels := elems_sound hv hr hys (evc_rel hv hr hcb)
      obtain ⟨A, c2, ex, _⟩ := id hels
      rw [ex] at hels
      have htk := hels.take (min ys.length n) (Nat.min_le_left _ _)
      obtain ⟨cs, h1, h2, h3, h4⟩ := htk.cells C.P
      have hl : (ys.take (min ys.length n)).length = min ys.length n := by rw [List.length_take]; omega
      rw [hl] at h1 h2
      have e2 : ys.take (min ys.length n) = ys.take n := by
        rcases Nat.le_total ys.length n with hle | hle
        · rw [Nat.min_eq_left hle, List.take_of_length_le (Nat.le_refl _), List.take_of_length_le hle]
        · rw [Nat.min_eq_right hle]
      rw [e2] at h4
      refine ⟨cs, by rw [ex]; exact hels, ?_, h1, h3, h4⟩
      rw [ex, firstCells_len _ _ _ _ (min ys.length n)]
      exact h2
    split at h
    · rename_i hh
      split at h
      · rename_i ety κ xs hen
        split at h
        · rename_i hsz
          simp only [Option.bind_eq_some_iff] at h
          obtain ⟨cb, hcb, ys, hys, h⟩ := h
          refine ⟨_, h, fun s a w R g hv hkn hr next Q hnx => ?_⟩
          obtain ⟨hg, _⟩ := evc_rel hv hr hca
          have hlive := en_live hv hen
          obtain ⟨u, hgu, hE⟩ := hr.inv.live hh _ hlive
          rw [hg] at hgu
          injection hgu with hgu
          obtain ⟨cs, hels, hrun, hcl, hc1, hcrow⟩ := src xs.length hv hr hcb hys
          have hmm : min xs.length ys.length = min ys.length xs.length := Nat.min_comm _ _
          rcases hE with ⟨e0, e1⟩ | ⟨b, c, arr, fr, e1, h1, h2, h3, h4, h5, h6, h7⟩
          · subst e1
            have eX : ys.take ([] : List κ.T).length ++ ([] : List κ.T).drop ys.length = [] := by simp
            refine wp_val (u := .int .i64 (0 : Nat)) (w' := w) (crun ?_) (hnx _ _ (by rw [eX, show min ([] : List κ.T).length ys.length = 0 from by simp]; exact copy_same hd hr hlive (Nat.zero_le _)))
            rw [hgu, e0]
            have := copy_run (P := C.P) (ty := o.type) (t2 := t2) (w' := w) hu hinfo (by rw [← hsz]; exact hts) hels (A := none) (n := 0) (c := 0) hrun (fun a e => by cases e) (fun _ => rfl)
            simpa using this
          · have hmin : (ys.take xs.length).length = min ys.length xs.length := by rw [List.length_take]; exact Nat.min_comm _ _
            obtain ⟨w', hst, hent, g1, g2, g3, g4, g5⟩ := row_copy (P := C.P) (g := g) (lo := 0) (n := min ys.length xs.length) h1 h2 h3 h4 h5 h6 h7 (by omega) hmin hcl hc1 hcrow
            have eX : xs.take 0 ++ ys.take xs.length ++ xs.drop (0 + min ys.length xs.length) = ys.take xs.length ++ xs.drop ys.length := by
              rw [List.take_zero, List.nil_append, Nat.zero_add]
              congr 1
              rcases Nat.le_total ys.length xs.length with hle | hle
              · rw [Nat.min_eq_left hle]
              · rw [Nat.min_eq_right hle, List.drop_eq_nil_of_le (Nat.le_refl _), List.drop_eq_nil_of_le hle]
            rw [eX] at hent
            refine wp_val (u := .int .i64 (min ys.length xs.length : Nat)) (w' := w') (crun ?_) (hnx _ _ (by rw [hmm]; exact copy_end hd hr hlive (by rw [hg, hgu, e1]) (hent g) g1 g2 g3 g4 g5 (by omega)))
            rw [hgu, e1]
            rw [Nat.zero_mul] at hst
            exact copy_run (P := C.P) (ty := o.type) (t2 := t2) hu hinfo (by rw [← hsz]; exact hts) hels hrun (fun a e => by injection e with e; subst e; exact hst) (fun e => by cases e)
        · cases h
      · cases h
    · rename_i hh sz lo n
      split at h
      · rename_i ety κ xs hen
        split at h
        · rename_i hsz
          simp only [Option.bind_eq_some_iff] at h
          obtain ⟨cb, hcb, ys, hys, h⟩ := h
          refine ⟨_, h, fun s a w R g hv hkn hr next Q hnx => ?_⟩
          obtain ⟨A, cc, ex, hlim, hx⟩ := evc_rel hv hr hca
          have hlive := en_live hv hen
          obtain ⟨cs, hels, hrun, hcl, hc1, hcrow⟩ := src n hv hr hcb hys
          have hmm : min n ys.length = min ys.length n := Nat.min_comm _ _
          by_cases hn0 : n = 0
          · subst hn0
            have eX : xs.take lo ++ ys.take 0 ++ xs.drop (lo + min 0 ys.length) = xs := by simp
            refine wp_val (u := .int .i64 (0 : Nat)) (w' := w) (crun ?_) (hnx _ _ (by rw [eX, show min 0 ys.length = 0 from by simp]; exact copy_same hd hr hlive (Nat.zero_le _)))
            rw [ex]
            have hc0 : cs = [] := List.eq_nil_of_length_eq_zero (by rw [hcl]; simp)
            subst hc0
            have := copy_run (P := C.P) (ty := o.type) (t2 := t2) (w' := w) hu hinfo (by rw [← hsz.1]; exact hts) hels (A := A) (n := 0) (c := cc) hrun (fun a _ => rfl) (fun _ => rfl)
            simpa using this
          · obtain ⟨b, m, cp, hg, hA, hml⟩ := hx hn0
            obtain ⟨hm, arr, fr, h1, h2, h3, h4, h5, h6, h7⟩ := live_row hr hlive hg
            subst hm
            have hmin : (ys.take n).length = min ys.length n := by rw [List.length_take]; exact Nat.min_comm _ _
            obtain ⟨w', hst, hent, g1, g2, g3, g4, g5⟩ := row_copy (P := C.P) (g := g) (lo := lo) (n := min ys.length n) h1 h2 h3 h4 h5 h6 h7 (by omega) hmin hcl hc1 hcrow
            refine wp_val (u := .int .i64 (min ys.length n : Nat)) (w' := w') (crun ?_) (hnx _ _ (by rw [hmm]; exact copy_end hd hr hlive hg (hent g) g1 g2 g3 g4 g5 (by have := hlim.1; omega)))
            rw [ex]
            exact copy_run (P := C.P) (ty := o.type) (t2 := t2) hu hinfo (by rw [← hsz.1]; exact hts) hels hrun (fun a e => by rw [hA] at e; injection e with e; subst e; rw [hsz.2]; exact hst) (fun e => by rw [hA] at e; cases e)
        · cases h
      · cases h
    · rename_i hh off sz lo n
      rw [Option.bind_eq_some_iff] at h
      obtain ⟨⟨ty, a0, ⟨m, κ, xs⟩, r0⟩, hat', h⟩ := h
      simp only at h
      split at h
      · rename_i hsz
        split at h
        · rename_i hfit
          simp only [Option.bind_eq_some_iff] at h
          obtain ⟨cb, hcb, ys, hys, h⟩ := h
          obtain ⟨ss, hen, hcut⟩ := arrAt_spec hat'
          refine ⟨_, h, fun s a w R g hv hkn hr next Q hnx => ?_⟩
          obtain ⟨b, cc, hg, hlim, A, ex, hA⟩ := evc_rel hv hr hca
          have hlive := en_live hv hen
          obtain ⟨arr, fr, h1, h2, h3⟩ := live_segs hr hlive hg
          obtain ⟨m1, m2, m3, m4⟩ := segs_at h3 hcut
          obtain ⟨cs, hels, hrun, hcl, hc1, hcrow⟩ := src n hv hr hcb hys
          have hmm : min n ys.length = min ys.length n := Nat.min_comm _ _
          have hmin : (ys.take n).length = min ys.length n := by rw [List.length_take]; exact Nat.min_comm _ _
          have hsp := arr_splice (lo := lo) m2 hcrow (by rw [hmin]; exact hcl) hc1 (by rw [hmin]; omega)
          rw [hmin] at hsp
          have hbnd : lo * κ.sz + cs.length ≤ m * κ.sz := by
            have : (lo + min ys.length n) * κ.sz ≤ m * κ.sz := Nat.mul_le_mul_right _ (by have := m2.1; omega)
            rw [Nat.add_mul] at this
            omega
          have hss : SegsRel C.E R g (a0 ++ .blk (.arr m κ) (List.take lo xs ++ ys.take n ++ List.drop (lo + min n ys.length) xs) :: r0) (arr.toList.take (off + lo * κ.sz) ++ cs ++ arr.toList.drop (off + lo * κ.sz + cs.length)) := by
            rw [splice_mid arr.toList cs off (m * κ.sz) (lo * κ.sz) hbnd, hmm]
            exact SegsRel.app m1 (.blk hsp m3)
          obtain ⟨w', hst, hput⟩ := segs_store hr.inv hlive hg h1 h2 (off := off + lo * κ.sz) (vs := cs) (by omega) hc1 hss
          have hw : A = none → w' = w := fun e => by
            have hn0 : n = 0 := by
              rcases Nat.eq_zero_or_pos n with h | h
              · exact h
              · rw [hA (by omega)] at e; cases e
            have hc0 : cs = [] := List.eq_nil_of_length_eq_zero (by rw [hcl, hn0]; simp)
            rw [hc0] at hst
            injection hst with _ hst
            exact hst.symm
          refine wp_val (u := .int .i64 (min ys.length n : Nat)) (w' := w') (crun ?_) (hnx _ _ ?_)
          · rw [ex]
            refine copy_run (P := C.P) (ty := o.type) (t2 := t2) hu hinfo (by rw [← hsz.1]; exact hts) hels hrun (fun a' e => ?_) hw
            by_cases hn0 : n = 0
            · have hc0 : cs = [] := List.eq_nil_of_length_eq_zero (by rw [hcl, hn0]; simp)
              rw [hc0] at hst ⊢
              exact hst
            · rw [hA hn0] at e
              injection e with e
              rw [← e, hsz.2]
              exact hst
          · rw [hmm]
            rw [hmm] at hput
            exact hr.app (δ := ⟨dI .i64 (min ys.length n : Nat), [(hh, .live (.segs ty (a0 ++ .blk (.arr m κ) (List.take lo xs ++ ys.take n ++ List.drop (lo + min ys.length n) xs) :: r0)))]⟩) hd (Part.le_refl R) (Gh.le_refl g) hput (some_r (rel_len (by have := hlim.1; omega)))
        · cases h
      · cases h
    · cases h
  · cases h
theorem ok_append (hd : ∀ t, o.dst = some t → t < C.N) {c : Call} (hop : o.op = .call c) (hcal : c.callee = .builtin .append) (h : stepO C.P C.E env kn base o v f = some r) : Done C kn o v f r := by
  unfold stepO at h
  rw [hop] at h
  simp only [hcal] at h
  split at h
  · rename_i t t2 x y hty hargs
    simp only [Option.bind_eq_some_iff] at h
    obtain ⟨e, he, κ, hk, ys, hys, ca, hca, h⟩ := h
    have hu := slice_elem he
    obtain ⟨i, z, hi, hz, hsize, hsz, hby, hzero⟩ := rowKind_spec hk
    have hbytes : C.P.bytesOf e = i.bytes := by simp [Program.bytesOf, hi]
    have hat : c.argTypes = #[t, t2] := by rw [← Array.toArray_toList (xs := c.argTypes), hty]
    have haa : c.args = #[x, y] := by rw [← Array.toArray_toList (xs := c.args), hargs]
    -- the call's run out of the builtin's
    have crun : ∀ {a : Act} {w w' : World} {u : Value}, (Builtin.append_ #[t, t2] o.type #[a.eval x, a.eval y]).run C.P w = .ok u w' → (execOp a.eval o).run C.P w = .ok (.value u) w' := by
      intro a w w' u hrun
      simp [execOp, hop, resolve, hcal, invoke, builtin, hat, haa, hrun]
    split at h
    · split at h
      · rename_i hroom
        obtain ⟨δ, hδ, h⟩ := Option.bind_eq_some_iff.1 h
        obtain ⟨hfree, rfl⟩ := newRow_spec hδ
        refine ⟨_, h, fun s a w R g hv hkn hr next Q hnx => ?_⟩
        have hx : a.eval x = .slice none 0 0 := evc_rel hv hr hca
        obtain ⟨hu2, hels⟩ := src_sound hv hr hys
        obtain ⟨s', w', hrun, hent, hblk, h1, h2, h3, h4, h5⟩ := append_run (P := C.P) (ty := o.type) hu hu2 hi hz hsize hsz hby hzero (g := g) (xs := ([] : List κ.T)) (.inl ⟨rfl, rfl⟩ : EntRel C.E R g w (.row e κ []) (.slice none 0 0)) hels (by rw [hbytes] at hroom; simpa [bound] using hroom)
        rw [← hx] at hrun
        refine wp_val (crun hrun) (hnx _ _ (row_end (base := base) hd hr (Part.le_refl R) hr.inv (log := []) (fun i => .inl rfl) (en_free hv hfree) s' (fun b hb => ?_) h1 h2 h3 h4 (fun b hb => h5 b hb (fun e => by rcases hblk b e with q | q; (· cases q); (· omega))) (fun g' => ?_)))
        · rcases hblk b hb with q | q
          · cases q
          · exact q
        · exact hent
      · cases h
    · rename_i κ' xs0
      rw [Option.bind_eq_some_iff] at h
      obtain ⟨xs, hconv, h⟩ := h
      obtain ⟨ek, hconv⟩ := K.conv_eq hconv
      injection ek with ek
      subst ek
      have hconv : xs = xs0 := hconv
      subst hconv
      split at h
      · rename_i hroom
        obtain ⟨δ, hδ, h⟩ := Option.bind_eq_some_iff.1 h
        obtain ⟨hfree, rfl⟩ := newRow_spec hδ
        refine ⟨_, h, fun s a w R g hv hkn hr next Q hnx => ?_⟩
        obtain ⟨⟨A, n, hx⟩, hrdx⟩ := evc_rel hv hr hca
        obtain ⟨hu2, hels⟩ := src_sound hv hr hys
        obtain ⟨s', w', hrun, hent, hblk, h1, h2, h3, h4, h5⟩ := append_full (P := C.P) (ty := o.type) hu hu2 hi hz hsize hsz hby hzero hx (.of_rd hr.inv.sub hrdx) hels hroom.2 (by have := hroom.1; rw [hbytes] at this; simpa [bound] using this)
        exact wp_val (crun hrun) (hnx _ _ (row_end (base := base) hd hr (Part.le_refl R) hr.inv (log := []) (fun i => .inl rfl) (en_free hv hfree) s' hblk h1 h2 h3 h4 h5 hent))
      · cases h
    · rename_i hh
      split at h
      · rename_i e' κ' xs hen
        split at h
        · rename_i ee
          subst ee
          rw [Option.bind_eq_some_iff] at h
          obtain ⟨xs', hconv, h⟩ := h
          obtain ⟨ek, hconv⟩ := K.conv_eq hconv
          injection ek with ek
          subst ek
          obtain rfl : xs' = xs := hconv
          split at h
          · rename_i hroom
            obtain ⟨δ, hδ, h⟩ := Option.bind_eq_some_iff.1 h
            obtain ⟨hfree, rfl⟩ := newRow_spec hδ
            refine ⟨_, h, fun s a w R g hv hkn hr next Q hnx => ?_⟩
            obtain ⟨hg, _⟩ := evc_rel hv hr hca
            have hlive := en_live hv hen
            obtain ⟨u, hgu, hE⟩ := hr.inv.live hh _ hlive
            rw [hg] at hgu
            injection hgu with hgu
            obtain ⟨hu2, hels⟩ := src_sound hv hr hys
            obtain ⟨s', w', hrun, hent, hblk, h1, h2, h3, h4, h5⟩ := append_run (P := C.P) (ty := o.type) hu hu2 hi hz hsize hsz hby hzero hE hels (by rw [hbytes] at hroom; exact hroom)
            rw [← hgu] at hrun
            -- the elder row is gone
            have hne : base ≠ hh := fun e => by
              subst e
              have := en_free hv hfree
              rw [hlive] at this
              cases this
            have hdead : Inv C R g (upd s.en hh .dead) w := hr.inv.less (fun j => by
              by_cases hj : j = hh
              · subst hj; exact .inr (upd_same _ _ _)
              · exact .inl (upd_ne _ _ hj))
            have hfree' : upd s.en hh .dead base = .free := by rw [upd_ne _ _ hne]; exact en_free hv hfree
            have hput := hdead.put base (.row e κ' (xs' ++ ys)) s' (w' := w') (.inl (hr.inv.free base (en_free hv hfree))) h1 h2 h3 h4
              (fun b hlt hb => h5 b hlt hb)
              (fun b hb => by
                rcases hblk b hb with q | q
                · obtain ⟨m1, m2⟩ := hr.inv.mine hh _ _ b hlive (by rw [hg, hgu]) (.inl q)
                  refine ⟨m1, m2, fun j e' y hj hl hgj hbl => ?_⟩
                  by_cases hjh : j = hh
                  · subst hjh; rw [upd_same] at hl; cases hl
                  · rw [upd_ne _ _ hjh] at hl
                    exact hr.inv.sep j hh e' _ y u b hjh hl hlive hgj (by rw [hg, hgu]) hbl (.inl q)
                · refine ⟨?_, .inl (Nat.le_trans hr.inv.kept.size q), fun j e' y hj hl hgj hbl => ?_⟩
                  · cases hR : R b with
                    | none => rfl
                    | some ob =>
                      have := (Array.getElem?_eq_some_iff.1 (hr.inv.sub b ob hR)).1
                      omega
                  · have := hdead.own_lt hl hgj hbl
                    omega)
              (hent.mono (Part.le_refl R) (updg_le (.inl (hr.inv.free base (en_free hv hfree)))) (fun _ _ => rfl))
            refine wp_val (crun hrun) (hnx _ _ (hr.app (δ := ⟨some (.r (.c (.own base))), [(hh, .dead)] ++ [(base, .live (.row e κ' (xs' ++ ys)))]⟩) hd (Part.le_refl R) (updg_le (.inl (hr.inv.free base (en_free hv hfree)))) hput (some_r ⟨updg_same _ _ _, hent.one⟩)))
          · cases h
        · cases h
      · cases h
    · cases h
  · cases h
end
end Go.Sx
