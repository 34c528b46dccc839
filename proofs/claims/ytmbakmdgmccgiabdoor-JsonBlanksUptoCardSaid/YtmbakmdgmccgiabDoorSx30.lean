/- Part of a proof by a small interpreter on plain values; no condition. -/
import Derived.Test.YtmbakmdgmccgiabDoorSx26
/-! Sx30: a text that is gone over, code point by code point. -/
namespace Go.Sx
open Go
set_option autoImplicit false
set_option linter.unusedSimpArgs false
set_option linter.unusedVariables false
theorem get_at (bs : ByteArray) (j : Nat) : (bs.get! j).toNat = ((bytesL bs).getD j 0).toNat := by
  cases bs with
  | mk d =>
    show (d[j]!).toNat = _
    unfold bytesL
    simp only [List.getD_eq_getElem?_getD, List.getElem?_map, Array.getElem?_toList]
    by_cases h : j < d.size
    · simp [h]
    · simp [h]; rfl
theorem decode_eq (bs : ByteArray) (i : Nat) : Utf8.decode bs i = u8d (bytesL bs) i := by
  unfold Utf8.decode u8d
  simp only [get_at, bytesL_len]
  rfl
theorem u8d_spec (s : List Int) (i : Nat) : (u8d s i).1 ≤ 1114111 ∧ 1 ≤ (u8d s i).2 ∧ (u8d s i).2 ≤ 4 := by
  unfold u8d
  dsimp only
  split
  · dsimp only; omega
  · split
    · split <;> dsimp only <;> omega
    · split
      · split <;> dsimp only <;> omega
      · split
        · split
          · rename_i h
            simp only [Bool.and_eq_true] at h
            have hv := h.2
            unfold Utf8.valid at hv
            simp only [Bool.or_eq_true, Bool.and_eq_true, decide_eq_true_eq] at hv
            dsimp only
            omega
          · dsimp only; omega
        · dsimp only; omega
theorem run_getIter {P : Program} {w : World} {b : Nat} {s : ByteArray} {pos : Nat} (h : w.heap[b]? = some (.stringIter s pos)) : (getObj b).run P w = .ok (.stringIter s pos) w := by
  simp only [getObj, Sem.run, h]
theorem run_setIter {P : Program} {w : World} {b : Nat} {s : ByteArray} {pos : Nat} (h : w.heap[b]? = some (.stringIter s pos)) (o : Obj) : (setObj b o).run P w = .ok () { w with heap := w.heap.setIfInBounds b o } := by
  simp only [setObj, Sem.run, h]
section
variable {C : Ctx} {env : Env} {kn : List (Nat × Bool)} {base : Nat} {o : Oper} {v : VSt} {A : Type} {f : Delta → Option A} {r : A}
theorem ok_range (hd : ∀ t, o.dst = some t → t < C.N) {t : TypeId} {x : Operand} (hop : o.op = .range t x) (h : stepO C.P C.E env kn base o v f = some r) : Done C kn o v f r := by
  unfold stepO at h
  rw [hop] at h
  simp only at h
  split at h
  · rename_i hu
    split at h
    · rename_i l hc
      split at h
      · rename_i hfree
        refine ⟨_, h, fun s a w R g hv hk hr next Q hn => ?_⟩
        have hf := en_free hv hfree
        obtain ⟨bs, hx, hs, hlim⟩ := evc_rel hv hr hc
        injection hx with hx _
        have hle := updg_le (g := g) (h := base) (v := .pointer (some ⟨w.heap.size, 0, none⟩)) (.inl (hr.inv.free base hf))
        have h1 := hr.inv.make base hf (.it l 0) (.pointer (some ⟨w.heap.size, 0, none⟩)) (w' := w.alloc (.stringIter bs 0)) (fun b hb => Nat.le_of_eq (by injection hb)) (by simp) rfl rfl rfl (fun b hb => heap_alloc_old w _ hb)
          ⟨w.heap.size, bs, rfl, heap_alloc_new w _, hs, hlim⟩
        refine wp_val (u := .pointer (some ⟨w.heap.size, 0, none⟩)) (w' := w.alloc (.stringIter bs 0)) ?_ (hn _ _ (hr.app (δ := ⟨some (.r (.c (.ptr base 0))), [(base, .live (.it l 0))]⟩) hd (Part.le_refl R) hle h1 (some_r ⟨w.heap.size, updg_same _ _ _, rfl⟩)))
        simp only [execOp, hop]
        refine run_v ?_
        simp only [Instr.range, Sem.run_bind, run_under hu, Result.andThen_ok, hx, Sem.run_pure]
        rfl
      · cases h
    · cases h
  · cases h
theorem ok_next (hd : ∀ t, o.dst = some t → t < C.N) {x : Operand} {str : Bool} (hop : o.op = .next x str) (h : stepO C.P C.E env kn base o v f = some r) : Done C kn o v f r := by
  unfold stepO at h
  rw [hop] at h
  simp only at h
  split at h
  · rename_i hstr
    subst hstr
    split at h
    · rename_i hh hc
      split at h
      · rename_i l pos hen
        split at h
        · rename_i hlt
          refine ⟨_, h, fun s a w R g hv hk hr next Q hn => ?_⟩
          have hlive := en_live hv hen
          obtain ⟨b0, hg0, hx⟩ := evc_rel hv hr hc
          obtain ⟨u, hu', b, bs, rfl, h1, h2, h3⟩ := hr.inv.live hh _ hlive
          rw [hg0] at hu'
          injection hu' with hu'
          injection hu' with hu'
          injection hu' with hu'
          injection hu' with hu' _ _
          subst hu'
          have hblt : b0 < w.heap.size := (Array.getElem?_eq_some_iff.1 h1).1
          have hsz : pos < bs.size := by rw [h2, bytesL_len] at hlt; exact hlt
          have hgu : updg g hh (.pointer (some ⟨b0, 0, none⟩)) = g := by
            funext j; unfold updg; split
            · rename_i e; rw [e, hg0]
            · rfl
          have hput := hr.inv.put hh (.it l (pos + (u8d l pos).2)) (.pointer (some ⟨b0, 0, none⟩)) (w' := { w with heap := w.heap.setIfInBounds b0 (.stringIter bs (pos + (u8d l pos).2)) }) (.inr hg0) (by simp) rfl rfl rfl
              (fun b' hlt hne => by
                show (w.heap.setIfInBounds b0 _)[b']? = _
                rw [Array.getElem?_setIfInBounds, if_neg (fun e => hne (by rw [← e]; rfl))])
              (fun b' hb => by
                obtain ⟨m1, m2⟩ := hr.inv.mine hh _ _ b' hlive hg0 (.inl hb)
                exact ⟨m1, m2, fun j e' u hj hlj hgj hbl => hr.inv.sep j hh e' _ u _ b' hj hlj hlive hgj hg0 hbl (.inl hb)⟩)
              (by
                rw [hgu]
                exact ⟨b0, bs, rfl, by show (w.heap.setIfInBounds b0 _)[b0]? = _; rw [Array.getElem?_setIfInBounds, if_pos rfl, if_pos hblt], h2, h3⟩)
          rw [hgu] at hput
          have hsp := u8d_spec l pos
          have hl : lim = 9223372036854775807 := rfl
          refine wp_val (u := .tuple #[.bool true, .int .i64 (pos : Int), .int .i32 ((u8d l pos).1 : Int)]) (w' := { w with heap := w.heap.setIfInBounds b0 (.stringIter bs (pos + (u8d l pos).2)) }) ?_
            (hn _ _ (hr.app (δ := ⟨some (.t [.c (.dat .bool true), .c (.dat (.int .i64) (pos : Int)), .c (.dat (.int .i32) ((u8d l pos).1 : Int))]), [(hh, .live (.it l (pos + (u8d l pos).2)))]⟩) hd (Part.le_refl R) (Gh.le_refl g) hput (some_r ?_)))
          · simp only [execOp, hop]
            refine run_v ?_
            simp only [Instr.next, hx, Sem.run_bind, run_getIter h1, Result.andThen_ok, if_pos hsz, decode_eq, ← h2, run_setIter h1, Sem.run_pure]
            rfl
          · refine ⟨[.bool true, .int .i64 (pos : Int), .int .i32 ((u8d l pos).1 : Int)], rfl, .cons ?_ (.cons ?_ (.cons ?_ .nil))⟩
            · exact (rfl : [Value.bool true] = [Value.bool true])
            · exact (⟨rfl, by rw [k_min_eq]; show (-9223372036854775808 : Int) ≤ pos; omega, by rw [k_max_eq]; show (pos : Int) ≤ 9223372036854775807; omega⟩ : (K.int .i64).Rd C.E R (pos : Int) [.int .i64 (pos : Int)])
            · exact (⟨rfl, by rw [k_min_eq]; show (-2147483648 : Int) ≤ _; omega, by rw [k_max_eq]; show _ ≤ (2147483647 : Int); omega⟩ : (K.int .i32).Rd C.E R ((u8d l pos).1 : Int) [.int .i32 ((u8d l pos).1 : Int)])
        · rename_i hlt
          refine ⟨_, h, fun s a w R g hv hk hr next Q hn => ?_⟩
          have hlive := en_live hv hen
          obtain ⟨b0, hg0, hx⟩ := evc_rel hv hr hc
          obtain ⟨u, hu', b, bs, rfl, h1, h2, h3⟩ := hr.inv.live hh _ hlive
          rw [hg0] at hu'
          injection hu' with hu'
          injection hu' with hu'
          injection hu' with hu'
          injection hu' with hu' _ _
          subst hu'
          have hsz : ¬ pos < bs.size := by rw [h2, bytesL_len] at hlt; exact hlt
          refine wp_val (u := .tuple #[.bool false]) (w' := w) ?_ (hn _ _ (hr.app (δ := ⟨some (.t [.c (.dat .bool false)]), []⟩) hd (Part.le_refl R) (Gh.le_refl g) hr.inv (some_r ?_)))
          · simp only [execOp, hop]
            refine run_v ?_
            simp only [Instr.next, hx, Sem.run_bind, run_getIter h1, Result.andThen_ok, if_neg hsz]
            rfl
          · exact ⟨[.bool false], rfl, .cons (rfl : [Value.bool false] = [Value.bool false]) .nil⟩
      · cases h
    · cases h
  · cases h
end
end Go.Sx
