/- Part of a proof by a small interpreter on plain values; no condition. -/
import Derived.Test.YtndkpphniekmlaaDoorWl
namespace Go.Sx.YtndkpphniekmlaaDoor
open Go Go.Sx Go.Proofs
set_option autoImplicit false
set_option linter.unusedVariables false
set_option linter.unusedSimpArgs false
/-! what is told of a target's parts is read as them. -/
theorem ixb_app {k : Int} : ∀ (p q : List Int), k ∉ p → ixb (p ++ k :: q) k = (p.length : Int)
  | [], q, _ => by simp [ixb]
  | c :: r, q, h => by
    have h1 : ¬ c = k := fun e => h (by simp [e])
    have ih := ixb_app (k := k) r q (fun e => h (by simp [e]))
    rw [List.cons_append, ixb, if_neg h1, ih, if_neg (by omega)]; simp
theorem ixb_no {k : Int} {p : List Int} (h : k ∉ p) : ixb p k = -1 := by
  rcases ixb_case p k with ⟨e, _⟩ | ⟨i, _, _, _, h3⟩
  · exact e
  · exact absurd (by rw [h3]; simp) h
theorem cut_spec (s : List Int) (k : Int) : ∃ p q has, cutV s k = (p, (q, has)) ∧ k ∉ p ∧ s = p ++ (if has = true then k :: q else []) ∧ (has = false → q = []) := by
  unfold cutV
  rcases ixb_case s k with ⟨e, h⟩ | ⟨i, e, h1, h2, h3⟩
  · exact ⟨s, [], false, by rw [if_pos e], h, by simp, fun _ => rfl⟩
  · refine ⟨s.take i, s.drop (i + 1), true, by rw [e, if_neg (by omega)]; simp only [Int.toNat_natCast], h2, ?_, fun e => by cases e⟩
    rw [if_pos rfl]; exact h3
theorem cut_app {p q : List Int} {k : Int} {has : Bool} (h : k ∉ p) (hq : has = false → q = []) : cutV (p ++ (if has = true then k :: q else [])) k = (p, (q, has)) := by
  unfold cutV
  cases has with
  | true =>
    rw [if_pos (rfl : true = true), ixb_app p q h, if_neg (by omega)]
    simp only [Int.toNat_natCast]
    rw [List.take_left' rfl, show p ++ k :: q = (p ++ [k]) ++ q by simp, List.drop_left' (by simp)]
  | false =>
    rw [if_neg Bool.false_ne_true, List.append_nil, ixb_no h, if_pos rfl, hq rfl]
theorem hp_app : ∀ {a b : List Int}, (∀ c ∈ a, hostc c = true) → hp b = 0 → hp (a ++ b) = a.length
  | [], b, _, h => h
  | c :: r, b, h, hb => by
    rw [List.cons_append, hp, if_pos (h c (by simp)), hp_app (fun x hx => h x (by simp [hx])) hb]; rfl
theorem host_lw {c : Int} (h : hostc c = true) : hostc (lwA c) = true ∧ lwA (lwA c) = lwA c := by
  unfold hostc lett isd lwA at *
  simp only [Bool.or_eq_true, decide_eq_true_eq, List.contains_iff_mem, List.mem_cons, List.not_mem_nil, or_false] at h ⊢
  by_cases hc : 65 ≤ c ∧ c ≤ 90
  · rw [if_pos hc, if_neg (by omega)]; omega
  · rw [if_neg hc, if_neg hc]; omega
theorem host_take {y : List Int} : ∀ c ∈ y.take (hp y), hostc c = true := fun c hc => by
  obtain ⟨j, hj, hjc⟩ := List.mem_iff_getElem.1 hc
  have hl := hp_le y
  have hj' : j < hp y := by simp at hj; omega
  have := hp_at y j hj'
  have hcy : c = y.getD j 0 := by
    rw [← hjc, List.getD_eq_getElem?_getD, List.getElem?_eq_getElem (by omega)]
    simp
  rw [hcy]; exact this
theorem beh_ok {form : Int} {host rest : List Int} {f : Int} {h p q : List Int} {b : Bool} (e : behP form host rest = (f, h, p, q, b, 0)) :
    f = form ∧ h = host ∧ pathP p = true ∧ queryP q = true ∧ p = (if (cutV rest 63).1 = [] ∧ form = 2 then [47] else (cutV rest 63).1) ∧ q = (cutV rest 63).2.1 ∧ b = (cutV rest 63).2.2 := by
  unfold behP at e
  by_cases hc : pathP (if (cutV rest 63).1 = [] ∧ form = 2 then [47] else (cutV rest 63).1) = true ∧ queryP (cutV rest 63).2.1 = true
  · rw [if_pos hc] at e
    simp only [Prod.mk.injEq] at e
    obtain ⟨e1, e2, e3, e4, e5, _⟩ := e
    refine ⟨e1.symm, e2.symm, ?_, ?_, e3.symm, e4.symm, e5.symm⟩
    · rw [← e3]; exact hc.1
    · rw [← e4]; exact hc.2
  · rw [if_neg hc] at e
    unfold errT at e
    simp only [Prod.mk.injEq] at e
    exact absurd e.2.2.2.2.2 (by decide)
theorem par_back {s : List Int} {f : Int} {host path query : List Int} {has : Bool} (hs : BL s) (h : parP s = (f, host, path, query, has, 0)) :
    parP (txV f host path query has) = (f, host, path, query, has, 0) ∧ (txV f host path query has).length ≤ s.length ∧ TY host ∧ TY path ∧ TY query := by
  have hh := h
  unfold parP at h
  split at h
  · unfold errT at h; simp only [Prod.mk.injEq] at h; exact absurd h.2.2.2.2.2 (by decide)
  rename_i hl
  have TYn : TY ([] : List Int) := ⟨(fun c hc => nomatch hc), by simp⟩
  split at h
  · rename_i e42
    simp only [Prod.mk.injEq] at h
    obtain ⟨rfl, rfl, rfl, rfl, rfl, _⟩ := h
    refine ⟨?_, ?_, TYn, TYn, TYn⟩
    · rw [e42] at hh; exact hh
    · rw [e42]; exact Nat.le_refl _
  split at h
  · -- origin
    obtain ⟨rfl, rfl, h3, h4, h5, h6, h7⟩ := beh_ok h
    obtain ⟨p, q, b, hc, hk, hsp, hb⟩ := cut_spec s 63
    rw [hc] at h5 h6 h7
    rw [if_neg (fun e => by cases e.2)] at h5
    dsimp only at h5 h6 h7
    subst h5 h6 h7
    have hu : txV 1 [] path query has = s := by
      unfold txV
      rw [if_neg (by decide), if_neg (by decide)]; exact hsp.symm
    rw [hu]
    have t1 : TY path := ⟨fun c hc => hs c (by rw [hsp]; exact List.mem_append.2 (.inl hc)), by rw [hsp] at hl; simp at hl; omega⟩
    have t2 : TY query := by
      cases has with
      | true =>
        rw [if_pos rfl] at hsp
        refine ⟨fun c hc => hs c (by rw [hsp]; simp [hc]), ?_⟩
        rw [hsp] at hl; simp at hl; omega
      | false => rw [hb rfl]; exact TYn
    exact ⟨hh, Nat.le_refl _, TYn, t1, t2⟩
  split at h
  · -- absolute
    rename_i h7
    unfold absP at h
    split at h
    · rename_i hhp
      have hy : s.length = 7 + (s.drop 7).length := by simp; omega
      have hyB : BL (s.drop 7) := hs.drop 7
      generalize s.drop 7 = y at h hhp hy hyB
      obtain ⟨rfl, rfl, h3, h4, h5, h6, h7'⟩ := beh_ok h
      obtain ⟨p, q, b, hc, hk, hsp, hb⟩ := cut_spec (y.drop (hp y)) 63
      rw [hc] at h5 h6 h7'
      dsimp only at h5 h6 h7'
      subst h6 h7'
      have hpl := hp_le y
      have hyl : y.length = hp y + (p.length + (if has = true then 63 :: query else [] : List Int).length) := by
        have e := congrArg List.length hsp
        rw [List.length_append, List.length_drop] at e
        omega
      have hrB : BL (p ++ (if has = true then 63 :: query else [])) := by rw [← hsp]; exact hyB.drop _
      have tp : TY p := ⟨fun c hc => hrB c (List.mem_append.2 (.inl hc)), by omega⟩
      have tq : TY query := by
        cases has with
        | true =>
          rw [if_pos rfl] at hrB hyl
          exact ⟨fun c hc => hrB c (by simp [hc]), by simp at hyl; omega⟩
        | false => rw [hb rfl]; exact TYn
      have tpath : TY path := by
        rw [h5]; split
        · exact ⟨fun c hc => by rw [List.mem_singleton.1 hc]; omega, by simp⟩
        · exact tp
      have hhost : ∀ c ∈ (y.take (hp y)).map lwA, hostc c = true ∧ lwA c = c := fun c hc => by
        obtain ⟨d, hd, rfl⟩ := List.mem_map.1 hc
        exact host_lw (host_take d hd)
      have hhl : ((y.take (hp y)).map lwA).length = hp y := by simp; omega
      generalize (y.take (hp y)).map lwA = host at hhost hhl h hh
      have thost : TY host := ⟨fun c hc => by have := hostc_low (hhost c hc).1; omega, by omega⟩
      -- what stands for the path
      have hpp : ∃ pp : List Int, pp = (if path = [47] then [] else path) ∧ 63 ∉ pp ∧ pp.length ≤ p.length ∧ path = (if pp = [] ∧ (2 : Int) = 2 then [47] else pp) ∧ (pp = [] ∨ ∃ r, pp = 47 :: r) := by
        obtain ⟨r, hr⟩ := path_ne h3
        by_cases e47 : path = [47]
        · exact ⟨[], by rw [if_pos e47], by simp, by simp, by rw [e47]; rfl, .inl rfl⟩
        · have hpe : path = p := by
            rw [h5]
            by_cases hpn : p = []
            · exfalso; refine e47 ?_
              rw [h5, if_pos ⟨hpn, rfl⟩]
            · rw [if_neg (fun e => hpn e.1)]
          exact ⟨path, by rw [if_neg e47], by rw [hpe]; exact hk, by rw [hpe]; exact Nat.le_refl _, by rw [if_neg (fun e => by rw [hr] at e; cases e.1)], .inr ⟨r, hr⟩⟩
      obtain ⟨pp, hpp1, hpp2, hpp3, hpp4, hpp5⟩ := hpp
      have hu : txV 2 host path query has = HT ++ (host ++ (pp ++ (if has = true then 63 :: query else []))) := by
        unfold txV
        rw [if_neg (by decide), if_pos rfl, ← hpp1]; simp
      have hul : (txV 2 host path query has).length ≤ s.length := by
        rw [hu]
        have : HT.length = 7 := rfl
        simp only [List.length_append]
        omega
      refine ⟨?_, hul, thost, tpath, tq⟩
      rw [hu] at hul ⊢
      unfold parP
      have tl0 : hp (pp ++ (if has = true then 63 :: query else [])) = 0 := by
        rcases hpp5 with e | ⟨r, e⟩
        · rw [e]
          cases has with
          | true => rw [if_pos rfl]; show hp (63 :: query) = 0; rw [hp, if_neg (by decide)]
          | false => rfl
        · rw [e]; show hp (47 :: _) = 0; rw [hp, if_neg (by decide)]
      have hph := hp_app (fun c hc => (hhost c hc).1) tl0
      have e1 : HT ++ (host ++ (pp ++ (if has = true then 63 :: query else []))) ≠ [42] := fun e => by simp [HT] at e
      have e2 : (HT ++ (host ++ (pp ++ (if has = true then 63 :: query else [])))).take 1 ≠ [47] := fun e => by simp [HT] at e
      have e3 : (HT ++ (host ++ (pp ++ (if has = true then 63 :: query else [])))).take 7 = HT := rfl
      have e4 : (HT ++ (host ++ (pp ++ (if has = true then 63 :: query else [])))).drop 7 = host ++ (pp ++ (if has = true then 63 :: query else [])) := rfl
      rw [if_neg (by omega), if_neg e1, if_neg e2, e3, if_pos ⟨by simp [HT], by decide⟩, e4]
      unfold absP
      rw [hph, if_pos (by omega), List.take_left' rfl, List.drop_left' rfl, List.map_congr_left (g := id) (fun c hc => (hhost c hc).2), List.map_id]
      unfold behP
      rw [cut_app hpp2 hb]
      dsimp only
      rw [← hpp4, if_pos ⟨h3, h4⟩]
    · unfold errT at h; simp only [Prod.mk.injEq] at h; exact absurd h.2.2.2.2.2 (by decide)
  · unfold errT at h; simp only [Prod.mk.injEq] at h; exact absurd h.2.2.2.2.2 (by decide)
theorem par_bad {s : List Int} (h : (parP s).2.2.2.2.2 ≠ 0) : ∃ e, parP s = errT e := by
  have hb : ∀ f h r, (behP f h r).2.2.2.2.2 ≠ 0 → ∃ e, behP f h r = errT e := fun f h r e => by
    unfold behP at e ⊢
    by_cases hc : pathP (if (cutV r 63).1 = [] ∧ f = 2 then [47] else (cutV r 63).1) = true ∧ queryP (cutV r 63).2.1 = true
    · rw [if_pos hc] at e; exact absurd rfl e
    · rw [if_neg hc]; exact ⟨23, rfl⟩
  revert h
  unfold parP absP
  repeat' split
  all_goals first | (intro _; exact ⟨_, rfl⟩) | (intro e; exact hb _ _ _ e) | (intro e; exact absurd rfl e)
theorem targetBack_f {s : List Int} (h : TX s) (hs : s.length ≤ 2000000) : targetBack FU s = some true := by
  refine Gives.eq ?_
  have hel := enc_len s
  have hTe : TX (encP s) := ⟨enc_BL h.1, by omega⟩
  have hin := enc_in h.1
  unfold targetBack
  refine Gives.bind_eq (encode_v FU h (by decide)) ?_
  refine Gives.bind_eq (decode_v FU hTe (by decide)) ?_
  rw [dec_enc s h.1]
  dsimp only
  refine Gives.loop (I := fun z => z.1 = s ∧ z.2.1 = encP s ∧ z.2.2.1 = s ∧ z.2.2.2.1 = 0 ∧ ∃ i : Nat, z.2.2.2.2 = (i : Int) ∧ i ≤ (encP s).length) (μ := fun z => (encP s).length - z.2.2.2.2.toNat) ?_ FU _ ⟨rfl, rfl, rfl, rfl, 0, rfl, by omega⟩ (by simp [FU]; omega)
  rintro rec ⟨a6, a7, a8, a9, a10⟩ ⟨e1, e2, e3, e4, i, e5, e6⟩ hrec
  dsimp only at e1 e2 e3 e4 e5 hrec ⊢
  subst e1 e2 e4 e5
  subst e3
  refine Gives.dite (fun hlt => ?_) (fun hge => ?_)
  · have hi : i < (encP a8).length := by omega
    rw [wr1 hi (by omega)]
    have nx : Gives (rec (a8, (encP a8, (a8, ((0 : Int), ((i + 1 : Nat) : Int)))))) (· = true) := hrec _ ⟨rfl, rfl, rfl, rfl, i + 1, rfl, by omega⟩ (by dsimp only; omega)
    refine Gives.idx 0 (by omega) hlt ?_
    rw [Int.toNat_natCast]
    refine Gives.nite (fun h37 => ?_) (fun _ => nx)
    refine Gives.idx 0 (by omega) hlt ?_
    rw [Int.toNat_natCast]
    refine Gives.bind_eq (rUnreserved_v FU _ (by decide)) ?_
    rw [(hin _ (getD_mem hi)).resolve_left h37]
    exact Gives.neg (by decide) nx
  · clear hrec
    refine Gives.neg (by simp) ?_
    refine Gives.neg (by simp) ?_
    refine Gives.bind_eq (parse_v FU h (by decide)) ?_
    refine Gives.mite (fun hb => ?_) (fun h0 => ?_)
    · obtain ⟨e, he⟩ := par_bad hb
      rw [he]
      refine Gives.pos (by rfl) ?_
      exact Gives.bind_eq works_v (Gives.of_some rfl)
    · have hp : parP a8 = ((parP a8).1, (parP a8).2.1, (parP a8).2.2.1, (parP a8).2.2.2.1, (parP a8).2.2.2.2.1, 0) := by rw [← h0]
      generalize (parP a8).1 = f at hp ⊢
      generalize (parP a8).2.1 = host at hp ⊢
      generalize (parP a8).2.2.1 = path at hp ⊢
      generalize (parP a8).2.2.2.1 = query at hp ⊢
      generalize (parP a8).2.2.2.2.1 = has at hp ⊢
      obtain ⟨b1, b2, b3, b4, b5⟩ := par_back h.1 hp
      refine Gives.bind_eq (text_v FU b3 b4 b5 (by decide)) ?_
      unfold txP
      rw [if_pos b1]
      dsimp only
      refine Gives.bind_eq (parse_v FU (txV_TX b3 b4 b5) (by decide)) ?_
      rw [b1]
      refine Gives.epos rfl ?_
      refine Gives.epos rfl ?_
      refine Gives.pos (by simp) ?_
      refine Gives.dpos (by omega) ?_
      exact Gives.bind_eq works_v (Gives.of_some rfl)
end Go.Sx.YtndkpphniekmlaaDoor
