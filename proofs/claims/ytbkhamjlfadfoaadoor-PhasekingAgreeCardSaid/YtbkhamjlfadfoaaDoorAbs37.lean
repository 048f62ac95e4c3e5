/- Joined: AbsPU. -/
import Derived.Test.YtbkhamjlfadfoaaDoorAbs28
import Derived.Test.YtbkhamjlfadfoaaDoorAbs36
set_option linter.all false
set_option linter.unusedVariables false
noncomputable section
namespace Go.Abs
open Go Go.Proofs
set_option maxRecDepth 100000
set_option maxHeartbeats 4000000 in
theorem rounds26r (b g : Nat) (σ : NetS) (tb : List (Nat × Box)) (hT : TB b σ.tp tb) : AnsM 1 Tryd.prog H14 26 [.bptr b 0] ((b, ⟨g, netC σ⟩) :: tb) (.int .i64 σ.round) ((b, ⟨g, netC σ⟩) :: tb) := by
  refine AnsM.gen (fn := Tryd.f26) (by rfl) Tryd.func26 rfl (by rfl) (fun nx h c hc => ?_) fun k hk nx h => ?_
  · exact net_ptrs hT h (by simpa [ptrs] using hc)
  obtain ⟨hb, hfl⟩ := net_filt h
  simp [entryS, hb, hfl]
set_option maxHeartbeats 4000000 in
theorem scen51 (b g : Nat) (σ : NetS) (tb : List (Nat × Box)) (hT : TB b σ.tp tb) : AnsM 1 Tryd.prog H14 51 [.bptr b 0] ((b, ⟨g, netC σ⟩) :: tb) (scV σ.scn) ((b, ⟨g, netC σ⟩) :: tb) := by
  refine AnsM.gen (fn := Tryd.f51) (by rfl) Tryd.func51 rfl (by rfl) (fun nx h c hc => ?_) fun k hk nx h => ?_
  · exact net_ptrs hT h (by simpa [scV, scL, ptrs] using hc)
  obtain ⟨hb, hfl⟩ := net_filt h
  have hb2 : b ≠ nx := by omega
  have ht : ∀ e ∈ tb, e.1 < nx := fun e he => h e (List.mem_cons_of_mem _ he)
  have hgl : ∀ c, getBox (tb ++ [(nx, c)]) nx = some c := fun c => getBox_last ht
  have hsl : ∀ c c', setBox (tb ++ [(nx, c)]) nx c' = tb ++ [(nx, c')] := fun c c' => setBox_last ht
  simp [entryS, hb, hfl, scV, scL, netC, hb2, hgl, hsl]
theorem uL_get2 {vs : List Nat} {i : Nat} (h : i < vs.length) : (uL vs)[i]'(by simp [uL]; exact h) = .int .u64 (vF vs i : Int) := by
  have h1 := List.getElem?_eq_getElem (l := uL vs) (i := i) (by simp [uL]; exact h)
  rw [uL_vF h] at h1
  exact (Option.some.inj h1).symm
theorem resize1 (l : List Nat) : resizeS l 1 = [l.headD 0] := by
  cases l <;> simp [resizeS]
theorem range_snoc {α : Type} (f : Nat → α) (i : Nat) : (List.range (i + 1)).map f = (List.range i).map f ++ [f i] := by rw [List.range_succ, List.map_append]; rfl
theorem map_len {α : Type} (f : Nat → α) (i : Nat) : ((List.range i).map f).length = i := by rw [List.length_map, List.length_range]
set_option maxHeartbeats 8000000 in
theorem phase52 {N b g : Nat} {σ : NetS} {tb : List (Nat × Box)} (I : NetI N b σ tb) (pm : Bool) (A : Option Addr) (cap : Nat) (vs : List Nat) (n t kk : Nat) (hl : vs.length = n) (hn : σ.scn.n = (n : Int)) (ht : σ.scn.t = (t : Int)) (htn : t < n) (hkk : kk < n) (hvs : ∀ x ∈ vs, x < σ.scn.p) (hr : σ.round + 3 < 1000) :
    AnsM (max N 1200 + 3) Tryd.prog H14 52 [.bptr b 0, .int .i64 ((kk : Int) + 1), .im pm A cap n (uL vs)] ((b, ⟨g, netC σ⟩) :: tb) (.own .nil 0 n (uL (phaseR n t kk ⟨σ, vs⟩).vs)) ((b, ⟨g, netC (phaseR n t kk ⟨σ, vs⟩).σ⟩) :: tb) := by
  have h13 : n ≤ 13 := by have := I.h13; omega
  have hP0 : PhQ N b n t tb σ.scn σ.tp ⟨σ, vs⟩ := ⟨⟨I, rfl, rfl⟩, hl, hvs⟩
  obtain ⟨hP3, hPr⟩ := hP0.phase hn htn kk
  have F := hP0.facts hn htn kk
  obtain ⟨a, ha⟩ : ∃ a : Ph, (⟨σ, vs⟩ : Ph) = a := ⟨_, rfl⟩
  have haσ : a.σ = σ := by rw [← ha]
  have hav : a.vs = vs := by rw [← ha]
  rw [ha] at hP3 F ⊢
  refine AnsM.gen (fn := Tryd.f52) (by rfl) Tryd.func52 rfl (by rfl) (fun nx h c hc => ?_) fun k hk nx h => ?_
  · simp only [ptrs, nil_uL, List.nil_append] at hc
    exact net_ptrs (σ := (phaseR n t kk a).σ) hP3.o.I.hT (fun e he => by
      rcases List.mem_cons.1 he with rfl | he
      · exact h (b, ⟨g, netC σ⟩) List.mem_cons_self
      · exact h _ (List.mem_cons_of_mem _ he)) hc
  obtain ⟨hb, hfl⟩ := net_filt h
  have c51 := fun s dst => netCall0 (s := s) (dst := dst) (g := g) I.hT I.hl rfl (scen51 b g σ tb I.hT) (k := k) (by omega) (by simp [ptrsL, ptrs]) rfl h
  obtain ⟨M, hM⟩ : ∃ M, (b, (⟨g, netC σ⟩ : Box)) :: tb = M := ⟨_, rfl⟩
  rw [hM] at c51 ⊢
  have b1 : (n : Int) ≤ 140737488355328 := by omega
  have b2 : (n : Int) * 24 ≤ 140737488355328 := by omega
  have b5 : n ≤ 140737488355328 := by omega
  have hz : ¬ (n = 0 ∧ 0 < n) := by omega
  have hn0 : ¬ n = 0 := by omega
  simp only [scV, scL, hn, ht] at c51
  have hMl : ∀ e ∈ M, e.1 ≠ nx := by
    rw [← hM]; intro e he
    have := h e he
    omega
  have hg1 : ∀ c, getBox (M ++ [(nx, c)]) nx = some c := fun c => by rw [getBox_skip hMl]; simp [getBox]
  have hs1 : ∀ c c', setBox (M ++ [(nx, c)]) nx c' = M ++ [(nx, c')] := fun c c' => by rw [setBox_skip hMl]; simp [setBox]
  have hlA : (one1 a.vs).length = n := by rw [one1_length, hav, hl]
  have c68 := callP (each68 false A cap vs (by omega)) (k := k) (by omega) (by simp [ptrsL, ptrs, nil_uL]) rfl
  have hav1 : one1 vs = one1 a.vs := by rw [hav]
  rw [hl, hav1] at c68
  have c67 := fun L hL bb => alike_call (L := L) (n := n) (k := k) hL h13 (by omega) bb
  obtain ⟨bx, hbx⟩ : ∃ bx : Box, (⟨0, [V.int .u64 (σ.scn.p : Int), V.int .i64 (n : Int), V.int .i64 (t : Int)]⟩ : Box) = bx := ⟨_, rfl⟩
  have hbc : bx.cs = [V.int .u64 (σ.scn.p : Int), V.int .i64 (n : Int), V.int .i64 (t : Int)] := by rw [← hbx]
  have hnet : ∀ τ : NetS, ∀ e ∈ (b, (⟨g, netC τ⟩ : Box)) :: tb, e.1 < nx := fun τ e he => by
    rcases List.mem_cons.1 he with rfl | he
    · exact hb
    · exact h _ (List.mem_cons_of_mem _ he)
  have hget : ∀ (τ : NetS), getBox ([(nx, bx)] ++ ((b, (⟨g, netC τ⟩ : Box)) :: tb)) nx = some bx := fun τ => by simp [getBox]
  have hfil : ∀ (τ : NetS), ([(nx, bx)] ++ ((b, (⟨g, netC τ⟩ : Box)) :: tb)).filter (fun e => decide (e.1 < nx)) = (b, ⟨g, netC τ⟩) :: tb := fun τ => by
    rw [List.filter_append, filt_lt (hnet τ)]; simp
  have c59a : ∀ (bb : Bool) (s : Nat → V) (dst : Option Nat), _ := fun bb s dst => call59 (g := g) (k := k) (nx := nx) (bx := bx) (O1 := []) (O2 := [(nx, bx)]) (L := one1 a.vs) I (by omega) hn hlA F.L1 rfl (hnet σ) (by omega) bb s dst
  simp only [List.nil_append] at c59a
  rw [hM] at c59a
  have eA : saidE σ n (one1 a.vs) = rfA n a := by rw [← haσ]; rfl
  have e1 : rsent σ n (one1 a.vs) = rf1 n a := by rw [← haσ]; rfl
  rw [eA, e1] at c59a
  obtain ⟨M1, hM1⟩ : ∃ M1, [(nx, bx)] ++ ((b, (⟨g, netC (rf1 n a)⟩ : Box)) :: tb) = M1 := ⟨_, rfl⟩
  have gb1 := hget (rf1 n a)
  rw [hM1] at c59a gb1
  have c67a := c67 (one1 a.vs) hlA
  simp only [inV] at c59a
  rw [← hbx] at c59a
  simp [-reach, -doCall, doCall_eq, entryS, c51, hg1, hs1, c68, c67a, c59a]
  have hmt : IntKind.i64.wrap ((n : Int) - (t : Int)) = ((n - t : Nat) : Int) := by
    rw [show (n : Int) - (t : Int) = ((n - t : Nat) : Int) by omega]
    exact wrap_nat (by omega) (by omega)
  have hw33 : IntKind.i64.wrap ((t : Int) + 1) = ((t + 1 : Nat) : Int) := wrap_succ (q := t) (by omega)
  have hwk : IntKind.i64.wrap (kk : Int) = (kk : Int) := wrapi (by omega) (by omega)
  obtain ⟨Bs, hBs⟩ : ∃ Bs : St → Prop, Bs = fun D => D.s 0 = .bptr b 0 ∧ D.s 1 = .int .i64 ((kk : Int) + 1) ∧ D.s 2 = .im pm A cap n (uL vs) ∧ D.s 7 = .bptr nx 0 ∧ D.m = M1 ∧ D.nx = nx + 1 := ⟨_, rfl⟩
  obtain ⟨J, hJ⟩ : ∃ J : Nat → St → Prop, J = fun q D => ∃ (i : Nat) (L RS : List V), q = n - i ∧ i ≤ n ∧ L = ((List.range i).map (prop1 n t (hS (rfA n a)))).map ownR ∧ RS.length = n ∧ (∀ w, i ≤ w → w < n → RS[w]? = some (.own .nil 0 n ((colS (rfA n a) w n).map cpV))) ∧ Bs D ∧ D.s 8 = .own .nil 0 n RS ∧ D.s 9 = .own .nil 0 i L ∧ D.s 10 = .int .i64 (i : Int) := ⟨_, rfl⟩
  refine EvP.loop J (n := n) (by rw [hJ]; exact ⟨0, [], rowsC (outL (rfA n a) n n), by simp, by simp, rfl, by simp, fun w _ hw => by rw [rowsC_get (outL_get _ _ _ _ hw), if_pos hw, colS_length], by simp [hBs], by simp, by simp, by simp⟩) (by omega) fun q D hD => ?_
  rw [hJ] at hD
  obtain ⟨i, L, RS, rfl, hi, hL, hRl, hR, hB, d8, d9, d10⟩ := hD
  rw [hBs] at hB
  obtain ⟨d0, d1, d2, d7, dm, dx⟩ := hB
  have hLl : L.length = i := by rw [hL, List.length_map, map_len]
  by_cases hil : i < n
  · have e4 := wrap_succ (q := i) (by omega)
    have hiR : i < RS.length := by omega
    have hRi := hR i (Nat.le_refl i) hil
    have hRe : RS[i] = .own .nil 0 n ((colS (rfA n a) i n).map cpV) := by
      have := List.getElem?_eq_getElem hiR
      rw [hRi] at this
      exact (Option.some.inj this).symm
    have p69 : ∀ bb, ptrsL (frzL false (frzL bb ((colS (rfA n a) i n).map cpV))) = [] := fun bb => by rw [frz_cpV]; exact ptrsL_rsV _
    have c69 := fun bb D dst => least_call (S := rfA n a) (w := i) (m := n - t) (k := k) h13 (by omega) (by omega) bb D dst
    have f1 : (i + 1) * 24 ≤ 140737488355328 := by omega
    have f2 : i ≤ 140737488355327 := by omega
    have hnext : ((List.range (i + 1)).map (prop1 n t (hS (rfA n a)))).map ownR = L ++ [ownR (prop1 n t (hS (rfA n a)) i)] := by rw [range_snoc, List.map_append, ← hL]; rfl
    have hp1 : prop1 n t (hS (rfA n a)) i = match leastS n (hS (rfA n a) i) (n - t) with | some x => [x] | none => [] := rfl
    cases hls : leastS n (hS (rfA n a) i) (n - t) with
    | none =>
      rw [hls] at c69 hp1
      simp only [Option.getD_none, Option.isSome_none] at c69
      have hp1 : prop1 n t (hS (rfA n a)) i = [] := hp1
      simp [-reach, -doCall, doCall_eq, d0, d1, d2, d7, d8, d9, d10, dm, dx, gb1, hbc, hil, hRi, hRe, hiR, hRl, hmt, p69, c69, e4, hLl, f1, f2]
      subst hJ
      exact ⟨n - (i + 1), by omega, i + 1, _, RS.set i (V.im (noBorL ((colS (rfA n a) i n).map cpV)) none 0 n (frzL (noBorL ((colS (rfA n a) i n).map cpV)) ((colS (rfA n a) i n).map cpV))), rfl, by omega, hnext.symm, by simp [hRl], fun w hw hwn => by rw [List.getElem?_set_ne (by omega)]; exact hR w (by omega) hwn, by simp [hBs, d0, d1, d2, d7, dm], by simp, by simp [hp1, ownR]; rfl, by simp⟩
    | some x =>
      rw [hls] at c69 hp1
      simp only [Option.getD_some, Option.isSome_some] at c69
      have hp1 : prop1 n t (hS (rfA n a)) i = [x] := hp1
      simp [-reach, -doCall, doCall_eq, d0, d1, d2, d7, d8, d9, d10, dm, dx, gb1, hbc, hil, hRi, hRe, hiR, hRl, hmt, p69, c69, e4, hLl, f1, f2]
      subst hJ
      exact ⟨n - (i + 1), by omega, i + 1, _, RS.set i (V.im (noBorL ((colS (rfA n a) i n).map cpV)) none 0 n (frzL (noBorL ((colS (rfA n a) i n).map cpV)) ((colS (rfA n a) i n).map cpV))), rfl, by omega, hnext.symm, by simp [hRl], fun w hw hwn => by rw [List.getElem?_set_ne (by omega)]; exact hR w (by omega) hwn, by simp [hBs, d0, d1, d2, d7, dm], by simp, by simp [hp1, ownR, uL], by simp⟩
  · have hin : i = n := by omega
    rw [hin] at hL
    have hL2 : L = (prL n t (rfA n a)).map ownR := hL
    rw [hin] at d9 d10
    rw [hL2] at d9
    have c67b := c67 (prL n t (rfA n a)) (by simp)
    have c59b := fun (bb : Bool) (s : Nat → V) (dst : Option Nat) => call59 (g := g) (k := k) (nx := nx) (bx := bx) (O1 := [(nx, bx)]) (O2 := []) (L := prL n t (rfA n a)) F.o1.I (by rw [F.r1, haσ]; omega) (by rw [F.o1.s, hn]) (by simp) (by rw [F.o1.s]; exact F.L2) rfl (hnet (rf1 n a)) (by omega) bb s dst
    have e2 : saidE (rf1 n a) n (prL n t (rfA n a)) = rfB n t a := rfl
    have e3 : rsent (rf1 n a) n (prL n t (rfA n a)) = rf2 n t a := rfl
    simp only [e2, e3, List.append_nil, inV] at c59b
    obtain ⟨M2, hM2⟩ : ∃ M2, [(nx, bx)] ++ ((b, (⟨g, netC (rf2 n t a)⟩ : Box)) :: tb) = M2 := ⟨_, rfl⟩
    have gb2 := hget (rf2 n t a)
    rw [hM1, hM2] at c59b
    rw [hM2] at gb2
    simp [-reach, -doCall, doCall_eq, d0, d1, d2, d7, d8, d9, d10, dm, dx, gb1, hbc, c67b, c59b]
    obtain ⟨Bs2, hBs2⟩ : ∃ Bs : St → Prop, Bs = fun D => D.s 0 = .bptr b 0 ∧ D.s 1 = .int .i64 ((kk : Int) + 1) ∧ D.s 2 = .im pm A cap n (uL vs) ∧ D.s 7 = .bptr nx 0 ∧ D.m = M2 ∧ D.nx = nx + 1 := ⟨_, rfl⟩
    obtain ⟨J2, hJ2⟩ : ∃ J : Nat → St → Prop, J = fun q D => ∃ (i : Nat) (NL : List Nat) (LK : List Bool) (RS : List V), q = n - i ∧ i ≤ n ∧ NL = (List.range i).map (val2 n t (vF a.vs) (hS (rfB n t a))) ∧ LK = (List.range i).map (rfL n t a) ∧ RS.length = n ∧ (∀ w, i ≤ w → w < n → RS[w]? = some (.own .nil 0 n ((colS (rfB n t a) w n).map cpV))) ∧ Bs2 D ∧ D.s 8 = .own .nil 0 n RS ∧ D.s 13 = .own .nil 0 i (uL NL) ∧ D.s 14 = .own .nil 0 i (LK.map .bool) ∧ D.s 15 = .int .i64 (i : Int) := ⟨_, rfl⟩
    have unl : uL [] = [] := rfl
    refine EvP.loop J2 (n := n) (by rw [hJ2]; exact ⟨0, [], [], rowsC (outL (rfB n t a) n n), by simp, by simp, rfl, rfl, by simp, fun w _ hw => by rw [rowsC_get (outL_get _ _ _ _ hw), if_pos hw, colS_length], by simp [hBs2, d0, d1, d2, d7], by simp, by simp [unl], by simp, by simp⟩) (by omega) fun q D hD => ?_
    rw [hJ2] at hD
    obtain ⟨i, NL, LK, RS, rfl, hi, hNL, hLK, hRl, hR, hB, d8, d13, d14, d15⟩ := hD
    rw [hBs2] at hB
    obtain ⟨d0, d1, d2, d7, dm, dx⟩ := hB
    have hNl : NL.length = i := by rw [hNL, map_len]
    have hKl : LK.length = i := by rw [hLK, map_len]
    by_cases hil : i < n
    · have e4 := wrap_succ (q := i) (by omega)
      have hiR : i < RS.length := by omega
      have hRi := hR i (Nat.le_refl i) hil
      have hRe : RS[i] = .own .nil 0 n ((colS (rfB n t a) i n).map cpV) := by
        have := List.getElem?_eq_getElem hiR
        rw [hRi] at this
        exact (Option.some.inj this).symm
      have p69 : ∀ bb, ptrsL (frzL false (frzL bb ((colS (rfB n t a) i n).map cpV))) = [] := fun bb => by rw [frz_cpV]; exact ptrsL_rsV _
      have c69 := fun bb D dst => least_call (S := rfB n t a) (w := i) (m := t + 1) (k := k) h13 (by omega) (by omega) bb D dst
      have c70 := fun x bb D dst => votes_call (S := rfB n t a) (w := i) (x := x) (k := k) h13 (by omega) bb D dst
      have f1 : (i + 1) * 8 ≤ 140737488355328 := by omega
      have f3 : i + 1 ≤ 140737488355328 := by omega
      have f2 : i ≤ 140737488355327 := by omega
      have hv2 : val2 n t (vF a.vs) (hS (rfB n t a)) i = match leastS n (hS (rfB n t a) i) (t + 1) with | some x => x | none => vF a.vs i := rfl
      have hlk : rfL n t a i = ((leastS n (hS (rfB n t a) i) (t + 1)).isSome && decide (n - t ≤ votes n (hS (rfB n t a) i) (val2 n t (vF a.vs) (hS (rfB n t a)) i))) := rfl
      have hnN : (List.range (i + 1)).map (val2 n t (vF a.vs) (hS (rfB n t a))) = NL ++ [val2 n t (vF a.vs) (hS (rfB n t a)) i] := by rw [range_snoc, hNL]
      have hnK : (List.range (i + 1)).map (rfL n t a) = LK ++ [rfL n t a i] := by rw [range_snoc, hLK]
      have hiv : i < vs.length := by omega
      have huv := uL_get2 hiv
      simp only [Int.natCast_succ] at c69
      cases hls : leastS n (hS (rfB n t a) i) (t + 1) with
      | none =>
        rw [hls] at c69 hv2 hlk
        simp only [Option.getD_none, Option.isSome_none] at c69
        have hv2 : val2 n t (vF a.vs) (hS (rfB n t a)) i = vF a.vs i := hv2
        have hlk : rfL n t a i = false := hlk
        replace hv2 : val2 n t (vF a.vs) (hS (rfB n t a)) i = vF vs i := hv2.trans (by rw [hav])
        simp [-reach, -doCall, doCall_eq, d0, d1, d2, d7, d8, d13, d14, d15, dm, dx, gb2, hbc, hil, hRi, hRe, hiR, hRl, hw33, p69, c69, e4, hNl, hKl, f1, f2, f3, huv, hl]
        subst hJ2
        exact ⟨n - (i + 1), by omega, i + 1, _, _, RS.set i (V.im (noBorL ((colS (rfB n t a) i n).map cpV)) none 0 n (frzL (noBorL ((colS (rfB n t a) i n).map cpV)) ((colS (rfB n t a) i n).map cpV))), rfl, by omega, hnN.symm, hnK.symm, by simp [hRl], fun w hw hwn => by rw [List.getElem?_set_ne (by omega)]; exact hR w (by omega) hwn, by simp [hBs2, d0, d1, d2, d7, dm], by simp, by simp [hv2, uL], by simp [hlk], by simp⟩
      | some x =>
        rw [hls] at c69 hv2 hlk
        simp only [Option.getD_some, Option.isSome_some] at c69
        have hv2 : val2 n t (vF a.vs) (hS (rfB n t a)) i = x := hv2
        rw [hv2] at hlk
        have c70 := c70 x
        have hge : decide (n - t ≤ votes n (hS (rfB n t a) i) x) = decide (((n - t : Nat) : Int) ≤ ((votes n (hS (rfB n t a) i) x : Nat) : Int)) := by simp
        have hlk : rfL n t a i = decide (n - t ≤ votes n (hS (rfB n t a) i) x) := hlk
        simp [-reach, -doCall, doCall_eq, d0, d1, d2, d7, d8, d13, d14, d15, dm, dx, gb2, hbc, hil, hRi, hRe, hiR, hRl, hw33, hmt, p69, c69, c70, e4, hNl, hKl, f1, f2, f3]
        subst hJ2
        exact ⟨n - (i + 1), by omega, i + 1, _, _, RS.set i (V.im (noBorL ((colS (rfB n t a) i n).map cpV)) none 0 n (frzL (noBorL ((colS (rfB n t a) i n).map cpV)) ((colS (rfB n t a) i n).map cpV))), rfl, by omega, hnN.symm, hnK.symm, by simp [hRl], fun w hw hwn => by rw [List.getElem?_set_ne (by omega)]; exact hR w (by omega) hwn, by simp [hBs2, d0, d1, d2, d7, dm], by simp, by simp [hv2, uL], by simp [hlk], by simp⟩
    · have hin : i = n := by omega
      rw [hin] at hNL hLK d13 d14 d15
      have hNL2 : NL = rfV n t a := hNL
      have hNn : NL.length = n := by rw [hNL, map_len]
      have hkN : kk < NL.length := by omega
      have hkU : kk < (uL NL).length := by simp [uL]; omega
      have hVk : (uL NL)[kk]? = some (.int .u64 (vF NL kk : Int)) := uL_vF hkN
      have hVe := uL_get2 hkN
      obtain ⟨x, hx⟩ : ∃ x, vF NL kk = x := ⟨_, rfl⟩
      have hx2 : vF (rfV n t a) kk = x := by rw [← hNL2]; exact hx
      rw [hx] at hVk hVe
      have L3 := F.L3
      rw [hx2] at L3
      have hki : (List.replicate n (V.own .nil 0 0 [])).set kk (.own .nil 0 1 [.int .u64 (x : Int)]) = (kiL n kk x).map ownR := ki_set hkk x
      have c67c := c67 (kiL n kk x) (by simp)
      have c59c := fun (bb : Bool) (s : Nat → V) (dst : Option Nat) => call59 (g := g) (k := k) (nx := nx) (bx := bx) (O1 := [(nx, bx)]) (O2 := []) (L := kiL n kk x) F.o2.I (by rw [F.r2, haσ]; omega) (by rw [F.o2.s, hn]) (by simp) (by rw [F.o2.s]; exact L3) rfl (hnet (rf2 n t a)) (by omega) bb s dst
      have e4 : saidE (rf2 n t a) n (kiL n kk x) = rfC n t kk a := by rw [← hx2]; rfl
      have e5 : rsent (rf2 n t a) n (kiL n kk x) = rf3 n t kk a := by rw [← hx2]; rfl
      simp only [e4, e5, List.append_nil, inV] at c59c
      obtain ⟨M3, hM3⟩ : ∃ M3, [(nx, bx)] ++ ((b, (⟨g, netC (rf3 n t kk a)⟩ : Box)) :: tb) = M3 := ⟨_, rfl⟩
      have gb3 := hget (rf3 n t kk a)
      have gf3 := hfil (rf3 n t kk a)
      rw [hM2, hM3] at c59c
      rw [hM3] at gb3 gf3
      have hnNat : (n : Int) = ((n : Nat) : Int) := rfl
      simp [-reach, -doCall, doCall_eq, d0, d1, d2, d7, d8, d13, d14, d15, dm, dx, gb2, hbc, hz, b1, b2, b5, rep_rep, hwk, hkN, hkU, hVk, hVe, hNn, hkk, hki, c67c, c59c]
      obtain ⟨Bs3, hBs3⟩ : ∃ Bs : St → Prop, Bs = fun D => D.s 0 = .bptr b 0 ∧ D.s 1 = .int .i64 ((kk : Int) + 1) ∧ D.s 7 = .bptr nx 0 ∧ D.s 13 = .own .nil 0 n (uL NL) ∧ D.s 14 = .own .nil 0 n (LK.map .bool) ∧ D.m = M3 ∧ D.nx = nx + 1 := ⟨_, rfl⟩
      obtain ⟨J3, hJ3⟩ : ∃ J : Nat → St → Prop, J = fun q D => ∃ (i : Nat) (OL : List Nat) (RS : List V), q = n - i ∧ i ≤ n ∧ OL = (List.range i).map (rfO n t kk a) ∧ RS.length = n ∧ (∀ w, i ≤ w → w < n → RS[w]? = some (.own .nil 0 n ((colS (rfC n t kk a) w n).map cpV))) ∧ Bs3 D ∧ D.s 8 = .own .nil 0 n RS ∧ D.s 19 = .own .nil 0 i (uL OL) ∧ D.s 20 = .int .i64 (i : Int) := ⟨_, rfl⟩
      refine EvP.loop J3 (n := n) (by rw [hJ3]; exact ⟨0, [], rowsC (outL (rfC n t kk a) n n), by simp, by simp, rfl, by simp, fun w _ hw => by rw [rowsC_get (outL_get _ _ _ _ hw), if_pos hw, colS_length], by simp [hBs3, d0, d1, d7, d13, d14], by simp, by simp [unl], by simp⟩) (by omega) fun q D hD => ?_
      rw [hJ3] at hD
      obtain ⟨i, OL, RS, rfl, hi, hOL, hRl, hR, hB, d8, d19, d20⟩ := hD
      rw [hBs3] at hB
      obtain ⟨d0, d1, d7, d13, d14, dm, dx⟩ := hB
      have hOl : OL.length = i := by rw [hOL, map_len]
      by_cases hil : i < n
      · have e6 := wrap_succ (q := i) (by omega)
        have f1 : (i + 1) * 8 ≤ 140737488355328 := by omega
        have f2 : i ≤ 140737488355327 := by omega
        have hnO : (List.range (i + 1)).map (rfO n t kk a) = OL ++ [rfO n t kk a i] := by rw [range_snoc, hOL]
        have hiN : i < NL.length := by omega
        have hiU : i < (uL NL).length := by simp [uL]; omega
        have hNi : (uL NL)[i]? = some (.int .u64 (vF NL i : Int)) := uL_vF hiN
        have hNe := uL_get2 hiN
        have hNv : vF NL i = val2 n t (vF a.vs) (hS (rfB n t a)) i := by rw [hNL]; exact vF_map _ hil
        rw [hNv] at hNi hNe
        obtain ⟨BS, hBS⟩ : ∃ BS, LK.map V.bool = BS := ⟨_, rfl⟩
        rw [hBS] at d14
        have hKn : LK.length = n := by rw [hLK, map_len]
        have hBl : BS.length = n := by rw [← hBS, List.length_map, hKn]
        have hiB : i < BS.length := by omega
        have hBi : BS[i]? = some (.bool (rfL n t a i)) := by
          rw [← hBS, hLK, List.getElem?_map, List.getElem?_map, List.getElem?_range hil]; rfl
        have hBe : BS[i] = .bool (rfL n t a i) := by
          have := List.getElem?_eq_getElem hiB
          rw [hBi] at this
          exact (Option.some.inj this).symm
        have hiR : i < RS.length := by omega
        obtain ⟨rc, hrc⟩ : ∃ rc, (colS (rfC n t kk a) i n).map cpV = rc := ⟨_, rfl⟩
        have hRi : RS[i]? = some (.own .nil 0 n rc) := by rw [hR i (Nat.le_refl i) hil, hrc]
        have hRe : RS[i] = .own .nil 0 n rc := by
          have := List.getElem?_eq_getElem hiR
          rw [hRi] at this
          exact (Option.some.inj this).symm
        have hrl : rc.length = n := by rw [← hrc, List.length_map, colS_length]
        have hjr : kk < rc.length := by omega
        obtain ⟨l, hle⟩ : ∃ l, hS (rfC n t kk a) i kk = l := ⟨_, rfl⟩
        have hrj : rc[kk]? = some (cpV l) := by
          rw [← hrc, List.getElem?_map]; unfold colS; rw [List.getElem?_map, List.getElem?_range hkk, ← hle]; rfl
        have hre : rc[kk] = cpV l := by
          have := List.getElem?_eq_getElem hjr
          rw [hrj] at this
          exact (Option.some.inj this).symm
        have hou : rfO n t kk a i = if rfL n t a i = true then val2 n t (vF a.vs) (hS (rfB n t a)) i else l.headD 0 := by
          unfold rfO; rw [hle]
        have c37 := callP (resize25 false none 0 l 1 (by omega)) (k := k) (by omega) (by simp [ptrsL, ptrs, nil_uL]) rfl
        rw [resize1] at c37
        have i1 : ((1 : Nat) : Int) = 1 := rfl
        rw [i1] at c37
        cases hlk : rfL n t a i with
        | true =>
          rw [hlk, if_pos rfl] at hou
          rw [hlk] at hBi hBe
          simp [-reach, -doCall, doCall_eq, d0, d1, d7, d8, d13, d14, d19, d20, dm, dx, gb3, hbc, hil, hiB, hBl, hBi, hBe, hiN, hiU, hNn, hNi, hNe, hOl, f1, f2, e6]
          subst hJ3
          exact ⟨n - (i + 1), by omega, i + 1, _, RS, rfl, by omega, hnO.symm, hRl, fun w hw hwn => hR w (by omega) hwn, by simp [hBs3, d0, d1, d7, d13, d14, dm, hBS], by simp [d8], by simp [hou, uL], by simp⟩
        | false =>
          rw [hlk, if_neg (by simp)] at hou
          rw [hlk] at hBi hBe
          rcases l with _ | ⟨y, l⟩
          · simp only [cpV_nil] at hrj hre
            have hou : rfO n t kk a i = 0 := hou
            have z0 : uL [] = [] := rfl
            simp only [List.headD_nil, z0, List.length_nil] at c37
            have z1 : uL [0] = [.int .u64 0] := rfl
            rw [z1] at c37
            simp [-reach, -doCall, doCall_eq, d0, d1, d7, d8, d13, d14, d19, d20, dm, dx, gb3, hbc, hil, hiB, hBl, hBi, hBe, hwk, hRi, hRe, hiR, hRl, hrj, hre, hjr, hrl, hkk, c37, hOl, f1, f2, e6]
            subst hJ3
            exact ⟨n - (i + 1), by omega, i + 1, _, RS.set i (.own .nil 0 n (rc.set kk (.im true none 0 0 []))), rfl, by omega, hnO.symm, by simp [hRl], fun w hw hwn => by rw [List.getElem?_set_ne (by omega)]; exact hR w (by omega) hwn, by simp [hBs3, d0, d1, d7, d13, d14, dm, hBS], by simp, by simp [hou, uL], by simp⟩
          · simp only [cpV_cons] at hrj hre
            have hou : rfO n t kk a i = y := hou
            have z1 : uL [y] = [.int .u64 (y : Int)] := rfl
            simp only [List.headD_cons, z1, uL_cons, List.length_cons] at c37
            simp [-reach, -doCall, doCall_eq, d0, d1, d7, d8, d13, d14, d19, d20, dm, dx, gb3, hbc, hil, hiB, hBl, hBi, hBe, hwk, hRi, hRe, hiR, hRl, hrj, hre, hjr, hrl, hkk, c37, hOl, f1, f2, e6]
            subst hJ3
            exact ⟨n - (i + 1), by omega, i + 1, _, RS, rfl, by omega, hnO.symm, hRl, fun w hw hwn => hR w (by omega) hwn, by simp [hBs3, d0, d1, d7, d13, d14, dm, hBS], by simp [d8], by simp [hou, uL], by simp⟩
      · have hin : i = n := by omega
        rw [hin] at hOL d19 d20
        have hO2 : OL = (phaseR n t kk a).vs := hOL
        simp [-reach, -doCall, doCall_eq, d0, d1, d7, d8, d13, d14, d19, d20, dm, dx, gb3, hbc]
        exact ⟨by rw [hO2], gf3⟩
end Go.Abs
end
