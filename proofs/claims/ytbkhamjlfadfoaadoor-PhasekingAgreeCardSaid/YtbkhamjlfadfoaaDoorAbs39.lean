/- Joined: AbsPY10. -/
import Derived.Test.YtbkhamjlfadfoaaDoorAbs28
import Derived.Test.YtbkhamjlfadfoaaDoorAbs38
set_option linter.all false
set_option linter.unusedVariables false
noncomputable section
namespace Go.Abs
open Go Go.Proofs
set_option maxRecDepth 100000
open Classical in
set_option maxHeartbeats 8000000 in
theorem law10 (z : Ask) (hB : ScnB z.s) (hpm : z.pm = true) : ∃ N, AnsN N Tryd.prog H14 10 [askV z] (.bool true) := by
  obtain ⟨N17, hN17⟩ := awake17
  obtain ⟨n, t, N, ho⟩ : ∃ n t N, MayS z → AskOk z n t N := by
    by_cases hm : MayS z
    · obtain ⟨n, t, N, h⟩ := askOk_ex hB hm
      exact ⟨n, t, N, fun _ => h⟩
    · exact ⟨0, 0, 0, fun h => absurd h hm⟩
  refine ⟨max (max N17 (max (max N 1200 + 4) 100300)) (max (max (N) 100 + 3) 1111 + 1) + 1, AnsN.of (fn := Tryd.f10) (t := 2) (by rfl) Tryd.func10 rfl rfl (by rfl) (by rfl) fun k hk nx => ?_⟩
  have c17 := callP (k := k) hN17 (by omega) (by simp [ptrsL]) rfl
  have c16 := callP (k := k) (may16 (lentA z)) (by omega) (by simp [askV, askL, scL, ptrsL, ptrs, lentA, lentS, nil_uL]) rfl
  simp only [askV, askL, scL, lentA, lentS, List.length_map, List.cons_append, List.nil_append] at c16
  by_cases hm : MayS z
  case neg =>
    have e1 : decide (MayS (lentA z)) = false := by simp [MayS.lent, hm]
    simp only [lentA, lentS] at e1
    rw [e1] at c16
    simp [-reach, -doCall, doCall_eq, entryS, askV, askL, scL, c16, c17]
  have e1 : decide (MayS (lentA z)) = true := by simp [MayS.lent, hm]
  simp only [lentA, lentS] at e1
  rw [e1] at c16
  have o := ho hm
  have t1 := hB.T.c
  have t2 := hB.T.d
  have t3 := hB.T.t
  have hn := o.hn
  have ht := o.ht
  have vl := o.l
  have h13 := o.h13
  have h3 := o.h3
  have nb := noBorL_rs hB.T.r
  have c18 := fun A cap vs hl hv st m nx dst => o.call (k := k) (by omega) false A cap vs hl hv st m nx dst
  have c20 := fun v => callP (honest19 (lentS z.s) o.c v) (k := k) (by omega) (by simp [scV, scL, ptrsL, ptrs, lentS]) rfl
  have hcc : (lentS z.s).corrupt = z.s.corrupt := rfl
  simp only [hcc] at c20
  simp only [scV, scL, t1, t2, t3, hn, ht, lentS, List.length_map, vl] at c18 c20 c16
  obtain ⟨Z0, hZ0⟩ : ∃ Z0 : List V, [.int .u64 (z.s.p : Int), .int .i64 (n : Int), .int .i64 (t : Int), .im true z.s.cA z.s.ccap z.s.corrupt.length (iL z.s.corrupt), .im true z.s.dA z.s.dcap z.s.devs.length (devsV z.s.devs), .im true z.s.tA z.s.tcap z.s.tapes.length (rsV z.s.tapes), .im true z.A z.cap n (uL z.ws)] = Z0 := ⟨_, rfl⟩
  have hZ1 : askL z = Z0 := by rw [← hZ0]; simp [askL, scL, t1, t2, t3, hn, ht, vl, hpm]
  have hP := o.ph (t := t) (nx + 1) o.l o.w
  obtain ⟨hP1, hPr⟩ := hP.phases o.hn (by omega) (t + 1)
  obtain ⟨x, hx⟩ : ∃ x, nx + 1 + (3 + z.s.tapes.length) = x := ⟨_, rfl⟩
  have hnl : (z.s.tapes.length : Int) = z.s.n := o.s.2.1
  have hlt0 : (lentS z.s).tapes.length = z.s.tapes.length := by show (z.s.tapes.map lent).length = _; rw [List.length_map]
  have IR := nwR_I o.s o.hN x
  have hQ : PhQ N (x + 1) n t (tbR z.s x) (lentS z.s) (nwR z.s x).tp ⟨nwR z.s x, z.ws⟩ := ⟨⟨IR, rfl, rfl⟩, vl, o.w⟩
  obtain ⟨hQ1, hQr⟩ := hQ.phases o.hn (by omega) (t + 1)
  obtain ⟨w0, a0⟩ := nw_like z.s (nx + 1) x n o.hn
  obtain ⟨q1, q2, q3⟩ := phases_ref (a' := ⟨nwR z.s x, z.ws⟩) hP o.hn o.good o.hears w0 rfl a0 (t + 1) (Nat.le_refl _)
  have VB1 := hP.vw o.hn (by omega) (vw_net0 z.s (nx + 1 + 1) z.s.tapes.length) (t + 1)
  have VB2 := hQ.vw o.hn (by omega) (vw_net0 (lentS z.s) x (lentS z.s).tapes.length) (t + 1)
  obtain ⟨b, hb⟩ : ∃ b, phases n t ⟨nwO z.s (nx + 1), z.ws⟩ (t + 1) = b := ⟨_, rfl⟩
  have hb' : pkO z.s (nx + 1) n t z.ws = b := hb
  obtain ⟨c, hc⟩ : ∃ c, phasesR n t ⟨nwR z.s x, z.ws⟩ (t + 1) = c := ⟨_, rfl⟩
  have a25 := fun pm A cap => refAgree25 (g := 0) IR pm A cap z.ws n t vl hn ht (by omega) o.w (show (0 : Int) + 3 * (t + 1) < 1000 by omega)
  rw [hb] at hP1 hPr q1 q2 q3 VB1
  rw [hc] at hQ1 hQr q1 q2 q3 VB2
  simp only [hc] at a25
  have bl := hP1.l
  have cl := hQ1.l
  have hrd : b.σ.round = 3 * ((t : Int) + 1) := by
    have : b.σ.round = 0 + 3 * ((t + 1 : Nat) : Int) := hPr
    rw [this]; push_cast; omega
  have hrd2 : c.σ.round = 3 * ((t : Int) + 1) := q1.r.trans hrd
  have AO := nwO_A z.s (nx + 1) ⟨0, scL z.s⟩ ⟨0, scL z.s⟩
  rw [← hP1.o.tp, hx] at AO
  obtain ⟨S', hS'⟩ : ∃ S' : Box, (⟨0, scL (lentS z.s)⟩ : Box) = S' := ⟨_, rfl⟩
  obtain ⟨ZB, hZB⟩ : ∃ ZB : Box, (⟨0, Z0⟩ : Box) = ZB := ⟨_, rfl⟩
  obtain ⟨OA, hOA⟩ : ∃ OA : List (Nat × Box), [(nx, ZB), (nx + 1, ⟨0, scL z.s⟩), (nx + 1 + 1, ⟨0, scL z.s⟩)] = OA := ⟨_, rfl⟩
  obtain ⟨N1, hN1⟩ : ∃ N1 : List (Nat × Box), (nx + 1 + 2, (⟨0, netC b.σ⟩ : Box)) :: tbO z.s (nx + 1) = N1 := ⟨_, rfl⟩
  obtain ⟨N0, hN0⟩ : ∃ N0 : List (Nat × Box), (x + 1, (⟨0, netC (nwR z.s x)⟩ : Box)) :: tbR z.s x = N0 := ⟨_, rfl⟩
  obtain ⟨N2, hN2⟩ : ∃ N2 : List (Nat × Box), (x + 1, (⟨0, netC c.σ⟩ : Box)) :: tbR z.s x = N2 := ⟨_, rfl⟩
  have k1 : ∀ e ∈ N1, e.1 ∈ (nx + 1 + 2) :: b.σ.tp := fun e he => net_keys hP1.o.I.hT e (hN1 ▸ he)
  have k0 : ∀ e ∈ N0, e.1 ∈ (x + 1) :: (nwR z.s x).tp := fun e he => net_keys IR.hT e (hN0 ▸ he)
  have k2 : ∀ e ∈ N2, e.1 ∈ (x + 1) :: c.σ.tp := fun e he => net_keys hQ1.o.I.hT e (hN2 ▸ he)
  have ctp : c.σ.tp = (nwR z.s x).tp := hQ1.o.tp
  have kr : ∀ y ∈ (x + 1) :: (nwR z.s x).tp, x + 1 ≤ y ∧ y < x + (2 + z.s.tapes.length) := fun y hy => by
    rcases List.mem_cons.1 hy with rfl | hy
    · omega
    · have hy : y ∈ (List.range (lentS z.s).tapes.length).map (x + 2 + ·) := hy
      obtain ⟨i, hi, rfl⟩ := List.mem_map.1 hy
      have := List.mem_range.1 hi
      omega
  have oa : ∀ e ∈ OA, nx ≤ e.1 ∧ e.1 < x ∧ e.1 ∉ (nx + 1 + 2) :: b.σ.tp := fun e he => by
    rw [← hOA] at he
    rcases List.mem_cons.1 he with rfl | he
    · refine ⟨Nat.le_refl _, by show nx < x; omega, fun h => ?_⟩
      have := (AO.t _ h).1
      have : nx + 1 ≤ nx := this
      omega
    · obtain ⟨h1, h2, h3⟩ := AO.o e he
      exact ⟨by omega, h2, h3⟩
  have d1' : ∀ e ∈ OA ++ ([(x, S')] ++ N2), e.1 ∉ (nx + 1 + 2) :: b.σ.tp := fun e he h => by
    have h1 := AO.t _ h
    rcases List.mem_append.1 he with he | he
    · exact (oa e he).2.2 h
    rcases List.mem_append.1 he with he | he
    · rw [List.mem_singleton] at he
      subst he
      exact absurd h1.2 (Nat.lt_irrefl _)
    · have := kr _ (ctp ▸ k2 e he); omega
  have d2' : ∀ e ∈ (OA ++ [(x, S')]) ++ N1, e.1 ∉ (x + 1) :: (nwR z.s x).tp := fun e he h => by
    have h1 := kr _ h
    rcases List.mem_append.1 he with he | he
    · rcases List.mem_append.1 he with he | he
      · have := (oa e he).2.1; omega
      · rw [List.mem_singleton] at he
        subst he
        exact absurd h1.1 (by show ¬ x + 1 ≤ x; omega)
    · have := (AO.t _ (k1 e he)).2; omega
  obtain ⟨O, hO⟩ : ∃ O : List (Nat × Box), OA ++ [(x, S')] = O := ⟨_, rfl⟩
  obtain ⟨y, hy⟩ : ∃ y, x + (2 + z.s.tapes.length) = y := ⟨_, rfl⟩
  obtain ⟨M4, hM4⟩ : ∃ M : List (Nat × Box), OA ++ N1 ++ [(x, S')] ++ N0 = M := ⟨_, rfl⟩
  obtain ⟨M5, hM5⟩ : ∃ M : List (Nat × Box), OA ++ N1 ++ [(x, S')] ++ N2 = M := ⟨_, rfl⟩
  obtain ⟨MA, hMA⟩ : ∃ M : List (Nat × Box), O ++ N1 ++ N2 = M := ⟨_, rfl⟩
  obtain ⟨MB, hMB⟩ : ∃ M : List (Nat × Box), O ++ N2 ++ N1 = M := ⟨_, rfl⟩
  have gA : ∀ l : List (Nat × Box), getBox (OA ++ l) nx = some ZB := fun l => by rw [← hOA]; simp [getBox]
  have g4 : getBox M4 nx = some ZB := by rw [← hM4, List.append_assoc, List.append_assoc]; exact gA _
  have g5 : getBox M5 nx = some ZB := by rw [← hM5, List.append_assoc, List.append_assoc]; exact gA _
  have gMA : getBox MA nx = some ZB := by rw [← hMA, ← hO, List.append_assoc, List.append_assoc]; exact gA _
  have hZc : ZB.cs = [.int .u64 (z.s.p : Int), .int .i64 (n : Int), .int .i64 (t : Int), .im true z.s.cA z.s.ccap z.s.corrupt.length (iL z.s.corrupt), .im true z.s.dA z.s.dcap z.s.devs.length (devsV z.s.devs), .im true z.s.tA z.s.tcap z.s.tapes.length (rsV z.s.tapes), .im true z.A z.cap n (uL z.ws)] := by rw [← hZB, hZ0]
  have c14 := fun st m dst => call14 (lentS z.s) st m x dst o.d (by rw [hlt0]; omega) (lentS_r o.r) ((scnS_lent z.s).2 o.s) (k := k) (by omega)
  rw [netM_at, hlt0, hy] at c14
  have e14 : ∀ m : List (Nat × Box), m ++ (x, ⟨0, scL (lentS z.s)⟩) :: (x + 1, ⟨0, netC (net0 (lentS z.s) x z.s.tapes.length)⟩) :: tapB tapeR (x + 2) (lentS z.s).tapes = m ++ [(x, S')] ++ N0 := fun m => by
    rw [← hS', ← hN0]
    unfold nwR tbR
    rw [hlt0]; simp
  simp only [e14] at c14
  have eM : (nx, ZB) :: agM z.s (nx + 1) b.σ = OA ++ N1 := by rw [← hOA, ← hN1]; rfl
  have c25 := fun A cap st dst => netCall (g := 0) (O1 := OA ++ N1 ++ [(x, S')]) (O2 := []) (σ' := c.σ) IR.hT IR.hl (fun e he h => by
    rw [List.append_nil] at he
    refine d2' e ?_ h
    rcases List.mem_append.1 he with he | he
    · rcases List.mem_append.1 he with he | he
      · exact List.mem_append_left _ (List.mem_append_left _ he)
      · exact List.mem_append_right _ he
    · exact List.mem_append_left _ (List.mem_append_right _ he)) ctp (a25 false A cap) (k := k) (by omega) (by simp [ptrsL, ptrs, nil_uL]) rfl (nx := y) (fun e he => by have := kr _ (k0 e (hN0 ▸ he)); omega) st dst
  simp only [List.append_nil, hN0, hN2, hM4, hM5] at c25
  have c21 := fun st dst => netCall (g := 0) (O1 := OA) (O2 := [(x, S')] ++ N2) hP1.o.I.hT hP1.o.I.hl d1' rfl (rounds26 (nx + 1 + 2) 0 b.σ (tbO z.s (nx + 1)) hP1.o.I.hT) (k := k) (by omega) (by simp [ptrsL, ptrs]) rfl (nx := y) (fun e he => by have := (AO.t _ (k1 e (hN1 ▸ he))).2; omega) st dst
  have f5 : OA ++ N1 ++ ([(x, S')] ++ N2) = M5 := by rw [← hM5, List.append_assoc, List.append_assoc, List.append_assoc]
  have fB : OA ++ ([(x, S')] ++ N2) ++ N1 = MB := by rw [← hMB, ← hO]; simp only [List.append_assoc]
  simp only [hN1] at c21
  rw [f5, fB, hrd] at c21
  have hD2 : ∀ e ∈ O ++ N1, e.1 ∉ (x + 1) :: c.σ.tp := fun e he => by rw [ctp]; exact d2' e (hO ▸ he)
  have hD1 : ∀ e ∈ O ++ N2, e.1 ∉ (nx + 1 + 2) :: b.σ.tp := fun e he => d1' e (by rw [← hO, List.append_assoc] at he; exact he)
  have l2 : ∀ e ∈ N2, e.1 < y := fun e he => by have := kr _ (ctp ▸ k2 e he); omega
  have l1 : ∀ e ∈ N1, e.1 < y := fun e he => by have := (AO.t _ (k1 e he)).2; omega
  have c26 := fun st dst => netCall (g := 0) (O1 := O) (O2 := N1) hQ1.o.I.hT hQ1.o.I.hl hD2 rfl (rounds26r (x + 1) 0 c.σ (tbR z.s x) hQ1.o.I.hT) (k := k) (by omega) (by simp [ptrsL, ptrs]) rfl (nx := y) (fun e he => l2 e (hN2 ▸ he)) st dst
  simp only [hN2] at c26
  rw [hMB, hMA, hrd2] at c26
  have hall : ∀ e ∈ MA, nx ≤ e.1 := fun e he => by
    rw [← hMA, ← hO] at he
    rcases List.mem_append.1 he with he | he
    · rcases List.mem_append.1 he with he | he
      · rcases List.mem_append.1 he with he | he
        · exact (oa e he).1
        · rw [List.mem_singleton] at he; subst he; show nx ≤ x; omega
      · have := (AO.t _ (k1 e he)).1; omega
    · have := (kr _ (ctp ▸ k2 e he)).1; omega
  have c23 := fun A cap A2 cap2 => callP (words20 false false A A2 cap cap2 b.vs c.vs (by omega)) (k := k) (by omega) (by simp) rfl
  rw [q2, bl] at c23
  simp only [decide_true] at c23
  replace c18 := fun A cap st m dst => c18 A cap z.ws vl o.w st m (nx + 1) dst
  simp only [hb', hx] at c18
  have lsc : scV (lentS z.s) = .agg [.int .u64 (z.s.p : Int), .int .i64 (n : Int), .int .i64 (t : Int), .im false z.s.cA z.s.ccap z.s.corrupt.length (iL z.s.corrupt), .im false z.s.dA z.s.dcap z.s.devs.length (devsV z.s.devs), .im false z.s.tA z.s.tcap z.s.tapes.length (rsV (z.s.tapes.map lent))] := by simp [scV, scL, lentS, hn, ht]
  simp only [lsc] at c14
  simp [-reach, -doCall, doCall_eq, askV, askL, scL, t1, t2, t3, hn, ht, vl, hpm, noBorL_iL, noBorL_devs, nb, -EvK_app, entryS, c16]
  rw [EvK_app]
  simp [-reach, -doCall, doCall_eq, askV, askL, scL, t1, t2, t3, hn, ht, vl, hpm, noBorL_iL, noBorL_devs, nb, -EvK_app, c16]
  rw [EvK_app]
  simp [-reach, -doCall, doCall_eq, askV, askL, scL, t1, t2, t3, hn, ht, vl, hpm, noBorL_iL, noBorL_devs, nb, -EvK_app, c16]
  rw [EvK_app]
  simp [-reach, -doCall, doCall_eq, askV, askL, scL, t1, t2, t3, hn, ht, vl, hpm, noBorL_iL, noBorL_devs, nb, -EvK_app, c18]
  refine EvK_cut (fun D => D.s 1 = .bptr nx 0 ∧ D.s 3 = .own .nil 0 n (uL b.vs) ∧ D.s 4 = .bptr (nx + 1 + 2) 0 ∧ D.s 5 = .bool true ∧ D.m = OA ++ N1 ∧ D.nx = x) (by simp [← eM, ← hZB, ← hZ0]) fun D ⟨d1, d3, d4, d5, dm, dx⟩ => ?_
  have gO := gA N1
  simp [-reach, -doCall, doCall_eq, askV, askL, scL, t1, t2, t3, hn, ht, vl, hpm, noBorL_iL, noBorL_devs, nb, -EvK_app, d1, d3, d4, d5, dm, dx, gO, hZc, c14]
  refine EvK_cut (fun D => D.s 1 = .bptr nx 0 ∧ D.s 3 = .own .nil 0 n (uL b.vs) ∧ D.s 4 = .bptr (nx + 1 + 2) 0 ∧ D.s 5 = .bool true ∧ D.s 6 = .bptr (x + 1) 0 ∧ D.m = M4 ∧ D.nx = y) (by simp [d1, d3, d4, d5, ← hM4]) fun D ⟨d1, d3, d4, d5, d6, dm, dx⟩ => ?_
  simp [-reach, -doCall, doCall_eq, askV, askL, scL, t1, t2, t3, hn, ht, vl, hpm, noBorL_iL, noBorL_devs, nb, -EvK_app, d1, d3, d4, d5, d6, dm, dx, g4, hZc, c25]
  refine EvK_cut (fun D => D.s 1 = .bptr nx 0 ∧ D.s 3 = .own .nil 0 n (uL b.vs) ∧ D.s 4 = .bptr (nx + 1 + 2) 0 ∧ D.s 5 = .bool true ∧ D.s 6 = .bptr (x + 1) 0 ∧ D.s 8 = .own .nil 0 n (uL c.vs) ∧ D.m = M5 ∧ D.nx = y) (by simp [d1, d3, d4, d5, d6]) fun D ⟨d1, d3, d4, d5, d6, d8, dm, dx⟩ => ?_
  rw [q2] at d8
  simp [-reach, -doCall, doCall_eq, askV, askL, scL, t1, t2, t3, hn, ht, vl, hpm, noBorL_iL, noBorL_devs, nb, -EvK_app, d1, d3, d4, d5, d6, d8, dm, dx, c23, c21, c26]
  rw [EvK_app]
  simp [-reach, -doCall, doCall_eq, askV, askL, scL, t1, t2, t3, hn, ht, vl, hpm, noBorL_iL, noBorL_devs, nb, -EvK_app]
  obtain ⟨I, hI⟩ : ∃ I : Nat → St → Prop, I = fun q D => ∃ (i : Nat), q = n - i ∧ i ≤ n ∧ D.s 1 = .bptr nx 0 ∧ D.s 4 = .bptr (nx + 1 + 2) 0 ∧ D.s 6 = .bptr (x + 1) 0 ∧ D.s 9 = .int .i64 ((i : Int) + 1) ∧ D.m = MA ∧ D.nx = y := ⟨_, rfl⟩
  refine EvK_cut (fun D => D.s 1 = .bptr nx 0 ∧ D.s 4 = .bptr (nx + 1 + 2) 0 ∧ D.s 6 = .bptr (x + 1) 0 ∧ D.m = MA ∧ D.nx = y) (by simp [d1, d4, d6]) fun D ⟨d1, d4, d6, dm, dx⟩ => ?_
  simp [-reach, -doCall, doCall_eq, askV, askL, scL, t1, t2, t3, hn, ht, vl, hpm, noBorL_iL, noBorL_devs, nb, d1, d4, d6, dm, dx]
  refine EvP.loop I (n := n) (by rw [hI]; exact ⟨0, by simp, by simp, by simp [d1, d4, d6, dm, dx]⟩) (by omega) fun q D hD => ?_
  rw [hI] at hD
  obtain ⟨i, rfl, hi, d1, d4, d6, d9, dm, dx⟩ := hD
  by_cases hil : i < n
  · have e3 := wrapi (x := (i : Int) + 1 + 1) (by omega) (by omega)
    have g2 : (i : Int) + 1 ≤ (n : Int) := by omega
    obtain ⟨v, u, hv, hu, hvu⟩ := q3 i hil trivial
    have hs1 : b.σ.scn = z.s := hP1.o.s
    have hs2 : c.σ.scn = lentS z.s := hQ1.o.s
    have lv1 : b.σ.views.length = n := by have := hP1.o.I.hv; rw [hs1, hn] at this; omega
    have lv2 : c.σ.views.length = n := by
      have := hQ1.o.I.hv
      rw [hs2] at this
      have h2 : (lentS z.s).n = (n : Int) := hn
      rw [h2] at this; omega
    have hve : b.σ.views[i] = v := by
      have := List.getElem?_eq_getElem (l := b.σ.views) (i := i) (by omega)
      rw [hv] at this
      exact (Option.some.inj this).symm
    have hue : c.σ.views[i] = u := by
      have := List.getElem?_eq_getElem (l := c.σ.views) (i := i) (by omega)
      rw [hu] at this
      exact (Option.some.inj this).symm
    have hvl : v.length ≤ 100000 := by
      have := hP1.o.I.hB _ (List.mem_of_getElem? hv)
      rw [hrd] at this; omega
    have hul : u.length ≤ 100000 := by
      have := hQ1.o.I.hB _ (List.mem_of_getElem? hu)
      rw [hrd2] at this; omega
    have c28 := fun st dst => netCall (g := 0) (O1 := O) (O2 := N2) hP1.o.I.hT hP1.o.I.hl hD1 rfl (view23 (nx + 1 + 2) 0 b.σ (tbO z.s (nx + 1)) hP1.o.I.hT i (by omega) (by omega) (by rw [hve]; omega)) (k := k) (by omega) (by simp [ptrsL, ptrs]) rfl (nx := y) (fun e he => l1 e (hN1 ▸ he)) st dst
    have c29 := fun st dst => netCall (g := 0) (O1 := O) (O2 := N1) hQ1.o.I.hT hQ1.o.I.hl hD2 rfl (view28 (x + 1) 0 c.σ (tbR z.s x) hQ1.o.I.hT i (by omega) (by omega) (by rw [hue]; omega)) (k := k) (by omega) (by simp [ptrsL, ptrs]) rfl (nx := y) (fun e he => l2 e (hN2 ▸ he)) st dst
    simp only [hN1] at c28
    simp only [hN2] at c29
    rw [hMA, hMB, hve] at c28
    rw [hMB, hMA, hue] at c29
    simp only [viewV] at c28 c29
    have c27 := fun A A2 cap cap2 => callP (views22 false false A A2 cap cap2 (v.map lentE) (u.map lentE) (by rw [List.length_map]; omega) (fun e he => by
      obtain ⟨e0, he0, rfl⟩ := List.mem_map.1 he
      exact VB1 v (List.mem_of_getElem? hv) e0 he0)) (k := k) (by omega) (by simp) rfl
    have hdec : decide ((v.map lentE).map evK = (u.map lentE).map evK) = true := by rw [evK_lent, evK_lent, hvu]; simp
    simp only [hdec, List.length_map] at c27
    simp [-reach, -doCall, doCall_eq, askV, askL, scL, t1, t2, t3, hn, ht, vl, hpm, noBorL_iL, noBorL_devs, nb, d1, d4, d6, d9, dm, dx, gMA, hZc, hil, g2, c28, c29, frzL_evsC2, frzL_evsC, c27, e3]
    subst hI
    exact ⟨n - (i + 1), by omega, i + 1, rfl, by omega, by simp [d1], by simp [d4], by simp [d6], by simp, by simp, by simp⟩
  · have hin : i = n := by omega
    have g2 : ¬ ((i : Int) + 1 ≤ (n : Int)) := by omega
    have hil2 : ¬ i < n := by omega
    simp [-reach, -doCall, doCall_eq, askV, askL, scL, t1, t2, t3, hn, ht, vl, hpm, noBorL_iL, noBorL_devs, nb, d1, d4, d6, d9, dm, dx, gMA, hZc, g2, hil2, c17]
    exact fun a b h => hall (a, b) h
end Go.Abs
end
