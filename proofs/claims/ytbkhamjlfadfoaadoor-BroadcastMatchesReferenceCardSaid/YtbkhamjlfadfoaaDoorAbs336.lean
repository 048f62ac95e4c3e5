/- Joined: AbsPY14. -/
import Derived.Test.YtbkhamjlfadfoaaDoorAbs334
import Derived.Test.YtbkhamjlfadfoaaDoorAbs335
set_option linter.all false
set_option maxHeartbeats 16000000
noncomputable section
namespace Go.Abs
open Go Go.Proofs
set_option maxRecDepth 100000
theorem noBorL_all14 : ∀ {l : List V}, (∀ v ∈ l, noBor v = true) → noBorL l = true
 | [], _ => rfl
 | v :: l, h => by
   show (noBor v && noBorL l) = true
   rw [h v List.mem_cons_self, noBorL_all14 (fun x hx => h x (List.mem_cons_of_mem _ hx))]; rfl
open Classical in
theorem law14 (z : Play) (hw : ScnB z.s ∧ z.pm = true ∧ z.pl = true ∧ ∀ r ∈ z.rs, r.pm = true) : ∃ N, AnsN N Tryd.prog H14 14 [playV z] (.bool true) := by
 obtain ⟨hB, hpm, hpl, hrp⟩ := hw
 obtain ⟨N30, hN30⟩ := awake30
 obtain ⟨n, t, N, ho⟩ : ∃ n t N, PlayS z → PlayOk z n t N := by
  by_cases hm : PlayS z
  ·obtain ⟨n, t, N, h⟩ := playOk_ex hB hm
   exact ⟨n, t, N, fun _ => h⟩
  ·exact ⟨0, 0, 0, fun h => absurd h hm⟩
 refine ⟨max (max N30 100300) (max (N) 1200 + 5) + 100300, AnsN.of (fn := Tryd.f14) (t := 2) (by rfl) Tryd.func14 rfl rfl (by rfl) (by rfl) fun k hk nx => ?_⟩
 have c30 := callP (k := k) hN30 (by omega) (by simp [ptrsL]) rfl
 have c31 := callP (k := k) (fair31 (lentP z)) (by omega) (by simp [playV, playL, scL, ptrsL, ptrs, lentP, lentS]) rfl
 have e1 : decide (PlayS (lentP z)) = decide (PlayS z) := decide_eq_decide.2 PlayS.lent
 rw [e1] at c31
 simp only [playV, playL, scL, lentP, lentS, List.length_map, List.cons_append, List.nil_append] at c31
 by_cases hm : PlayS z
 case neg =>
  rw [decide_eq_false hm] at c31
  simp [-reach, -doCall, doCall_eq, entryS, playV, playL, scL, c30, c31]
 rw [decide_eq_true hm] at c31
 have o := ho hm
 have t1 := hB.T.c
 have t2 := hB.T.d
 have t3 := hB.T.t
 have hn := o.hn
 have ht := o.ht
 have lr := o.lr
 have ll := o.ll
 have h5 := o.h5
 have h3 := o.h3
 have nb := noBorL_rs hB.T.r
 have hnl : (z.s.tapes.length : Int) = z.s.n := o.s.2.1
 obtain ⟨cP, hcP⟩ : ∃ cP : Box, (⟨0, [.int .u64 (z.s.p : Int), .int .i64 (n : Int), .int .i64 (t : Int), .im true z.s.cA z.s.ccap z.s.corrupt.length (iL z.s.corrupt), .im true z.s.dA z.s.dcap z.s.devs.length (devsV z.s.devs), .im true z.s.tA z.s.tcap z.s.tapes.length (rsV z.s.tapes), .im true z.A z.cap n (rsV z.rs), .im true z.Al z.cl n (iL z.ls)]⟩ : Box) = cP := ⟨_, rfl⟩
 have hcs : cP.cs = [.int .u64 (z.s.p : Int), .int .i64 (n : Int), .int .i64 (t : Int), .im true z.s.cA z.s.ccap z.s.corrupt.length (iL z.s.corrupt), .im true z.s.dA z.s.dcap z.s.devs.length (devsV z.s.devs), .im true z.s.tA z.s.tcap z.s.tapes.length (rsV z.s.tapes), .im true z.A z.cap n (rsV z.rs), .im true z.Al z.cl n (iL z.ls)] := by rw [← hcP]
 obtain ⟨cS, hcS⟩ : ∃ cS : Box, (⟨0, scL z.s⟩ : Box) = cS := ⟨_, rfl⟩
 have c32 := fun st dst => o.new (nx := nx) (k := k) (by omega) cP st dst
 have c33 := fun A Al cap cl st dst => o.bcall A Al cap cl nx (k := k) (by omega) cP cS st dst
 obtain ⟨hfin, hrd⟩ := o.fin nx
 have AO : Around nx (nx + 2) (pEnd z nx n t).σ.tp cP [(nx, cP), (nx + 1, cS)] (nx + (3 + z.s.tapes.length)) := by rw [hfin.tp]; exact nwO_A z.s nx cP cS
 rw [hcS] at c32
 obtain ⟨W0, hW0⟩ : ∃ W0, [(nx, cP), (nx + 1, cS)] ++ (nx + 2, (⟨0, netC (nwO z.s nx)⟩ : Box)) :: tbO z.s nx = W0 := ⟨_, rfl⟩
 obtain ⟨W1, hW1⟩ : ∃ W1, [(nx, cP), (nx + 1, cS)] ++ (nx + 2, (⟨0, netC (pEnd z nx n t).σ⟩ : Box)) :: tbO z.s nx = W1 := ⟨_, rfl⟩
 have g0 : getBox W0 nx = some cP := by rw [← hW0]; simp [getBox]
 have g1 : getBox W1 nx = some cP := by rw [← hW1]; exact AO.get
 have hall : ∀ e ∈ W1, nx ≤ e.1 := fun e he => (AO.mem hfin.I.hT e (by rw [hW1]; exact he)).1
 rw [hW0] at c32
 rw [hW0, hW1] at c33
 simp only [scV, scL, t1, t2, t3, hn, ht, List.length_map, lr, ll] at c32 c31
 have h13 : n ≤ 13 := by omega
 obtain ⟨x, hx⟩ : ∃ x, nx + (3 + z.s.tapes.length) = x := ⟨_, rfl⟩
 have hlt0 : (lentS z.s).tapes.length = z.s.tapes.length := by show (z.s.tapes.map lent).length = _; rw [List.length_map]
 have IR := nwR_I o.s o.hN x
 have LB := o.like nx x
 have hfinR := o.finR x
 have hvw := o.vw nx
 obtain ⟨b, hb⟩ : ∃ b, pEnd z nx n t = b := ⟨_, rfl⟩
 obtain ⟨c, hc⟩ : ∃ c, qEnd z x n t = c := ⟨_, rfl⟩
 rw [hb] at hfin hrd LB hvw AO hW1
 rw [hc] at hfinR LB
 rw [hx] at AO
 simp only [hx] at c32
 have hbc := fun A Al cap cl => o.bc A Al cap cl nx
 simp only [hb] at hbc
 have a39 := fun A Al cap cl => refBroadcast39 (g := 0) IR A Al cap cl (z.rs.map lent) z.ls n t (by rw [List.length_map]; exact o.lr) o.ll o.hn o.ht o.h3 o.ls (fun r hr x hx => by
  obtain ⟨r0, hr0, rfl⟩ := List.mem_map.1 hr
  exact o.okr r0 hr0 x hx) (by
   have ht4 : 3 * ((t + 1 : Nat) : Int) * (sumL (lnF z.ls) n : Int) ≤ 60 := by
    have h1 : (sumL (lnF z.ls) n : Int) ≤ 4 := by have := o.t4; omega
    have h2 := Int.mul_le_mul_of_nonneg_left h1 (show (0 : Int) ≤ 3 * ((t + 1 : Nat) : Int) by omega)
    omega
   show (0 : Int) + 1 + _ < 1000; omega)
 have eR : rEnd n t (nwR z.s x) (z.rs.map lent) z.ls = c := by
  rw [← hc]
  unfold qEnd rEnd
  rw [sayL_lent]
 simp only [eR] at a39
 obtain ⟨S', hS'⟩ : ∃ S' : Box, (⟨0, scL (lentS z.s)⟩ : Box) = S' := ⟨_, rfl⟩
 obtain ⟨OA, hOA⟩ : ∃ OA : List (Nat × Box), [(nx, cP), (nx + 1, cS)] = OA := ⟨_, rfl⟩
 obtain ⟨N0, hN0⟩ : ∃ N0 : List (Nat × Box), (nx + 2, (⟨0, netC (nwO z.s nx)⟩ : Box)) :: tbO z.s nx = N0 := ⟨_, rfl⟩
 obtain ⟨N1, hN1⟩ : ∃ N1 : List (Nat × Box), (nx + 2, (⟨0, netC b.σ⟩ : Box)) :: tbO z.s nx = N1 := ⟨_, rfl⟩
 obtain ⟨P0, hP0⟩ : ∃ P0 : List (Nat × Box), (x + 1, (⟨0, netC (nwR z.s x)⟩ : Box)) :: tbR z.s x = P0 := ⟨_, rfl⟩
 obtain ⟨P1, hP1⟩ : ∃ P1 : List (Nat × Box), (x + 1, (⟨0, netC c.σ⟩ : Box)) :: tbR z.s x = P1 := ⟨_, rfl⟩
 have I0 := (o.net nx).I
 have tp1 : b.σ.tp = (nwO z.s nx).tp := hfin.tp
 have ctp : c.σ.tp = (nwR z.s x).tp := hfinR.tp
 have k0 : ∀ e ∈ N0, e.1 ∈ (nx + 2) :: b.σ.tp := fun e he => by rw [tp1]; exact net_keys I0.hT e (hN0 ▸ he)
 have k1 : ∀ e ∈ N1, e.1 ∈ (nx + 2) :: b.σ.tp := fun e he => net_keys hfin.I.hT e (hN1 ▸ he)
 have p0 : ∀ e ∈ P0, e.1 ∈ (x + 1) :: (nwR z.s x).tp := fun e he => net_keys IR.hT e (hP0 ▸ he)
 have p1 : ∀ e ∈ P1, e.1 ∈ (x + 1) :: c.σ.tp := fun e he => net_keys hfinR.I.hT e (hP1 ▸ he)
 have kr : ∀ y ∈ (x + 1) :: (nwR z.s x).tp, x + 1 ≤ y ∧ y < x + (2 + z.s.tapes.length) := fun y hy => by
  rcases List.mem_cons.1 hy with rfl | hy
  ·omega
  ·have hy : y ∈ (List.range (lentS z.s).tapes.length).map (x + 2 + ·) := hy
   obtain ⟨i, hi, rfl⟩ := List.mem_map.1 hy
   have := List.mem_range.1 hi
   omega
 have oa : ∀ e ∈ OA, nx ≤ e.1 ∧ e.1 < x ∧ e.1 ∉ (nx + 2) :: b.σ.tp := fun e he => by
  rw [← hOA] at he
  have h0 := AO.o e he
  have h4 : nx ≤ e.1 := by
   rcases List.mem_cons.1 he with rfl | he
   ·exact Nat.le_refl _
   ·rw [List.mem_singleton] at he; subst he; exact Nat.le_succ _
  exact ⟨h4, h0.2.1, h0.2.2⟩
 have d1' : ∀ Q : List (Nat × Box), (∀ e ∈ Q, e.1 ∈ (x + 1) :: (nwR z.s x).tp) → ∀ e ∈ OA ++ ([(x, S')] ++ Q), e.1 ∉ (nx + 2) :: b.σ.tp := fun Q hQ e he h => by
  have h1 := AO.t _ h
  rcases List.mem_append.1 he with he | he
  ·exact (oa e he).2.2 h
  rcases List.mem_append.1 he with he | he
  ·rw [List.mem_singleton] at he
   subst he
   exact absurd h1.2 (Nat.lt_irrefl _)
  ·have := kr _ (hQ e he); omega
 have d2' : ∀ e ∈ (OA ++ [(x, S')]) ++ N1, e.1 ∉ (x + 1) :: (nwR z.s x).tp := fun e he h => by
  have h1 := kr _ h
  rcases List.mem_append.1 he with he | he
  ·rcases List.mem_append.1 he with he | he
   ·have := (oa e he).2.1; omega
   ·rw [List.mem_singleton] at he
    subst he
    exact absurd h1.1 (by show ¬ x + 1 ≤ x; omega)
  ·have := (AO.t _ (k1 e he)).2; omega
 obtain ⟨O, hO⟩ : ∃ O : List (Nat × Box), OA ++ [(x, S')] = O := ⟨_, rfl⟩
 obtain ⟨y, hy⟩ : ∃ y, x + (2 + z.s.tapes.length) = y := ⟨_, rfl⟩
 obtain ⟨M4, hM4⟩ : ∃ M : List (Nat × Box), OA ++ N0 ++ [(x, S')] ++ P0 = M := ⟨_, rfl⟩
 obtain ⟨M5, hM5⟩ : ∃ M : List (Nat × Box), O ++ P0 ++ N1 = M := ⟨_, rfl⟩
 obtain ⟨MA, hMA⟩ : ∃ M : List (Nat × Box), O ++ N1 ++ P1 = M := ⟨_, rfl⟩
 obtain ⟨MB, hMB⟩ : ∃ M : List (Nat × Box), O ++ P1 ++ N1 = M := ⟨_, rfl⟩
 have gA : ∀ l : List (Nat × Box), getBox (OA ++ l) nx = some cP := fun l => by rw [← hOA]; simp [getBox]
 have g4 : getBox M4 nx = some cP := by rw [← hM4, List.append_assoc, List.append_assoc]; exact gA _
 have g5 : getBox M5 nx = some cP := by rw [← hM5, ← hO, List.append_assoc, List.append_assoc]; exact gA _
 have gMA : getBox MA nx = some cP := by rw [← hMA, ← hO, List.append_assoc, List.append_assoc]; exact gA _
 have c14 := fun st m dst => call14 (lentS z.s) st m x dst o.d (by rw [hlt0]; omega) (lentS_r o.r) ((scnS_lent z.s).2 o.s) (k := k) (by omega)
 rw [netM_at, hlt0, hy] at c14
 have e14 : ∀ m : List (Nat × Box), m ++ (x, ⟨0, scL (lentS z.s)⟩) :: (x + 1, ⟨0, netC (net0 (lentS z.s) x z.s.tapes.length)⟩) :: tapB tapeR (x + 2) (lentS z.s).tapes = m ++ [(x, S')] ++ P0 := fun m => by
  rw [← hS', ← hP0]
  unfold nwR tbR
  rw [hlt0]; simp
 simp only [e14] at c14
 have lsc : scV (lentS z.s) = .agg [.int .u64 (z.s.p : Int), .int .i64 (n : Int), .int .i64 (t : Int), .im false z.s.cA z.s.ccap z.s.corrupt.length (iL z.s.corrupt), .im false z.s.dA z.s.dcap z.s.devs.length (devsV z.s.devs), .im false z.s.tA z.s.tcap z.s.tapes.length (rsV (z.s.tapes.map lent))] := by simp [scV, scL, lentS, hn, ht]
 simp only [lsc] at c14
 have eW : W0 = OA ++ N0 := by rw [← hW0, ← hOA, ← hN0]
 have f4 : OA ++ N0 ++ ([(x, S')] ++ P0) = M4 := by rw [← hM4, List.append_assoc, List.append_assoc, List.append_assoc]
 have f5 : OA ++ ([(x, S')] ++ P0) ++ N1 = M5 := by rw [← hM5, ← hO]; simp only [List.append_assoc]
 have c33 := fun A Al cap cl st dst => netCall (g := 0) (O1 := OA) (O2 := [(x, S')] ++ P0) (σ' := b.σ) I0.hT I0.hl (by rw [← tp1]; exact d1' P0 p0) tp1 (hbc A Al cap cl) (k := k) (by omega) (by simp [ptrsL, ptrs]) rfl (nx := y) (fun e he => by have := (AO.t _ (k0 e (hN0 ▸ he))).2; omega) st dst
 simp only [hN0, hN1, f4, f5] at c33
 have c39 := fun A Al cap cl st dst => netCall (g := 0) (O1 := O) (O2 := N1) (σ' := c.σ) IR.hT IR.hl (by rw [← hO]; exact d2') ctp (a39 A Al cap cl) (k := k) (by omega) (by simp [ptrsL, ptrs]) rfl (nx := y) (fun e he => by have := kr _ (p0 e (hP0 ▸ he)); omega) st dst
 simp only [hP0, hP1, hM5, hMA] at c39
 have hD2 : ∀ e ∈ O ++ N1, e.1 ∉ (x + 1) :: c.σ.tp := fun e he => by rw [ctp]; exact d2' e (hO ▸ he)
 have hD1 : ∀ e ∈ O ++ P1, e.1 ∉ (nx + 2) :: b.σ.tp := fun e he => d1' P1 (fun e he => ctp ▸ p1 e he) e (by rw [← hO, List.append_assoc] at he; exact he)
 have l2 : ∀ e ∈ P1, e.1 < y := fun e he => by have := kr _ (ctp ▸ p1 e he); omega
 have l1 : ∀ e ∈ N1, e.1 < y := fun e he => by have := (AO.t _ (k1 e he)).2; omega
 have c21 := fun st dst => netCall (g := 0) (O1 := O) (O2 := P1) hfin.I.hT hfin.I.hl hD1 rfl (rounds26 (nx + 2) 0 b.σ (tbO z.s nx) hfin.I.hT) (k := k) (by omega) (by simp [ptrsL, ptrs]) rfl (nx := y) (fun e he => l1 e (hN1 ▸ he)) st dst
 simp only [hN1] at c21
 rw [hMA, hMB] at c21
 have c26 := fun st dst => netCall (g := 0) (O1 := O) (O2 := N1) hfinR.I.hT hfinR.I.hl hD2 rfl (rounds26r (x + 1) 0 c.σ (tbR z.s x) hfinR.I.hT) (k := k) (by omega) (by simp [ptrsL, ptrs]) rfl (nx := y) (fun e he => l2 e (hP1 ▸ he)) st dst
 simp only [hP1] at c26
 rw [hMB, hMA, LB.w.r] at c26
 have hall : ∀ e ∈ MA, nx ≤ e.1 := fun e he => by
  rw [← hMA, ← hO] at he
  rcases List.mem_append.1 he with he | he
  ·rcases List.mem_append.1 he with he | he
   ·rcases List.mem_append.1 he with he | he
    ·exact (oa e he).1
    ·rw [List.mem_singleton] at he; subst he; show nx ≤ x; omega
   ·have := (AO.t _ (k1 e he)).1; omega
  ·have := (kr _ (ctp ▸ p1 e he)).1; omega
 obtain ⟨tk, htk⟩ : ∃ tk, b.tk = tk := ⟨_, rfl⟩
 have htkc : c.tk = tk := LB.t.trans htk
 rw [htk] at c33
 rw [htkc] at c39
 obtain ⟨r0, hr0⟩ : ∃ r0, b.σ.round = r0 := ⟨_, rfl⟩
 rw [hr0] at c21 c26
 simp [-reach, -doCall, doCall_eq, playV, playL, scL, t1, t2, t3, hn, ht, lr, ll, hpm, hpl, noBorL_iL, noBorL_devs, nb, -EvK_app, entryS]
 rw [EvK_app]
 simp [-reach, -doCall, doCall_eq, playV, playL, scL, t1, t2, t3, hn, ht, lr, ll, hpm, hpl, noBorL_iL, noBorL_devs, nb, -EvK_app, c30]
 rw [EvK_app]
 simp [-reach, -doCall, doCall_eq, playV, playL, scL, t1, t2, t3, hn, ht, lr, ll, hpm, hpl, noBorL_iL, noBorL_devs, nb, -EvK_app, c30]
 refine EvK_cut (fun D => D.s 1 = .bptr nx 0 ∧ D.m = [(nx, cP)] ∧ D.nx = nx + 1) (by simp [← hcP]) fun D ⟨d1, dm, dx⟩ => ?_
 simp [-reach, -doCall, doCall_eq, playV, playL, scL, t1, t2, t3, hn, ht, lr, ll, hpm, hpl, noBorL_iL, noBorL_devs, nb, -EvK_app, d1, dm, dx, hcs, c31]
 rw [EvK_app]
 simp [-reach, -doCall, doCall_eq, playV, playL, scL, t1, t2, t3, hn, ht, lr, ll, hpm, hpl, noBorL_iL, noBorL_devs, nb, -EvK_app, d1, dm, dx, hcs, c32]
 rw [EvK_app]
 simp [-reach, -doCall, doCall_eq, playV, playL, scL, t1, t2, t3, hn, ht, lr, ll, hpm, hpl, noBorL_iL, noBorL_devs, nb, -EvK_app, d1, dm, dx, hcs, c32]
 refine EvK_cut (fun D => D.s 1 = .bptr nx 0 ∧ D.s 3 = .bptr (nx + 2) 0 ∧ D.s 4 = .int .i64 0 ∧ D.m = OA ++ N0 ∧ D.nx = x) (by simp [d1, eW]) fun D ⟨d1, d3, d4, dm, dx⟩ => ?_
 have gO := gA N0
 simp [-reach, -doCall, doCall_eq, playV, playL, scL, t1, t2, t3, hn, ht, lr, ll, hpm, hpl, noBorL_iL, noBorL_devs, nb, -EvK_app, d1, d3, d4, dm, dx, gO, hcs, c14]
 refine EvK_cut (fun D => D.s 1 = .bptr nx 0 ∧ D.s 3 = .bptr (nx + 2) 0 ∧ D.s 4 = .int .i64 0 ∧ D.s 5 = .bptr (x + 1) 0 ∧ D.s 6 = .int .i64 0 ∧ D.m = M4 ∧ D.nx = y) (by simp [d1, d3, d4, ← hM4]) fun D ⟨d1, d3, d4, d5, d6, dm, dx⟩ => ?_
 simp [-reach, -doCall, doCall_eq, playV, playL, scL, t1, t2, t3, hn, ht, lr, ll, hpm, hpl, noBorL_iL, noBorL_devs, nb, -EvK_app, d1, d3, d4, d5, d6, dm, dx]
 rw [EvK_app]
 simp [-reach, -doCall, doCall_eq, playV, playL, scL, t1, t2, t3, hn, ht, lr, ll, hpm, hpl, noBorL_iL, noBorL_devs, nb, -EvK_app, d1, d3, d4, d5, d6, dm, dx]
 rw [EvK_app]
 simp [-reach, -doCall, doCall_eq, playV, playL, scL, t1, t2, t3, hn, ht, lr, ll, hpm, hpl, noBorL_iL, noBorL_devs, nb, -EvK_app, d1, d3, d4, d5, d6, dm, dx, g4, hcs, c33]
 refine EvK_cut (fun D => D.s 1 = .bptr nx 0 ∧ D.s 3 = .bptr (nx + 2) 0 ∧ D.s 5 = .bptr (x + 1) 0 ∧ D.s 7 = .own .nil 0 n (tkC tk n) ∧ D.m = M5 ∧ D.nx = y) (by simp [d1, d3, d5]) fun D ⟨d1, d3, d5, d7, dm, dx⟩ => ?_
 simp [-reach, -doCall, doCall_eq, playV, playL, scL, t1, t2, t3, hn, ht, lr, ll, hpm, hpl, noBorL_iL, noBorL_devs, nb, -EvK_app, d1, d3, d5, d7, dm, dx, g5, hcs, c39]
 refine EvK_cut (fun D => D.s 1 = .bptr nx 0 ∧ D.s 3 = .bptr (nx + 2) 0 ∧ D.s 5 = .bptr (x + 1) 0 ∧ D.s 7 = .own .nil 0 n (tkC tk n) ∧ D.s 8 = .own .nil 0 n (tkC tk n) ∧ D.m = MA ∧ D.nx = y) (by simp [d1, d3, d5, d7]) fun D ⟨d1, d3, d5, d7, d8, dm, dx⟩ => ?_
 simp [-reach, -doCall, doCall_eq, playV, playL, scL, t1, t2, t3, hn, ht, lr, ll, hpm, hpl, noBorL_iL, noBorL_devs, nb, -EvK_app, d1, d3, d5, d7, d8, dm, dx, gMA, hcs, c21, c26]
 rw [EvK_app]
 simp [-reach, -doCall, doCall_eq, playV, playL, scL, t1, t2, t3, hn, ht, lr, ll, hpm, hpl, noBorL_iL, noBorL_devs, nb, -EvK_app]
 refine EvK_cut (fun D => D.s 1 = .bptr nx 0 ∧ D.s 3 = .bptr (nx + 2) 0 ∧ D.s 5 = .bptr (x + 1) 0 ∧ D.s 7 = .own .nil 0 n (tkC tk n) ∧ D.s 8 = .own .nil 0 n (tkC tk n) ∧ D.m = MA ∧ D.nx = y) (by simp [d1, d3, d5, d7, d8]) fun D ⟨d1, d3, d5, d7, d8, dm, dx⟩ => ?_
 obtain ⟨TC, hTC⟩ : ∃ TC, tkC tk n = TC := ⟨_, rfl⟩
 have hTCl : TC.length = n := by rw [← hTC]; simp
 have hTCg : ∀ i, i < n → TC[i]? = some (.own .nil 0 n (tkRow (tk i) n)) := fun i hi => by
  rw [← hTC]; unfold tkC; rw [List.getElem?_map, List.getElem?_range hi]; rfl
 have hlen : ∀ j i, i < n → (tk j i).length ≤ 1000 := fun j i hi => by
  rw [← htk, ← hb, o.tk nx hi, List.length_map, List.length_range]
  have h1 : i < z.ls.length := by omega
  have h2 := o.ls _ (List.getElem_mem h1)
  have h3 : lnF z.ls i = (z.ls[i]).toNat := by unfold lnF; rw [List.getElem?_eq_getElem h1]; rfl
  omega
 rw [hTC] at d7 d8
 obtain ⟨RF, hRF⟩ : ∃ RF : Nat → List V, RF = fun f => frzL true (tkRow (tk f) n) := ⟨_, rfl⟩
 have hRFm : ∀ f, RF f = ((List.range n).map fun i => rt (tk f i)).map rV := fun f => by
  rw [hRF]
  show frzL true (tkRow (tk f) n) = _
  unfold tkRow
  rw [frzL_map, List.map_map, List.map_map]
  refine List.map_congr_left fun i _ => ?_
  simp [ownR, rt, rV, frz]
 have hRFf : ∀ f, frzL false (RF f) = rsV (((List.range n).map (tk f)).map rz) := fun f => by
  rw [hRFm]
  show frzL false (rsV _) = _
  rw [rsV_lent, List.map_map, List.map_map]
  rfl
 have hRFt : ∀ f, frzL true (tkRow (tk f) n) = RF f := fun f => by rw [hRF]
 have hnbr : ∀ f, noBorL (tkRow (tk f) n) = true := fun f => by
  unfold tkRow
  refine noBorL_all14 fun v hv => ?_
  obtain ⟨i, _, rfl⟩ := List.mem_map.1 hv
  simp [ownR, noBor]
 obtain ⟨I, hI⟩ : ∃ I : Nat → St → Prop, I = fun q D => ∃ (i : Nat) (TC : List V), q = n - i ∧ i ≤ n ∧ TC.length = n ∧ (∀ i', i ≤ i' → i' < n → TC[i']? = some (.own .nil 0 n (tkRow (tk i') n))) ∧ D.s 1 = .bptr nx 0 ∧ D.s 3 = .bptr (nx + 2) 0 ∧ D.s 5 = .bptr (x + 1) 0 ∧ D.s 7 = .own .nil 0 n TC ∧ D.s 8 = .own .nil 0 n TC ∧ D.s 9 = .int .i64 (i : Int) ∧ D.m = MA ∧ D.nx = y := ⟨_, rfl⟩
 simp [-reach, -doCall, doCall_eq, playV, playL, scL, t1, t2, t3, hn, ht, lr, ll, hpm, hpl, noBorL_iL, noBorL_devs, nb, d1, d3, d5, d7, d8, dm, dx]
 refine EvP.loop I (n := n) (by rw [hI]; exact ⟨0, TC, by simp, by simp, hTCl, fun i' _ h => hTCg i' h, by simp [d1, d3, d5, d7, d8, dm, dx]⟩) (by omega) fun q D hD => ?_
 rw [hI] at hD
 clear hTCl hTCg hTC d7 d8
 clear TC
 obtain ⟨i, TC, rfl, hi, hTCl, hTCg, d1, d3, d5, d7, d8, d9, dm, dx⟩ := hD
 by_cases hil : i < n
 case neg =>
  simp [-reach, -doCall, doCall_eq, playV, playL, scL, t1, t2, t3, hn, ht, lr, ll, hpm, hpl, noBorL_iL, noBorL_devs, nb, d1, d3, d5, d7, d8, d9, dm, dx, hil]
  exact fun a b h => hall (a, b) h
 have e2 := wrapi (x := (i : Int) + 1) (by omega) (by omega)
 obtain ⟨v, u, hv, hu, hvu⟩ := LB.a i hil trivial
 have hs1 : b.σ.scn = z.s := hfin.s
 have hs2 : c.σ.scn = lentS z.s := hfinR.s
 have lv1 : b.σ.views.length = n := by have := hfin.I.hv; rw [hs1, hn] at this; omega
 have lv2 : c.σ.views.length = n := by
  have := hfinR.I.hv
  rw [hs2] at this
  have h2 : (lentS z.s).n = (n : Int) := hn
  rw [h2] at this; omega
 have hve : b.σ.views[i] = v := by
  have := List.getElem?_eq_getElem (l := b.σ.views) (i := i) (by omega)
  rw [hv] at this
  exact (Option.some.inj this).symm
 have hue : c.σ.views[i] = u := by
  have := List.getElem?_eq_getElem (l := c.σ.views) (i := i) (by omega)
  rw [hu] at this
  exact (Option.some.inj this).symm
 have hr100 : b.σ.round ≤ 100 := by
  have ht4 : 3 * ((t + 1 : Nat) : Int) * (sumL (lnF z.ls) n : Int) ≤ 60 := by
   have h1 : (sumL (lnF z.ls) n : Int) ≤ 4 := by have := o.t4; omega
   have h2 := Int.mul_le_mul_of_nonneg_left h1 (show (0 : Int) ≤ 3 * ((t + 1 : Nat) : Int) by omega)
   omega
  omega
 have hvl : v.length ≤ 100000 := by
  have := hfin.I.hB _ (List.mem_of_getElem? hv)
  omega
 have hul : u.length ≤ 100000 := by
  have := hfinR.I.hB _ (List.mem_of_getElem? hu)
  have := LB.w.r
  omega
 have c28 := fun st dst => netCall (g := 0) (O1 := O) (O2 := P1) hfin.I.hT hfin.I.hl hD1 rfl (view23 (nx + 2) 0 b.σ (tbO z.s nx) hfin.I.hT i (by omega) (by omega) (by rw [hve]; omega)) (k := k) (by omega) (by simp [ptrsL, ptrs]) rfl (nx := y) (fun e he => l1 e (hN1 ▸ he)) st dst
 have c29 := fun st dst => netCall (g := 0) (O1 := O) (O2 := N1) hfinR.I.hT hfinR.I.hl hD2 rfl (view28 (x + 1) 0 c.σ (tbR z.s x) hfinR.I.hT i (by omega) (by omega) (by rw [hue]; omega)) (k := k) (by omega) (by simp [ptrsL, ptrs]) rfl (nx := y) (fun e he => l2 e (hP1 ▸ he)) st dst
 simp only [hN1] at c28
 simp only [hP1] at c29
 rw [hMA, hMB, hve] at c28
 rw [hMB, hMA, hue] at c29
 simp only [viewV] at c28 c29
 have c40 := fun A A2 cap cap2 => callP (same40 false false A A2 cap cap2 (v.map lentE) (u.map lentE) (by rw [List.length_map]; omega) (fun e he => by
  obtain ⟨e0, he0, rfl⟩ := List.mem_map.1 he
  have := hvw v (List.mem_of_getElem? hv) e0 he0
  show e0.w.l.length ≤ 1000
  omega) (by rw [evK_lent, evK_lent, hvu])) (k := k) (by omega) (by simp) rfl
 simp only [List.length_map] at c40
 have c35 := callP (sameRows35 false false none none 0 0 (((List.range n).map (tk i)).map rz) (((List.range n).map (tk i)).map rz) (by rw [List.length_map, List.length_map, List.length_range]; omega) (fun r hr => by
  obtain ⟨l, hl, rfl⟩ := List.mem_map.1 hr
  obtain ⟨i', hi', rfl⟩ := List.mem_map.1 hl
  exact hlen i i' (List.mem_range.1 hi')) rfl) (k := k) (by omega) (by simp [ptrsL, ptrs]) rfl
 simp only [List.length_map, List.length_range] at c35
 obtain ⟨RL, hRL⟩ : ∃ RL : Nat → List RD, (fun i : Nat => ((List.range n).map (tk i)).map rz) = RL := ⟨_, rfl⟩
 have hRLf : ∀ f, (((List.range n).map (tk f)).map rz) = RL f := fun f => by rw [← hRL]
 rw [hRLf] at c35
 simp only [hRLf] at hRFf
 have hT? := hTCg i (Nat.le_refl _) hil
 have hTe : TC[i]'(by omega) = .own .nil 0 n (tkRow (tk i) n) := by
  have := List.getElem?_eq_getElem (l := TC) (i := i) (by omega)
  rw [hT?] at this
  exact (Option.some.inj this).symm
 have hiT : i < TC.length := by omega
 have hn0 : ¬ n = 0 := by omega
 obtain ⟨TD, hTD⟩ : ∃ TD, TC.set i (.im true none 0 n (RF i)) = TD := ⟨_, rfl⟩
 have hTDl : TD.length = n := by rw [← hTD]; simp [hTCl]
 simp [-reach, -doCall, doCall_eq, playV, playL, scL, t1, t2, t3, hn, ht, lr, ll, hpm, hpl, noBorL_iL, noBorL_devs, nb, -EvK_app, d1, d3, d5, d7, d8, d9, dm, dx, hil, hTCl]
 rw [EvK_app]
 simp [-reach, -doCall, doCall_eq, playV, playL, scL, t1, t2, t3, hn, ht, lr, ll, hpm, hpl, noBorL_iL, noBorL_devs, nb, -EvK_app]
 refine EvK_cut (fun D => D.s 1 = .bptr nx 0 ∧ D.s 3 = .bptr (nx + 2) 0 ∧ D.s 5 = .bptr (x + 1) 0 ∧ D.s 7 = .own .nil 0 n TC ∧ D.s 8 = .own .nil 0 n TC ∧ D.s 9 = .int .i64 (i : Int) ∧ D.m = MA ∧ D.nx = y) (by simp [d1, d3, d5, d7, d8, d9]) fun D ⟨d1, d3, d5, d7, d8, d9, dm, dx⟩ => ?_
 rw [ev_seq, ev_block, ev_seq]
 refine EvP.cutN (fun D => D.s 1 = .bptr nx 0 ∧ D.s 3 = .bptr (nx + 2) 0 ∧ D.s 5 = .bptr (x + 1) 0 ∧ D.s 7 = .own .nil 0 n TD ∧ D.s 8 = .own .nil 0 n TD ∧ D.s 9 = .int .i64 (i : Int) ∧ D.s 84 = .bool false ∧ D.m = MA ∧ D.nx = y) ?_ fun D ⟨d1, d3, d5, d7, d8, d9, d84, dm, dx⟩ => ?_
 ·refine EvP.drawT rfl ?_
  apply drawT_ex
  apply Exists.intro
  apply Exists.intro
  apply Exists.intro
  apply And.intro
  ·intro P hP
   simp only [paths, List.map_cons, List.map_nil, List.cons_append, List.nil_append, List.mem_cons, List.not_mem_nil, or_false] at hP
   rcases hP with rfl | hP
   ·simp [-reach, -doCall, doCall_eq, playV, playL, scL, t1, t2, t3, hn, ht, lr, ll, hpm, hpl, noBorL_iL, noBorL_devs, nb, d1, d3, d5, d7, d8, d9, dm, dx, gMA, hcs, hil, hTCl, hT?, hTe, hiT, hRFf, hRFt, hnbr, hn0, hTD, e2, c35, c28, c29, frzL_evsC2, frzL_evsC, c40]
    exact ⟨fun jj => rfl, rfl, rfl⟩
   ·repeat' (rcases hP with rfl | hP)
    all_goals try subst hP
    all_goals
     simp [-reach, -doCall, doCall_eq, playV, playL, scL, t1, t2, t3, hn, ht, lr, ll, hpm, hpl, noBorL_iL, noBorL_devs, nb, d1, d3, d5, d7, d8, d9, dm, dx, gMA, hcs, hil, hTCl, hT?, hTe, hiT, hRFf, hRFt, hnbr, hn0, hTD, e2, c35, c28, c29, frzL_evsC2, frzL_evsC, c40]
     refine ⟨fun jj => ?_, rfl, rfl⟩
     rcases Decidable.em (jj = 7) with rfl | a7
     ·simp
     rcases Decidable.em (jj = 8) with rfl | a8
     ·simp
     rcases Decidable.em (jj = 63) with rfl | a63
     ·simp
     rcases Decidable.em (jj = 64) with rfl | a64
     ·simp
     rcases Decidable.em (jj = 65) with rfl | a65
     ·simp
     rcases Decidable.em (jj = 66) with rfl | a66
     ·simp
     rcases Decidable.em (jj = 67) with rfl | a67
     ·simp
     rcases Decidable.em (jj = 68) with rfl | a68
     ·simp
     rcases Decidable.em (jj = 69) with rfl | a69
     ·simp
     rcases Decidable.em (jj = 70) with rfl | a70
     ·simp
     rcases Decidable.em (jj = 71) with rfl | a71
     ·simp
     rcases Decidable.em (jj = 72) with rfl | a72
     ·simp
     rcases Decidable.em (jj = 73) with rfl | a73
     ·simp
     rcases Decidable.em (jj = 74) with rfl | a74
     ·simp
     rcases Decidable.em (jj = 75) with rfl | a75
     ·simp
     rcases Decidable.em (jj = 76) with rfl | a76
     ·simp
     rcases Decidable.em (jj = 77) with rfl | a77
     ·simp
     rcases Decidable.em (jj = 78) with rfl | a78
     ·simp
     rcases Decidable.em (jj = 79) with rfl | a79
     ·simp
     rcases Decidable.em (jj = 80) with rfl | a80
     ·simp
     rcases Decidable.em (jj = 81) with rfl | a81
     ·simp
     rcases Decidable.em (jj = 82) with rfl | a82
     ·simp
     rcases Decidable.em (jj = 83) with rfl | a83
     ·simp
     rcases Decidable.em (jj = 84) with rfl | a84
     ·simp
     simp [a7, a8, a63, a64, a65, a66, a67, a68, a69, a70, a71, a72, a73, a74, a75, a76, a77, a78, a79, a80, a81, a82, a83, a84, kill_comm]
  ·simp [d1, d3, d5, d7, d8, d9]
 simp [-reach, -doCall, doCall_eq, playV, playL, scL, t1, t2, t3, hn, ht, lr, ll, hpm, hpl, noBorL_iL, noBorL_devs, nb, d1, d3, d5, d7, d8, d9, d84, dm, dx, e2]
 subst hI
 exact ⟨n - (i + 1), by omega, i + 1, TD, rfl, by omega, hTDl, fun i' h1 h2 => by rw [← hTD, List.getElem?_set_ne (by omega)]; exact hTCg i' (by omega) h2, by simp [d1], by simp [d3], by simp [d5], by simp [d7], by simp [d8], by simp, by simp, by simp⟩
end Go.Abs
end
