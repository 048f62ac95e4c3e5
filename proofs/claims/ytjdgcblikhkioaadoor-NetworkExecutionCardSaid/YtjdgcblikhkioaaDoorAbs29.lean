/- Joined: AbsNY10. -/
import Derived.Test.YtjdgcblikhkioaaDoorAbs28
set_option linter.all false
/- The seat of privitylaw14: NetworkExecution. -/
set_option linter.unusedVariables false
noncomputable section
namespace Go.Abs
open Go Go.Proofs
set_option maxRecDepth 100000
open Classical in
set_option maxHeartbeats 16000000 in
theorem law10 (p : Exe) (hA : ExeA p) : ∃ N, AnsN N Tryd.prog H14 10 [exeV p] (.bool true) := by
  obtain ⟨N12, hN12⟩ := awake12
  by_cases hF : FairE p
  case neg =>
    refine ⟨max N12 2000 + 1, AnsN.of (fn := Tryd.f10) (t := 2) (by rfl) Tryd.func10 rfl rfl (by rfl) (by rfl) fun k hk nx => ?_⟩
    have c12 := callP (k := k) hN12 (by omega) (by simp [ptrsL]) rfl
    have h1 := hA.w.e1
    have h2 := hA.w.e2
    have h3 := hA.w.e3
    have hlt := lents_ok hA.w.r
    have hrs := frzL_rsps fun r hr => (hA.m r hr).2
    have c15 := callP (k := k) (fair15 p hA) (by omega) (by simp [ptrsL, ptrs, exeV, exeL]) rfl
    rw [decide_eq_false hF] at c15
    simp only [exeV, exeL, h1, h2, h3] at c15
    simp [-EvK_app, -reach, -doCall, doCall_eq, entryS, exeV, exeL, h1, h2, h3]
    rw [EvK_app]
    simp [-EvK_app, -reach, -doCall, doCall_eq, c12]
    rw [EvK_app]
    simp [-reach, -doCall, doCall_eq, hlt, hrs, c15]
  obtain ⟨⟨f1, f2, f3, f4, hs⟩, hL, hrds⟩ := id hF
  have hn413 := scnS_n hs
  have hr1000 : ∀ r ∈ p.w.tapes, r.l.length ≤ 1000 := fun r h => by have := f4 r h; omega
  obtain ⟨N, hN⟩ := new_ex p.w hs (by omega) (by omega) hr1000 hA.w.k
  refine ⟨max (max N12 1200000) (max N 100 + 5) + 1, AnsN.of (fn := Tryd.f10) (t := 2) (by rfl) Tryd.func10 rfl rfl (by rfl) (by rfl) fun k hk nx => ?_⟩
  have c12 := callP (k := k) hN12 (by omega) (by simp [ptrsL]) rfl
  have h1 := hA.w.e1
  have h2 := hA.w.e2
  have h3 := hA.w.e3
  have hlt := lents_ok hA.w.r
  have hrs := frzL_rsps fun r hr => (hA.m r hr).2
  have c15 := callP (k := k) (fair15 p hA) (by omega) (by simp [ptrsL, ptrs, exeV, exeL]) rfl
  rw [decide_eq_true hF] at c15
  simp only [exeV, exeL, h1, h2, h3] at c15
  obtain ⟨n, hn⟩ : ∃ n, p.w.tapes.length = n := ⟨_, rfl⟩
  have hnn : p.w.n = (n : Int) := by rw [← hn]; exact hs.2.1.symm
  obtain ⟨F, hFd⟩ : ∃ F : RD → List V, (fun w => tapeC (lent w) 0) = F := ⟨_, rfl⟩
  have hFp : ∀ w, ptrsL (F w) = [] := fun w => by rw [← hFd]; exact ptrsL_tapeC _ _
  have hFp2 : ∀ w, ptrsL (tapeR w) = [] := ptrsL_tapeR
  obtain ⟨x1, hx1⟩ : ∃ x1, nx + 1 + (2 + p.w.tapes.length) = x1 := ⟨_, rfl⟩
  obtain ⟨x2, hx2⟩ : ∃ x2, x1 + (2 + p.w.tapes.length) = x2 := ⟨_, rfl⟩
  obtain ⟨tb1, htb1⟩ : ∃ tb, tapB F (nx + 1 + 2) p.w.tapes = tb := ⟨_, rfl⟩
  obtain ⟨tb2, htb2⟩ : ∃ tb, tapB tapeR (x1 + 2) p.w.tapes = tb := ⟨_, rfl⟩
  obtain ⟨σ0, hσ0⟩ : ∃ σ0, net0 p.w (nx + 1) p.w.tapes.length = σ0 := ⟨_, rfl⟩
  obtain ⟨τ0, hτ0⟩ : ∃ τ0, net0 p.w x1 p.w.tapes.length = τ0 := ⟨_, rfl⟩
  have I1 : NetI N (nx + 2) σ0 tb1 := by rw [← hσ0, ← htb1]; exact net0_I F hFp p.w (nx + 1) hs hN (scnS_pq hs) hn413.2 (by omega)
  have I2 : NetI N (x1 + 1) τ0 tb2 := by rw [← hτ0, ← htb2]; exact net0_I tapeR hFp2 p.w x1 hs hN (scnS_pq hs) hn413.2 (by omega)
  have TW := net0_two p.w nx (nx + 1) ⟨0, exeL p⟩ ⟨0, scL p.w⟩ ⟨0, scL p.w⟩ [(nx, ⟨0, exeL p⟩)] (by simp [getBox]) (fun e he => by
    simp only [List.mem_cons, List.not_mem_nil, or_false] at he
    subst he
    exact ⟨Nat.le_refl _, by show nx < nx + 1; omega⟩) (by omega)
  rw [hx1, hx2, hσ0, hτ0] at TW
  obtain ⟨O1, hO1⟩ : ∃ O1 : List (Nat × Box), [(nx, (⟨0, exeL p⟩ : Box))] ++ [(nx + 1, ⟨0, scL p.w⟩)] = O1 := ⟨_, rfl⟩
  obtain ⟨O2, hO2⟩ : ∃ O2 : List (Nat × Box), [(x1, (⟨0, scL p.w⟩ : Box))] = O2 := ⟨_, rfl⟩
  rw [hO1, hO2] at TW
  have c13 := fun st dst => call13 p.w st [(nx, ⟨0, exeL p⟩)] (nx + 1) dst (by omega) (by omega) hr1000 hs (k := k) (by omega)
  rw [hFd, netM_at, hσ0, hx1, htb1] at c13
  obtain ⟨M1, hM1⟩ : ∃ M1 : List (Nat × Box), O1 ++ (nx + 2, ⟨0, netC σ0⟩) :: tb1 = M1 := ⟨_, rfl⟩
  have hM1' : [(nx, (⟨0, exeL p⟩ : Box))] ++ (nx + 1, ⟨0, scL p.w⟩) :: (nx + 1 + 1, ⟨0, netC σ0⟩) :: tb1 = M1 := by rw [← hM1, ← hO1]; rfl
  rw [hM1'] at c13
  have c14 := fun st dst => call14 p.w st M1 x1 dst (by omega) (by omega) hr1000 hs (k := k) (by omega)
  rw [netM_at, hτ0, hx2, htb2] at c14
  obtain ⟨M2, hM2⟩ : ∃ M2 : List (Nat × Box), O1 ++ ((nx + 2, (⟨0, netC σ0⟩ : Box)) :: tb1) ++ (O2 ++ ((x1 + 1, (⟨0, netC τ0⟩ : Box)) :: tb2)) = M2 := ⟨_, rfl⟩
  have hM2' : M1 ++ (x1, (⟨0, scL p.w⟩ : Box)) :: (x1 + 1, ⟨0, netC τ0⟩) :: tb2 = M2 := by rw [← hM2, ← hM1, ← hO2]; rfl
  rw [hM2'] at c14
  have gM1 : getBox M1 nx = some ⟨0, exeL p⟩ := by rw [← hM1']; simp [getBox]
  simp only [scV, scL, exeL, h1, h2, h3] at c13 c14 gM1
  simp [-EvK_app, -reach, -doCall, doCall_eq, entryS, exeV, exeL, h1, h2, h3]
  rw [EvK_app]
  simp [-EvK_app, -reach, -doCall, doCall_eq, c12]
  rw [EvK_app]
  simp [-EvK_app, -reach, -doCall, doCall_eq, c12]
  refine EvK_cut (fun D => D.s 1 = .bptr nx 0 ∧ D.m = [(nx, ⟨0, exeL p⟩)] ∧ D.nx = nx + 1) (by simp [exeL, h1, h2, h3]) fun D ⟨d1, dm, dx⟩ => ?_
  simp [-EvK_app, -reach, -doCall, doCall_eq, d1, dm, dx, exeL, h1, h2, h3, hlt, hrs, c15]
  rw [EvK_app]
  simp [-EvK_app, d1, dm, dx]
  refine EvK_cut (fun D => D.s 1 = .bptr nx 0 ∧ D.m = [(nx, ⟨0, exeL p⟩)] ∧ D.nx = nx + 1) (by simp [exeL, h1, h2, h3, d1]) fun D ⟨d1, dm, dx⟩ => ?_
  simp [-EvK_app, -reach, -doCall, doCall_eq, d1, dm, dx, exeL, h1, h2, h3, hlt, c13]
  refine EvK_cut (fun D => D.s 1 = .bptr nx 0 ∧ D.s 3 = .bptr (nx + 2) 0 ∧ D.s 4 = .int .i64 0 ∧ D.m = M1 ∧ D.nx = x1) (by simp [d1]) fun D ⟨d1, d3, d4, dm, dx⟩ => ?_
  simp [-EvK_app, -reach, -doCall, doCall_eq, d1, d3, d4, dm, dx, gM1, hlt, c14]
  refine EvK_cut (fun D => D.s 1 = .bptr nx 0 ∧ D.s 3 = .bptr (nx + 2) 0 ∧ D.s 5 = .bptr (x1 + 1) 0 ∧ D.s 4 = .int .i64 0 ∧ D.m = M2 ∧ D.nx = x2) (by simp [d1, d3, d4]) fun D ⟨d1, d3, d5, d4, dm, dx⟩ => ?_
  simp [-EvK_app, d1, d3, d4, d5, dm, dx]
  rw [EvK_app]
  simp [-EvK_app, d1, d3, d4, d5, dm, dx]
  refine EvK_cut (fun D => D.s 1 = .bptr nx 0 ∧ D.s 3 = .bptr (nx + 2) 0 ∧ D.s 5 = .bptr (x1 + 1) 0 ∧ D.m = M2 ∧ D.nx = x2) (by simp [d1, d3, d5]) fun D ⟨d1, d3, d5, dm, dx⟩ => ?_
  simp [-EvK_app, d1, d3, d5, dm, dx]
  rw [EvK_app]
  simp only [ev_block]
  have hA0 : Alike n (fun _ => True) σ0 τ0 := fun w hw _ => by
    refine ⟨[], [], ?_, ?_, rfl⟩
    · rw [← hσ0]
      show (List.replicate p.w.n.toNat ([] : List Ev))[w]? = _
      rw [hnn]; simp [hw]
    · rw [← hτ0]
      show (List.replicate p.w.n.toNat ([] : List Ev))[w]? = _
      rw [hnn]; simp [hw]
  obtain ⟨I, hI⟩ : ∃ I : Nat → St → Prop, I = fun q D => ∃ (i : Nat) (σ τ : NetS) (O1 O2 : List (Nat × Box)), q = p.l.length - i ∧ i ≤ p.l.length ∧ D.s 1 = .bptr nx 0 ∧ D.s 3 = .bptr (nx + 2) 0 ∧ D.s 5 = .bptr (x1 + 1) 0 ∧ D.s 7 = .int .i64 (i : Int) ∧ D.m = O1 ++ ((nx + 2, (⟨0, netC σ⟩ : Box)) :: tb1) ++ (O2 ++ ((x1 + 1, (⟨0, netC τ⟩ : Box)) :: tb2)) ∧ D.nx = x2 ∧ NetI N (nx + 2) σ tb1 ∧ NetI N (x1 + 1) τ tb2 ∧ σ.scn = p.w ∧ τ.scn = p.w ∧ σ.round = i ∧ τ.round = i ∧ σ.tp = σ0.tp ∧ τ.tp = τ0.tp ∧ Two nx (nx + 2) (x1 + 1) σ0.tp τ0.tp ⟨0, exeL p⟩ (O1 ++ O2) x2 ∧ VW σ ∧ Alike n (fun _ => True) σ τ := ⟨_, rfl⟩
  refine EvP.loop I (n := p.l.length) (by rw [hI]; exact ⟨0, σ0, τ0, O1, O2, by simp, by simp, by simp [d1], by simp [d3], by simp [d5], by simp, hM2.symm, rfl, I1, I2, by rw [← hσ0]; rfl, by rw [← hτ0]; rfl, by rw [← hσ0]; rfl, by rw [← hτ0]; rfl, rfl, rfl, TW, by rw [← hσ0]; exact vw_net0 _ _ _, hA0⟩) (by omega) fun q D hD => ?_
  clear d1 d3 d5 dm dx c13 c14 hM1' hM2' hM1 hM2 gM1 TW I1 I2 hO1 hO2 O1 O2
  rw [hI] at hD
  obtain ⟨i, σ, τ, O1, O2, rfl, hi, d1, d3, d5, d7, dm, dx, I1, I2, hsc1, hsc2, hrd1, hrd2, htp1, htp2, TW, V1, hAl⟩ := hD
  rw [← htp1, ← htp2] at TW
  obtain ⟨M, hM⟩ : ∃ M : List (Nat × Box), O1 ++ ((nx + 2, (⟨0, netC σ⟩ : Box)) :: tb1) ++ (O2 ++ ((x1 + 1, (⟨0, netC τ⟩ : Box)) :: tb2)) = M := ⟨_, rfl⟩
  rw [hM] at dm
  have gM : getBox M nx = some ⟨0, exeL p⟩ := by rw [← hM]; exact TW.get2 I1.hT
  have hMn : ∀ e ∈ M, nx ≤ e.1 ∧ e.1 < x2 := by rw [← hM]; exact TW.mem2 I1.hT I2.hT
  simp only [exeL, h1, h2, h3, hnn] at gM
  by_cases hil : i < p.l.length
  · have e3 := wrap_succ (q := i) (by omega)
    have p1 := rspsV_drop hil
    obtain ⟨r, hr⟩ : ∃ r, p.l[i] = r := ⟨_, rfl⟩
    rw [hr] at p1
    have hrok : RoundOk p.w.p (n : Int) r := by rw [← hnn, ← hr]; exact hrds _ (List.getElem_mem hil)
    obtain ⟨hrl, hrm⟩ := rounds_ms hrok
    have hmA : ∀ m ∈ r.ms, MdOk m := hr ▸ (hA.m _ (List.getElem_mem hil)).2
    have hlm := lentMs_ok hmA
    have hns1 : (r.ms.length : Int) = σ.scn.n := by rw [hsc1, hnn, hrl]
    have hns2 : (r.ms.length : Int) = τ.scn.n := by rw [hsc2, hnn, hrl]
    obtain ⟨O, hO⟩ : ∃ O, O1 ++ O2 = O := ⟨_, rfl⟩
    obtain ⟨MA, hMA⟩ : ∃ MA : List (Nat × Box), (O ++ ((x1 + 1, (⟨0, netC τ⟩ : Box)) :: tb2)) ++ ((nx + 2, (⟨0, netC σ⟩ : Box)) :: tb1) = MA := ⟨_, rfl⟩
    obtain ⟨MB, hMB⟩ : ∃ MB : List (Nat × Box), (O ++ ((nx + 2, (⟨0, netC (roundS cpW n σ r)⟩ : Box)) :: tb1)) ++ ((x1 + 1, (⟨0, netC (roundS lnW n τ r)⟩ : Box)) :: tb2) = MB := ⟨_, rfl⟩
    have lk1 := like_roundS cpW n σ r
    have lk2 := like_roundS lnW n τ r
    have c26 := fun st dst => TW.callA02 I1.hT I1.hl I2.hT rfl (rounds26 (nx + 2) 0 σ tb1 I1.hT) (k := k) (by omega) (by simp [ptrsL, ptrs]) rfl st dst
    rw [hM, hO, hMA, hrd1] at c26
    rw [hO] at TW
    have gMA : getBox MA nx = some ⟨0, exeL p⟩ := by rw [← hMA]; exact TW.getN
    simp only [exeL, h1, h2, h3, hnn] at gMA
    have c27 := fun st dst => TW.call2 I1.hT I2.hT I1.hl lk1.2.1 lk2.2.1 (same27 I1 I2 (fun y hy => (TW.t1 y hy).2.2) (by rw [hsc1, hsc2]) (by rw [hrd1, hrd2]) (by omega) r (by rw [hsc1, hnn]) (by omega) (by rw [hsc1]; exact hrok) hmA) (k := k) (by omega) (by simp [ptrsL, ptrs, rspC]) rfl st dst
    rw [hMA, hMB] at c27
    simp only [rspC, hrl] at c27
    have hbi : ((i : Int) != (i : Int)) = false := by simp
    simp only [hrl] at p1
    simp [-reach, -doCall, doCall_eq, d1, d3, d5, d7, dm, dx, gM, gMA, hil, p1, c26, c27, hbi, hlm, e3]
    have V1' : VW (roundS cpW n σ r) := by
      unfold roundS
      split
      · exact V1.cast cpW (fun _ => rfl) (I1.told_ok (by rw [hsc1]; exact rounds_ls hrok))
      · exact V1.sent cpW (fun _ => rfl) (sw_le (I1.said_ok (by rw [hsc1]; exact hrm)))
    have hAl' : Alike n (fun _ => True) (roundS cpW n σ r) (roundS lnW n τ r) := by
      have e1 : ∀ L, netTold τ L = netTold σ L := fun L => by unfold netTold; rw [hsc1, hsc2, hrd1, hrd2]
      have e2 : ∀ L, netSaid τ n L = netSaid σ n L := fun L => by unfold netSaid; rw [hsc1, hsc2, hrd1, hrd2]
      unfold roundS
      rw [e1, e2]
      split
      · exact alike_cast hAl (by rw [hrd1, hrd2]) cpW lnW (fun _ => rfl) _
      · exact alike_sent hAl (by rw [hrd1, hrd2]) cpW lnW (fun _ => rfl) fun f w _ _ _ => rfl
    subst hI
    refine ⟨p.l.length - (i + 1), by omega, i + 1, roundS cpW n σ r, roundS lnW n τ r, O, [], rfl, by omega, by simp [d1], by simp [d3], by simp [d5], by simp, ?_, rfl, I1.round cpW r (by rw [← hrl]; exact hns1), I2.round lnW r (by rw [← hrl]; exact hns2), lk1.1.trans hsc1, lk2.1.trans hsc2, by rw [lk1.2.2, hrd1]; omega, by rw [lk2.2.2, hrd2]; omega, lk1.2.1.trans htp1, lk2.2.1.trans htp2, by rw [List.append_nil, ← htp1, ← htp2]; exact TW, V1', hAl'⟩
    simp [← hMB]
  · have hie : i = p.l.length := by omega
    have hnl : ¬ i < p.l.length := by omega
    simp [-EvK_app, d1, d3, d5, d7, dm, dx, gM, hnl]
    rw [EvK_app]
    simp [-EvK_app, d1, d3, d5, d7, dm, dx, gM]
    refine EvK_cut (fun D => D.s 1 = .bptr nx 0 ∧ D.s 3 = .bptr (nx + 2) 0 ∧ D.s 5 = .bptr (x1 + 1) 0 ∧ D.m = M ∧ D.nx = x2) (by simp [d1, d3, d5]) fun D ⟨d1, d3, d5, dm, dx⟩ => ?_
    rw [ev_seq]
    simp [-EvK_app, d1, d3, d5, dm, dx]
    rw [EvK_app]
    simp only [ev_block]
    have hv1 : σ.views.length = n := by have := I1.hv; rw [hsc1, hnn] at this; omega
    have hv2 : τ.views.length = n := by have := I2.hv; rw [hsc2, hnn] at this; omega
    obtain ⟨J, hJ⟩ : ∃ J : Nat → St → Prop, J = fun q D => ∃ (j : Nat) (O1 O2 : List (Nat × Box)), q = n - j ∧ j ≤ n ∧ D.s 1 = .bptr nx 0 ∧ D.s 3 = .bptr (nx + 2) 0 ∧ D.s 5 = .bptr (x1 + 1) 0 ∧ D.s 8 = .int .i64 ((j : Int) + 1) ∧ D.m = O1 ++ ((nx + 2, (⟨0, netC σ⟩ : Box)) :: tb1) ++ (O2 ++ ((x1 + 1, (⟨0, netC τ⟩ : Box)) :: tb2)) ∧ D.nx = x2 ∧ Two nx (nx + 2) (x1 + 1) σ.tp τ.tp ⟨0, exeL p⟩ (O1 ++ O2) x2 := ⟨_, rfl⟩
    refine EvP.loop J (n := n) (by rw [hJ]; exact ⟨0, O1, O2, by simp, by simp, by simp [d1], by simp [d3], by simp [d5], by simp, hM.symm, rfl, TW⟩) (by omega) fun q D hD => ?_
    rw [hJ] at hD
    obtain ⟨j, O1, O2, rfl, hj, d1, d3, d5, d8, dm, dx, TW⟩ := hD
    obtain ⟨M, hM⟩ : ∃ M : List (Nat × Box), O1 ++ ((nx + 2, (⟨0, netC σ⟩ : Box)) :: tb1) ++ (O2 ++ ((x1 + 1, (⟨0, netC τ⟩ : Box)) :: tb2)) = M := ⟨_, rfl⟩
    rw [hM] at dm
    have gM : getBox M nx = some ⟨0, exeL p⟩ := by rw [← hM]; exact TW.get2 I1.hT
    have hMn : ∀ e ∈ M, nx ≤ e.1 ∧ e.1 < x2 := by rw [← hM]; exact TW.mem2 I1.hT I2.hT
    simp only [exeL, h1, h2, h3, hnn] at gM
    obtain ⟨O, hO⟩ : ∃ O, O1 ++ O2 = O := ⟨_, rfl⟩
    obtain ⟨MA, hMA⟩ : ∃ MA : List (Nat × Box), (O ++ ((x1 + 1, (⟨0, netC τ⟩ : Box)) :: tb2)) ++ ((nx + 2, (⟨0, netC σ⟩ : Box)) :: tb1) = MA := ⟨_, rfl⟩
    by_cases hjl : j < n
    · have e5 : IntKind.i64.wrap ((j : Int) + 1 + 1) = ((j + 1 : Nat) : Int) + 1 := by rw [wrap_nat (by omega) (by omega)]; omega
      have g1 : (j : Int) + 1 ≤ (n : Int) := by omega
      obtain ⟨v, u, hv, hu, hvu⟩ := hAl j hjl trivial
      have hve : σ.views[j]'(by omega) = v := by rw [List.getElem?_eq_getElem (by omega)] at hv; exact Option.some.inj hv
      have hue : τ.views[j]'(by omega) = u := by rw [List.getElem?_eq_getElem (by omega)] at hu; exact Option.some.inj hu
      have hvl : v.length ≤ 900 := by
        have := I1.hB _ (List.mem_of_getElem? hv)
        rw [hrd1] at this; omega
      have hul : u.length ≤ 900 := by
        have := I2.hB _ (List.mem_of_getElem? hu)
        rw [hrd2] at this; omega
      obtain ⟨MB, hMB⟩ : ∃ MB : List (Nat × Box), (O ++ ((nx + 2, (⟨0, netC σ⟩ : Box)) :: tb1)) ++ ((x1 + 1, (⟨0, netC τ⟩ : Box)) :: tb2) = MB := ⟨_, rfl⟩
      have c23a := fun st dst => TW.callA02 I1.hT I1.hl I2.hT rfl (view23 (nx + 2) 0 σ tb1 I1.hT j (by omega) (by omega) (by rw [hve]; omega)) (k := k) (by omega) (by simp [ptrsL, ptrs]) rfl st dst
      rw [hM, hve, hO, hMA] at c23a
      rw [hO] at TW
      have c28b := fun st dst => TW.callB0 I1.hT I2.hT I2.hl rfl (view28 (x1 + 1) 0 τ tb2 I2.hT j (by omega) (by omega) (by rw [hue]; omega)) (k := k) (by omega) (by simp [ptrsL, ptrs]) rfl st dst
      rw [hMA, hMB, hue] at c28b
      simp only [viewV] at c23a c28b
      have c22 := fun A A2 cap cap2 => callP (views22 false false A A2 cap cap2 (v.map lentE) (u.map lentE) (by rw [List.length_map]; omega) (fun e he => by
        obtain ⟨e0, he0, rfl⟩ := List.mem_map.1 he
        exact V1 v (List.mem_of_getElem? hv) e0 he0)) (k := k) (by omega) (by simp) rfl
      have hdec : decide ((v.map lentE).map evK = (u.map lentE).map evK) = true := by rw [evK_lent, evK_lent, hvu]; simp
      simp only [hdec, List.length_map] at c22
      simp [-reach, -doCall, doCall_eq, d1, d3, d5, d8, dm, dx, gM, g1, c23a, c28b, frzL_evsC2, frzL_evsC, c22, e5]
      subst hJ
      exact ⟨n - (j + 1), by omega, j + 1, O, [], rfl, by omega, by simp [d1], by simp [d3], by simp [d5], by simp, by simp [← hMB], rfl, by rw [List.append_nil]; exact TW⟩
    · have hje : j = n := by omega
      have g1 : ¬ ((j : Int) + 1 ≤ (n : Int)) := by omega
      simp [-EvK_app, d1, d3, d5, d8, dm, dx, gM, g1]
      rw [EvK_app]
      simp [-EvK_app, d1, d3, d5, d8, dm, dx, gM, g1]
      refine EvK_cut (fun D => D.s 1 = .bptr nx 0 ∧ D.s 3 = .bptr (nx + 2) 0 ∧ D.s 5 = .bptr (x1 + 1) 0 ∧ D.m = M ∧ D.nx = x2) (by simp [d1, d3, d5]) fun D ⟨d1, d3, d5, dm, dx⟩ => ?_
      have TWa := TW
      rw [hO] at TW
      have gMA : getBox MA nx = some ⟨0, exeL p⟩ := by rw [← hMA]; exact TW.getN
      simp only [exeL, h1, h2, h3, hnn] at gMA
      have c26 := fun st dst => TWa.callA02 I1.hT I1.hl I2.hT rfl (rounds26 (nx + 2) 0 σ tb1 I1.hT) (k := k) (by omega) (by simp [ptrsL, ptrs]) rfl st dst
      rw [hM, hO, hMA, hrd1, hie] at c26
      have TWb : Two nx (nx + 2) (x1 + 1) σ.tp τ.tp ⟨0, exeL p⟩ O x2 := TW
      have c29 := fun st dst => netCall (nx := x2) (O1 := O ++ ((x1 + 1, (⟨0, netC τ⟩ : Box)) :: tb2)) (O2 := []) I1.hT I1.hl (fun e he => by
        rw [List.append_nil] at he
        rcases List.mem_append.1 he with he | he
        · exact (TWb.o e he).2.2.1
        · exact fun hx => (TWb.t1 _ hx).2.2 (net_keys I2.hT e he)) rfl (scen29 (nx + 2) 0 σ tb1 I1.hT) (k := k) (by omega) (by simp [ptrsL, ptrs]) rfl (fun e he => (TWb.t1 _ (net_keys I1.hT e he)).2.1) st dst
      rw [List.append_nil, List.append_nil, hMA, hsc1] at c29
      simp only [scV, scL, h1, h2, h3, hnn] at c29
      have hMAn : ∀ e ∈ MA, nx ≤ e.1 := fun e he => by
        rw [← hMA] at he
        rcases List.mem_append.1 he with he | he
        · rcases List.mem_append.1 he with he | he
          · exact (TWb.o e he).1
          · exact (TWb.t2 _ (net_keys I2.hT e he)).1
        · exact (TWb.t1 _ (net_keys I1.hT e he)).1
      have q24 := eq24 p.w.p (n : Int) p.w.t
      refine EvP.seqG (fun D => D.s 2 = .bool true ∧ D.m = MA) ?_ fun D ⟨d2, dm⟩ => ?_
      · refine EvP.drawT rfl ?_
        apply drawT_ex
        apply Exists.intro
        apply Exists.intro
        apply Exists.intro
        apply And.intro
        · intro P hP
          simp only [paths, List.map_cons, List.map_nil, List.cons_append, List.nil_append, List.mem_cons, List.not_mem_nil, or_false] at hP
          rcases hP with rfl | rfl | rfl | rfl | rfl | rfl | rfl | rfl | rfl | rfl | rfl | rfl | rfl | rfl | rfl | rfl | rfl | rfl
          · simp [-reach, -doCall, doCall_eq, d1, d3, d5, dm, dx, gM, gMA, c26, c29, q24, eqB]
            exact ⟨fun jj => rfl, rfl, rfl⟩
          all_goals
            simp [-reach, -doCall, doCall_eq, d1, d3, d5, dm, dx, gM, gMA, c26, c29, q24, eqB]
            refine ⟨fun jj => ?_, rfl, rfl⟩
            rcases Decidable.em (jj = 2) with rfl | a2
            · simp
            rcases Decidable.em (jj = 91) with rfl | a91
            · simp
            rcases Decidable.em (jj = 90) with rfl | a90
            · simp
            rcases Decidable.em (jj = 89) with rfl | a89
            · simp
            rcases Decidable.em (jj = 88) with rfl | a88
            · simp
            rcases Decidable.em (jj = 87) with rfl | a87
            · simp
            rcases Decidable.em (jj = 86) with rfl | a86
            · simp
            rcases Decidable.em (jj = 85) with rfl | a85
            · simp
            rcases Decidable.em (jj = 84) with rfl | a84
            · simp
            rcases Decidable.em (jj = 83) with rfl | a83
            · simp
            rcases Decidable.em (jj = 82) with rfl | a82
            · simp
            rcases Decidable.em (jj = 81) with rfl | a81
            · simp
            rcases Decidable.em (jj = 80) with rfl | a80
            · simp
            rcases Decidable.em (jj = 79) with rfl | a79
            · simp
            rcases Decidable.em (jj = 78) with rfl | a78
            · simp
            rcases Decidable.em (jj = 77) with rfl | a77
            · simp
            rcases Decidable.em (jj = 76) with rfl | a76
            · simp
            rcases Decidable.em (jj = 75) with rfl | a75
            · simp
            rcases Decidable.em (jj = 74) with rfl | a74
            · simp
            rcases Decidable.em (jj = 73) with rfl | a73
            · simp
            rcases Decidable.em (jj = 72) with rfl | a72
            · simp
            rcases Decidable.em (jj = 71) with rfl | a71
            · simp
            rcases Decidable.em (jj = 70) with rfl | a70
            · simp
            rcases Decidable.em (jj = 69) with rfl | a69
            · simp
            rcases Decidable.em (jj = 68) with rfl | a68
            · simp
            rcases Decidable.em (jj = 67) with rfl | a67
            · simp
            rcases Decidable.em (jj = 66) with rfl | a66
            · simp
            simp [a2, a91, a90, a89, a88, a87, a86, a85, a84, a83, a82, a81, a80, a79, a78, a77, a76, a75, a74, a73, a72, a71, a70, a69, a68, a67, a66]
        · simp
      · simp [d2, dm]
        exact fun a b h => hMAn (a, b) h
end Go.Abs
end
