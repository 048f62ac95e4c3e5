/- Joined: AbsPY12. -/
import Derived.Test.YtbkhamjlfadfoaaDoorAbs105
set_option linter.all false
set_option linter.unusedVariables false
noncomputable section
namespace Go.Abs
open Go Go.Proofs
set_option maxRecDepth 100000
open Classical in
set_option maxHeartbeats 8000000 in
theorem law12 (z : Play) (hw : ScnB z.s ∧ z.pm = true ∧ z.pl = true ∧ ∀ r ∈ z.rs, r.pm = true) : ∃ N, AnsN N Tryd.prog H14 12 [playV z] (.bool true) := by
  obtain ⟨hB, hpm, hpl, hrp⟩ := hw
  obtain ⟨N30, hN30⟩ := awake30
  obtain ⟨n, t, N, ho⟩ : ∃ n t N, PlayS z → PlayOk z n t N := by
    by_cases hm : PlayS z
    · obtain ⟨n, t, N, h⟩ := playOk_ex hB hm
      exact ⟨n, t, N, fun _ => h⟩
    · exact ⟨0, 0, 0, fun h => absurd h hm⟩
  refine ⟨max (max N30 100300) (max (N) 1200 + 5) + 1, AnsN.of (fn := Tryd.f12) (t := 2) (by rfl) Tryd.func12 rfl rfl (by rfl) (by rfl) fun k hk nx => ?_⟩
  have c30 := callP (k := k) hN30 (by omega) (by simp [ptrsL]) rfl
  have c31 := callP (k := k) (fair31 (lentP z)) (by omega) (by simp [playV, playL, scL, ptrsL, ptrs, lentP, lentS]) rfl
  have e1 : decide (PlayS (lentP z)) = decide (PlayS z) := decide_eq_decide.2 PlayS.lent
  rw [e1] at c31
  simp only [playV, playL, scL, lentP, lentS, List.length_map, List.cons_append, List.nil_append] at c31
  by_cases hm : PlayS z
  case neg =>
    rw [decide_eq_false hm] at c31
    simp [-reach, -doCall, doCall_eq, entryS, playV, playL, scL, c30, c31]
  rw [decide_eq_true hm] at c31
  have o := ho hm
  have t1 := hB.T.c
  have t2 := hB.T.d
  have t3 := hB.T.t
  have hn := o.hn
  have ht := o.ht
  have lr := o.lr
  have ll := o.ll
  have h5 := o.h5
  have h3 := o.h3
  have nb := noBorL_rs hB.T.r
  have hnl : (z.s.tapes.length : Int) = z.s.n := o.s.2.1
  obtain ⟨cP, hcP⟩ : ∃ cP : Box, (⟨0, [.int .u64 (z.s.p : Int), .int .i64 (n : Int), .int .i64 (t : Int), .im true z.s.cA z.s.ccap z.s.corrupt.length (iL z.s.corrupt), .im true z.s.dA z.s.dcap z.s.devs.length (devsV z.s.devs), .im true z.s.tA z.s.tcap z.s.tapes.length (rsV z.s.tapes), .im true z.A z.cap n (rsV z.rs), .im true z.Al z.cl n (iL z.ls)]⟩ : Box) = cP := ⟨_, rfl⟩
  have hcs : cP.cs = [.int .u64 (z.s.p : Int), .int .i64 (n : Int), .int .i64 (t : Int), .im true z.s.cA z.s.ccap z.s.corrupt.length (iL z.s.corrupt), .im true z.s.dA z.s.dcap z.s.devs.length (devsV z.s.devs), .im true z.s.tA z.s.tcap z.s.tapes.length (rsV z.s.tapes), .im true z.A z.cap n (rsV z.rs), .im true z.Al z.cl n (iL z.ls)] := by rw [← hcP]
  obtain ⟨cS, hcS⟩ : ∃ cS : Box, (⟨0, scL z.s⟩ : Box) = cS := ⟨_, rfl⟩
  have c32 := fun st dst => o.new (nx := nx) (k := k) (by omega) cP st dst
  have c33 := fun A Al cap cl st dst => o.bcall A Al cap cl nx (k := k) (by omega) cP cS st dst
  obtain ⟨hfin, hrd⟩ := o.fin nx
  have AO : Around nx (nx + 2) (pEnd z nx n t).σ.tp cP [(nx, cP), (nx + 1, cS)] (nx + (3 + z.s.tapes.length)) := by rw [hfin.tp]; exact nwO_A z.s nx cP cS
  rw [hcS] at c32
  obtain ⟨W0, hW0⟩ : ∃ W0, [(nx, cP), (nx + 1, cS)] ++ (nx + 2, (⟨0, netC (nwO z.s nx)⟩ : Box)) :: tbO z.s nx = W0 := ⟨_, rfl⟩
  obtain ⟨W1, hW1⟩ : ∃ W1, [(nx, cP), (nx + 1, cS)] ++ (nx + 2, (⟨0, netC (pEnd z nx n t).σ⟩ : Box)) :: tbO z.s nx = W1 := ⟨_, rfl⟩
  have g0 : getBox W0 nx = some cP := by rw [← hW0]; simp [getBox]
  have g1 : getBox W1 nx = some cP := by rw [← hW1]; exact AO.get
  have hall : ∀ e ∈ W1, nx ≤ e.1 := fun e he => (AO.mem hfin.I.hT e (by rw [hW1]; exact he)).1
  rw [hW0] at c32
  rw [hW0, hW1] at c33
  simp only [scV, scL, t1, t2, t3, hn, ht, List.length_map, lr, ll] at c32 c31
  have c21 := fun st dst => AO.call hfin.I.hT hfin.I.hl rfl (rounds26 (nx + 2) 0 (pEnd z nx n t).σ (tbO z.s nx) hfin.I.hT) (k := k) (by omega) (by simp [ptrsL, ptrs]) rfl st dst
  rw [hW1, hrd] at c21
  have c38 := fun A cap => callP (total38 false A cap z.ls (by omega)) (k := k) (by omega) (by simp [ptrsL, ptrs]) rfl
  rw [ll, o.t0] at c38
  have ht01 : t = 0 ∨ t = 1 := by omega
  have ht4 := o.t4
  obtain ⟨m, hm0⟩ : ∃ m, sumL (lnF z.ls) n = m := ⟨_, rfl⟩
  rw [hm0] at c21 c38 ht4
  have w1 : IntKind.i64.wrap ((m : Int) * 3) = (m : Int) * 3 := wrapi (by omega) (by omega)
  have w2 : IntKind.i64.wrap ((t : Int) + 1) = (t : Int) + 1 := wrapi (by omega) (by omega)
  have w3 : IntKind.i64.wrap ((m : Int) * 3 * ((t : Int) + 1)) = (m : Int) * 3 * ((t : Int) + 1) := by rcases ht01 with h | h <;> rw [h] <;> exact wrapi (by omega) (by omega)
  have w4 : IntKind.i64.wrap (1 + (m : Int) * 3 * ((t : Int) + 1)) = 1 + (m : Int) * 3 * ((t : Int) + 1) := by rcases ht01 with h | h <;> rw [h] <;> exact wrapi (by omega) (by omega)
  have hfe : (1 : Int) + 3 * ((t + 1 : Nat) : Int) * (m : Int) = 1 + (m : Int) * 3 * ((t : Int) + 1) := by rcases ht01 with h | h <;> rw [h] <;> omega
  rw [hfe] at c21
  simp [-reach, -doCall, doCall_eq, playV, playL, scL, t1, t2, t3, hn, ht, lr, ll, hpm, hpl, noBorL_iL, noBorL_devs, nb, -EvK_app, entryS]
  rw [EvK_app]
  simp [-reach, -doCall, doCall_eq, playV, playL, scL, t1, t2, t3, hn, ht, lr, ll, hpm, hpl, noBorL_iL, noBorL_devs, nb, -EvK_app, c30]
  rw [EvK_app]
  simp [-reach, -doCall, doCall_eq, playV, playL, scL, t1, t2, t3, hn, ht, lr, ll, hpm, hpl, noBorL_iL, noBorL_devs, nb, -EvK_app, c30]
  refine EvK_cut (fun D => D.s 1 = .bptr nx 0 ∧ D.m = [(nx, cP)] ∧ D.nx = nx + 1) (by simp [← hcP]) fun D ⟨d1, dm, dx⟩ => ?_
  simp [-reach, -doCall, doCall_eq, playV, playL, scL, t1, t2, t3, hn, ht, lr, ll, hpm, hpl, noBorL_iL, noBorL_devs, nb, -EvK_app, d1, dm, dx, hcs, c31]
  rw [EvK_app]
  simp [-reach, -doCall, doCall_eq, playV, playL, scL, t1, t2, t3, hn, ht, lr, ll, hpm, hpl, noBorL_iL, noBorL_devs, nb, -EvK_app, d1, dm, dx, hcs, c32]
  rw [EvK_app]
  simp [-reach, -doCall, doCall_eq, playV, playL, scL, t1, t2, t3, hn, ht, lr, ll, hpm, hpl, noBorL_iL, noBorL_devs, nb, -EvK_app, d1, dm, dx, hcs, c32]
  refine EvK_cut (fun D => D.s 1 = .bptr nx 0 ∧ D.s 3 = .bptr (nx + 2) 0 ∧ D.s 4 = .int .i64 0 ∧ D.m = W0 ∧ D.nx = nx + (3 + z.s.tapes.length)) (by simp [d1]) fun D ⟨d1, d3, d4, dm, dx⟩ => ?_
  simp [-reach, -doCall, doCall_eq, playV, playL, scL, t1, t2, t3, hn, ht, lr, ll, hpm, hpl, noBorL_iL, noBorL_devs, nb, -EvK_app, d1, d3, d4, dm, dx, g0, hcs, c33]
  rw [EvK_app]
  simp [-reach, -doCall, doCall_eq, playV, playL, scL, t1, t2, t3, hn, ht, lr, ll, hpm, hpl, noBorL_iL, noBorL_devs, nb, -EvK_app, d1, d3, d4, dm, dx]
  rw [EvK_app]
  simp [-reach, -doCall, doCall_eq, playV, playL, scL, t1, t2, t3, hn, ht, lr, ll, hpm, hpl, noBorL_iL, noBorL_devs, nb, -EvK_app, d1, d3, d4, dm, dx, g0, hcs, c33]
  refine EvK_cut (fun D => D.s 1 = .bptr nx 0 ∧ D.s 3 = .bptr (nx + 2) 0 ∧ D.m = W1 ∧ D.nx = nx + (3 + z.s.tapes.length)) (by simp [d1, d3]) fun D ⟨d1, d3, dm, dx⟩ => ?_
  refine EvP.seqG (fun D => D.s 2 = .bool true ∧ D.m = W1) ?_ fun D ⟨d2, dm⟩ => ?_
  · refine EvP.drawT rfl ?_
    apply drawT_ex
    apply Exists.intro
    apply Exists.intro
    apply Exists.intro
    apply And.intro
    · intro P hP
      simp only [paths, List.map_cons, List.map_nil, List.cons_append, List.nil_append, List.mem_cons, List.not_mem_nil, or_false] at hP
      rcases hP with rfl | hP
      · simp [-reach, -doCall, doCall_eq, playV, playL, scL, t1, t2, t3, hn, ht, lr, ll, hpm, hpl, noBorL_iL, noBorL_devs, nb, d1, d3, dm, dx, g1, hcs, c21, c38, w1, w2, w3, w4]
        exact ⟨fun jj => rfl, rfl, rfl⟩
      · repeat' (rcases hP with rfl | hP)
        all_goals try subst hP
        all_goals
          simp [-reach, -doCall, doCall_eq, playV, playL, scL, t1, t2, t3, hn, ht, lr, ll, hpm, hpl, noBorL_iL, noBorL_devs, nb, d1, d3, dm, dx, g1, hcs, c21, c38, w1, w2, w3, w4]
          refine ⟨fun jj => ?_, rfl, rfl⟩
          rcases Decidable.em (jj = 2) with rfl | a2
          · simp
          rcases Decidable.em (jj = 24) with rfl | a24
          · simp
          rcases Decidable.em (jj = 25) with rfl | a25
          · simp
          rcases Decidable.em (jj = 26) with rfl | a26
          · simp
          rcases Decidable.em (jj = 27) with rfl | a27
          · simp
          rcases Decidable.em (jj = 28) with rfl | a28
          · simp
          rcases Decidable.em (jj = 29) with rfl | a29
          · simp
          rcases Decidable.em (jj = 30) with rfl | a30
          · simp
          rcases Decidable.em (jj = 31) with rfl | a31
          · simp
          rcases Decidable.em (jj = 32) with rfl | a32
          · simp
          rcases Decidable.em (jj = 33) with rfl | a33
          · simp
          rcases Decidable.em (jj = 34) with rfl | a34
          · simp
          rcases Decidable.em (jj = 35) with rfl | a35
          · simp
          rcases Decidable.em (jj = 36) with rfl | a36
          · simp
          rcases Decidable.em (jj = 37) with rfl | a37
          · simp
          simp [a2, a24, a25, a26, a27, a28, a29, a30, a31, a32, a33, a34, a35, a36, a37, kill_comm]
    · simp
  · simp [d2, dm]
    exact fun a b h => hall (a, b) h
end Go.Abs
end
