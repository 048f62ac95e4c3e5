/- Joined: AbsPY5. -/
import Derived.Test.YtbkhamjlfadfoaaDoorAbs28
set_option linter.all false
set_option linter.unusedVariables false
noncomputable section
namespace Go.Abs
open Go Go.Proofs
set_option maxRecDepth 100000
open Classical in
set_option maxHeartbeats 8000000 in
theorem law5 (z : Ask) (hB : ScnB z.s) (hpm : z.pm = true) : ∃ N, AnsN N Tryd.prog H14 5 [askV z] (.bool true) := by
  obtain ⟨N17, hN17⟩ := awake17
  obtain ⟨n, t, N, ho⟩ : ∃ n t N, MayS z → AskOk z n t N := by
    by_cases hm : MayS z
    · obtain ⟨n, t, N, h⟩ := askOk_ex hB hm
      exact ⟨n, t, N, fun _ => h⟩
    · exact ⟨0, 0, 0, fun h => absurd h hm⟩
  refine ⟨max (max N17 2000) (max (max (N) 100 + 3) 1111 + 1) + 1, AnsN.of (fn := Tryd.f5) (t := 2) (by rfl) Tryd.func5 rfl rfl (by rfl) (by rfl) fun k hk nx => ?_⟩
  have c17 := callP (k := k) hN17 (by omega) (by simp [ptrsL]) rfl
  have c16 := callP (k := k) (may16 (lentA z)) (by omega) (by simp [askV, askL, scL, ptrsL, ptrs, lentA, lentS, nil_uL]) rfl
  simp only [askV, askL, scL, lentA, lentS, List.length_map, List.cons_append, List.nil_append] at c16
  by_cases hm : MayS z
  case neg =>
    have e1 : decide (MayS (lentA z)) = false := by simp [MayS.lent, hm]
    simp only [lentA, lentS] at e1
    rw [e1] at c16
    simp [-reach, -doCall, doCall_eq, entryS, askV, askL, scL, c16, c17]
  have e1 : decide (MayS (lentA z)) = true := by simp [MayS.lent, hm]
  simp only [lentA, lentS] at e1
  rw [e1] at c16
  have o := ho hm
  have t1 := hB.T.c
  have t2 := hB.T.d
  have t3 := hB.T.t
  have hn := o.hn
  have ht := o.ht
  have vl := o.l
  have h13 := o.h13
  have h3 := o.h3
  have nb := noBorL_rs hB.T.r
  have c18 := fun A cap vs hl hv st m nx dst => o.call (k := k) (by omega) false A cap vs hl hv st m nx dst
  have c20 := fun v => callP (honest19 (lentS z.s) o.c v) (k := k) (by omega) (by simp [scV, scL, ptrsL, ptrs, lentS]) rfl
  have hcc : (lentS z.s).corrupt = z.s.corrupt := rfl
  simp only [hcc] at c20
  simp only [scV, scL, t1, t2, t3, hn, ht, lentS, List.length_map, vl] at c18 c20 c16
  have hP := o.ph (t := t) (nx + 1) o.l o.w
  obtain ⟨hP1, hPr⟩ := hP.phases o.hn (by omega) (t + 1)
  obtain ⟨b, hb⟩ : ∃ b, phases n t ⟨nwO z.s (nx + 1), z.ws⟩ (t + 1) = b := ⟨_, rfl⟩
  have hb' : pkO z.s (nx + 1) n t z.ws = b := hb
  rw [hb] at hP1 hPr
  have hrd : b.σ.round = 3 * ((t : Int) + 1) := by
    have : b.σ.round = 0 + 3 * ((t + 1 : Nat) : Int) := hPr
    rw [this]; push_cast; omega
  have hlt := agM_lt (s := z.s) (a := nx + 1) (σ := b.σ) hP1.o.tp
  have AO := nwO_A z.s (nx + 1) ⟨0, scL z.s⟩ ⟨0, scL z.s⟩
  rw [← hP1.o.tp] at AO
  have hd : ∀ e ∈ ([(nx, (⟨0, askL z⟩ : Box)), (nx + 1, ⟨0, scL z.s⟩), (nx + 1 + 1, ⟨0, scL z.s⟩)] ++ [] : List (Nat × Box)), e.1 ∉ (nx + 1 + 2) :: b.σ.tp := fun e he hx => by
    rw [List.append_nil] at he
    have h1 := (AO.t _ hx).1
    rcases List.mem_cons.1 he with rfl | he
    · exact absurd (show nx + 1 ≤ nx from h1) (by omega)
    · exact (AO.o e he).2.2 hx
  have c21 := fun st dst => netCall (g := 0) (O1 := [(nx, ⟨0, askL z⟩), (nx + 1, ⟨0, scL z.s⟩), (nx + 1 + 1, ⟨0, scL z.s⟩)]) (O2 := []) hP1.o.I.hT hP1.o.I.hl hd rfl (rounds26 (nx + 1 + 2) 0 b.σ (tbO z.s (nx + 1)) hP1.o.I.hT) (k := k) (by omega) (by simp [ptrsL, ptrs]) rfl (fun e he => (AO.t _ (net_keys hP1.o.I.hT e he)).2) st dst
  rw [hrd] at c21
  obtain ⟨M, hM⟩ : ∃ M, agM z.s (nx + 1) b.σ = M := ⟨_, rfl⟩
  rw [hM] at hlt
  have hM2 : [(nx, ⟨0, askL z⟩), (nx + 1, ⟨0, scL z.s⟩), (nx + 1 + 1, ⟨0, scL z.s⟩)] ++ ((nx + 1 + 2, ⟨0, netC b.σ⟩) :: tbO z.s (nx + 1)) = (nx, (⟨0, askL z⟩ : Box)) :: M := by rw [← hM]; rfl
  rw [List.append_nil, List.append_nil, hM2] at c21
  simp only [askL, scL, t1, t2, t3, hn, ht, vl, hpm, List.cons_append, List.nil_append] at c21
  replace c18 := fun A cap st m dst => c18 A cap z.ws vl o.w st m (nx + 1) dst
  simp only [hb', hM] at c18
  have w1 : IntKind.i64.wrap ((t : Int) + 1) = (t : Int) + 1 := wrapi (by omega) (by omega)
  have w2 : IntKind.i64.wrap (3 * ((t : Int) + 1)) = 3 * ((t : Int) + 1) := wrapi (by omega) (by omega)
  simp [-reach, -doCall, doCall_eq, askV, askL, scL, t1, t2, t3, hn, ht, vl, hpm, noBorL_iL, noBorL_devs, nb, entryS, -EvK_app, c16]
  rw [EvK_app]
  simp [-reach, -doCall, doCall_eq, askV, askL, scL, t1, t2, t3, hn, ht, vl, hpm, noBorL_iL, noBorL_devs, nb, -EvK_app, c16]
  rw [EvK_app]
  simp [-reach, -doCall, doCall_eq, askV, askL, scL, t1, t2, t3, hn, ht, vl, hpm, noBorL_iL, noBorL_devs, nb, -EvK_app, c16]
  rw [EvK_app]
  simp [-reach, -doCall, doCall_eq, askV, askL, scL, t1, t2, t3, hn, ht, vl, hpm, noBorL_iL, noBorL_devs, nb, -EvK_app, c18]
  refine EvK_cut (fun D => D.s 1 = .bptr nx 0 ∧ D.s 4 = .bptr (nx + 1 + 2) 0 ∧ D.s 5 = .bool true ∧ D.m = (nx, ⟨0, [.int .u64 (z.s.p : Int), .int .i64 (n : Int), .int .i64 (t : Int), .im true z.s.cA z.s.ccap z.s.corrupt.length (iL z.s.corrupt), .im true z.s.dA z.s.dcap z.s.devs.length (devsV z.s.devs), .im true z.s.tA z.s.tcap z.s.tapes.length (rsV z.s.tapes), .im true z.A z.cap n (uL z.ws)]⟩) :: M ∧ D.nx = nx + 1 + (3 + z.s.tapes.length)) (by simp) fun D ⟨d1, d4, d5, dm, dx⟩ => ?_
  refine EvP.seqG (fun D => D.s 2 = .bool true ∧ D.m = (nx, ⟨0, [.int .u64 (z.s.p : Int), .int .i64 (n : Int), .int .i64 (t : Int), .im true z.s.cA z.s.ccap z.s.corrupt.length (iL z.s.corrupt), .im true z.s.dA z.s.dcap z.s.devs.length (devsV z.s.devs), .im true z.s.tA z.s.tcap z.s.tapes.length (rsV z.s.tapes), .im true z.A z.cap n (uL z.ws)]⟩) :: M) ?_ fun D ⟨d2, dm⟩ => ?_
  · refine EvP.drawT rfl ?_
    apply drawT_ex
    apply Exists.intro
    apply Exists.intro
    apply Exists.intro
    apply And.intro
    · intro P hP
      simp only [paths, List.map_cons, List.map_nil, List.cons_append, List.nil_append, List.mem_cons, List.not_mem_nil, or_false] at hP
      rcases hP with rfl | rfl | rfl | rfl
      · simp [-reach, -doCall, doCall_eq, askV, askL, scL, t1, t2, t3, hn, ht, vl, hpm, noBorL_iL, noBorL_devs, nb, d1, d4, d5, dm, dx, c17, c21, w1, w2]
        exact ⟨fun jj => rfl, rfl, rfl⟩
      all_goals
        simp [-reach, -doCall, doCall_eq, askV, askL, scL, t1, t2, t3, hn, ht, vl, hpm, noBorL_iL, noBorL_devs, nb, d1, d4, d5, dm, dx, c17, c21, w1, w2]
        refine ⟨fun jj => ?_, rfl, rfl⟩
        rcases Decidable.em (jj = 2) with rfl | a2
        · simp
        rcases Decidable.em (jj = 33) with rfl | a33
        · simp
        rcases Decidable.em (jj = 32) with rfl | a32
        · simp
        rcases Decidable.em (jj = 31) with rfl | a31
        · simp
        rcases Decidable.em (jj = 30) with rfl | a30
        · simp
        rcases Decidable.em (jj = 29) with rfl | a29
        · simp
        rcases Decidable.em (jj = 28) with rfl | a28
        · simp
        rcases Decidable.em (jj = 27) with rfl | a27
        · simp
        rcases Decidable.em (jj = 26) with rfl | a26
        · simp
        rcases Decidable.em (jj = 25) with rfl | a25
        · simp
        rcases Decidable.em (jj = 24) with rfl | a24
        · simp
        rcases Decidable.em (jj = 23) with rfl | a23
        · simp
        rcases Decidable.em (jj = 22) with rfl | a22
        · simp
        rcases Decidable.em (jj = 21) with rfl | a21
        · simp
        rcases Decidable.em (jj = 20) with rfl | a20
        · simp
        rcases Decidable.em (jj = 19) with rfl | a19
        · simp
        simp [a2, a33, a32, a31, a30, a29, a28, a27, a26, a25, a24, a23, a22, a21, a20, a19]
    · simp
  · simp [d2, dm]
    rintro a b (⟨rfl, -⟩ | h)
    · exact Nat.le_refl _
    · have := (hlt (a, b) h).1
      have : nx + 1 ≤ a := this
      omega
end Go.Abs
end
