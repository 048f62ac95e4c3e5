/- Joined: AbsPY6. -/
import Derived.Test.YtbkhamjlfadfoaaDoorAbs28
set_option linter.all false
set_option linter.unusedVariables false
noncomputable section
namespace Go.Abs
open Go Go.Proofs
set_option maxRecDepth 100000
open Classical in
set_option maxHeartbeats 8000000 in
theorem law6 (z : Ask) (hB : ScnB z.s) (hpm : z.pm = true) : ∃ N, AnsN N Tryd.prog H14 6 [askV z] (.bool true) := by
  obtain ⟨N17, hN17⟩ := awake17
  obtain ⟨n, t, N, ho⟩ : ∃ n t N, MayS z → AskOk z n t N := by
    by_cases hm : MayS z
    · obtain ⟨n, t, N, h⟩ := askOk_ex hB hm
      exact ⟨n, t, N, fun _ => h⟩
    · exact ⟨0, 0, 0, fun h => absurd h hm⟩
  refine ⟨max (max N17 2000) (max (max (N) 100 + 3) 1111 + 1) + 1, AnsN.of (fn := Tryd.f6) (t := 2) (by rfl) Tryd.func6 rfl rfl (by rfl) (by rfl) fun k hk nx => ?_⟩
  have c17 := callP (k := k) hN17 (by omega) (by simp [ptrsL]) rfl
  have c16 := callP (k := k) (may16 (lentA z)) (by omega) (by simp [askV, askL, scL, ptrsL, ptrs, lentA, lentS, nil_uL]) rfl
  simp only [askV, askL, scL, lentA, lentS, List.length_map, List.cons_append, List.nil_append] at c16
  by_cases hm : MayS z
  case neg =>
    have e1 : decide (MayS (lentA z)) = false := by simp [MayS.lent, hm]
    simp only [lentA, lentS] at e1
    rw [e1] at c16
    simp [-reach, -doCall, doCall_eq, entryS, askV, askL, scL, c16, c17]
  have e1 : decide (MayS (lentA z)) = true := by simp [MayS.lent, hm]
  simp only [lentA, lentS] at e1
  rw [e1] at c16
  have o := ho hm
  have t1 := hB.T.c
  have t2 := hB.T.d
  have t3 := hB.T.t
  have hn := o.hn
  have ht := o.ht
  have vl := o.l
  have h13 := o.h13
  have h3 := o.h3
  have nb := noBorL_rs hB.T.r
  have c18 := fun A cap vs hl hv st m nx dst => o.call (k := k) (by omega) false A cap vs hl hv st m nx dst
  have c20 := fun v => callP (honest19 (lentS z.s) o.c v) (k := k) (by omega) (by simp [scV, scL, ptrsL, ptrs, lentS]) rfl
  have hcc : (lentS z.s).corrupt = z.s.corrupt := rfl
  simp only [hcc] at c20
  simp only [scV, scL, t1, t2, t3, hn, ht, lentS, List.length_map, vl] at c18 c20 c16
  obtain ⟨Z0, hZ0⟩ : ∃ Z0 : List V, [.int .u64 (z.s.p : Int), .int .i64 (n : Int), .int .i64 (t : Int), .im true z.s.cA z.s.ccap z.s.corrupt.length (iL z.s.corrupt), .im true z.s.dA z.s.dcap z.s.devs.length (devsV z.s.devs), .im true z.s.tA z.s.tcap z.s.tapes.length (rsV z.s.tapes), .im true z.A z.cap n (uL z.ws)] = Z0 := ⟨_, rfl⟩
  have hP := o.ph (t := t) (nx + 1) o.l o.w
  obtain ⟨hP1, hPr⟩ := hP.phases o.hn (by omega) (t + 1)
  obtain ⟨x, hx⟩ := phases_agree hP o.hn o.good o.hears
  obtain ⟨b, hb⟩ : ∃ b, phases n t ⟨nwO z.s (nx + 1), z.ws⟩ (t + 1) = b := ⟨_, rfl⟩
  have hb' : pkO z.s (nx + 1) n t z.ws = b := hb
  rw [hb] at hP1 hPr hx
  have hrd : b.σ.round = 3 * ((t : Int) + 1) := by
    have : b.σ.round = 0 + 3 * ((t + 1 : Nat) : Int) := hPr
    rw [this]; push_cast; omega
  obtain ⟨hP2, hPr2⟩ := hP1.phases o.hn (by omega) (t + 1)
  have hx2 := phases_valid hP1 o.hn o.good o.hears hx
  have hs1 : b.σ.scn = z.s := hP1.o.s
  have a22 := fun pm A cap => agree22 (g := 0) hP1.o.I hP1.o.T (hB.T.tbO (nx + 1)) pm A cap b.vs n t hP1.l (by rw [hs1, hn]) (by rw [hs1, ht]) (by omega) (by rw [hs1]; exact hP1.v) (by rw [hrd]; omega)
  have hbe : (⟨b.σ, b.vs⟩ : Ph) = b := rfl
  obtain ⟨c, hc⟩ : ∃ c, phases n t b (t + 1) = c := ⟨_, rfl⟩
  simp only [hbe, hc] at a22
  rw [hc] at hP2 hx2
  have hlt := agM_lt (s := z.s) (a := nx + 1) (σ := b.σ) hP1.o.tp
  have AO := nwO_A z.s (nx + 1) ⟨0, scL z.s⟩ ⟨0, scL z.s⟩
  rw [← hP1.o.tp] at AO
  have hd : ∀ e ∈ ([(nx, (⟨0, askL z⟩ : Box)), (nx + 1, ⟨0, scL z.s⟩), (nx + 1 + 1, ⟨0, scL z.s⟩)] ++ [] : List (Nat × Box)), e.1 ∉ (nx + 1 + 2) :: b.σ.tp := fun e he hx => by
    rw [List.append_nil] at he
    have h1 := (AO.t _ hx).1
    rcases List.mem_cons.1 he with rfl | he
    · exact absurd (show nx + 1 ≤ nx from h1) (by omega)
    · exact (AO.o e he).2.2 hx
  have c22 := fun pm A cap st dst => netCall (g := 0) (O1 := [(nx, ⟨0, askL z⟩), (nx + 1, ⟨0, scL z.s⟩), (nx + 1 + 1, ⟨0, scL z.s⟩)]) (O2 := []) hP1.o.I.hT hP1.o.I.hl hd (hP2.o.tp.trans hP1.o.tp.symm) (a22 pm A cap) (k := k) (by omega) (by simp [ptrsL, ptrs, nil_uL]) rfl (fun e he => (AO.t _ (net_keys hP1.o.I.hT e he)).2) st dst
  obtain ⟨M, hM⟩ : ∃ M, agM z.s (nx + 1) b.σ = M := ⟨_, rfl⟩
  rw [hM] at hlt
  obtain ⟨M2, hM2⟩ : ∃ M2, agM z.s (nx + 1) c.σ = M2 := ⟨_, rfl⟩
  have hlt2 := agM_lt (s := z.s) (a := nx + 1) (σ := c.σ) hP2.o.tp
  rw [hM2] at hlt2
  have e1 : [(nx, ⟨0, askL z⟩), (nx + 1, ⟨0, scL z.s⟩), (nx + 1 + 1, ⟨0, scL z.s⟩)] ++ ((nx + 1 + 2, ⟨0, netC b.σ⟩) :: tbO z.s (nx + 1)) = (nx, (⟨0, askL z⟩ : Box)) :: M := by rw [← hM]; rfl
  have e2 : [(nx, ⟨0, askL z⟩), (nx + 1, ⟨0, scL z.s⟩), (nx + 1 + 1, ⟨0, scL z.s⟩)] ++ ((nx + 1 + 2, ⟨0, netC c.σ⟩) :: tbO z.s (nx + 1)) = (nx, (⟨0, askL z⟩ : Box)) :: M2 := by rw [← hM2]; rfl
  simp only [List.append_nil] at c22
  simp only [e1, e2] at c22
  simp only [askL, scL, t1, t2, t3, hn, ht, vl, hpm, List.cons_append, List.nil_append] at c22
  replace c18 := fun A cap st m dst => c18 A cap z.ws vl o.w st m (nx + 1) dst
  simp only [hb', hM] at c18
  have bl := hP1.l
  have cl := hP2.l
  obtain ⟨I, hI⟩ : ∃ I : Nat → St → Prop, I = fun q D => ∃ (i : Nat), q = n - i ∧ i ≤ n ∧ D.s 1 = .bptr nx 0 ∧ D.s 3 = .im true none 0 n (uL b.vs) ∧ D.s 6 = .own .nil 0 n (uL c.vs) ∧ D.s 7 = .int .i64 ((i : Int) + 1) ∧ D.m = (nx, ⟨0, Z0⟩) :: M2 ∧ D.nx = nx + 1 + (3 + z.s.tapes.length) := ⟨_, rfl⟩
  simp [-reach, -doCall, doCall_eq, askV, askL, scL, t1, t2, t3, hn, ht, vl, hpm, noBorL_iL, noBorL_devs, nb, entryS, c16, c18, c22, cl]
  refine EvP.loop I (n := n) (by rw [hI]; exact ⟨0, by simp, by simp, by simp [hZ0]⟩) (by omega) fun q D hD => ?_
  rw [hI] at hD
  obtain ⟨i, rfl, hi, d1, d3, d6, d7, dm, dx⟩ := hD
  rw [← hZ0] at dm
  by_cases hil : i < n
  · have e3 := wrapi (x := (i : Int) + 1 + 1) (by omega) (by omega)
    have e4 := wrapi (x := (i : Int)) (by omega) (by omega)
    have g2 : (i : Int) + 1 ≤ (n : Int) := by omega
    have hib : i < b.vs.length := by omega
    have hic : i < c.vs.length := by omega
    have hub := uL_get hib
    have huc := uL_get hic
    have hucs : (uL c.vs)[i]? = some (.int .u64 (vF c.vs i : Int)) := uL_vF hic
    have hicu : i < (uL c.vs).length := by simp [uL]; omega
    have c20' := c20 ((i : Int) + 1)
    by_cases hh : hon z.s i = true
    · have hm : decide ((i : Int) + 1 ∉ z.s.corrupt) = true := hh
      rw [hm] at c20'
      rw [hx i hil hh] at hub
      rw [hx2 i hil hh] at huc hucs
      simp [-reach, -doCall, doCall_eq, askV, askL, scL, t1, t2, t3, hn, ht, vl, hpm, noBorL_iL, noBorL_devs, nb, d1, d3, d6, d7, dm, dx, hil, g2, bl, cl, c20', e3, e4, hub, huc, hucs, hicu, bne]
      subst hI
      exact ⟨n - (i + 1), by omega, i + 1, rfl, by omega, by simp [d1], by simp [d3], by simp [d6], by simp, by simp [dm, ← hZ0], by simp [dx]⟩
    · have hm : decide ((i : Int) + 1 ∉ z.s.corrupt) = false := by
        have : hon z.s i = false := by simpa using hh
        exact this
      rw [hm] at c20'
      simp [-reach, -doCall, doCall_eq, askV, askL, scL, t1, t2, t3, hn, ht, vl, hpm, noBorL_iL, noBorL_devs, nb, d1, d3, d6, d7, dm, dx, hil, g2, bl, cl, c20', e3, e4, hub, huc, hucs, hicu]
      subst hI
      exact ⟨n - (i + 1), by omega, i + 1, rfl, by omega, by simp [d1], by simp [d3], by simp [d6], by simp, by simp [dm, ← hZ0], by simp [dx]⟩
  · have hin : i = n := by omega
    subst hin
    have g2 : ¬ ((i : Int) + 1 ≤ (i : Int)) := by omega
    simp [-reach, -doCall, doCall_eq, askV, askL, scL, t1, t2, t3, hn, ht, vl, hpm, noBorL_iL, noBorL_devs, nb, d1, d3, d6, d7, dm, dx, g2, c17]
    rintro a b (⟨rfl, -⟩ | h)
    · exact Nat.le_refl _
    · have := (hlt2 (a, b) h).1
      have : nx + 1 ≤ a := this
      omega
end Go.Abs
end
