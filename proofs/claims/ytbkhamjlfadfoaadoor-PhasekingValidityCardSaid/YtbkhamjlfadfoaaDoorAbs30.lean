/- Joined: AbsPY4. -/
import Derived.Test.YtbkhamjlfadfoaaDoorAbs28
set_option linter.all false
set_option linter.unusedVariables false
noncomputable section
namespace Go.Abs
open Go Go.Proofs
set_option maxRecDepth 100000
open Classical in
set_option maxHeartbeats 8000000 in
theorem law4 (z : Ask) (hB : ScnB z.s) (hpm : z.pm = true) (x : Nat) : ∃ N, AnsN N Tryd.prog H14 4 [askV z, .int .u64 (x : Int)] (.bool true) := by
  obtain ⟨N17, hN17⟩ := awake17
  obtain ⟨n, t, N, ho⟩ : ∃ n t N, MayS z → AskOk z n t N := by
    by_cases hm : MayS z
    · obtain ⟨n, t, N, h⟩ := askOk_ex hB hm
      exact ⟨n, t, N, fun _ => h⟩
    · exact ⟨0, 0, 0, fun h => absurd h hm⟩
  refine ⟨max (max N17 2000) (max (max (N) 100 + 3) 1111 + 1) + 1, AnsN.of (fn := Tryd.f4) (t := 4) (by rfl) Tryd.func4 rfl rfl (by rfl) (by rfl) fun k hk nx => ?_⟩
  have c17 := callP (k := k) hN17 (by omega) (by simp [ptrsL]) rfl
  have c16 := callP (k := k) (may16 (lentA z)) (by omega) (by simp [askV, askL, scL, ptrsL, ptrs, lentA, lentS, nil_uL]) rfl
  simp only [askV, askL, scL, lentA, lentS, List.length_map, List.cons_append, List.nil_append] at c16
  by_cases hm : MayS z
  case neg =>
    have e1 : decide (MayS (lentA z)) = false := by simp [MayS.lent, hm]
    simp only [lentA, lentS] at e1
    rw [e1] at c16
    simp [-reach, -doCall, doCall_eq, entryS, askV, askL, scL, c16, c17]
  have e1 : decide (MayS (lentA z)) = true := by simp [MayS.lent, hm]
  simp only [lentA, lentS] at e1
  rw [e1] at c16
  have o := ho hm
  have t1 := hB.T.c
  have t2 := hB.T.d
  have t3 := hB.T.t
  have hn := o.hn
  have ht := o.ht
  have vl := o.l
  have h13 := o.h13
  have h3 := o.h3
  have nb := noBorL_rs hB.T.r
  have c18 := fun A cap vs hl hv st m nx dst => o.call (k := k) (by omega) false A cap vs hl hv st m nx dst
  have c20 := fun v => callP (honest19 (lentS z.s) o.c v) (k := k) (by omega) (by simp [scV, scL, ptrsL, ptrs, lentS]) rfl
  have hcc : (lentS z.s).corrupt = z.s.corrupt := rfl
  simp only [hcc] at c20
  simp only [scV, scL, t1, t2, t3, hn, ht, lentS, List.length_map, vl] at c18 c20 c16
  obtain ⟨Z0, hZ0⟩ : ∃ Z0 : List V, [.int .u64 (z.s.p : Int), .int .i64 (n : Int), .int .i64 (t : Int), .im true z.s.cA z.s.ccap z.s.corrupt.length (iL z.s.corrupt), .im true z.s.dA z.s.dcap z.s.devs.length (devsV z.s.devs), .im true z.s.tA z.s.tcap z.s.tapes.length (rsV z.s.tapes), .im true z.A z.cap n (uL z.ws)] = Z0 := ⟨_, rfl⟩
  by_cases hx : x < z.s.p
  case neg =>
    have hx1 : z.s.p ≤ x := by omega
    simp [-reach, -doCall, doCall_eq, askV, askL, scL, t1, t2, t3, hn, ht, vl, hpm, noBorL_iL, noBorL_devs, nb, entryS, c16, c17, hx1]
  have hx1 : ¬ z.s.p ≤ x := by omega
  obtain ⟨g, hg⟩ : ∃ g, setW z z.ws x = g := ⟨_, rfl⟩
  have hgl : ∀ i, ((List.range i).map g).length = i := fun i => by rw [List.length_map, List.length_range]
  have gvn := hgl n
  have hgv : ∀ y ∈ (List.range n).map g, y < z.s.p := fun y hy => by
    obtain ⟨f, hf, rfl⟩ := List.mem_map.1 hy
    rw [← hg]; unfold setW
    split
    · exact hx
    · exact vF_lt (by omega) o.w f
  have hP := o.ph (t := t) (nx + 1) gvn hgv
  obtain ⟨hP1, hPr⟩ := hP.phases o.hn (by omega) (t + 1)
  have hv := phases_valid hP o.hn o.good o.hears (x := x) (fun f hf hH => by
    show vF ((List.range n).map g) f = x
    rw [vF_map g hf, ← hg]; unfold setW; rw [if_pos hH])
  have hon1 : ∃ f, f < n ∧ hon z.s f = true := by
    obtain ⟨f, h1, h2⟩ := honest_king o.good
    exact ⟨f, by omega, h2⟩
  obtain ⟨b, hb⟩ : ∃ b, phases n t ⟨nwO z.s (nx + 1), (List.range n).map g⟩ (t + 1) = b := ⟨_, rfl⟩
  have hb' : pkO z.s (nx + 1) n t ((List.range n).map g) = b := hb
  rw [hb] at hP1 hv
  have c19 := fun pm A cap => callP (one19 (lentS z.s) o.c (n := n) o.hn o.h13 pm A cap b.vs hP1.l x hv hon1) (k := k) (by omega) (by simp [scV, scL, ptrsL, ptrs, lentS, nil_uL]) rfl
  have hlt := agM_lt (s := z.s) (a := nx + 1) (σ := b.σ) hP1.o.tp
  obtain ⟨M, hM⟩ : ∃ M, agM z.s (nx + 1) b.σ = M := ⟨_, rfl⟩
  rw [hM] at hlt
  have bl := hP1.l
  simp only [scV, scL, t1, t2, t3, hn, ht, lentS, List.length_map] at c19
  replace c18 := fun A cap st m dst => c18 A cap _ gvn hgv st m (nx + 1) dst
  simp only [hb', hM] at c18
  obtain ⟨I, hI⟩ : ∃ I : Nat → St → Prop, I = fun q D => ∃ (i : Nat) (L : List Nat), q = n - i ∧ i ≤ n ∧ L = (List.range i).map g ∧ D.s 1 = .int .u64 (x : Int) ∧ D.s 2 = .bptr nx 0 ∧ D.s 5 = .own .nil 0 i (uL L) ∧ D.s 6 = .int .i64 ((i : Int) + 1) ∧ D.m = [(nx, ⟨0, Z0⟩)] ∧ D.nx = nx + 1 := ⟨_, rfl⟩
  simp [-reach, -doCall, doCall_eq, askV, askL, scL, t1, t2, t3, hn, ht, vl, hpm, noBorL_iL, noBorL_devs, nb, entryS, c16, c17, hx1]
  refine EvP.loop I (n := n) (by rw [hI]; exact ⟨0, [], by simp, by simp, rfl, by simp [hZ0]; rfl⟩) (by omega) fun q D hD => ?_
  rw [hI] at hD
  obtain ⟨i, L, rfl, hi, hL, d1, d2, d5, d6, dm, dx⟩ := hD
  rw [← hZ0] at dm
  have hLl : L.length = i := by rw [hL]; exact hgl i
  by_cases hil : i < n
  · have e3 := wrapi (x := (i : Int) + 1 + 1) (by omega) (by omega)
    have e4 := wrapi (x := (i : Int)) (by omega) (by omega)
    have g2 : (i : Int) + 1 ≤ (n : Int) := by omega
    have f1 : (i + 1) * 8 ≤ 140737488355328 := by omega
    have f2 : i ≤ 140737488355327 := by omega
    have hiv : i < z.ws.length := by omega
    have hu2 := uL_get hiv
    have c20' := c20 ((i : Int) + 1)
    by_cases hh : hon z.s i = true
    · have hm : decide ((i : Int) + 1 ∉ z.s.corrupt) = true := hh
      rw [hm] at c20'
      have hgi : g i = x := by rw [← hg]; unfold setW; rw [if_pos hh]
      simp [-reach, -doCall, doCall_eq, askV, askL, scL, t1, t2, t3, hn, ht, vl, hpm, noBorL_iL, noBorL_devs, nb, d1, d2, d5, d6, dm, dx, hil, g2, hLl, c20', f1, f2, e3]
      subst hI
      exact ⟨n - (i + 1), by omega, i + 1, L ++ [g i], rfl, by omega, by rw [hL, List.range_succ, List.map_append]; rfl, by simp [d1], by simp [d2], by simp [hgi, uL], by simp, by simp [dm, ← hZ0], by simp [dx]⟩
    · have hm : decide ((i : Int) + 1 ∉ z.s.corrupt) = false := by
        have : hon z.s i = false := by simpa using hh
        exact this
      rw [hm] at c20'
      have hgi : g i = vF z.ws i := by rw [← hg]; unfold setW; rw [if_neg hh]
      simp [-reach, -doCall, doCall_eq, askV, askL, scL, t1, t2, t3, hn, ht, vl, hpm, noBorL_iL, noBorL_devs, nb, d1, d2, d5, d6, dm, dx, hil, g2, hLl, c20', f1, f2, e3, e4, hu2]
      subst hI
      exact ⟨n - (i + 1), by omega, i + 1, L ++ [g i], rfl, by omega, by rw [hL, List.range_succ, List.map_append]; rfl, by simp [d1], by simp [d2], by simp [hgi, uL], by simp, by simp [dm, ← hZ0], by simp [dx]⟩
  · have hin : i = n := by omega
    subst hin
    have g2 : ¬ ((i : Int) + 1 ≤ (i : Int)) := by omega
    rw [← hL] at c18
    simp [-reach, -doCall, doCall_eq, askV, askL, scL, t1, t2, t3, hn, ht, vl, hpm, noBorL_iL, noBorL_devs, nb, d1, d2, d5, d6, dm, dx, g2, c17, c18, c19, bl]
    rintro a b (⟨rfl, -⟩ | h)
    · exact Nat.le_refl _
    · have := (hlt (a, b) h).1
      have : nx + 1 ≤ a := this
      omega
end Go.Abs
end
