/- Joined: AbsPY9. -/
import Derived.Test.YtbkhamjlfadfoaaDoorAbs28
set_option linter.all false
set_option linter.unusedVariables false
noncomputable section
namespace Go.Abs
open Go Go.Proofs
set_option maxRecDepth 100000
open Classical in
set_option maxHeartbeats 8000000 in
theorem law9 (z : Ask) (hB : ScnB z.s) (hpm : z.pm = true) (A1 : Option Addr) (c1 : Nat) (us : List Nat) (x : Nat) : ∃ N, AnsN N Tryd.prog H14 9 [askV z, .im true A1 c1 us.length (uL us), .int .u64 (x : Int)] (.bool true) := by
  obtain ⟨N17, hN17⟩ := awake17
  obtain ⟨n, t, N, ho⟩ : ∃ n t N, MayS z → AskOk z n t N := by
    by_cases hm : MayS z
    · obtain ⟨n, t, N, h⟩ := askOk_ex hB hm
      exact ⟨n, t, N, fun _ => h⟩
    · exact ⟨0, 0, 0, fun h => absurd h hm⟩
  refine ⟨max (max N17 2000) (max (max (N) 100 + 3) 1111 + 1) + 1, AnsN.of (fn := Tryd.f9) (t := 6) (by rfl) Tryd.func9 rfl rfl (by rfl) (by rfl) fun k hk nx => ?_⟩
  have c17 := callP (k := k) hN17 (by omega) (by simp [ptrsL]) rfl
  have c16 := callP (k := k) (may16 (lentA z)) (by omega) (by simp [askV, askL, scL, ptrsL, ptrs, lentA, lentS, nil_uL]) rfl
  simp only [askV, askL, scL, lentA, lentS, List.length_map, List.cons_append, List.nil_append] at c16
  by_cases hm : MayS z
  case neg =>
    have e1 : decide (MayS (lentA z)) = false := by simp [MayS.lent, hm]
    simp only [lentA, lentS] at e1
    rw [e1] at c16
    simp [-reach, -doCall, doCall_eq, entryS, askV, askL, scL, c16, c17]
  have e1 : decide (MayS (lentA z)) = true := by simp [MayS.lent, hm]
  simp only [lentA, lentS] at e1
  rw [e1] at c16
  have o := ho hm
  have t1 := hB.T.c
  have t2 := hB.T.d
  have t3 := hB.T.t
  have hn := o.hn
  have ht := o.ht
  have vl := o.l
  have h13 := o.h13
  have h3 := o.h3
  have nb := noBorL_rs hB.T.r
  have c18 := fun A cap vs hl hv st m nx dst => o.call (k := k) (by omega) false A cap vs hl hv st m nx dst
  have c20 := fun v => callP (honest19 (lentS z.s) o.c v) (k := k) (by omega) (by simp [scV, scL, ptrsL, ptrs, lentS]) rfl
  have hcc : (lentS z.s).corrupt = z.s.corrupt := rfl
  simp only [hcc] at c20
  simp only [scV, scL, t1, t2, t3, hn, ht, lentS, List.length_map, vl] at c18 c20 c16
  obtain ⟨Z0, hZ0⟩ : ∃ Z0 : List V, [.int .u64 (z.s.p : Int), .int .i64 (n : Int), .int .i64 (t : Int), .im true z.s.cA z.s.ccap z.s.corrupt.length (iL z.s.corrupt), .im true z.s.dA z.s.dcap z.s.devs.length (devsV z.s.devs), .im true z.s.tA z.s.tcap z.s.tapes.length (rsV z.s.tapes), .im true z.A z.cap n (uL z.ws)] = Z0 := ⟨_, rfl⟩
  obtain ⟨z', hz'⟩ : ∃ z' : Ask, ({ z with pm := true, A := A1, cap := c1, ws := us } : Ask) = z' := ⟨_, rfl⟩
  have c16b := callP (k := k) (may16 (lentA ({ z with pm := true, A := A1, cap := c1, ws := us } : Ask))) (by omega) (by simp [askV, askL, scL, ptrsL, ptrs, lentA, lentS, nil_uL]) rfl
  have e2 : decide (MayS (lentA ({ z with pm := true, A := A1, cap := c1, ws := us } : Ask))) = decide (MayS z') := by rw [hz']; simp [MayS.lent]
  rw [e2] at c16b
  simp only [askV, askL, scL, lentA, lentS, List.length_map, List.cons_append, List.nil_append, t1, t2, t3, hn, ht] at c16b
  by_cases hm2 : MayS z'
  case neg =>
    rw [decide_eq_false hm2] at c16b
    simp [-reach, -doCall, doCall_eq, askV, askL, scL, t1, t2, t3, hn, ht, vl, hpm, noBorL_iL, noBorL_devs, nb, entryS, c16, c16b, c17]
  rw [decide_eq_true hm2] at c16b
  by_cases hx : x < z.s.p
  case neg =>
    have hx1 : z.s.p ≤ x := by omega
    simp [-reach, -doCall, doCall_eq, askV, askL, scL, t1, t2, t3, hn, ht, vl, hpm, noBorL_iL, noBorL_devs, nb, entryS, c16, c16b, c17, hx1]
  have hx1 : ¬ z.s.p ≤ x := by omega
  have ul : us.length = n := by
    have h := hm2.2.1
    rw [← hz'] at h
    have h : (us.length : Int) = z.s.n := h
    omega
  have uw : ∀ y ∈ us, y < z.s.p := by
    have h := hm2.2.2.2
    rw [← hz'] at h
    exact h
  rw [ul] at c16b
  obtain ⟨g, hg⟩ : ∃ g, setW z z.ws x = g := ⟨_, rfl⟩
  obtain ⟨g', hg'⟩ : ∃ g, setW z us x = g := ⟨_, rfl⟩
  have hgl : ∀ (g : Nat → Nat) i, ((List.range i).map g).length = i := fun g i => by rw [List.length_map, List.length_range]
  have hgv : ∀ (ws : List Nat), (∀ y ∈ ws, y < z.s.p) → ∀ y ∈ (List.range n).map (setW z ws x), y < z.s.p := fun ws hw y hy => by
    obtain ⟨f, hf, rfl⟩ := List.mem_map.1 hy
    unfold setW
    split
    · exact hx
    · exact vF_lt (by omega) hw f
  have hst : ∀ (ws : List Nat) f, f < n → hon z.s f = true → vF ((List.range n).map (setW z ws x)) f = x := fun ws f hf hH => by
    rw [vF_map _ hf]; unfold setW; rw [if_pos hH]
  have hP := o.ph (t := t) (nx + 1) (hgl g n) (hg ▸ hgv z.ws o.w)
  obtain ⟨hP1, hPr⟩ := hP.phases o.hn (by omega) (t + 1)
  have hv := phases_valid hP o.hn o.good o.hears (x := x) (fun f hf hH => by rw [← hg]; exact hst z.ws f hf hH)
  obtain ⟨y0, hy0⟩ : ∃ y, nx + 1 + (3 + z.s.tapes.length) = y := ⟨_, rfl⟩
  have hQ := o.ph (t := t) y0 (hgl g' n) (hg' ▸ hgv us uw)
  obtain ⟨hQ1, hQr⟩ := hQ.phases o.hn (by omega) (t + 1)
  have hv2 := phases_valid hQ o.hn o.good o.hears (x := x) (fun f hf hH => by rw [← hg']; exact hst us f hf hH)
  obtain ⟨b, hb⟩ : ∃ b, phases n t ⟨nwO z.s (nx + 1), (List.range n).map g⟩ (t + 1) = b := ⟨_, rfl⟩
  have hb' : pkO z.s (nx + 1) n t ((List.range n).map g) = b := hb
  obtain ⟨c, hc⟩ : ∃ c, phases n t ⟨nwO z.s y0, (List.range n).map g'⟩ (t + 1) = c := ⟨_, rfl⟩
  have hc' : pkO z.s y0 n t ((List.range n).map g') = c := hc
  rw [hb] at hP1 hv
  rw [hc] at hQ1 hv2
  have bl := hP1.l
  have cl := hQ1.l
  have hlt := agM_lt (s := z.s) (a := nx + 1) (σ := b.σ) hP1.o.tp
  have hlt2 := agM_lt (s := z.s) (a := y0) (σ := c.σ) hQ1.o.tp
  obtain ⟨M, hM⟩ : ∃ M, agM z.s (nx + 1) b.σ = M := ⟨_, rfl⟩
  obtain ⟨M2, hM2⟩ : ∃ M, agM z.s y0 c.σ = M := ⟨_, rfl⟩
  rw [hM] at hlt
  rw [hM2] at hlt2
  have c18a := fun A cap st m dst => c18 A cap _ (hgl g n) (hg ▸ hgv z.ws o.w) st m (nx + 1) dst
  have c18b := fun A cap st m dst => c18 A cap _ (hgl g' n) (hg' ▸ hgv us uw) st m y0 dst
  simp only [hb', hM, hy0] at c18a
  simp only [hc', hM2] at c18b
  obtain ⟨I, hI⟩ : ∃ I : Nat → St → Prop, I = fun q D => ∃ (i : Nat) (L L' : List Nat), q = n - i ∧ i ≤ n ∧ L = (List.range i).map g ∧ L' = (List.range i).map g' ∧ D.s 1 = .im true A1 c1 n (uL us) ∧ D.s 2 = .int .u64 (x : Int) ∧ D.s 3 = .bptr nx 0 ∧ D.s 7 = .own .nil 0 i (uL L) ∧ D.s 8 = .own .nil 0 i (uL L') ∧ D.s 9 = .int .i64 ((i : Int) + 1) ∧ D.m = [(nx, ⟨0, Z0⟩)] ∧ D.nx = nx + 1 := ⟨_, rfl⟩
  have unl : uL [] = [] := rfl
  simp [-reach, -doCall, doCall_eq, askV, askL, scL, t1, t2, t3, hn, ht, vl, hpm, noBorL_iL, noBorL_devs, nb, entryS, c16, c16b, c17, hx1, ul]
  refine EvP.loop I (n := n) (by rw [hI]; exact ⟨0, [], [], by simp, by simp, rfl, rfl, by simp [hZ0, unl]⟩) (by omega) fun q D hD => ?_
  rw [hI] at hD
  obtain ⟨i, L, L', rfl, hi, hL, hL', d1, d2, d3, d7, d8, d9, dm, dx⟩ := hD
  rw [← hZ0] at dm
  have hLl : L.length = i := by rw [hL]; exact hgl g i
  have hLl' : L'.length = i := by rw [hL']; exact hgl g' i
  by_cases hil : i < n
  · have e3 := wrapi (x := (i : Int) + 1 + 1) (by omega) (by omega)
    have e4 := wrapi (x := (i : Int)) (by omega) (by omega)
    have g2 : (i : Int) + 1 ≤ (n : Int) := by omega
    have f1 : (i + 1) * 8 ≤ 140737488355328 := by omega
    have f2 : i ≤ 140737488355327 := by omega
    have hiv : i < z.ws.length := by omega
    have hiu : i < us.length := by omega
    have hu2 := uL_get hiv
    have hu3 := uL_get hiu
    have c20' := c20 ((i : Int) + 1)
    by_cases hh : hon z.s i = true
    · have hm : decide ((i : Int) + 1 ∉ z.s.corrupt) = true := hh
      rw [hm] at c20'
      have hgi : g i = x := by rw [← hg]; unfold setW; rw [if_pos hh]
      have hgi' : g' i = x := by rw [← hg']; unfold setW; rw [if_pos hh]
      simp [-reach, -doCall, doCall_eq, askV, askL, scL, t1, t2, t3, hn, ht, vl, hpm, noBorL_iL, noBorL_devs, nb, d1, d2, d3, d7, d8, d9, dm, dx, hil, g2, hLl, hLl', c20', f1, f2, e3]
      subst hI
      exact ⟨n - (i + 1), by omega, i + 1, L ++ [g i], L' ++ [g' i], rfl, by omega, by rw [hL, List.range_succ, List.map_append]; rfl, by rw [hL', List.range_succ, List.map_append]; rfl, by simp [d1], by simp [d2], by simp [d3], by simp [hgi, uL], by simp [hgi', uL], by simp, by simp [dm, ← hZ0], by simp [dx]⟩
    · have hm : decide ((i : Int) + 1 ∉ z.s.corrupt) = false := by
        have : hon z.s i = false := by simpa using hh
        exact this
      rw [hm] at c20'
      have hgi : g i = vF z.ws i := by rw [← hg]; unfold setW; rw [if_neg hh]
      have hgi' : g' i = vF us i := by rw [← hg']; unfold setW; rw [if_neg hh]
      simp [-reach, -doCall, doCall_eq, askV, askL, scL, t1, t2, t3, hn, ht, vl, hpm, noBorL_iL, noBorL_devs, nb, d1, d2, d3, d7, d8, d9, dm, dx, hil, g2, c20']
      refine EvP.cutN (fun D => D.s 1 = .im true A1 c1 n (uL us) ∧ D.s 2 = .int .u64 (x : Int) ∧ D.s 3 = .bptr nx 0 ∧ D.s 7 = .own .nil 0 (i + 1) (uL L ++ [.int .u64 (vF z.ws i : Int)]) ∧ D.s 8 = .own .nil 0 (i + 1) (uL L' ++ [.int .u64 (vF us i : Int)]) ∧ D.s 9 = .int .i64 ((i : Int) + 1) ∧ D.m = [(nx, ⟨0, [.int .u64 (z.s.p : Int), .int .i64 (n : Int), .int .i64 (t : Int), .im true z.s.cA z.s.ccap z.s.corrupt.length (iL z.s.corrupt), .im true z.s.dA z.s.dcap z.s.devs.length (devsV z.s.devs), .im true z.s.tA z.s.tcap z.s.tapes.length (rsV z.s.tapes), .im true z.A z.cap n (uL z.ws)]⟩)] ∧ D.nx = nx + 1) ?_ fun D ⟨d1, d2, d3, d7, d8, d9, dm, dx⟩ => ?_
      · refine EvP.drawT rfl ?_
        apply drawT_ex
        apply Exists.intro
        apply Exists.intro
        apply Exists.intro
        apply And.intro
        · intro P hP
          simp only [paths, List.map_cons, List.map_nil, List.cons_append, List.nil_append, List.mem_cons, List.not_mem_nil, or_false] at hP
          rcases hP with rfl | hP
          · simp [-reach, -doCall, doCall_eq, askV, askL, scL, t1, t2, t3, hn, ht, vl, hpm, noBorL_iL, noBorL_devs, nb, d1, d2, d3, d7, d8, d9, dm, dx, hil, g2, hLl, hLl', f1, f2, e3, e4, hu2, hu3, ul]
            exact ⟨fun jj => rfl, rfl, rfl⟩
          · repeat' (rcases hP with rfl | hP)
            all_goals try subst hP
            all_goals
              simp [-reach, -doCall, doCall_eq, askV, askL, scL, t1, t2, t3, hn, ht, vl, hpm, noBorL_iL, noBorL_devs, nb, d1, d2, d3, d7, d8, d9, dm, dx, hil, g2, hLl, hLl', f1, f2, e3, e4, hu2, hu3, ul]
              refine ⟨fun jj => ?_, rfl, rfl⟩
              rcases Decidable.em (jj = 7) with rfl | a7
              · simp
              rcases Decidable.em (jj = 8) with rfl | a8
              · simp
              rcases Decidable.em (jj = 57) with rfl | a57
              · simp
              rcases Decidable.em (jj = 58) with rfl | a58
              · simp
              rcases Decidable.em (jj = 59) with rfl | a59
              · simp
              rcases Decidable.em (jj = 60) with rfl | a60
              · simp
              rcases Decidable.em (jj = 61) with rfl | a61
              · simp
              rcases Decidable.em (jj = 62) with rfl | a62
              · simp
              rcases Decidable.em (jj = 63) with rfl | a63
              · simp
              rcases Decidable.em (jj = 64) with rfl | a64
              · simp
              rcases Decidable.em (jj = 65) with rfl | a65
              · simp
              rcases Decidable.em (jj = 66) with rfl | a66
              · simp
              rcases Decidable.em (jj = 67) with rfl | a67
              · simp
              rcases Decidable.em (jj = 68) with rfl | a68
              · simp
              rcases Decidable.em (jj = 69) with rfl | a69
              · simp
              rcases Decidable.em (jj = 70) with rfl | a70
              · simp
              rcases Decidable.em (jj = 71) with rfl | a71
              · simp
              rcases Decidable.em (jj = 72) with rfl | a72
              · simp
              rcases Decidable.em (jj = 73) with rfl | a73
              · simp
              simp [a7, a8, a57, a58, a59, a60, a61, a62, a63, a64, a65, a66, a67, a68, a69, a70, a71, a72, a73, kill_comm]
        · simp [d1, d2, d3, d9]
      simp [-reach, -doCall, doCall_eq, askV, askL, scL, t1, t2, t3, hn, ht, vl, hpm, noBorL_iL, noBorL_devs, nb, d1, d2, d3, d7, d8, d9, dm, dx, e3]
      subst hI
      exact ⟨n - (i + 1), by omega, i + 1, L ++ [g i], L' ++ [g' i], rfl, by omega, by rw [hL, List.range_succ, List.map_append]; rfl, by rw [hL', List.range_succ, List.map_append]; rfl, by simp [d1], by simp [d2], by simp [d3], by simp [d7, hgi, uL], by simp [d8, hgi', uL], by simp, by simp [dm, ← hZ0], by simp [dx]⟩
  · have hin : i = n := by omega
    subst hin
    have g2 : ¬ ((i : Int) + 1 ≤ (i : Int)) := by omega
    rw [← hL] at c18a
    rw [← hL'] at c18b
    obtain ⟨J, hJ⟩ : ∃ J : Nat → St → Prop, J = fun q D => ∃ (j : Nat), q = i - j ∧ j ≤ i ∧ D.s 3 = .bptr nx 0 ∧ D.s 10 = .own .nil 0 i (uL b.vs) ∧ D.s 13 = .own .nil 0 i (uL c.vs) ∧ D.s 16 = .int .i64 ((j : Int) + 1) ∧ D.m = (nx, ⟨0, Z0⟩) :: (M ++ M2) ∧ D.nx = y0 + (3 + z.s.tapes.length) := ⟨_, rfl⟩
    simp [-reach, -doCall, doCall_eq, askV, askL, scL, t1, t2, t3, hn, ht, vl, hpm, noBorL_iL, noBorL_devs, nb, d1, d2, d3, d7, d8, d9, dm, dx, g2, c18a, c18b, bl, cl]
    refine EvP.loop J (n := i) (by rw [hJ]; exact ⟨0, by simp, by simp, by simp [d3, hZ0]⟩) (by omega) fun q D hD => ?_
    rw [hJ] at hD
    obtain ⟨j, rfl, hj, d3, d10, d13, d16, dm, dx⟩ := hD
    rw [← hZ0] at dm
    by_cases hjl : j < i
    · have e3 := wrapi (x := (j : Int) + 1 + 1) (by omega) (by omega)
      have e4 := wrapi (x := (j : Int)) (by omega) (by omega)
      have g2 : (j : Int) + 1 ≤ (i : Int) := by omega
      have hjb : j < b.vs.length := by omega
      have hjc : j < c.vs.length := by omega
      have hub := uL_get hjb
      have huc := uL_get hjc
      have hubs : (uL b.vs)[j]? = some (.int .u64 (vF b.vs j : Int)) := uL_vF hjb
      have hucs : (uL c.vs)[j]? = some (.int .u64 (vF c.vs j : Int)) := uL_vF hjc
      have hjbu : j < (uL b.vs).length := by simp [uL]; omega
      have hjcu : j < (uL c.vs).length := by simp [uL]; omega
      have c20' := c20 ((j : Int) + 1)
      by_cases hh : hon z.s j = true
      · have hm : decide ((j : Int) + 1 ∉ z.s.corrupt) = true := hh
        rw [hm] at c20'
        rw [hv j hjl hh] at hub hubs
        rw [hv2 j hjl hh] at huc hucs
        simp [-reach, -doCall, doCall_eq, askV, askL, scL, t1, t2, t3, hn, ht, vl, hpm, noBorL_iL, noBorL_devs, nb, d3, d10, d13, d16, dm, dx, hjl, g2, bl, cl, c20', e3, e4, hub, hubs, huc, hucs, hjbu, hjcu, bne]
        subst hJ
        exact ⟨i - (j + 1), by omega, j + 1, rfl, by omega, by simp [d3], by simp [d10], by simp [d13], by simp, by simp [dm, ← hZ0], by simp [dx]⟩
      · have hm : decide ((j : Int) + 1 ∉ z.s.corrupt) = false := by
          have : hon z.s j = false := by simpa using hh
          exact this
        rw [hm] at c20'
        simp [-reach, -doCall, doCall_eq, askV, askL, scL, t1, t2, t3, hn, ht, vl, hpm, noBorL_iL, noBorL_devs, nb, d3, d10, d13, d16, dm, dx, hjl, g2, bl, cl, c20', e3, e4, hub, hubs, huc, hucs, hjbu, hjcu]
        subst hJ
        exact ⟨i - (j + 1), by omega, j + 1, rfl, by omega, by simp [d3], by simp [d10], by simp [d13], by simp, by simp [dm, ← hZ0], by simp [dx]⟩
    · have hje : j = i := by omega
      subst hje
      simp [-reach, -doCall, doCall_eq, askV, askL, scL, t1, t2, t3, hn, ht, vl, hpm, noBorL_iL, noBorL_devs, nb, d3, d10, d13, d16, dm, dx, g2, c17]
      rintro a b (⟨rfl, -⟩ | h | h)
      · exact Nat.le_refl _
      · have := (hlt (a, b) h).1
        have : nx + 1 ≤ a := this
        omega
      · have := (hlt2 (a, b) h).1
        have : y0 ≤ a := this
        omega
end Go.Abs
end
