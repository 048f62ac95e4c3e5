/- Joined: AbsPY8. -/
import Derived.Test.YtbkhamjlfadfoaaDoorAbs28
set_option linter.all false
set_option linter.unusedVariables false
noncomputable section
namespace Go.Abs
open Go Go.Proofs
set_option maxRecDepth 100000
open Classical in
set_option maxHeartbeats 8000000 in
theorem law8 (z : Ask) (hB : ScnB z.s) (hpm : z.pm = true) : ∃ N, AnsN N Tryd.prog H14 8 [askV z] (.bool true) := by
  obtain ⟨N17, hN17⟩ := awake17
  obtain ⟨n, t, N, ho⟩ : ∃ n t N, MayS z → AskOk z n t N := by
    by_cases hm : MayS z
    · obtain ⟨n, t, N, h⟩ := askOk_ex hB hm
      exact ⟨n, t, N, fun _ => h⟩
    · exact ⟨0, 0, 0, fun h => absurd h hm⟩
  obtain ⟨l8, hl8⟩ : ∃ l, z.s.devs.filter (livePK z.s.t.toNat) = l := ⟨_, rfl⟩
  obtain ⟨N0, ho0⟩ : ∃ N0, MayS z → AskOk (dvA z l8 0) n t N0 := by
    by_cases hm : MayS z
    · obtain ⟨N0, h⟩ := dvA_ok (l := l8) (cap := 0) hB hm (ho hm) (fun x hx => by rw [← hl8] at hx; exact (List.mem_filter.1 hx).1) (by rw [← hl8]; exact List.length_filter_le _ _)
      exact ⟨N0, fun _ => h⟩
    · exact ⟨0, fun h => absurd h hm⟩
  refine ⟨max (max N17 2000) (max (max (max N N0) 100 + 3) 1111 + 1) + 1, AnsN.of (fn := Tryd.f8) (t := 2) (by rfl) Tryd.func8 rfl rfl (by rfl) (by rfl) fun k hk nx => ?_⟩
  have c17 := callP (k := k) hN17 (by omega) (by simp [ptrsL]) rfl
  have c16 := callP (k := k) (may16 (lentA z)) (by omega) (by simp [askV, askL, scL, ptrsL, ptrs, lentA, lentS, nil_uL]) rfl
  simp only [askV, askL, scL, lentA, lentS, List.length_map, List.cons_append, List.nil_append] at c16
  by_cases hm : MayS z
  case neg =>
    have e1 : decide (MayS (lentA z)) = false := by simp [MayS.lent, hm]
    simp only [lentA, lentS] at e1
    rw [e1] at c16
    simp [-reach, -doCall, doCall_eq, entryS, askV, askL, scL, c16, c17]
  have e1 : decide (MayS (lentA z)) = true := by simp [MayS.lent, hm]
  simp only [lentA, lentS] at e1
  rw [e1] at c16
  have o := ho hm
  have t1 := hB.T.c
  have t2 := hB.T.d
  have t3 := hB.T.t
  have hn := o.hn
  have ht := o.ht
  have vl := o.l
  have h13 := o.h13
  have h3 := o.h3
  have nb := noBorL_rs hB.T.r
  have c18 := fun A cap vs hl hv st m nx dst => o.call (k := k) (by omega) false A cap vs hl hv st m nx dst
  have c20 := fun v => callP (honest19 (lentS z.s) o.c v) (k := k) (by omega) (by simp [scV, scL, ptrsL, ptrs, lentS]) rfl
  have hcc : (lentS z.s).corrupt = z.s.corrupt := rfl
  simp only [hcc] at c20
  simp only [scV, scL, t1, t2, t3, hn, ht, lentS, List.length_map, vl] at c18 c20 c16
  obtain ⟨Z0, hZ0⟩ : ∃ Z0 : List V, [.int .u64 (z.s.p : Int), .int .i64 (n : Int), .int .i64 (t : Int), .im true z.s.cA z.s.ccap z.s.corrupt.length (iL z.s.corrupt), .im true z.s.dA z.s.dcap z.s.devs.length (devsV z.s.devs), .im true z.s.tA z.s.tcap z.s.tapes.length (rsV z.s.tapes), .im true z.A z.cap n (uL z.ws)] = Z0 := ⟨_, rfl⟩
  have o0 := ho0 hm
  have hts : z.s.t.toNat = t := by rw [ht]; omega
  rw [hts] at hl8
  obtain ⟨q, hq⟩ : ∃ q, livePK t = q := ⟨_, rfl⟩
  have hd1000 := o.d
  have c23 := fun a b (h : a.length = n) => callP (words20 false false none none 0 0 a b (by omega)) (k := k) (by omega) (by simp) rfl
  obtain ⟨BF, hBF⟩ : ∃ BF : List Dev → List V, BF = fun L => [.int .u64 (z.s.p : Int), .int .i64 (n : Int), .int .i64 (t : Int), .im true z.s.cA z.s.ccap z.s.corrupt.length (iL z.s.corrupt), .own .nil 0 L.length (devsV L), .im true z.s.tA z.s.tcap z.s.tapes.length (rsV z.s.tapes)] := ⟨_, rfl⟩
  obtain ⟨I, hI⟩ : ∃ I : Nat → St → Prop, I = fun q' D => ∃ (i : Nat) (L : List Dev) (E : List (Nat × Box)) (x : Nat), q' = z.s.devs.length - i ∧ i ≤ z.s.devs.length ∧ L = (z.s.devs.take i).filter q ∧ (∀ e ∈ E, nx + 2 ≤ e.1 ∧ e.1 < x) ∧ nx + 2 ≤ x ∧ D.s 1 = .bptr nx 0 ∧ D.s 3 = .bptr (nx + 1) 0 ∧ D.s 4 = .int .i64 (i : Int) ∧ D.m = (nx, ⟨0, Z0⟩) :: (nx + 1, ⟨0, BF L⟩) :: E ∧ D.nx = x := ⟨_, rfl⟩
  have dnl : devsV [] = [] := rfl
  simp [-reach, -doCall, doCall_eq, askV, askL, scL, t1, t2, t3, hn, ht, vl, hpm, noBorL_iL, noBorL_devs, nb, entryS, c16]
  refine EvP.loop I (n := z.s.devs.length) (by rw [hI]; exact ⟨0, [], [], nx + 2, by simp, by simp, by simp, by simp, by omega, by simp [hZ0, hBF, dnl]⟩) (by omega) fun q' D hD => ?_
  rw [hI] at hD
  obtain ⟨i, L, E, x, rfl, hi, hL, hE, hx, d1, d3, d4, dm, dx⟩ := hD
  simp only [← hZ0, hBF] at dm
  have hLl : L.length ≤ i := by
    rw [hL]
    have := List.length_filter_le q (z.s.devs.take i)
    rw [List.length_take] at this; omega
  have hLd : (devsV L).length = L.length * 8 := devsV_length L
  by_cases hil : i < z.s.devs.length
  · obtain ⟨d, hd⟩ : ∃ d, z.s.devs[i] = d := ⟨_, rfl⟩
    have hdS : DevS z.s.n d := o.s.2.2.1 d (hd ▸ List.getElem_mem hil)
    have hr0 : 0 ≤ d.round := hdS.1
    have htk := devs_take z.s.devs i hil
    rw [hd] at htk
    have hdl : 8 ≤ ((devsV z.s.devs).drop (i * 8)).length := by rw [List.length_drop, devsV_length]; omega
    have hdl2 : 8 ≤ z.s.devs.length * 8 - i * 8 := by omega
    have hdv : (devsV z.s.devs).length = z.s.devs.length * 8 := devsV_length _
    have gx : ∀ c, getBox (E ++ [(x, c)]) x = some c := fun c => getBox_app_new fun e he => (hE e he).2
    have sx : ∀ c c', setBox (E ++ [(x, c)]) x c' = E ++ [(x, c')] := fun c c' => setBox_app_new fun e he => (hE e he).2
    have e3 := wrapi (x := (i : Int) + 1) (by omega) (by omega)
    have e4 := wrapi (x := (t : Int) + 1) (by omega) (by omega)
    have e5 := wrapi (x := 3 * ((t : Int) + 1)) (by omega) (by omega)
    have hn1 : ¬ nx = x := by omega
    have hn2 : ¬ nx + 1 = x := by omega
    have hrem : intOp .rem .i64 d.round 3 = some (.int .i64 (d.round % 3)) := by
      show (if (3 : Int) = 0 then none else some (V.int .i64 (d.round.tmod 3))) = _
      rw [if_neg (by decide), Int.tmod_eq_emod_of_nonneg hr0]
    have hnext : (z.s.devs.take (i + 1)).filter q = L ++ [d].filter q := by
      rw [List.take_succ_eq_append_getElem hil, List.filter_append, hd, hL]
    have b1 : (L.length + 1) * 64 ≤ 140737488355328 := by omega
    have b2 : L.length ≤ 140737488355327 := by omega
    have hEx : ∀ c, ∀ e ∈ E ++ [(x, c)], nx + 2 ≤ e.1 ∧ e.1 < x + 1 := fun c e he => by
      rcases List.mem_append.1 he with he | he
      · have := hE e he; exact ⟨this.1, by omega⟩
      · rw [List.mem_singleton] at he; subst he; exact ⟨hx, Nat.lt_succ_self _⟩
    have hdvs : devsV (L ++ [d]) = devsV L ++ devL d := by
      unfold devsV; rw [List.flatMap_append]; simp
    by_cases h1 : d.round < 3 * ((t : Int) + 1)
    · have hquo : intOp .quo .i64 d.round 3 = some (.int .i64 (d.round / 3)) := by
        show (if (3 : Int) = 0 then none else some (V.int .i64 (IntKind.i64.wrap (d.round.tdiv 3)))) = _
        rw [if_neg (by decide), Int.tdiv_eq_ediv_of_nonneg hr0, wrapi (by omega) (by omega)]
      have e6 := wrapi (x := d.round / 3 + 1) (by omega) (by omega)
      by_cases h2 : d.round % 3 = 2
      · by_cases h4 : d.from_ = d.round / 3 + 1
        · have hqd : q d = true := by rw [← hq]; simp [livePK, h1, h4]
          have hn' : (z.s.devs.take (i + 1)).filter q = L ++ [d] := by rw [hnext]; simp [hqd]
          simp [-reach, -doCall, doCall_eq, askV, askL, scL, t1, t2, t3, hn, ht, vl, hpm, noBorL_iL, noBorL_devs, nb, d1, d3, d4, dm, dx, hil, hdl, hdl2, hdv, htk, gx, sx, hn1, hn2, h1, hrem, hquo, h2, h4, e3, e4, e5, e6, b1, b2, hLd, devL]
          subst hI
          exact ⟨z.s.devs.length - (i + 1), by omega, i + 1, L ++ [d], E ++ [(x, ⟨0, devL d⟩)], x + 1, rfl, by omega, hn'.symm, hEx _, by omega, by simp [d1], by simp [d3], by simp, by simp [hBF, ← hZ0, hdvs, devL, h4], rfl⟩
        · have hqd : q d = false := by rw [← hq]; simp [livePK, h1, h2, h4]
          have hn' : (z.s.devs.take (i + 1)).filter q = L := by rw [hnext]; simp [hqd]
          have hne : (d.from_ == d.round / 3 + 1) = false := by simp [h4]
          simp [-reach, -doCall, doCall_eq, askV, askL, scL, t1, t2, t3, hn, ht, vl, hpm, noBorL_iL, noBorL_devs, nb, d1, d3, d4, dm, dx, hil, hdl, hdl2, hdv, htk, gx, sx, hn1, hn2, h1, hrem, hquo, h2, hne, e3, e4, e5, e6, b1, b2, hLd, devL]
          subst hI
          exact ⟨z.s.devs.length - (i + 1), by omega, i + 1, L, E ++ [(x, ⟨0, devL d⟩)], x + 1, rfl, by omega, hn'.symm, hEx _, by omega, by simp [d1], by simp [d3], by simp, by simp [hBF, ← hZ0, devL], rfl⟩
      · have hqd : q d = true := by rw [← hq]; simp [livePK, h1, h2]
        have hn' : (z.s.devs.take (i + 1)).filter q = L ++ [d] := by rw [hnext]; simp [hqd]
        have hne : (d.round % 3 != 2) = true := by simp [h2]
        simp [-reach, -doCall, doCall_eq, askV, askL, scL, t1, t2, t3, hn, ht, vl, hpm, noBorL_iL, noBorL_devs, nb, d1, d3, d4, dm, dx, hil, hdl, hdl2, hdv, htk, gx, sx, hn1, hn2, h1, hrem, hquo, hne, e3, e4, e5, e6, b1, b2, hLd, devL]
        subst hI
        exact ⟨z.s.devs.length - (i + 1), by omega, i + 1, L ++ [d], E ++ [(x, ⟨0, devL d⟩)], x + 1, rfl, by omega, hn'.symm, hEx _, by omega, by simp [d1], by simp [d3], by simp, by simp [hBF, ← hZ0, hdvs, devL], rfl⟩
    · have hqd : q d = false := by rw [← hq]; simp [livePK, h1]
      have hn' : (z.s.devs.take (i + 1)).filter q = L := by rw [hnext]; simp [hqd]
      simp [-reach, -doCall, doCall_eq, askV, askL, scL, t1, t2, t3, hn, ht, vl, hpm, noBorL_iL, noBorL_devs, nb, d1, d3, d4, dm, dx, hil, hdl, hdl2, hdv, htk, gx, sx, hn1, hn2, h1, e3, e4, e5, devL]
      subst hI
      exact ⟨z.s.devs.length - (i + 1), by omega, i + 1, L, E ++ [(x, ⟨0, devL d⟩)], x + 1, rfl, by omega, hn'.symm, hEx _, by omega, by simp [d1], by simp [d3], by simp, by simp [hBF, ← hZ0, devL], rfl⟩
  · have hin : i = z.s.devs.length := by omega
    rw [hin, List.take_length, ← hq, hl8] at hL
    have hL' := hL.symm
    subst hL'
    have hP := o.ph (t := t) x o.l o.w
    obtain ⟨hP1, hPr⟩ := hP.phases o.hn (by omega) (t + 1)
    obtain ⟨b, hb⟩ : ∃ b, phases n t ⟨nwO z.s x, z.ws⟩ (t + 1) = b := ⟨_, rfl⟩
    have hb' : pkO z.s x n t z.ws = b := hb
    obtain ⟨y, hy⟩ : ∃ y, x + (3 + z.s.tapes.length) = y := ⟨_, rfl⟩
    have hQ := o0.ph (t := t) y vl o.w
    obtain ⟨hQ1, hQr⟩ := hQ.phases o0.hn (by omega) (t + 1)
    obtain ⟨c, hc⟩ : ∃ c, phases n t ⟨nwO (dvA z l8 0).s y, z.ws⟩ (t + 1) = c := ⟨_, rfl⟩
    have hc' : pkO (dvA z l8 0).s y n t z.ws = c := hc
    have hvs : c.vs = b.vs := by
      rw [← hc, ← hb]
      exact phases_ignore (σ := nwO z.s x) (τ := nwO (dvA z l8 0).s y) ⟨rfl, rfl, rfl, hl8.symm⟩ rfl fun d hd => (o.s.2.2.1 d hd).2.2.2.1
    rw [hb] at hP1
    rw [hc] at hQ1
    have bl := hP1.l
    have cl := hQ1.l
    have hlt := agM_lt (s := z.s) (a := x) (σ := b.σ) hP1.o.tp
    have hlt2 := agM_lt (s := (dvA z l8 0).s) (a := y) (σ := c.σ) hQ1.o.tp
    obtain ⟨M, hM⟩ : ∃ M, agM z.s x b.σ = M := ⟨_, rfl⟩
    obtain ⟨M2, hM2⟩ : ∃ M, agM (dvA z l8 0).s y c.σ = M := ⟨_, rfl⟩
    rw [hM] at hlt
    rw [hM2] at hlt2
    replace c18 := fun A cap st m dst => c18 A cap z.ws vl o.w st m x dst
    have c18b := fun A cap st m dst => o0.call (k := k) (by omega) false A cap z.ws vl o.w st m y dst
    simp only [hb', hM, hy] at c18
    simp only [hc', hM2] at c18b
    have hn0 : (dvA z l8 0).s.n = (n : Int) := hn
    have ht0 : (dvA z l8 0).s.t = (t : Int) := ht
    have q1 : (dvA z l8 0).s.cA = z.s.cA := rfl
    have q2 : (dvA z l8 0).s.ccap = z.s.ccap := rfl
    have q3 : (dvA z l8 0).s.corrupt = z.s.corrupt := rfl
    have q4 : (dvA z l8 0).s.tA = z.s.tA := rfl
    have q5 : (dvA z l8 0).s.tcap = z.s.tcap := rfl
    have q6 : (dvA z l8 0).s.tapes = z.s.tapes := rfl
    have q7 : (dvA z l8 0).s.p = z.s.p := rfl
    have q8 : (dvA z l8 0).s.dA = none := rfl
    have q9 : (dvA z l8 0).s.dcap = 0 := rfl
    have qa : (dvA z l8 0).s.devs = l8 := rfl
    have qb : (dvA z l8 0).s.cpm = true := t1
    have qc : (dvA z l8 0).s.dpm = true := rfl
    have qd : (dvA z l8 0).s.tpm = true := t3
    simp only [scV, scL, hn0, ht0, q1, q2, q3, q4, q5, q6, q7, q8, q9, qa, qb, qc, qd] at c18b
    have c23' := c23 b.vs c.vs bl
    rw [hvs, bl] at c23'
    simp only [decide_true] at c23'
    rw [hvs] at c18b
    have hnl : ¬ i < z.s.devs.length := by omega
    have nbd := noBorL_devs l8
    simp [-reach, -doCall, doCall_eq, askV, askL, scL, t1, t2, t3, hn, ht, vl, hpm, noBorL_iL, noBorL_devs, nb, d1, d3, d4, dm, dx, hnl, c17, c18, c18b, c23', bl]
    rintro a b (⟨rfl, -⟩ | ⟨rfl, -⟩ | h | h | h)
    · exact Nat.le_refl _
    · omega
    · have := (hE (a, b) h).1
      have : nx + 2 ≤ a := this
      omega
    · have := (hlt (a, b) h).1
      have : x ≤ a := this
      omega
    · have := (hlt2 (a, b) h).1
      have : y ≤ a := this
      omega
end Go.Abs
end
