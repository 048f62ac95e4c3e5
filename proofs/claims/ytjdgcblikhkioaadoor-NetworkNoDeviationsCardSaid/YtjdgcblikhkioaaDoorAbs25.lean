/- Joined: AbsNY8. -/
import Derived.Test.YtjdgcblikhkioaaDoorAbs7
import Derived.Test.YtjdgcblikhkioaaDoorAbs24
set_option linter.all false
/- The seat of privitylaw14: NetworkNoDeviations. -/
set_option linter.unusedVariables false
noncomputable section
namespace Go.Abs
open Go Go.Proofs
set_option maxRecDepth 100000
open Classical in
set_option maxHeartbeats 8000000 in
theorem law8 (p : Exe) (hA : ExeA p) : ∃ N, AnsN N Tryd.prog H14 8 [exeV p] (.bool true) := by
  obtain ⟨N12, hN12⟩ := awake12
  obtain ⟨p0, hp0⟩ : ∃ p0 : Exe, { p with w := { p.w with devs := [], dpm := false, dA := none, dcap := 0 } } = p0 := ⟨_, rfl⟩
  have hA0 : ExeA p0 := by
    rw [← hp0]
    exact ⟨⟨fun x hx => (by cases hx), hA.w.c, by show 0 ≤ maxLen; omega, hA.w.t, hA.w.r, hA.w.e1, rfl, hA.w.e3⟩, hA.l, hA.m⟩
  have y0 : p0.w.p = p.w.p := by rw [← hp0]
  have y1 : p0.w.n = p.w.n := by rw [← hp0]
  have y2 : p0.w.t = p.w.t := by rw [← hp0]
  have y3 : p0.w.cA = p.w.cA := by rw [← hp0]
  have y4 : p0.w.ccap = p.w.ccap := by rw [← hp0]
  have y5 : p0.w.corrupt = p.w.corrupt := by rw [← hp0]
  have y6 : p0.w.tA = p.w.tA := by rw [← hp0]
  have y7 : p0.w.tcap = p.w.tcap := by rw [← hp0]
  have y8 : p0.w.tapes = p.w.tapes := by rw [← hp0]
  have y9 : p0.w.devs = [] := by rw [← hp0]
  have ya : p0.w.dA = none := by rw [← hp0]
  have yb : p0.w.dcap = 0 := by rw [← hp0]
  have yc : p0.A = p.A := by rw [← hp0]
  have yd : p0.cap = p.cap := by rw [← hp0]
  have ye : p0.l = p.l := by rw [← hp0]
  have nl : devsV [] = [] := rfl
  have z1 := hA.w.e1
  have z2 := hA.w.e2
  have z3 := hA.w.e3
  have hAo := hA
  clear hp0
  by_cases hF : FairE p0
  case neg =>
    refine ⟨max N12 2000 + 1, AnsN.of (fn := Tryd.f8) (t := 2) (by rfl) Tryd.func8 rfl rfl (by rfl) (by rfl) fun k hk nx => ?_⟩
    have c12 := callP (k := k) hN12 (by omega) (by simp [ptrsL]) rfl
    have h1 := hA0.w.e1
    have h2 := hA0.w.e2
    have h3 := hA0.w.e3
    have hlt := lents_ok hA.w.r
    have hrs := frzL_rsps fun r hr => (hA.m r hr).2
    have c15 := callP (k := k) (fair15 p0 hA0) (by omega) (by simp [ptrsL, ptrs, exeV, exeL]) rfl
    rw [decide_eq_false hF] at c15
    simp only [exeV, exeL, h1, h2, h3, y0, y1, y2, y3, y4, y5, y6, y7, y8, y9, ya, yb, yc, yd, ye, nl, List.length_nil] at c15
    simp [-EvK_app, -reach, -doCall, doCall_eq, entryS, exeV, exeL, z1, z2, z3]
    rw [EvK_app]
    simp [-EvK_app, -reach, -doCall, doCall_eq, c12]
    rw [EvK_app]
    simp [-EvK_app, -reach, -doCall, doCall_eq, c12]
    rw [EvK_app]
    simp [-EvK_app, -reach, -doCall, doCall_eq, c12]
    simp [-reach, -doCall, doCall_eq, hlt, hrs, c15]
  obtain ⟨⟨f1, f2, f3, f4, hs⟩, hL, hrds⟩ := id hF
  have hn413 := scnS_n hs
  have hr1000 : ∀ r ∈ p0.w.tapes, r.l.length ≤ 1000 := fun r h => by have := f4 r h; omega
  obtain ⟨N, hN⟩ := new_ex p0.w hs (by omega) (by omega) hr1000 hA0.w.k
  refine ⟨max (max N12 1200000) (max N 100 + 1) + 1, AnsN.of (fn := Tryd.f8) (t := 2) (by rfl) Tryd.func8 rfl rfl (by rfl) (by rfl) fun k hk nx => ?_⟩
  have c12 := callP (k := k) hN12 (by omega) (by simp [ptrsL]) rfl
  have h1 := hA0.w.e1
  have h2 := hA0.w.e2
  have h3 := hA0.w.e3
  have hlt := lents_ok hA.w.r
  have hrs := frzL_rsps fun r hr => (hA.m r hr).2
  have c15 := callP (k := k) (fair15 p0 hA0) (by omega) (by simp [ptrsL, ptrs, exeV, exeL]) rfl
  rw [decide_eq_true hF] at c15
  simp only [exeV, exeL, h1, h2, h3, y0, y1, y2, y3, y4, y5, y6, y7, y8, y9, ya, yb, yc, yd, ye, nl, List.length_nil] at c15
  obtain ⟨n, hn⟩ : ∃ n, p0.w.tapes.length = n := ⟨_, rfl⟩
  have hnn : p0.w.n = (n : Int) := by rw [← hn]; exact hs.2.1.symm
  obtain ⟨F, hFd⟩ : ∃ F : RD → List V, (fun w => tapeC (lent w) 0) = F := ⟨_, rfl⟩
  have hFp : ∀ w, ptrsL (F w) = [] := fun w => by rw [← hFd]; exact ptrsL_tapeC _ _
  simp [-EvK_app, -reach, -doCall, doCall_eq, entryS, exeV, exeL, z1, z2, z3]
  rw [EvK_app]
  simp [-EvK_app, -reach, -doCall, doCall_eq, c12]
  rw [EvK_app]
  simp [-EvK_app, -reach, -doCall, doCall_eq, c12]
  rw [EvK_app]
  simp [-EvK_app, -reach, -doCall, doCall_eq, c12]
  obtain ⟨B1, hB1⟩ : ∃ B1 : List V, [.int .u64 (p.w.p : Int), .int .i64 p.w.n, .int .i64 p.w.t, .im false p.w.cA p.w.ccap p.w.corrupt.length (iL p.w.corrupt), .im true none 0 0 [], .im false p.w.tA p.w.tcap p.w.tapes.length (rsV p.w.tapes), .im false p.A p.cap p.l.length (rspsV p.l)] = B1 := ⟨_, rfl⟩
  refine EvK_cut (fun D => D.s 1 = .bptr nx 0 ∧ D.m = [(nx, ⟨0, [.int .u64 (p.w.p : Int), .int .i64 p.w.n, .int .i64 p.w.t, .im false p.w.cA p.w.ccap p.w.corrupt.length (iL p.w.corrupt), .own .nil 0 0 [], .im false p.w.tA p.w.tcap p.w.tapes.length (rsV p.w.tapes), .im false p.A p.cap p.l.length (rspsV p.l)]⟩)] ∧ D.nx = nx + 1) (by simp) fun D ⟨d1, dm, dx⟩ => ?_
  simp [-EvK_app, -reach, -doCall, doCall_eq, d1, dm, dx, hlt, hrs, c15]
  rw [EvK_app]
  simp [-EvK_app]
  refine EvK_cut (fun D => D.s 1 = .bptr nx 0 ∧ D.m = [(nx, ⟨0, B1⟩)] ∧ D.nx = nx + 1) (by simp [d1, hB1]) fun D ⟨d1, dm, dx⟩ => ?_
  obtain ⟨tb, htb⟩ : ∃ tb, tapB F (nx + 1 + 2) p0.w.tapes = tb := ⟨_, rfl⟩
  obtain ⟨σ0, hσ0⟩ : ∃ σ0, net0 p0.w (nx + 1) p0.w.tapes.length = σ0 := ⟨_, rfl⟩
  obtain ⟨x0, hx0⟩ : ∃ x0, nx + 1 + (2 + p0.w.tapes.length) = x0 := ⟨_, rfl⟩
  have I0 : NetI N (nx + 2) σ0 tb := by rw [← hσ0, ← htb]; exact net0_I F hFp p0.w (nx + 1) hs hN (scnS_pq hs) hn413.2 (by omega)
  have A0 : Around nx (nx + 2) σ0.tp ⟨0, B1⟩ [(nx, ⟨0, B1⟩), (nx + 1, ⟨0, scL p0.w⟩)] x0 := by rw [← hσ0, ← hx0]; exact net0_around p0.w nx _ _
  have c13 := fun st dst => call13 p0.w st [(nx, ⟨0, B1⟩)] (nx + 1) dst (by omega) (by omega) hr1000 hs (k := k) (by omega)
  rw [hFd, netM_at, hσ0, hx0, htb] at c13
  obtain ⟨c1, hc1⟩ : ∃ c1 : Box, ⟨0, scL p0.w⟩ = c1 := ⟨_, rfl⟩
  rw [hc1] at c13 A0
  simp only [scV, scL, h1, h2, h3, y0, y1, y2, y3, y4, y5, y6, y7, y8, y9, ya, yb, yc, yd, ye, nl, List.length_nil] at c13
  simp [-EvK_app, -reach, -doCall, doCall_eq, d1, dm, dx, ← hB1, hlt]
  simp only [hB1]
  simp [-EvK_app, -reach, -doCall, doCall_eq, c13]
  refine EvK_cut (fun D => D.s 1 = .bptr nx 0 ∧ D.s 3 = .bptr (nx + 2) 0 ∧ D.s 4 = .int .i64 0 ∧ D.m = [(nx, ⟨0, B1⟩), (nx + 1, c1)] ++ (nx + 2, ⟨0, netC σ0⟩) :: tb ∧ D.nx = x0) (by simp [d1]) fun D ⟨d1, d3, d4, dm, dx⟩ => ?_
  simp [-EvK_app, d1, d3, d4, dm, dx]
  rw [EvK_app]
  simp [-EvK_app, d1, d3, d4, dm, dx]
  refine EvK_cut (fun D => D.s 1 = .bptr nx 0 ∧ D.s 3 = .bptr (nx + 2) 0 ∧ D.m = [(nx, ⟨0, B1⟩), (nx + 1, c1)] ++ (nx + 2, ⟨0, netC σ0⟩) :: tb ∧ D.nx = x0) (by simp [d1, d3]) fun D ⟨d1, d3, dm, dx⟩ => ?_
  simp only [← hB1] at dm
  have hb1 : (n : Int) ≤ 140737488355328 := by omega
  have hb2 : (n : Int) * 24 ≤ 140737488355328 := by omega
  have hpn : p.w.n = (n : Int) := by rw [← y1]; exact hnn
  have gM0 : getBox ([(nx, (⟨0, B1⟩ : Box)), (nx + 1, c1)] ++ (nx + 2, ⟨0, netC σ0⟩) :: tb) nx = some ⟨0, B1⟩ := A0.get
  rw [hB1] at dm
  obtain ⟨M0, hM0⟩ : ∃ M0 : List (Nat × Box), [(nx, (⟨0, B1⟩ : Box)), (nx + 1, c1)] ++ (nx + 2, ⟨0, netC σ0⟩) :: tb = M0 := ⟨_, rfl⟩
  rw [hM0] at dm gM0
  simp only [← hB1] at gM0
  simp [-EvK_app, d1, d3, dm, dx, gM0, hpn, hb1, hb2, rep_views]
  refine EvK_cut (fun D => D.s 1 = .bptr nx 0 ∧ D.s 3 = .bptr (nx + 2) 0 ∧ D.s 5 = .own .nil 0 n (viewsC (List.replicate n [])) ∧ D.m = M0 ∧ D.nx = x0) (by simp [d1, d3]) fun D ⟨d1, d3, d5, dm, dx⟩ => ?_
  simp [-EvK_app, d1, d3, d5, dm, dx]
  rw [EvK_app]
  simp only [ev_block]
  have hV0 : ∀ j, j < n → ∃ v u, (List.replicate n ([] : List Ev))[j]? = some v ∧ σ0.views[j]? = some u ∧ v.map evK = u.map evK := fun j hj => by
    refine ⟨[], [], by simp [hj], ?_, rfl⟩
    rw [← hσ0]
    show (List.replicate p0.w.n.toNat ([] : List Ev))[j]? = _
    rw [hnn]; simp [hj]
  obtain ⟨I, hI⟩ : ∃ I : Nat → St → Prop, I = fun q D => ∃ (i : Nat) (σ : NetS) (O : List (Nat × Box)) (x : Nat) (vs : List (List Ev)), q = p.l.length - i ∧ i ≤ p.l.length ∧ D.s 1 = .bptr nx 0 ∧ D.s 3 = .bptr (nx + 2) 0 ∧ D.s 5 = .own .nil 0 n (viewsC vs) ∧ D.s 6 = .int .i64 (i : Int) ∧ D.m = O ++ (nx + 2, ⟨0, netC σ⟩) :: tb ∧ D.nx = x ∧ NetI N (nx + 2) σ tb ∧ σ.scn = p0.w ∧ σ.round = i ∧ σ.tp = σ0.tp ∧ Around nx (nx + 2) σ0.tp ⟨0, B1⟩ O x ∧ vs.length = n ∧ (∀ v ∈ vs, ∀ e ∈ v, e.w.l.length ≤ 8) ∧ ∀ j, j < n → ∃ v u, vs[j]? = some v ∧ σ.views[j]? = some u ∧ v.map evK = u.map evK := ⟨_, rfl⟩
  refine EvP.loop I (n := p.l.length) (by rw [hI]; exact ⟨0, σ0, _, _, _, by simp, by simp, by simp [d1], by simp [d3], by simp [d5], by simp, hM0.symm, rfl, I0, by rw [← hσ0]; rfl, by rw [← hσ0]; rfl, rfl, A0, by simp, fun v hv e he => (by rw [(List.mem_replicate.1 hv).2] at he; cases he), hV0⟩) (by rw [← ye]; omega) fun q D hD => ?_
  rw [hI] at hD
  obtain ⟨i, σ, O, x, vs, rfl, hi, d1, d3, d5, d6, dm, dx, IN, hsc, hrd, htp, AO, hvl, hV8, hV⟩ := hD
  rw [← htp] at AO
  obtain ⟨M, hM⟩ : ∃ M : List (Nat × Box), O ++ (nx + 2, ⟨0, netC σ⟩) :: tb = M := ⟨_, rfl⟩
  rw [hM] at dm
  have gM : getBox M nx = some ⟨0, B1⟩ := by rw [← hM]; exact AO.get
  simp only [← hB1] at gM
  have hMn := AO.mem IN.hT
  rw [hM] at hMn
  by_cases hil : i < p.l.length
  · have e3 := wrap_succ (q := i) (by rw [ye] at hL; omega)
    have p1 := rspsV_drop hil
    obtain ⟨r, hr⟩ : ∃ r, p.l[i] = r := ⟨_, rfl⟩
    rw [hr] at p1
    have hrok : RoundOk p0.w.p (n : Int) r := by rw [← hnn, ← hr]; exact hrds _ (by rw [ye]; exact List.getElem_mem hil)
    obtain ⟨hrl, hrm⟩ := rounds_ms hrok
    have hmA : ∀ m ∈ r.ms, MdOk m := hr ▸ (hA.m _ (List.getElem_mem hil)).2
    have hlm := lentMs_ok hmA
    have hlf := firsts_ok hmA
    have hns : (r.ms.length : Int) = σ.scn.n := by rw [hsc, hnn, hrl]
    have c17 := callP (broadcasts17 false r.A r.cap r.ms (by omega) fun m hm => by have := (hrok.2 m hm).1; omega) (k := k) (by omega) (by simp) rfl
    have IR := IN.round cpW r (n := n) (by rw [← hrl]; exact hns)
    have hR := like_roundS cpW n σ r
    have gx0 : ∀ c, getBox (M ++ [(x, c)]) x = some c := fun c => getBox_app_new fun b hb => (hMn b hb).2
    have sx : ∀ c c', setBox (M ++ [(x, c)]) x c' = M ++ [(x, c')] := fun c c' => setBox_app_new fun b hb => (hMn b hb).2
    have hil5 : p.l.length ≤ 5 := by rw [← ye]; exact hL
    obtain ⟨M', hM'⟩ : ∃ M' : List (Nat × Box), (O ++ [(x, ⟨0, rspC r⟩)]) ++ (nx + 2, ⟨0, netC (roundS cpW n σ r)⟩) :: tb = M' := ⟨_, rfl⟩
    have AO' : Around nx (nx + 2) (roundS cpW n σ r).tp ⟨0, B1⟩ (O ++ [(x, ⟨0, rspC r⟩)]) (x + 1) := by rw [hR.2.1]; exact AO.add
    have gM' : getBox M' nx = some ⟨0, B1⟩ := by rw [← hM']; exact AO'.get
    have gx' : getBox M' x = some ⟨0, rspC r⟩ := by
      rw [← hM']
      exact getBox_app_old (getBox_app_new fun b hb => (AO.o b hb).2.1)
    simp only [← hB1] at gM'
    simp [-EvK_app, d1, d3, d5, d6, dm, dx, gM, hil]
    rw [EvK_app]
    simp [-EvK_app]
    rw [EvK_app, ev_seq, ev_block, ev_seq]
    simp [-EvK_app, d1, d3, d5, d6, dm, dx, gM, hil, p1, gx0, sx]
    refine EvK_cut (fun D => D.s 1 = .bptr nx 0 ∧ D.s 3 = .bptr (nx + 2) 0 ∧ D.s 5 = .own .nil 0 n (viewsC vs) ∧ D.s 6 = .int .i64 (i : Int) ∧ D.s 7 = .bptr x 0 ∧ D.m = M ++ [(x, ⟨0, rspC r⟩)] ∧ D.nx = x + 1) (by simp [d1, d3, d5, d6, rspC]) fun D ⟨d1, d3, d5, d6, d7, dm, dx⟩ => ?_
    rw [ev_seq]
    refine EvP.cutN (fun D => D.s 1 = .bptr nx 0 ∧ D.s 3 = .bptr (nx + 2) 0 ∧ D.s 5 = .own .nil 0 n (viewsC vs) ∧ D.s 6 = .int .i64 (i : Int) ∧ D.s 7 = .bptr x 0 ∧ D.m = M' ∧ D.nx = x + 1) ?_ fun D ⟨d1, d3, d5, d6, d7, dm, dx⟩ => ?_
    · cases hc : r.cast with
      | true =>
        have hcs : castS cpW (netTold σ ((firsts r.ms).map (·.l))) r.ms.length σ = roundS cpW n σ r := by unfold roundS; rw [hc, hrl]; rfl
        have hfl := firsts_length r.ms
        have c16 := fun st dst => AO.call1 (c' := ⟨0, rspC r⟩) IN.hT IN.hl (like_castS _ _ _ _).2.1 (IN.cast16 (g := 0) (by omega) false none 0 (firsts r.ms) (by rw [hfl]; exact hns) (by rw [hsc]; exact rounds_ls hrok)) (k := k) (by omega) (by simp [ptrsL, ptrs]) rfl st dst
        rw [hM, hfl, hcs, hM'] at c16
        simp only [rspC, hc] at c16
        simp [-reach, -doCall, doCall_eq, d1, d3, d5, d6, d7, dm, dx, gx0, rspC, hc, hlm, c17, rsV_lent2, hlf, c16]
      | false =>
        have hcs : sentS cpW (netSaid σ r.ms.length (mls r.ms)) r.ms.length σ = roundS cpW n σ r := by unfold roundS; rw [hc, hrl]; rfl
        have c18 := fun st dst => AO.call1 (c' := ⟨0, rspC r⟩) IN.hT IN.hl (like_sentS _ _ _ _).2.1 (IN.send18 (g := 0) (by omega) false r.A r.cap r.ms hns (by rw [hsc, hrl]; exact hrm)) (k := k) (by omega) (by simp [ptrsL, ptrs]) rfl st dst
        rw [hM, hcs, hM'] at c18
        simp only [rspC, hc] at c18
        simp [-reach, -doCall, doCall_eq, d1, d3, d5, d6, d7, dm, dx, gx0, rspC, hc, hlm, c18, inV]
    simp [-EvK_app, d1, d3, d5, d6, d7, dm, dx]
    rw [EvK_app]
    simp [-EvK_app, d1, d3, d5, d6, d7, dm, dx]
    rw [EvK_app]
    simp only [ev_block]
    obtain ⟨J, hJ⟩ : ∃ J : Nat → St → Prop, J = fun q D => ∃ (j : Nat) (ws : List (List Ev)), q = n - j ∧ j ≤ n ∧ ws.length = n ∧ (∀ j', j' < n → ws[j']? = (vs[j']?).map fun v => if j' < j then v ++ evsOf i r j' n else v) ∧ D.s 1 = .bptr nx 0 ∧ D.s 3 = .bptr (nx + 2) 0 ∧ D.s 5 = .own .nil 0 n (viewsC ws) ∧ D.s 6 = .int .i64 (i : Int) ∧ D.s 7 = .bptr x 0 ∧ D.s 8 = .int .i64 (j : Int) ∧ D.m = M' ∧ D.nx = x + 1 := ⟨_, rfl⟩
    refine EvP.loop J (n := n) (by rw [hJ]; exact ⟨0, vs, by simp, by simp, hvl, fun j' hj' => (by cases vs[j']? <;> simp), by simp [d1, d3, d5, d6, d7]⟩) (by omega) fun q D hD => ?_
    rw [hJ] at hD
    obtain ⟨j, ws, rfl, hj, hwl, hws, d1, d3, d5, d6, d7, d8, dm, dx⟩ := hD
    by_cases hjl : j < n
    · have e5 := wrap_succ (q := j) (by omega)
      obtain ⟨v, u, hv, hu, hvu⟩ := hV j hjl
      have hwj : ws[j]? = some v := by rw [hws j hjl, hv]; simp
      have hvlen : v.length ≤ 999000 := by
        have := congrArg List.length hvu
        rw [List.length_map, List.length_map] at this
        rw [this]
        exact IN.VB (by rw [hrd]; omega) _ (List.mem_of_getElem? hu)
      simp [d1, d3, d5, d6, d7, d8, dm, dx, gM', hpn, hjl]
      obtain ⟨K, hK⟩ : ∃ K : Nat → St → Prop, K = fun q D => ∃ f : Nat, q = n - f ∧ f ≤ n ∧ D.s 1 = .bptr nx 0 ∧ D.s 3 = .bptr (nx + 2) 0 ∧ D.s 5 = .own .nil 0 n (viewsC (ws.set j (v ++ evsOf i r j f))) ∧ D.s 6 = .int .i64 (i : Int) ∧ D.s 7 = .bptr x 0 ∧ D.s 8 = .int .i64 (j : Int) ∧ D.s 9 = .int .i64 (f : Int) ∧ D.m = M' ∧ D.nx = x + 1 := ⟨_, rfl⟩
      refine EvP.loop K (n := n) (by rw [hK]; exact ⟨0, by simp, by simp, by simp [d1], by simp [d3], by simp [d5, evsOf, set_same8 hwj], by simp [d6], by simp [d7], by simp [d8], by simp, by simp, by simp⟩) (by omega) fun q D hD => ?_
      rw [hK] at hD
      obtain ⟨f, rfl, hf, d1, d3, d5, d6, d7, d8, d9, dm, dx⟩ := hD
      by_cases hfl : f < n
      · have e6 := wrap_succ (q := f) (by omega)
        have e6' : IntKind.i64.wrap ((f : Int) + 1) = (f : Int) + 1 := wrapi (by omega) (by omega)
        have hfm : f < r.ms.length := by omega
        obtain ⟨m, hm⟩ : ∃ m, r.ms[f] = m := ⟨_, rfl⟩
        have hml : m.l.length = n := by have := (hrok.2 _ (List.getElem_mem hfm)).1; rw [hm] at this; omega
        have hjm : j < m.l.length := by omega
        have h0m : 0 < m.l.length := by omega
        obtain ⟨w, hw⟩ : ∃ w, rowOf r f j = w := ⟨_, rfl⟩
        obtain ⟨cur, hcur⟩ : ∃ cur, v ++ evsOf i r j f = cur := ⟨_, rfl⟩
        have hcl : cur.length ≤ 999013 := by
          rw [← hcur, List.length_append]
          have := evsOf_length i r j f
          omega
        rw [hcur] at d5
        obtain ⟨cs, hcs⟩ : ∃ cs, viewsC (ws.set j cur) = cs := ⟨_, rfl⟩
        rw [hcs] at d5
        have hcsl : cs.length = n := by rw [← hcs]; simp [hwl]
        have hjc : j < cs.length := by omega
        have hcsj : cs[j]? = some (.own .nil 0 cur.length (evsC cur)) := by
          rw [← hcs]
          show ((ws.set j cur).map viewV)[j]? = _
          rw [List.getElem?_map, List.getElem?_set_self (by omega)]; rfl
        have hcse : cs[j] = .own .nil 0 cur.length (evsC cur) := by
          have := List.getElem?_eq_getElem hjc
          rw [hcsj] at this
          exact (Option.some.inj this).symm
        have b1 : (cur.length + 1) * 40 ≤ 140737488355328 := by omega
        have b2 : cur.length ≤ 140737488355327 := by omega
        have hnext : v ++ evsOf i r j (f + 1) = cur ++ evOf i j (fun f => rowOf r f j) f := by rw [evsOf_succ, ← List.append_assoc, hcur]
        have hfin : cs.set j (.own .nil 0 (cur.length + 1) (evsC cur ++ [.int .i64 (i : Int), .int .i64 ((f : Int) + 1), rV w])) = viewsC (ws.set j (cur ++ [⟨i, (f : Int) + 1, w⟩])) := by
          rw [← hcs]
          unfold viewsC
          rw [List.map_set, List.map_set, List.set_set]
          congr 1
          unfold viewV
          rw [List.length_append, evsC_append]
          rfl
        simp only [rV] at hfin
        have hfin' : viewsC (ws.set j (cur ++ [])) = cs := by rw [List.append_nil, hcs]
        cases hc : r.cast with
        | true =>
          have hwm : m.l[0] = w := by rw [← hw]; unfold rowOf firsts; rw [hc]; simp [hfm, hm, h0m]
          by_cases hfj : f = j
          · have hne : ((f : Int) != (j : Int)) = false := by simp [hfj]
            have hev : evOf i j (fun f => rowOf r f j) f = [] := by unfold evOf; rw [if_neg (fun h => h.1 hfj.symm)]
            simp [-reach, -doCall, doCall_eq, d1, d3, d5, d6, d7, d8, d9, dm, dx, gM', gx', rspC, hc, hpn, hjl, hfl, hfm, hm, hjm, h0m, hwm, hcsl, hjc, hcsj, hcse, b1, b2, e6, e6', hne]
            subst hK
            exact ⟨n - (f + 1), by omega, f + 1, rfl, by omega, by simp [d1], by simp [d3], by rw [hnext, hev]; simp [d5, hcs, hfin'], by simp [d6], by simp [d7], by simp [d8], by simp, rfl, rfl⟩
          · have hne : ((f : Int) != (j : Int)) = true := by
              have : ¬ ((f : Int) = (j : Int)) := by omega
              simpa [bne] using this
            by_cases hlen : 0 < w.l.length
            · have hev : evOf i j (fun f => rowOf r f j) f = [⟨i, (f : Int) + 1, w⟩] := by unfold evOf; simp only [hw]; rw [if_pos ⟨fun h => hfj h.symm, hlen⟩]
              have hgt : (w.l.length : Int) > 0 := by omega
              simp [-reach, -doCall, doCall_eq, d1, d3, d5, d6, d7, d8, d9, dm, dx, gM', gx', rspC, hc, hpn, hjl, hfl, hfm, hm, hjm, h0m, hwm, hcsl, hjc, hcsj, hcse, b1, b2, e6, e6', hne, hlen, hgt]
              subst hK
              exact ⟨n - (f + 1), by omega, f + 1, rfl, by omega, by simp [d1], by simp [d3], by rw [hnext, hev, ← hfin]; simp, by simp [d6], by simp [d7], by simp [d8], by simp, rfl, rfl⟩
            · have hev : evOf i j (fun f => rowOf r f j) f = [] := by unfold evOf; simp only [hw]; rw [if_neg (fun h => hlen h.2)]
              have hgt : ¬ (w.l.length : Int) > 0 := by omega
              simp [-reach, -doCall, doCall_eq, d1, d3, d5, d6, d7, d8, d9, dm, dx, gM', gx', rspC, hc, hpn, hjl, hfl, hfm, hm, hjm, h0m, hwm, hcsl, hjc, hcsj, hcse, b1, b2, e6, e6', hne, hlen, hgt]
              subst hK
              exact ⟨n - (f + 1), by omega, f + 1, rfl, by omega, by simp [d1], by simp [d3], by rw [hnext, hev]; simp [d5, hcs, hfin'], by simp [d6], by simp [d7], by simp [d8], by simp, rfl, rfl⟩
        | false =>
          have hwm : m.l[j] = w := by rw [← hw]; unfold rowOf; rw [hc]; simp [hfm, hm, hjm]
          by_cases hfj : f = j
          · have hne : ((f : Int) != (j : Int)) = false := by simp [hfj]
            have hev : evOf i j (fun f => rowOf r f j) f = [] := by unfold evOf; rw [if_neg (fun h => h.1 hfj.symm)]
            simp [-reach, -doCall, doCall_eq, d1, d3, d5, d6, d7, d8, d9, dm, dx, gM', gx', rspC, hc, hpn, hjl, hfl, hfm, hm, hjm, h0m, hwm, hcsl, hjc, hcsj, hcse, b1, b2, e6, e6', hne]
            subst hK
            exact ⟨n - (f + 1), by omega, f + 1, rfl, by omega, by simp [d1], by simp [d3], by rw [hnext, hev]; simp [d5, hcs, hfin'], by simp [d6], by simp [d7], by simp [d8], by simp, rfl, rfl⟩
          · have hne : ((f : Int) != (j : Int)) = true := by
              have : ¬ ((f : Int) = (j : Int)) := by omega
              simpa [bne] using this
            by_cases hlen : 0 < w.l.length
            · have hev : evOf i j (fun f => rowOf r f j) f = [⟨i, (f : Int) + 1, w⟩] := by unfold evOf; simp only [hw]; rw [if_pos ⟨fun h => hfj h.symm, hlen⟩]
              have hgt : (w.l.length : Int) > 0 := by omega
              simp [-reach, -doCall, doCall_eq, d1, d3, d5, d6, d7, d8, d9, dm, dx, gM', gx', rspC, hc, hpn, hjl, hfl, hfm, hm, hjm, h0m, hwm, hcsl, hjc, hcsj, hcse, b1, b2, e6, e6', hne, hlen, hgt]
              subst hK
              exact ⟨n - (f + 1), by omega, f + 1, rfl, by omega, by simp [d1], by simp [d3], by rw [hnext, hev, ← hfin]; simp, by simp [d6], by simp [d7], by simp [d8], by simp, rfl, rfl⟩
            · have hev : evOf i j (fun f => rowOf r f j) f = [] := by unfold evOf; simp only [hw]; rw [if_neg (fun h => hlen h.2)]
              have hgt : ¬ (w.l.length : Int) > 0 := by omega
              simp [-reach, -doCall, doCall_eq, d1, d3, d5, d6, d7, d8, d9, dm, dx, gM', gx', rspC, hc, hpn, hjl, hfl, hfm, hm, hjm, h0m, hwm, hcsl, hjc, hcsj, hcse, b1, b2, e6, e6', hne, hlen, hgt]
              subst hK
              exact ⟨n - (f + 1), by omega, f + 1, rfl, by omega, by simp [d1], by simp [d3], by rw [hnext, hev]; simp [d5, hcs, hfin'], by simp [d6], by simp [d7], by simp [d8], by simp, rfl, rfl⟩
      · have hfe : f = n := by omega
        subst hfe
        simp [-EvK_app, d1, d3, d5, d6, d7, d8, d9, dm, dx, gM', hpn]
        rw [EvK_app]
        simp [-EvK_app]
        rw [EvK_app]
        simp [-EvK_app, d1, d3, d5, d6, d7, d8, d9, dm, dx, e5]
        subst hJ
        refine ⟨f - (j + 1), by omega, j + 1, ws.set j (v ++ evsOf i r j f), rfl, by omega, by simp [hwl], fun j' hj' => ?_, by simp [d1], by simp [d3], by simp [d5], by simp [d6], by simp [d7], by simp, rfl, rfl⟩
        rw [List.getElem?_set]
        by_cases hjj : j = j'
        · subst hjj
          rw [if_pos rfl, if_pos (by omega), hv]
          simp
        · rw [if_neg hjj, hws j' hj']
          by_cases h1 : j' < j
          · have h2 : j' < j + 1 := by omega
            simp [h1, h2]
          · have h2 : ¬ j' < j + 1 := by omega
            simp [h1, h2]
    · have hje : j = n := by omega
      subst hje
      simp [-EvK_app, d1, d3, d5, d6, d7, d8, dm, dx, gM', hpn]
      rw [EvK_app]
      simp [-EvK_app]
      rw [EvK_app]
      simp [-EvK_app, d1, d3, d5, d6, d7, d8, dm, dx, e3]
      subst hI
      refine ⟨p.l.length - (i + 1), by omega, i + 1, roundS cpW j σ r, _, _, ws, rfl, by omega, by simp [d1], by simp [d3], by simp [d5], by simp, hM'.symm, rfl, IR, hR.1.trans hsc, by rw [hR.2.2, hrd]; omega, hR.2.1.trans htp, by rw [← htp, ← hR.2.1]; exact AO', hwl, fun v' hv' e he => ?_, fun j' hj' => ?_⟩
      · obtain ⟨j', hj', rfl⟩ := List.getElem_of_mem hv'
        have hj'' : j' < j := by omega
        obtain ⟨v, u, hv, hu, hvu⟩ := hV j' hj''
        have hw2 := hws j' hj''
        rw [List.getElem?_eq_getElem hj', hv] at hw2
        have hw3 : ws[j'] = v ++ evsOf i r j' j := by
          have := Option.some.inj hw2
          rw [this]; simp only [if_pos hj'']
        rw [hw3] at he
        rcases List.mem_append.1 he with he | he
        · exact hV8 v (List.mem_of_getElem? hv) e he
        · exact evsOf_le hrok i j' j e he
      obtain ⟨v, u, hv, hu, hvu⟩ := hV j' hj'
      obtain ⟨u', hu', hk'⟩ := round_K j σ r j' hj' (by rw [hsc, y9]) hrl (fun m hm => by have := (hrok.2 m hm).1; omega) hu
      refine ⟨v ++ evsOf i r j' j, u', by rw [hws j' hj', hv]; simp only [Option.map_some, if_pos hj'], hu', ?_⟩
      rw [List.map_append, hk', hvu, hrd]
  · have hie : i = p.l.length := by omega
    have hil5 : p.l.length ≤ 5 := by rw [← ye]; exact hL
    have hnl : ¬ i < p.l.length := by omega
    simp [-EvK_app, d1, d3, d5, d6, dm, dx, gM, hnl]
    rw [EvK_app]
    simp [-EvK_app, d1, d3, d5, d6, dm, dx, gM]
    refine EvK_cut (fun D => D.s 1 = .bptr nx 0 ∧ D.s 3 = .bptr (nx + 2) 0 ∧ D.s 5 = .own .nil 0 n (viewsC vs) ∧ D.m = M ∧ D.nx = x) (by simp [d1, d3, d5]) fun D ⟨d1, d3, d5, dm, dx⟩ => ?_
    rw [ev_seq, ev_seq]
    simp [-EvK_app, d1, d3, d5, dm, dx]
    rw [EvK_app]
    simp only [ev_block]
    have hsl : σ.views.length = n := by have := IN.hv; rw [hsc, hnn] at this; omega
    obtain ⟨J, hJ⟩ : ∃ J : Nat → St → Prop, J = fun q D => ∃ (j : Nat) (cs : List V), q = n - j ∧ j ≤ n ∧ cs.length = n ∧ (∀ j', j ≤ j' → j' < n → cs[j']? = (vs[j']?).map viewV) ∧ D.s 1 = .bptr nx 0 ∧ D.s 3 = .bptr (nx + 2) 0 ∧ D.s 5 = .own .nil 0 n cs ∧ D.s 11 = .int .i64 (j : Int) ∧ D.m = M ∧ D.nx = x := ⟨_, rfl⟩
    refine EvP.loop J (n := n) (by rw [hJ]; exact ⟨0, viewsC vs, by simp, by simp, by simp [hvl], fun j' _ _ => by unfold viewsC; rw [List.getElem?_map], by simp [d1, d3, d5]⟩) (by omega) fun q D hD => ?_
    rw [hJ] at hD
    obtain ⟨j, cs, rfl, hj, hcsl, hcs, d1, d3, d5, d11, dm, dx⟩ := hD
    by_cases hjl : j < n
    · have e5 := wrap_succ (q := j) (by omega)
      have e5' : IntKind.i64.wrap ((j : Int) + 1) = (j : Int) + 1 := wrapi (by omega) (by omega)
      obtain ⟨v, u, hv, hu, hvu⟩ := hV j hjl
      have hjc : j < cs.length := by omega
      have hcsj : cs[j]? = some (.own .nil 0 v.length (evsC v)) := by rw [hcs j (Nat.le_refl _) hjl, hv]; rfl
      have hcse : cs[j] = .own .nil 0 v.length (evsC v) := by
        have := List.getElem?_eq_getElem hjc
        rw [hcsj] at this
        exact (Option.some.inj this).symm
      have hjs : j < σ.views.length := by omega
      have hue : σ.views[j] = u := by
        have := List.getElem?_eq_getElem hjs
        rw [hu] at this
        exact (Option.some.inj this).symm
      have hul : u.length ≤ 900 := by
        have := IN.hB _ (List.mem_of_getElem? hu)
        rw [hrd] at this; omega
      have c23 := fun st dst => AO.call IN.hT IN.hl rfl (view23 (nx + 2) 0 σ tb IN.hT j hjs (by omega) (by rw [hue]; omega)) (k := k) (by omega) (by simp [ptrsL, ptrs]) rfl st dst
      rw [hM, hue] at c23
      simp only [viewV] at c23
      have hw8 : ∀ e ∈ u.map lentE, e.w.l.length ≤ 1000 := fun e he => by
        obtain ⟨e0, he0, rfl⟩ := List.mem_map.1 he
        have h1 : evK e0 ∈ u.map evK := List.mem_map_of_mem he0
        rw [← hvu] at h1
        obtain ⟨e1, he1, hk1⟩ := List.mem_map.1 h1
        have h2 := hV8 v (List.mem_of_getElem? hv) e1 he1
        have h3 : e1.w.l = e0.w.l := congrArg (fun x : Int × Int × List Nat => x.2.2) hk1
        show e0.w.l.length ≤ 1000
        rw [← h3]; omega
      have c22 := fun A A2 cap cap2 => callP (views22 false false A A2 cap cap2 (u.map lentE) (v.map lentE) (by rw [List.length_map]; omega) hw8) (k := k) (by omega) (by simp) rfl
      have hdec : decide ((u.map lentE).map evK = (v.map lentE).map evK) = true := by rw [evK_lent, evK_lent, hvu]; simp
      simp only [hdec, List.length_map] at c22
      simp [-EvK_app, -reach, -doCall, doCall_eq, d1, d3, d5, d11, dm, dx, gM, hpn, hjl]
      rw [EvK_app]
      simp [-EvK_app]
      refine EvK_cut (fun D => D.s 1 = .bptr nx 0 ∧ D.s 3 = .bptr (nx + 2) 0 ∧ D.s 5 = .own .nil 0 n cs ∧ D.s 11 = .int .i64 (j : Int) ∧ D.m = M ∧ D.nx = x) (by simp [d1, d3, d5, d11]) fun D ⟨d1, d3, d5, d11, dm, dx⟩ => ?_
      rw [ev_seq, ev_block, ev_seq]
      obtain ⟨FZ, hFZ⟩ : ∃ FZ : V, V.im (noBorL (evsC v)) none 0 v.length (frzL (noBorL (evsC v)) (evsC v)) = FZ := ⟨_, rfl⟩
      obtain ⟨FU, hFU⟩ : ∃ FU : V, V.im (noBorL (evsC u)) none 0 u.length (frzL (noBorL (evsC u)) (evsC u)) = FU := ⟨_, rfl⟩
      refine EvP.cutN (fun D => ∃ cs' : List V, cs'.length = n ∧ (∀ j', j + 1 ≤ j' → j' < n → cs'[j']? = (vs[j']?).map viewV) ∧ D.s 1 = .bptr nx 0 ∧ D.s 3 = .bptr (nx + 2) 0 ∧ D.s 5 = .own .nil 0 n cs' ∧ D.s 11 = .int .i64 (j : Int) ∧ D.s 127 = .bool false ∧ D.m = M ∧ D.nx = x) ?_ fun D ⟨cs', hcl', hcs', d1, d3, d5, d11, d127, dm, dx⟩ => ?_
      · refine EvP.drawT rfl ?_
        refine optE_mono (IsSt (fun i => if i = 127 then .bool false else if i = 126 then .bool true else if i = 5 then .own .nil 0 n (cs.set j FZ) else if i = 125 then FZ else if i = 124 then .loc (.slot 5) [j] else if i = 123 then .int .i64 (j : Int) else if i = 122 then .ref (.slot 5) [] else if i = 121 then FU else if i = 120 then .int .i64 ((j : Int) + 1) else if i = 119 then .int .i64 (j : Int) else if i = 118 then .bptr (nx + 2) 0 else sub (.slot 5) [j] FZ (sub (.slot 121) [] FU (kill (.slot 121) [] (killB ((nx + 2) :: σ.tp) x (D.s i))))) M x) (tree_all _ IsSt.sm _ _ ?_) (fun D2 hD => ?_)
        · intro p hp
          simp only [paths, List.map_cons, List.map_nil, List.cons_append, List.nil_append, List.mem_cons, List.not_mem_nil, or_false] at hp
          rcases hp with rfl | rfl | rfl
          all_goals
            simp [-reach, -doCall, doCall_eq, d1, d3, d5, d11, dm, dx, gM, c23, e5', hcsl, hjl, hjc, hcsj, hcse, frzL_evsC2, frzL_evsC, c22]
            refine ⟨fun i => ?_, rfl, rfl⟩
            rcases Decidable.em (i = 127) with rfl | a127
            · simp [hFZ, hFU]
            rcases Decidable.em (i = 126) with rfl | a126
            · simp [hFZ, hFU]
            rcases Decidable.em (i = 5) with rfl | a5
            · simp [hFZ, hFU]
            rcases Decidable.em (i = 125) with rfl | a125
            · simp [hFZ, hFU]
            rcases Decidable.em (i = 124) with rfl | a124
            · simp [hFZ, hFU]
            rcases Decidable.em (i = 123) with rfl | a123
            · simp [hFZ, hFU]
            rcases Decidable.em (i = 122) with rfl | a122
            · simp [hFZ, hFU]
            rcases Decidable.em (i = 121) with rfl | a121
            · simp [hFZ, hFU]
              rw [← hFU]
              simp
            rcases Decidable.em (i = 120) with rfl | a120
            · simp [hFZ, hFU]
            rcases Decidable.em (i = 119) with rfl | a119
            · simp [hFZ, hFU]
            rcases Decidable.em (i = 118) with rfl | a118
            · simp [hFZ, hFU]
            simp [hFZ, hFU, a127, a126, a5, a125, a124, a123, a122, a121, a120, a119, a118]
        · obtain ⟨q1, q2, q3⟩ := hD
          refine ⟨cs.set j FZ, by simp [hcsl], fun j' h1 h2 => ?_, ?_⟩
          · rw [List.getElem?_set_ne (by omega)]
            exact hcs j' (by omega) h2
          · simp [q1, q2, q3, d1, d3, d11]
      · simp [-EvK_app, d127]
        rw [EvK_app]
        simp [-EvK_app, d127]
        rw [EvK_app]
        simp [-EvK_app, d1, d3, d5, d11, dm, dx, e5]
        subst hJ
        exact ⟨n - (j + 1), by omega, j + 1, cs', rfl, by omega, hcl', hcs', by simp [d1], by simp [d3], by simp [d5], by simp, rfl, rfl⟩
    · have hje : j = n := by omega
      subst hje
      simp [d1, d3, d5, d11, dm, dx, gM, hpn]
      exact fun a b h => (hMn (a, b) h).1
end Go.Abs
end
