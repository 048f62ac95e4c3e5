/- Joined: AbsNY9. -/
import Derived.Test.YtjdgcblikhkioaaDoorAbs24
import Derived.Test.YtjdgcblikhkioaaDoorAbs26
set_option linter.all false
/- The seat of privitylaw14: NetworkHonestTrafficHidden. -/
set_option linter.unusedVariables false
noncomputable section
namespace Go.Abs
open Go Go.Proofs
set_option maxRecDepth 100000
open Classical in
set_option maxHeartbeats 16000000 in
theorem law9 (p : Exe) (hA : ExeA p) (a0 a1 a2 : Nat) (b0 : a0 < 256) (b1 : a1 < 256) (b2 : a2 < 256) (wA : Option Addr) (wc : Nat) (w : List Nat) : ∃ N, AnsN N Tryd.prog H14 9 [exeV p, .agg [.int .u8 (a0 : Int), .int .u8 (a1 : Int), .int .u8 (a2 : Int)], .im false wA wc w.length (uL w)] (.bool true) := by
  obtain ⟨N12, hN12⟩ := awake12
  have n8 : ((8 : Nat) : Int) = 8 := rfl
  obtain ⟨AT, hAT⟩ : ∃ AT : List V, [V.int .u8 (a0 : Int), .int .u8 (a1 : Int), .int .u8 (a2 : Int)] = AT := ⟨_, rfl⟩
  by_cases hF : FairE p
  case neg =>
    refine ⟨max N12 2000 + 1, AnsN.of (fn := Tryd.f9) (t := 6) (by rfl) Tryd.func9 rfl rfl (by rfl) (by rfl) fun k hk nx => ?_⟩
    have c12 := callP (k := k) hN12 (by omega) (by simp [ptrsL]) rfl
    have h1 := hA.w.e1
    have h2 := hA.w.e2
    have h3 := hA.w.e3
    have hlt := lents_ok hA.w.r
    have hrs := frzL_rsps fun r hr => (hA.m r hr).2
    have c15 := callP (k := k) (fair15 p hA) (by omega) (by simp [ptrsL, ptrs, exeV, exeL]) rfl
    rw [decide_eq_false hF] at c15
    simp only [exeV, exeL, h1, h2, h3] at c15
    simp [-EvK_app, -reach, -doCall, doCall_eq, entryS, exeV, exeL, h1, h2, h3]
    rw [EvK_app]
    simp [-EvK_app, -reach, -doCall, doCall_eq, c12]
    rw [EvK_app]
    simp [-EvK_app, -reach, -doCall, doCall_eq, c12]
    refine EvK_cut (fun D => D.s 2 = .im false wA wc w.length (uL w) ∧ D.s 3 = .bptr nx 0 ∧ D.s 4 = .bptr (nx + 1) 0 ∧ D.m = [(nx, ⟨0, exeL p⟩), (nx + 1, ⟨0, AT⟩)] ∧ D.nx = nx + 2) (by simp [exeL, h1, h2, h3, ← hAT]) fun D ⟨d2, d3, d4, dm, dx⟩ => ?_
    simp [-reach, -doCall, doCall_eq, d2, d3, d4, dm, dx, exeL, h1, h2, h3, hlt, hrs, c15]
    exact two_ge
  by_cases hL0 : p.l.length = 0
  case pos =>
    have hLt : ((p.l.length : Int) == 0) = true := by simp [hL0]
    refine ⟨max N12 2000 + 1, AnsN.of (fn := Tryd.f9) (t := 6) (by rfl) Tryd.func9 rfl rfl (by rfl) (by rfl) fun k hk nx => ?_⟩
    have c12 := callP (k := k) hN12 (by omega) (by simp [ptrsL]) rfl
    have h1 := hA.w.e1
    have h2 := hA.w.e2
    have h3 := hA.w.e3
    have hlt := lents_ok hA.w.r
    have hrs := frzL_rsps fun r hr => (hA.m r hr).2
    have c15 := callP (k := k) (fair15 p hA) (by omega) (by simp [ptrsL, ptrs, exeV, exeL]) rfl
    rw [decide_eq_true hF] at c15
    simp only [exeV, exeL, h1, h2, h3] at c15
    simp [-EvK_app, -reach, -doCall, doCall_eq, entryS, exeV, exeL, h1, h2, h3]
    rw [EvK_app]
    simp [-EvK_app, -reach, -doCall, doCall_eq, c12]
    rw [EvK_app]
    simp [-EvK_app, -reach, -doCall, doCall_eq, c12]
    refine EvK_cut (fun D => D.s 2 = .im false wA wc w.length (uL w) ∧ D.s 3 = .bptr nx 0 ∧ D.s 4 = .bptr (nx + 1) 0 ∧ D.m = [(nx, ⟨0, exeL p⟩), (nx + 1, ⟨0, AT⟩)] ∧ D.nx = nx + 2) (by simp [exeL, h1, h2, h3, ← hAT]) fun D ⟨d2, d3, d4, dm, dx⟩ => ?_
    simp [-reach, -doCall, doCall_eq, d2, d3, d4, dm, dx, exeL, h1, h2, h3, hlt, hrs, c15, hLt]
    exact two_ge
  have hLz : ((p.l.length : Int) == 0) = false := by
    have : ¬ ((p.l.length : Int) = 0) := by omega
    simpa using this
  by_cases hW : w.length ≤ 8 ∧ ∀ x ∈ w, x < p.w.p
  case neg =>
    refine ⟨max N12 2000 + 1, AnsN.of (fn := Tryd.f9) (t := 6) (by rfl) Tryd.func9 rfl rfl (by rfl) (by rfl) fun k hk nx => ?_⟩
    have c12 := callP (k := k) hN12 (by omega) (by simp [ptrsL]) rfl
    have h1 := hA.w.e1
    have h2 := hA.w.e2
    have h3 := hA.w.e3
    have hlt := lents_ok hA.w.r
    have hrs := frzL_rsps fun r hr => (hA.m r hr).2
    have c15 := callP (k := k) (fair15 p hA) (by omega) (by simp [ptrsL, ptrs, exeV, exeL]) rfl
    rw [decide_eq_true hF] at c15
    simp only [exeV, exeL, h1, h2, h3] at c15
    simp [-EvK_app, -reach, -doCall, doCall_eq, entryS, exeV, exeL, h1, h2, h3]
    rw [EvK_app]
    simp [-EvK_app, -reach, -doCall, doCall_eq, c12]
    rw [EvK_app]
    simp [-EvK_app, -reach, -doCall, doCall_eq, c12]
    refine EvK_cut (fun D => D.s 2 = .im false wA wc w.length (uL w) ∧ D.s 3 = .bptr nx 0 ∧ D.s 4 = .bptr (nx + 1) 0 ∧ D.m = [(nx, ⟨0, exeL p⟩), (nx + 1, ⟨0, AT⟩)] ∧ D.nx = nx + 2) (by simp [exeL, h1, h2, h3, ← hAT]) fun D ⟨d2, d3, d4, dm, dx⟩ => ?_
    have c21 := callP (k := k) (below21 p.w.p false none 0 [⟨false, wA, wc, w⟩] 8 (by simp) (by omega)) (by omega) (by simp [ptrsL, ptrs, rsV, rV]) rfl
    rw [decide_eq_false (by simpa using hW)] at c21
    simp only [rsV, List.map_cons, List.map_nil, rV, List.length_cons, List.length_nil, Nat.zero_add, n8] at c21
    simp [-reach, -doCall, doCall_eq, d2, d3, d4, dm, dx, exeL, h1, h2, h3, hlt, hrs, c15, hLz, c21]
    exact two_ge
  obtain ⟨⟨f1, f2, f3, f4, hs⟩, hL, hrds⟩ := id hF
  have hn413 := scnS_n hs
  have hr1000 : ∀ r ∈ p.w.tapes, r.l.length ≤ 1000 := fun r h => by have := f4 r h; omega
  obtain ⟨N, hN⟩ := new_ex p.w hs (by omega) (by omega) hr1000 hA.w.k
  refine ⟨max (max N12 1200000) (max N 100 + 1) + 1, AnsN.of (fn := Tryd.f9) (t := 6) (by rfl) Tryd.func9 rfl rfl (by rfl) (by rfl) fun k hk nx => ?_⟩
  have c12 := callP (k := k) hN12 (by omega) (by simp [ptrsL]) rfl
  have h1 := hA.w.e1
  have h2 := hA.w.e2
  have h3 := hA.w.e3
  have hlt := lents_ok hA.w.r
  have hrs := frzL_rsps fun r hr => (hA.m r hr).2
  have c15 := callP (k := k) (fair15 p hA) (by omega) (by simp [ptrsL, ptrs, exeV, exeL]) rfl
  rw [decide_eq_true hF] at c15
  simp only [exeV, exeL, h1, h2, h3] at c15
  simp [-EvK_app, -reach, -doCall, doCall_eq, entryS, exeV, exeL, h1, h2, h3]
  rw [EvK_app]
  simp [-EvK_app, -reach, -doCall, doCall_eq, c12]
  rw [EvK_app]
  simp [-EvK_app, -reach, -doCall, doCall_eq, c12]
  refine EvK_cut (fun D => D.s 2 = .im false wA wc w.length (uL w) ∧ D.s 3 = .bptr nx 0 ∧ D.s 4 = .bptr (nx + 1) 0 ∧ D.m = [(nx, ⟨0, exeL p⟩), (nx + 1, ⟨0, AT⟩)] ∧ D.nx = nx + 2) (by simp [exeL, h1, h2, h3, ← hAT]) fun D ⟨d2, d3, d4, dm, dx⟩ => ?_
  have c21 := callP (k := k) (below21 p.w.p false none 0 [⟨false, wA, wc, w⟩] 8 (by simp) (by omega)) (by omega) (by simp [ptrsL, ptrs, rsV, rV]) rfl
  rw [decide_eq_true (by simpa using hW)] at c21
  simp only [rsV, List.map_cons, List.map_nil, rV, List.length_cons, List.length_nil, Nat.zero_add, n8] at c21
  obtain ⟨n, hn⟩ : ∃ n, p.w.tapes.length = n := ⟨_, rfl⟩
  have hnn : p.w.n = (n : Int) := by rw [← hn]; exact hs.2.1.symm
  obtain ⟨F, hFd⟩ : ∃ F : RD → List V, (fun w => tapeC (lent w) 0) = F := ⟨_, rfl⟩
  have hFp : ∀ w, ptrsL (F w) = [] := fun w => by rw [← hFd]; exact ptrsL_tapeC _ _
  simp [-EvK_app, -reach, -doCall, doCall_eq, d2, d3, d4, dm, dx, exeL, h1, h2, h3, hlt, hrs, c15, hLz, c21]
  rw [EvK_app]
  simp [-EvK_app]
  refine EvK_cut (fun D => D.s 2 = .im false wA wc w.length (uL w) ∧ D.s 3 = .bptr nx 0 ∧ D.s 4 = .bptr (nx + 1) 0 ∧ D.m = [(nx, ⟨0, exeL p⟩), (nx + 1, ⟨0, AT⟩)] ∧ D.nx = nx + 2) (by simp [exeL, h1, h2, h3, d2, d3, d4]) fun D ⟨d2, d3, d4, dm, dx⟩ => ?_
  obtain ⟨kk, hkk⟩ : ∃ kk, a0 % p.l.length = kk := ⟨_, rfl⟩
  obtain ⟨ff, hff⟩ : ∃ ff, a1 % n = ff := ⟨_, rfl⟩
  obtain ⟨tt, htt⟩ : ∃ tt, a2 % n = tt := ⟨_, rfl⟩
  have hkl : kk < p.l.length := by rw [← hkk]; exact Nat.mod_lt _ (by omega)
  have hfn : ff < n := by rw [← hff]; exact Nat.mod_lt _ (by omega)
  have htn : tt < n := by rw [← htt]; exact Nat.mod_lt _ (by omega)
  have q0 : intOp .rem .i64 (a0 : Int) (p.l.length : Int) = some (.int .i64 (kk : Int)) := by rw [← hkk]; exact int_rem (by omega)
  have q1 : intOp .rem .i64 (a1 : Int) p.w.n = some (.int .i64 (ff : Int)) := by rw [← hff, hnn]; exact int_rem (by omega)
  have q2 : intOp .rem .i64 (a2 : Int) p.w.n = some (.int .i64 (tt : Int)) := by rw [← htt, hnn]; exact int_rem (by omega)
  have w0 : IntKind.i64.wrap (a0 : Int) = (a0 : Int) := wrap_nat (by omega) (by omega)
  have w1 : IntKind.i64.wrap (a1 : Int) = (a1 : Int) := wrap_nat (by omega) (by omega)
  have w2 : IntKind.i64.wrap (a2 : Int) = (a2 : Int) := wrap_nat (by omega) (by omega)
  have wf : IntKind.i64.wrap ((ff : Int) + 1) = (ff : Int) + 1 := wrapi (by omega) (by omega)
  have wt : IntKind.i64.wrap ((tt : Int) + 1) = (tt : Int) + 1 := wrapi (by omega) (by omega)
  simp [-EvK_app, d2, d3, d4, dm, dx, exeL, h1, h2, h3, ← hAT, q0, q1, q2, w0, w1, w2]
  refine EvK_cut (fun D => D.s 2 = .im false wA wc w.length (uL w) ∧ D.s 3 = .bptr nx 0 ∧ D.s 7 = .int .i64 (kk : Int) ∧ D.s 8 = .int .i64 (ff : Int) ∧ D.s 9 = .int .i64 (tt : Int) ∧ D.m = [(nx, ⟨0, exeL p⟩), (nx + 1, ⟨0, AT⟩)] ∧ D.nx = nx + 2) (by simp [exeL, h1, h2, h3, d2, d3, ← hAT]) fun D ⟨d2, d3, d7, d8, d9, dm, dx⟩ => ?_
  have p1 := rspsV_drop hkl
  have c19 := fun v => callP (k := k) (honest19 p.w (by omega) v) (by omega) (by simp [ptrsL, ptrs, scV, scL]) rfl
  simp only [scV, scL, h1, h2, h3] at c19
  cases hck : p.l[kk].cast with
  | true =>
    simp [-reach, -doCall, doCall_eq, d2, d3, d7, d8, d9, dm, dx, exeL, h1, h2, h3, hkl, p1, hck]
    exact two_ge
  | false =>
  by_cases hcf : (ff : Int) + 1 ∈ p.w.corrupt
  · have c19f := c19 ((ff : Int) + 1)
    rw [decide_eq_false (fun h => h hcf)] at c19f
    simp [-reach, -doCall, doCall_eq, d2, d3, d7, d8, d9, dm, dx, exeL, h1, h2, h3, hkl, p1, hck, hlt, wf, c19f]
    exact two_ge
  by_cases hct : (tt : Int) + 1 ∈ p.w.corrupt
  · have c19f := c19 ((ff : Int) + 1)
    rw [decide_eq_true hcf] at c19f
    have c19t := c19 ((tt : Int) + 1)
    rw [decide_eq_false (fun h => h hct)] at c19t
    simp [-reach, -doCall, doCall_eq, d2, d3, d7, d8, d9, dm, dx, exeL, h1, h2, h3, hkl, p1, hck, hlt, wf, wt, c19f, c19t]
    exact two_ge
  have c19f := c19 ((ff : Int) + 1)
  rw [decide_eq_true hcf] at c19f
  have c19t := c19 ((tt : Int) + 1)
  rw [decide_eq_true hct] at c19t
  simp [-EvK_app, -reach, -doCall, doCall_eq, d2, d3, d7, d8, d9, dm, dx, exeL, h1, h2, h3, hkl, p1, hck, hlt, wf, wt, c19f, c19t]
  rw [EvK_app]
  simp [-EvK_app]
  refine EvK_cut (fun D => D.s 2 = .im false wA wc w.length (uL w) ∧ D.s 3 = .bptr nx 0 ∧ D.s 7 = .int .i64 (kk : Int) ∧ D.s 8 = .int .i64 (ff : Int) ∧ D.s 9 = .int .i64 (tt : Int) ∧ D.m = [(nx, ⟨0, exeL p⟩), (nx + 1, ⟨0, AT⟩)] ∧ D.nx = nx + 2) (by simp [exeL, h1, h2, h3, d2, d3, d7, d8, d9]) fun D ⟨d2, d3, d7, d8, d9, dm, dx⟩ => ?_
  obtain ⟨x1, hx1⟩ : ∃ x1, nx + 2 + (2 + p.w.tapes.length) = x1 := ⟨_, rfl⟩
  obtain ⟨x2, hx2⟩ : ∃ x2, x1 + (2 + p.w.tapes.length) = x2 := ⟨_, rfl⟩
  obtain ⟨tb1, htb1⟩ : ∃ tb, tapB F (nx + 2 + 2) p.w.tapes = tb := ⟨_, rfl⟩
  obtain ⟨tb2, htb2⟩ : ∃ tb, tapB F (x1 + 2) p.w.tapes = tb := ⟨_, rfl⟩
  obtain ⟨σ0, hσ0⟩ : ∃ σ0, net0 p.w (nx + 2) p.w.tapes.length = σ0 := ⟨_, rfl⟩
  obtain ⟨τ0, hτ0⟩ : ∃ τ0, net0 p.w x1 p.w.tapes.length = τ0 := ⟨_, rfl⟩
  have I1 : NetI N (nx + 3) σ0 tb1 := by rw [← hσ0, ← htb1]; exact net0_I F hFp p.w (nx + 2) hs hN (scnS_pq hs) hn413.2 (by omega)
  have I2 : NetI N (x1 + 1) τ0 tb2 := by rw [← hτ0, ← htb2]; exact net0_I F hFp p.w x1 hs hN (scnS_pq hs) hn413.2 (by omega)
  have TW := net0_two p.w nx (nx + 2) ⟨0, exeL p⟩ ⟨0, scL p.w⟩ ⟨0, scL p.w⟩ [(nx, ⟨0, exeL p⟩), (nx + 1, ⟨0, AT⟩)] (by simp [getBox]) (fun e he => by
    simp only [List.mem_cons, List.not_mem_nil, or_false] at he
    rcases he with rfl | rfl
    · exact ⟨Nat.le_refl _, by show nx < nx + 2; omega⟩
    · exact ⟨by show nx ≤ nx + 1; omega, by show nx + 1 < nx + 2; omega⟩) (by omega)
  rw [hx1, hx2, hσ0, hτ0] at TW
  obtain ⟨O1, hO1⟩ : ∃ O1 : List (Nat × Box), [(nx, (⟨0, exeL p⟩ : Box)), (nx + 1, ⟨0, AT⟩)] ++ [(nx + 2, ⟨0, scL p.w⟩)] = O1 := ⟨_, rfl⟩
  obtain ⟨O2, hO2⟩ : ∃ O2 : List (Nat × Box), [(x1, (⟨0, scL p.w⟩ : Box))] = O2 := ⟨_, rfl⟩
  rw [hO1, hO2] at TW
  have c13 := fun st dst => call13 p.w st [(nx, ⟨0, exeL p⟩), (nx + 1, ⟨0, AT⟩)] (nx + 2) dst (by omega) (by omega) hr1000 hs (k := k) (by omega)
  rw [hFd, netM_at, hσ0, hx1, htb1] at c13
  obtain ⟨M1, hM1⟩ : ∃ M1 : List (Nat × Box), O1 ++ (nx + 3, ⟨0, netC σ0⟩) :: tb1 = M1 := ⟨_, rfl⟩
  have hM1' : [(nx, (⟨0, exeL p⟩ : Box)), (nx + 1, ⟨0, AT⟩)] ++ (nx + 2, ⟨0, scL p.w⟩) :: (nx + 2 + 1, ⟨0, netC σ0⟩) :: tb1 = M1 := by rw [← hM1, ← hO1]; rfl
  rw [hM1'] at c13
  have c13b := fun st dst => call13 p.w st M1 x1 dst (by omega) (by omega) hr1000 hs (k := k) (by omega)
  rw [hFd, netM_at, hτ0, hx2, htb2] at c13b
  obtain ⟨M2, hM2⟩ : ∃ M2 : List (Nat × Box), O1 ++ ((nx + 3, ⟨0, netC σ0⟩) :: tb1) ++ (O2 ++ ((x1 + 1, ⟨0, netC τ0⟩) :: tb2)) = M2 := ⟨_, rfl⟩
  have hM2' : M1 ++ (x1, (⟨0, scL p.w⟩ : Box)) :: (x1 + 1, ⟨0, netC τ0⟩) :: tb2 = M2 := by rw [← hM2, ← hM1, ← hO2]; rfl
  rw [hM2'] at c13b
  have gM1 : getBox M1 nx = some ⟨0, exeL p⟩ := by rw [← hM1']; simp [getBox]
  have gM2 : getBox M2 nx = some ⟨0, exeL p⟩ := by rw [← hM2]; exact TW.get2 I1.hT
  simp only [scV, scL, exeL, h1, h2, h3] at c13 c13b gM1
  simp [-EvK_app, -reach, -doCall, doCall_eq, d2, d3, d7, d8, d9, dm, dx, exeL, h1, h2, h3, hlt, c13]
  refine EvK_cut (fun D => D.s 2 = .im false wA wc w.length (uL w) ∧ D.s 3 = .bptr nx 0 ∧ D.s 7 = .int .i64 (kk : Int) ∧ D.s 8 = .int .i64 (ff : Int) ∧ D.s 9 = .int .i64 (tt : Int) ∧ D.s 10 = .bptr (nx + 3) 0 ∧ D.s 11 = .int .i64 0 ∧ D.m = M1 ∧ D.nx = x1) (by simp [d2, d3, d7, d8, d9]) fun D ⟨d2, d3, d7, d8, d9, d10, d11, dm, dx⟩ => ?_
  simp [-EvK_app, -reach, -doCall, doCall_eq, d2, d3, d7, d8, d9, d10, d11, dm, dx, gM1, hlt, c13b]
  refine EvK_cut (fun D => D.s 2 = .im false wA wc w.length (uL w) ∧ D.s 3 = .bptr nx 0 ∧ D.s 7 = .int .i64 (kk : Int) ∧ D.s 8 = .int .i64 (ff : Int) ∧ D.s 9 = .int .i64 (tt : Int) ∧ D.s 10 = .bptr (nx + 3) 0 ∧ D.s 11 = .int .i64 0 ∧ D.s 12 = .bptr (x1 + 1) 0 ∧ D.s 13 = .int .i64 0 ∧ D.m = M2 ∧ D.nx = x2) (by simp [d2, d3, d7, d8, d9, d10, d11]) fun D ⟨d2, d3, d7, d8, d9, d10, d11, d12, d13, dm, dx⟩ => ?_
  simp [-EvK_app, d2, d3, d7, d8, d9, d10, d11, d12, d13, dm, dx]
  rw [EvK_app]
  simp [-EvK_app, d2, d3, d7, d8, d9, d10, d11, d12, d13, dm, dx]
  refine EvK_cut (fun D => D.s 2 = .im false wA wc w.length (uL w) ∧ D.s 3 = .bptr nx 0 ∧ D.s 7 = .int .i64 (kk : Int) ∧ D.s 8 = .int .i64 (ff : Int) ∧ D.s 9 = .int .i64 (tt : Int) ∧ D.s 10 = .bptr (nx + 3) 0 ∧ D.s 12 = .bptr (x1 + 1) 0 ∧ D.m = M2 ∧ D.nx = x2) (by simp [d2, d3, d7, d8, d9, d10, d12]) fun D ⟨d2, d3, d7, d8, d9, d10, d12, dm, dx⟩ => ?_
  simp [-EvK_app, d2, d3, d7, d8, d9, d10, d12, dm, dx]
  rw [EvK_app]
  simp only [ev_block]
  have hA0 : Alike n (fun w => (w : Int) + 1 ∈ p.w.corrupt) σ0 τ0 := fun w hw _ => by
    refine ⟨[], [], ?_, ?_, rfl⟩
    · rw [← hσ0]
      show (List.replicate p.w.n.toNat ([] : List Ev))[w]? = _
      rw [hnn]; simp [hw]
    · rw [← hτ0]
      show (List.replicate p.w.n.toNat ([] : List Ev))[w]? = _
      rw [hnn]; simp [hw]
  obtain ⟨I, hI⟩ : ∃ I : Nat → St → Prop, I = fun q D => ∃ (i : Nat) (σ τ : NetS) (O1 O2 : List (Nat × Box)) (x : Nat), q = p.l.length - i ∧ i ≤ p.l.length ∧ D.s 2 = .im false wA wc w.length (uL w) ∧ D.s 3 = .bptr nx 0 ∧ D.s 7 = .int .i64 (kk : Int) ∧ D.s 8 = .int .i64 (ff : Int) ∧ D.s 9 = .int .i64 (tt : Int) ∧ D.s 10 = .bptr (nx + 3) 0 ∧ D.s 12 = .bptr (x1 + 1) 0 ∧ D.s 14 = .int .i64 (i : Int) ∧ D.m = O1 ++ ((nx + 3, (⟨0, netC σ⟩ : Box)) :: tb1) ++ (O2 ++ ((x1 + 1, (⟨0, netC τ⟩ : Box)) :: tb2)) ∧ D.nx = x ∧ NetI N (nx + 3) σ tb1 ∧ NetI N (x1 + 1) τ tb2 ∧ σ.scn = p.w ∧ τ.scn = p.w ∧ σ.round = i ∧ τ.round = i ∧ σ.tp = σ0.tp ∧ τ.tp = τ0.tp ∧ Two nx (nx + 3) (x1 + 1) σ0.tp τ0.tp ⟨0, exeL p⟩ (O1 ++ O2) x ∧ VW σ ∧ VW τ ∧ Alike n (fun w => (w : Int) + 1 ∈ p.w.corrupt) σ τ := ⟨_, rfl⟩
  refine EvP.loop I (n := p.l.length) (by rw [hI]; exact ⟨0, σ0, τ0, O1, O2, x2, by simp, by simp, by simp [d2], by simp [d3], by simp [d7], by simp [d8], by simp [d9], by simp [d10], by simp [d12], by simp, hM2.symm, rfl, I1, I2, by rw [← hσ0]; rfl, by rw [← hτ0]; rfl, by rw [← hσ0]; rfl, by rw [← hτ0]; rfl, rfl, rfl, TW, by rw [← hσ0]; exact vw_net0 _ _ _, by rw [← hτ0]; exact vw_net0 _ _ _, hA0⟩) (by omega) fun q D hD => ?_
  clear d2 d3 d7 d8 d9 d10 d12 dm dx c13 c13b hM1' hM2' hM1 hM2 gM1 gM2 TW I1 I2 hO1 hO2 O1 O2
  rw [hI] at hD
  obtain ⟨i, σ, τ, O1, O2, x, rfl, hi, d2, d3, d7, d8, d9, d10, d12, d14, dm, dx, I1, I2, hsc1, hsc2, hrd1, hrd2, htp1, htp2, TW, V1, V2, hAl⟩ := hD
  rw [← htp1, ← htp2] at TW
  obtain ⟨M, hM⟩ : ∃ M : List (Nat × Box), O1 ++ ((nx + 3, (⟨0, netC σ⟩ : Box)) :: tb1) ++ (O2 ++ ((x1 + 1, (⟨0, netC τ⟩ : Box)) :: tb2)) = M := ⟨_, rfl⟩
  rw [hM] at dm
  have gM : getBox M nx = some ⟨0, exeL p⟩ := by rw [← hM]; exact TW.get2 I1.hT
  have hMn : ∀ e ∈ M, nx ≤ e.1 ∧ e.1 < x := by rw [← hM]; exact TW.mem2 I1.hT I2.hT
  simp only [exeL, h1, h2, h3] at gM
  by_cases hil : i < p.l.length
  · have e3 := wrap_succ (q := i) (by omega)
    have p1 := rspsV_drop hil
    obtain ⟨r, hr⟩ : ∃ r, p.l[i] = r := ⟨_, rfl⟩
    rw [hr] at p1
    have hrok : RoundOk p.w.p (n : Int) r := by rw [← hnn, ← hr]; exact hrds _ (List.getElem_mem hil)
    obtain ⟨hrl, hrm⟩ := rounds_ms hrok
    have hmA : ∀ m ∈ r.ms, MdOk m := hr ▸ (hA.m _ (List.getElem_mem hil)).2
    have hlm := lentMs_ok hmA
    have hlf := firsts_ok hmA
    have hns1 : (r.ms.length : Int) = σ.scn.n := by rw [hsc1, hnn, hrl]
    have hns2 : (r.ms.length : Int) = τ.scn.n := by rw [hsc2, hnn, hrl]
    have c17 := callP (broadcasts17 false r.A r.cap r.ms (by omega) fun m hm => by have := (hrok.2 m hm).1; omega) (k := k) (by omega) (by simp) rfl
    have gx0 : ∀ c, getBox (M ++ [(x, c)]) x = some c := fun c => getBox_app_new fun b hb => (hMn b hb).2
    have sx : ∀ c c', setBox (M ++ [(x, c)]) x c' = M ++ [(x, c')] := fun c c' => setBox_app_new fun b hb => (hMn b hb).2
    have hend : ∀ (σ' τ' : NetS) (c' : Box) (D : St), NetI N (nx + 3) σ' tb1 → NetI N (x1 + 1) τ' tb2 → σ'.scn = σ.scn → τ'.scn = τ.scn → σ'.round = σ.round + 1 → τ'.round = τ.round + 1 → σ'.tp = σ.tp → τ'.tp = τ.tp → VW σ' → VW τ' → Alike n (fun w => (w : Int) + 1 ∈ p.w.corrupt) σ' τ' → D.s 2 = .im false wA wc w.length (uL w) → D.s 3 = .bptr nx 0 → D.s 7 = .int .i64 (kk : Int) → D.s 8 = .int .i64 (ff : Int) → D.s 9 = .int .i64 (tt : Int) → D.s 10 = .bptr (nx + 3) 0 → D.s 12 = .bptr (x1 + 1) 0 → D.s 14 = .int .i64 ((i + 1 : Nat) : Int) → D.m = ((O1 ++ O2 ++ [(x, c')]) ++ ((nx + 3, (⟨0, netC σ'⟩ : Box)) :: tb1)) ++ ((x1 + 1, (⟨0, netC τ'⟩ : Box)) :: tb2) → D.nx = x + 1 → ∃ n', n' < p.l.length - i ∧ I n' D := by
      intro σ' τ' c' D i1 i2 s1 s2 r1 r2 t1 t2 v1 v2 al a2 a3 a7 a8 a9 a10 a12 a14 am ax
      rw [hI]
      exact ⟨p.l.length - (i + 1), by omega, i + 1, σ', τ', O1 ++ O2 ++ [(x, c')], [], x + 1, rfl, by omega, a2, a3, a7, a8, a9, a10, a12, a14, am, ax, i1, i2, s1.trans hsc1, s2.trans hsc2, by rw [r1, hrd1]; omega, by rw [r2, hrd2]; omega, t1.trans htp1, t2.trans htp2, by rw [List.append_nil, ← htp1, ← htp2]; exact TW.add, v1, v2, al⟩
    simp [-EvK_app, d2, d3, d7, d8, d9, d10, d12, d14, dm, dx, gM, hil]
    rw [EvK_app]
    simp [-EvK_app]
    rw [EvK_app, ev_seq, ev_block, ev_seq]
    simp [-EvK_app, d2, d3, d7, d8, d9, d10, d12, d14, dm, dx, gM, hil, p1, gx0, sx]
    refine EvK_cut (fun D => D.s 2 = .im false wA wc w.length (uL w) ∧ D.s 3 = .bptr nx 0 ∧ D.s 7 = .int .i64 (kk : Int) ∧ D.s 8 = .int .i64 (ff : Int) ∧ D.s 9 = .int .i64 (tt : Int) ∧ D.s 10 = .bptr (nx + 3) 0 ∧ D.s 12 = .bptr (x1 + 1) 0 ∧ D.s 14 = .int .i64 (i : Int) ∧ D.s 15 = .bptr x 0 ∧ D.m = M ++ [(x, ⟨0, rspC r⟩)] ∧ D.nx = x + 1) (by simp [d2, d3, d7, d8, d9, d10, d12, d14, rspC]) fun D ⟨d2, d3, d7, d8, d9, d10, d12, d14, d15, dm, dx⟩ => ?_
    obtain ⟨O, hO⟩ : ∃ O, O1 ++ O2 = O := ⟨_, rfl⟩
    rw [hO] at TW hend
    cases hc : r.cast with
    | true =>
      obtain ⟨L, hLd⟩ : ∃ L, (firsts r.ms).map (·.l) = L := ⟨_, rfl⟩
      have hLok : LsOk p.w.p L := by rw [← hLd]; exact rounds_ls hrok
      have hfl := firsts_length r.ms
      have lk1 := like_castS cpW (netTold σ L) n σ
      have lk2 := like_castS cpW (netTold τ L) n τ
      obtain ⟨σ', hσ'⟩ : ∃ σ', castS cpW (netTold σ L) n σ = σ' := ⟨_, rfl⟩
      obtain ⟨τ', hτ'⟩ : ∃ τ', castS cpW (netTold τ L) n τ = τ' := ⟨_, rfl⟩
      rw [hσ'] at lk1
      rw [hτ'] at lk2
      have I1' : NetI N (nx + 3) σ' tb1 := by rw [← hσ']; exact I1.cast cpW _ (by rw [← hrl]; exact hns1)
      have I2' : NetI N (x1 + 1) τ' tb2 := by rw [← hτ']; exact I2.cast cpW _ (by rw [← hrl]; exact hns2)
      have V1' : VW σ' := by rw [← hσ']; exact V1.cast cpW (fun _ => rfl) (I1.told_ok (by rw [hsc1]; exact hLok))
      have V2' : VW τ' := by rw [← hτ']; exact V2.cast cpW (fun _ => rfl) (I2.told_ok (by rw [hsc2]; exact hLok))
      have hTe : netTold τ L = netTold σ L := by unfold netTold; rw [hsc1, hsc2, hrd1, hrd2]
      have hAl' : Alike n (fun w => (w : Int) + 1 ∈ p.w.corrupt) σ' τ' := by
        rw [← hσ', ← hτ', hTe]
        exact alike_cast hAl (by rw [hrd1, hrd2]) cpW cpW (fun _ => rfl) _
      obtain ⟨MA, hMA⟩ : ∃ MA : List (Nat × Box), ((O ++ ((x1 + 1, (⟨0, netC τ⟩ : Box)) :: tb2)) ++ [(x, ⟨0, rspC r⟩)]) ++ ((nx + 3, (⟨0, netC σ'⟩ : Box)) :: tb1) = MA := ⟨_, rfl⟩
      obtain ⟨MB, hMB⟩ : ∃ MB : List (Nat × Box), ((O ++ [(x, ⟨0, rspC r⟩)]) ++ ((nx + 3, (⟨0, netC σ'⟩ : Box)) :: tb1)) ++ ((x1 + 1, (⟨0, netC τ'⟩ : Box)) :: tb2) = MB := ⟨_, rfl⟩
      have TW' : Two nx (nx + 3) (x1 + 1) σ'.tp τ.tp ⟨0, exeL p⟩ O x := by rw [lk1.2.1]; exact TW
      have gA : getBox MA x = some ⟨0, rspC r⟩ := by rw [← hMA]; exact TW'.getX I2.hT
      have c16a := fun st dst => Two.callA2 (c' := ⟨0, rspC r⟩) (O1 := O1) (O2 := O2) (by rw [hO]; exact TW) I1.hT I1.hl I2.hT (σ' := σ') (by rw [lk1.2.1]) (by rw [← hσ', ← hLd, ← hrl, ← hfl]; exact I1.cast16 (g := 0) (by omega) false none 0 (firsts r.ms) (by rw [hfl]; exact hns1) (by rw [hsc1]; exact rounds_ls hrok)) (k := k) (by omega) (by simp [ptrsL, ptrs]) rfl st dst
      rw [hM, hO, hMA, hfl] at c16a
      have c16b := fun st dst => Two.callB (c' := ⟨0, rspC r⟩) TW' I1'.hT I2.hT I2.hl (τ' := τ') (by rw [lk2.2.1]) (by rw [← hτ', ← hLd, ← hrl, ← hfl]; exact I2.cast16 (g := 0) (by omega) false none 0 (firsts r.ms) (by rw [hfl]; exact hns2) (by rw [hsc2]; exact rounds_ls hrok)) (k := k) (by omega) (by simp [ptrsL, ptrs]) rfl st dst
      rw [hMA, hMB, hfl] at c16b
      simp only [rspC, hc] at c16a gA
      simp [-EvK_app, -reach, -doCall, doCall_eq, d2, d3, d7, d8, d9, d10, d12, d14, d15, dm, dx, gx0, rspC, hc]
      rw [EvK_app]
      simp [-EvK_app, -reach, -doCall, doCall_eq, d2, d3, d7, d8, d9, d10, d12, d14, d15, dm, dx, gx0, rspC, hc, hlm, c17, rsV_lent2, hlf, c16a]
      refine EvK_cut (fun D => D.s 2 = .im false wA wc w.length (uL w) ∧ D.s 3 = .bptr nx 0 ∧ D.s 7 = .int .i64 (kk : Int) ∧ D.s 8 = .int .i64 (ff : Int) ∧ D.s 9 = .int .i64 (tt : Int) ∧ D.s 10 = .bptr (nx + 3) 0 ∧ D.s 12 = .bptr (x1 + 1) 0 ∧ D.s 14 = .int .i64 (i : Int) ∧ D.s 15 = .bptr x 0 ∧ D.m = MA ∧ D.nx = x + 1) (by simp [d2, d3, d7, d8, d9, d10, d12, d14, d15]) fun D ⟨d2, d3, d7, d8, d9, d10, d12, d14, d15, dm, dx⟩ => ?_
      simp [-reach, -doCall, doCall_eq, d2, d3, d7, d8, d9, d10, d12, d14, d15, dm, dx, gA, hlm, c17, rsV_lent2, hlf, c16b, e3]
      exact hend σ' τ' _ _ I1' I2' lk1.1 lk2.1 lk1.2.2.2 lk2.2.2.2 lk1.2.1 lk2.2.1 V1' V2' hAl' (by simp [d2]) (by simp [d3]) (by simp [d7]) (by simp [d8]) (by simp [d9]) (by simp [d10]) (by simp [d12]) (by simp) hMB.symm rfl
    | false =>
      obtain ⟨S, hS⟩ : ∃ S, netSaid σ n (mls r.ms) = S := ⟨_, rfl⟩
      have hSok : MsOk p.w.p n S := by rw [← hS, ← hsc1]; exact I1.said_ok (by rw [hsc1]; exact hrm)
      obtain ⟨RA, hRA⟩ : ∃ RA, rowsC (outL S n n) = RA := ⟨_, rfl⟩
      obtain ⟨σ', hσ'⟩ : ∃ σ', sentS cpW S n σ = σ' := ⟨_, rfl⟩
      have lk1 := like_sentS cpW S n σ
      rw [hσ'] at lk1
      have I1' : NetI N (nx + 3) σ' tb1 := by rw [← hσ']; exact I1.sent cpW _ (by rw [← hrl]; exact hns1)
      have V1' : VW σ' := by rw [← hσ']; exact V1.sent cpW (fun _ => rfl) (sw_le hSok)
      obtain ⟨MA, hMA⟩ : ∃ MA : Box → List (Nat × Box), (fun c => ((O ++ ((x1 + 1, (⟨0, netC τ⟩ : Box)) :: tb2)) ++ [(x, c)]) ++ ((nx + 3, (⟨0, netC σ'⟩ : Box)) :: tb1)) = MA := ⟨_, rfl⟩
      have hMA' : ∀ c, ((O ++ ((x1 + 1, (⟨0, netC τ⟩ : Box)) :: tb2)) ++ [(x, c)]) ++ ((nx + 3, (⟨0, netC σ'⟩ : Box)) :: tb1) = MA c := fun c => by rw [← hMA]
      have TW' : Two nx (nx + 3) (x1 + 1) σ'.tp τ.tp ⟨0, exeL p⟩ O x := by rw [lk1.2.1]; exact TW
      have gX : ∀ c, getBox (MA c) x = some c := fun c => by rw [← hMA']; exact TW'.getX I2.hT
      have sX : ∀ c c2, setBox (MA c) x c2 = MA c2 := fun c c2 => by rw [← hMA', ← hMA']; exact TW'.setX I2.hT
      obtain ⟨MC, hMC⟩ : ∃ MC, msV r.ms = MC := ⟨_, rfl⟩
      have hMCl : MC.length = n := by rw [← hMC, msV_length, hrl]
      obtain ⟨c0, hc0⟩ : ∃ c0 : Box, (⟨0, rspC r⟩ : Box) = c0 := ⟨_, rfl⟩
      have hc0' : c0 = ⟨0, [.bool false, .im false r.A r.cap n MC]⟩ := by rw [← hc0, ← hMC]; unfold rspC; rw [hc, hrl]
      have c18a := fun st dst => Two.callA2 (c' := c0) (O1 := O1) (O2 := O2) (by rw [hO]; exact TW) I1.hT I1.hl I2.hT (σ' := σ') (by rw [lk1.2.1]) (by rw [← hσ', ← hS, ← hrl]; exact I1.send18 (g := 0) (by omega) false r.A r.cap r.ms hns1 (by rw [hsc1, hrl]; exact hrm)) (k := k) (by omega) (by simp [ptrsL, ptrs]) rfl st dst
      rw [hM, hO, hMA', hrl, hMC] at c18a
      simp only [hS, inV, hRA] at c18a
      -- the state behind both rounds
      obtain ⟨K9, hK9⟩ : ∃ K9 : St → Prop, K9 = fun D => ∃ (τ' : NetS) (S' : List (List (List Nat))) (c' : Box), NetI N (x1 + 1) τ' tb2 ∧ τ'.scn = τ.scn ∧ τ'.round = τ.round + 1 ∧ τ'.tp = τ.tp ∧ VW τ' ∧ Alike n (fun w => (w : Int) + 1 ∈ p.w.corrupt) σ' τ' ∧ (∀ f w : Nat, f < n → w < n → (f : Int) + 1 ∈ p.w.corrupt → sw S' f w = sw S f w) ∧ D.s 2 = .im false wA wc w.length (uL w) ∧ D.s 3 = .bptr nx 0 ∧ D.s 7 = .int .i64 (kk : Int) ∧ D.s 8 = .int .i64 (ff : Int) ∧ D.s 9 = .int .i64 (tt : Int) ∧ D.s 10 = .bptr (nx + 3) 0 ∧ D.s 12 = .bptr (x1 + 1) 0 ∧ D.s 14 = .int .i64 (i : Int) ∧ D.s 15 = .bptr x 0 ∧ D.s 16 = .own .nil 0 n RA ∧ D.s 17 = .own .nil 0 n (rowsC (outL S' n n)) ∧ D.m = ((O ++ [(x, c')]) ++ ((nx + 3, (⟨0, netC σ'⟩ : Box)) :: tb1)) ++ ((x1 + 1, (⟨0, netC τ'⟩ : Box)) :: tb2) ∧ D.nx = x + 1 := ⟨_, rfl⟩
      have snd : ∀ (A' : Option Addr) (cap' : Nat) (ms' : List MD) (c' : Box), ms'.length = n → MsOk p.w.p n (mls ms') → (∀ f w : Nat, f < n → w < n → ¬ (f = ff ∧ w = tt) → at2 (mls ms') f w = at2 (mls r.ms) f w) → ∃ (τ' : NetS) (S' : List (List (List Nat))), NetI N (x1 + 1) τ' tb2 ∧ τ'.scn = τ.scn ∧ τ'.round = τ.round + 1 ∧ τ'.tp = τ.tp ∧ VW τ' ∧ Alike n (fun w => (w : Int) + 1 ∈ p.w.corrupt) σ' τ' ∧ (∀ f w : Nat, f < n → w < n → (f : Int) + 1 ∈ p.w.corrupt → sw S' f w = sw S f w) ∧ ∀ st dst, doCallB H14 (evCall Tryd.prog H14 k) 18 false [.bptr (x1 + 1) 0, .im false A' cap' n (msV ms')] ⟨st, MA c', x + 1⟩ dst = some ((St.mk (fun i => killB ((x1 + 1) :: τ.tp) (x + 1) (st i)) (((O ++ [(x, c')]) ++ ((nx + 3, (⟨0, netC σ'⟩ : Box)) :: tb1)) ++ ((x1 + 1, (⟨0, netC τ'⟩ : Box)) :: tb2)) (x + 1)).lay dst (.own .nil 0 n (rowsC (outL S' n n)))) := by
        intro A' cap' ms' c' hl' hok' hat
        have hns' : (ms'.length : Int) = τ.scn.n := by rw [hsc2, hnn, hl']
        have hS2 : MsOk p.w.p n (netSaid τ n (mls ms')) := by rw [← hsc2]; exact I2.said_ok (by rw [hsc2]; exact hok')
        have lk2 := like_sentS cpW (netSaid τ n (mls ms')) n τ
        have hdv : ∀ x ∈ p.w.devs, DevP n x := by rw [← hnn]; exact hs.P.devs
        have hid : ∀ f w : Nat, f < n → w < n → ((f : Int) + 1 ∈ p.w.corrupt ∨ (w : Int) + 1 ∈ p.w.corrupt) → sw (netSaid τ n (mls ms')) f w = sw S f w := fun f w hf hw hq => by
          rw [← hS]
          unfold netSaid
          rw [hsc1, hsc2, hrd1, hrd2]
          exact (sw_hidden hdv hcf hct hat hf hw hq).symm
        refine ⟨sentS cpW (netSaid τ n (mls ms')) n τ, netSaid τ n (mls ms'), I2.sent cpW _ (by rw [← hl']; exact hns'), lk2.1, lk2.2.2.2, lk2.2.1, V2.sent cpW (fun _ => rfl) (sw_le hS2), ?_, fun f w hf hw hq => hid f w hf hw (.inl hq), ?_⟩
        · rw [← hσ']
          exact alike_sent hAl (by rw [hrd1, hrd2]) cpW cpW (fun _ => rfl) fun f w hf hw hq => (hid f w hf hw (.inr hq)).symm
        · intro st dst
          have := Two.callB (c' := c') TW' I1'.hT I2.hT I2.hl (τ' := sentS cpW (netSaid τ n (mls ms')) n τ) (by rw [lk2.2.1]) (by have h := I2.send18 (g := 0) (by omega) false A' cap' ms' hns' (by rw [hsc2, hl']; exact hok'); rw [hl'] at h; exact h) (k := k) (by omega) (by simp [ptrsL, ptrs]) rfl st dst
          rw [hMA'] at this
          exact this
      rw [hc0] at dm
      simp [-EvK_app, -reach, -doCall, doCall_eq, d2, d3, d7, d8, d9, d10, d12, d14, d15, dm, dx, gx0, hc0']
      rw [EvK_app]
      simp [-EvK_app]
      rw [EvK_app]
      have hlmC : frzL false MC = MC := by rw [← hMC, frzL_msV, hlm]
      rw [hc0'] at c18a
      simp [-EvK_app, -reach, -doCall, doCall_eq, d2, d3, d7, d8, d9, d10, d12, d14, d15, dm, dx, gx0, hc0', hlmC, c18a]
      rw [← hc0']
      refine EvK_cut (fun D => D.s 2 = .im false wA wc w.length (uL w) ∧ D.s 3 = .bptr nx 0 ∧ D.s 7 = .int .i64 (kk : Int) ∧ D.s 8 = .int .i64 (ff : Int) ∧ D.s 9 = .int .i64 (tt : Int) ∧ D.s 10 = .bptr (nx + 3) 0 ∧ D.s 12 = .bptr (x1 + 1) 0 ∧ D.s 14 = .int .i64 (i : Int) ∧ D.s 15 = .bptr x 0 ∧ D.s 16 = .own .nil 0 n RA ∧ D.m = MA c0 ∧ D.nx = x + 1) (by simp [d2, d3, d7, d8, d9, d10, d12, d14, d15]) fun D ⟨d2, d3, d7, d8, d9, d10, d12, d14, d15, d16, dm, dx⟩ => ?_
      refine EvP.assoc (EvP.seqG K9 ?_ fun D hD9 => ?_)
      · by_cases hik : i = kk
        · have hikb : ((i : Int) == (kk : Int)) = true := by simp [hik]
          have hfm : ff < r.ms.length := by omega
          obtain ⟨m, hm⟩ : ∃ m, r.ms[ff] = m := ⟨_, rfl⟩
          have hm? : r.ms[ff]? = some m := by rw [List.getElem?_eq_getElem hfm, hm]
          have hml : m.l.length = n := by rw [← hm]; have := (hrok.2 _ (List.getElem_mem hfm)).1; omega
          have hmp : m.pm = false := by rw [← hm]; exact (hmA _ (List.getElem_mem hfm)).1
          obtain ⟨RC, hRC⟩ : ∃ RC, rsV m.l = RC := ⟨_, rfl⟩
          have hRCl : RC.length = n := by rw [← hRC, rsV_length, hml]
          have hMCf : MC[ff]? = some (.im false m.A m.cap n RC) := by rw [← hMC, msV, List.getElem?_map, hm?, Option.map_some, mV, hml, hmp, hRC]
          have hMCe : ∀ h, MC[ff]'h = .im false m.A m.cap n RC := fun h => by
            have := List.getElem?_eq_getElem h
            rw [hMCf] at this
            exact (Option.some.inj this).symm
          have hcell : ∀ (α : Type) (g : α → V) (l : List α), (∀ a, cellIn (g a) = true) → (l.map g).all cellIn = true := fun α g l h => by
            rw [List.all_eq_true]; intro v hv
            obtain ⟨a, _, rfl⟩ := List.mem_map.1 hv
            exact h a
          have hMCa : MC.all cellIn = true := by rw [← hMC]; exact hcell _ _ _ fun a => rfl
          have hRCa : RC.all cellIn = true := by rw [← hRC]; exact hcell _ _ _ fun a => rfl
          have hcr : ∀ (α : Type) (g : α → V) (l : List α), (∀ a, noRow (g a) = true) → noRowL (l.map g) = true := fun α g l h => by
            induction l with
            | nil => rfl
            | cons a l ih => simp only [List.map_cons, noRowL, h a, ih, Bool.and_self]
          have hMCr : noRowL MC = true := by rw [← hMC]; exact hcr _ _ _ fun a => rfl
          have hRCr : noRowL RC = true := by rw [← hRC]; exact hcr _ _ _ fun a => rfl
          have l1 : n * 24 ≤ 140737488355328 := by omega
          have l2 : n ≤ 140737488355328 := by omega
          have l3 : ¬ n = 0 := by omega
          have hfC : ff < MC.length := by omega
          simp [-EvK_app, d2, d3, d7, d8, d9, d10, d12, d14, d15, d16, dm, dx, hikb]
          rw [EvK_app]
          simp [-EvK_app, -List.all_eq_true, d2, d3, d7, d8, d9, d10, d12, d14, d15, d16, dm, dx, gX, sX, hc0', hMCl, hMCa, hMCr, l1, l2, l3]
          refine EvK_cut (fun D => D.s 2 = .im false wA wc w.length (uL w) ∧ D.s 3 = .bptr nx 0 ∧ D.s 7 = .int .i64 (kk : Int) ∧ D.s 8 = .int .i64 (ff : Int) ∧ D.s 9 = .int .i64 (tt : Int) ∧ D.s 10 = .bptr (nx + 3) 0 ∧ D.s 12 = .bptr (x1 + 1) 0 ∧ D.s 14 = .int .i64 (i : Int) ∧ D.s 15 = .bptr x 0 ∧ D.s 16 = .own .nil 0 n RA ∧ D.m = MA ⟨0, [.bool false, .own .nil 0 n MC]⟩ ∧ D.nx = x + 1) (by simp [d2, d3, d7, d8, d9, d10, d12, d14, d15, d16]) fun D ⟨d2, d3, d7, d8, d9, d10, d12, d14, d15, d16, dm, dx⟩ => ?_
          refine EvP.seqG (fun D => D.s 2 = .im false wA wc w.length (uL w) ∧ D.s 3 = .bptr nx 0 ∧ D.s 7 = .int .i64 (kk : Int) ∧ D.s 8 = .int .i64 (ff : Int) ∧ D.s 9 = .int .i64 (tt : Int) ∧ D.s 10 = .bptr (nx + 3) 0 ∧ D.s 12 = .bptr (x1 + 1) 0 ∧ D.s 14 = .int .i64 (i : Int) ∧ D.s 15 = .bptr x 0 ∧ D.s 16 = .own .nil 0 n RA ∧ D.m = MA ⟨0, [.bool false, .own .nil 0 n (MC.set ff (.own .nil 0 n RC))]⟩ ∧ D.nx = x + 1) ?_ fun D ⟨d2, d3, d7, d8, d9, d10, d12, d14, d15, d16, dm, dx⟩ => ?_
          · refine EvP.drawT rfl ?_
            refine optE_mono (IsSt (fun j => if j = 151 then .loc (.box x) [1, ff] else if j = 150 then .dead else if j = 149 then .im false m.A m.cap n RC else if j = 148 then .loc (.box x) [1, ff] else if j = 147 then .int .i64 (ff : Int) else if j = 146 then .ref (.box x) [1] else if j = 145 then .bptr x 1 else if j = 144 then .dead else if j = 143 then .int .i64 (ff : Int) else if j = 142 then .ref (.box x) [1] else if j = 141 then .bptr x 1 else kill (.box x) [1, ff] (kill (.slot 150) [] (kill (.slot 144) [] (D.s j)))) (MA ⟨0, [.bool false, .own .nil 0 n (MC.set ff (.own .nil 0 n RC))]⟩) (x + 1)) (tree_all _ IsSt.sm _ _ ?_) (fun D2 hD => ?_)
            · intro P hP
              simp only [paths, List.map_cons, List.map_nil, List.cons_append, List.nil_append, List.mem_cons, List.not_mem_nil, or_false] at hP
              rcases hP with rfl | rfl | rfl
              all_goals
                simp [-List.all_eq_true, d2, d3, d7, d8, d9, d10, d12, d14, d15, d16, dm, dx, gX, sX, hMCl, hMCf, hMCe, hfC, hfn, hRCl, hRCa, hRCr, l1, l2, l3]
                refine ⟨fun j => ?_, rfl, rfl⟩
                rcases Decidable.em (j = 151) with rfl | a151
                · simp
                rcases Decidable.em (j = 150) with rfl | a150
                · simp
                rcases Decidable.em (j = 149) with rfl | a149
                · simp
                rcases Decidable.em (j = 148) with rfl | a148
                · simp
                rcases Decidable.em (j = 147) with rfl | a147
                · simp
                rcases Decidable.em (j = 146) with rfl | a146
                · simp
                rcases Decidable.em (j = 145) with rfl | a145
                · simp
                rcases Decidable.em (j = 144) with rfl | a144
                · simp
                rcases Decidable.em (j = 143) with rfl | a143
                · simp
                rcases Decidable.em (j = 142) with rfl | a142
                · simp
                rcases Decidable.em (j = 141) with rfl | a141
                · simp
                simp [a151, a150, a149, a148, a147, a146, a145, a144, a143, a142, a141]
            · obtain ⟨z1, z2, z3⟩ := hD
              refine ⟨by rw [z1]; simp [d2], by rw [z1]; simp [d3], by rw [z1]; simp [d7], by rw [z1]; simp [d8], by rw [z1]; simp [d9], by rw [z1]; simp [d10], by rw [z1]; simp [d12], by rw [z1]; simp [d14], by rw [z1]; simp [d15], by rw [z1]; simp [d16], by rw [z2], z3⟩
          · obtain ⟨CF, hCF⟩ : ∃ CF, MC.set ff (.own .nil 0 n (RC.set tt (.im false wA wc w.length (uL w)))) = CF := ⟨_, rfl⟩
            have hCFr : ∀ b, frzL false (frzL b CF) = msV (chM r.ms ff tt m wA wc w) := fun b => by
              rw [← hCF, ← hMC, ← hRC]; exact chM_cells hlm hm? hml
            obtain ⟨τ', S', i2, s2, r2, t2, v2, al, hsw, hcall⟩ := snd none 0 (chM r.ms ff tt m wA wc w) ⟨0, [.bool false, .im (noBorL CF) none 0 n (frzL (noBorL CF) CF)]⟩ (by rw [chM_length, hrl]) (chM_ok hm? hrm ⟨by omega, hW.2⟩) (fun f w hf hw hq => chM_at hm? hq)
            simp [-EvK_app, d2, d3, d7, d8, d9, d10, d12, d14, d15, d16, dm, dx, gX, sX, hMCl, hfC, hfn, hRCl, htn]
            rw [hCF]
            refine EvK_cut (fun D => D.s 2 = .im false wA wc w.length (uL w) ∧ D.s 3 = .bptr nx 0 ∧ D.s 7 = .int .i64 (kk : Int) ∧ D.s 8 = .int .i64 (ff : Int) ∧ D.s 9 = .int .i64 (tt : Int) ∧ D.s 10 = .bptr (nx + 3) 0 ∧ D.s 12 = .bptr (x1 + 1) 0 ∧ D.s 14 = .int .i64 (i : Int) ∧ D.s 15 = .bptr x 0 ∧ D.s 16 = .own .nil 0 n RA ∧ D.m = MA ⟨0, [.bool false, .own .nil 0 n CF]⟩ ∧ D.nx = x + 1) (by simp [d2, d3, d7, d8, d9, d10, d12, d14, d15, d16]) fun D ⟨d2, d3, d7, d8, d9, d10, d12, d14, d15, d16, dm, dx⟩ => ?_
            simp [-reach, -doCall, doCall_eq, d2, d3, d7, d8, d9, d10, d12, d14, d15, d16, dm, dx, gX, sX, hCFr, hcall]
            rw [hK9]
            exact ⟨τ', S', ⟨0, [.bool false, .im (noBorL CF) none 0 n (frzL (noBorL CF) CF)]⟩, i2, s2, r2, t2, v2, al, hsw, by simp [d2], by simp [d3], by simp [d7], by simp [d8], by simp [d9], by simp [d10], by simp [d12], by simp [d14], by simp [d15], by simp [d16], by simp, by simp, rfl⟩
        · have hikb : ((i : Int) == (kk : Int)) = false := by
            have : ¬ ((i : Int) = (kk : Int)) := by omega
            simpa using this
          obtain ⟨τ', S', i2, s2, r2, t2, v2, al, hsw, hcall⟩ := snd r.A r.cap r.ms c0 hrl hrm (fun _ _ _ _ _ => rfl)
          rw [hMC] at hcall
          have gX0 := gX c0
          simp only [hc0'] at gX0 hcall
          rw [hc0'] at dm
          simp [-EvK_app, d2, d3, d7, d8, d9, d10, d12, d14, d15, d16, dm, dx, hikb]
          rw [EvK_app]
          simp [-reach, -doCall, doCall_eq, d2, d3, d7, d8, d9, d10, d12, d14, d15, d16, dm, dx, gX0, hlmC, hcall]
          rw [hK9]
          exact ⟨τ', S', c0, i2, s2, r2, t2, v2, al, hsw, by simp [d2], by simp [d3], by simp [d7], by simp [d8], by simp [d9], by simp [d10], by simp [d12], by simp [d14], by simp [d15], by simp [d16], by simp, by simp [hc0'], rfl⟩
      rw [hK9] at hD9
      obtain ⟨τ', S', c', I2', s2, r2, t2, V2', hAl', hsw, d2, d3, d7, d8, d9, d10, d12, d14, d15, d16, d17, dm, dx⟩ := hD9
      obtain ⟨MB, hMB⟩ : ∃ MB : List (Nat × Box), ((O ++ [(x, c')]) ++ ((nx + 3, (⟨0, netC σ'⟩ : Box)) :: tb1)) ++ ((x1 + 1, (⟨0, netC τ'⟩ : Box)) :: tb2) = MB := ⟨_, rfl⟩
      rw [hMB] at dm
      have gMB : getBox MB nx = some ⟨0, exeL p⟩ := by rw [← hMB, List.append_assoc]; exact getBox_app_old (TW.add (c' := c')).g
      simp only [exeL, h1, h2, h3, hnn] at gMB
      have gnn : ((n : Int) != (n : Int)) = false := by simp
      simp [-EvK_app, d2, d3, d7, d8, d9, d10, d12, d14, d15, d16, d17, dm, dx, gMB, gnn]
      rw [EvK_app]
      simp [-EvK_app]
      rw [EvK_app]
      simp [-EvK_app, d2, d3, d7, d8, d9, d10, d12, d14, d15, d16, d17, dm, dx, gMB]
      rw [EvK_app]
      simp only [ev_block]
      have hSok' : ∀ f w, (sw S f w).length ≤ 1000 := sw_le hSok
      obtain ⟨J, hJ⟩ : ∃ J : Nat → St → Prop, J = fun q D => ∃ (j : Nat) (CA CB : List V), q = n - j ∧ j ≤ n ∧ Rows2 CA (outL S n n) ∧ Rows2 CB (outL S' n n) ∧ D.s 2 = .im false wA wc w.length (uL w) ∧ D.s 3 = .bptr nx 0 ∧ D.s 7 = .int .i64 (kk : Int) ∧ D.s 8 = .int .i64 (ff : Int) ∧ D.s 9 = .int .i64 (tt : Int) ∧ D.s 10 = .bptr (nx + 3) 0 ∧ D.s 12 = .bptr (x1 + 1) 0 ∧ D.s 14 = .int .i64 (i : Int) ∧ D.s 15 = .bptr x 0 ∧ D.s 16 = .own .nil 0 n CA ∧ D.s 17 = .own .nil 0 n CB ∧ D.s 18 = .int .i64 (j : Int) ∧ D.m = MB ∧ D.nx = x + 1 := ⟨_, rfl⟩
      refine EvP.loop J (n := n) (by rw [hJ]; exact ⟨0, RA, _, by simp, by simp, by rw [← hRA]; exact rows2_inV S n, rows2_inV S' n, by simp [d2], by simp [d3], by simp [d7], by simp [d8], by simp [d9], by simp [d10], by simp [d12], by simp [d14], by simp [d15], by simp [d16], by simp [d17], by simp, by simp, by simp⟩) (by omega) fun q D hD => ?_
      rw [hJ] at hD
      obtain ⟨j, CA, CB, rfl, hj, hCA, hCB, d2, d3, d7, d8, d9, d10, d12, d14, d15, d16, d17, d18, dm, dx⟩ := hD
      by_cases hjl : j < n
      · have e5 := wrap_succ (q := j) (by omega)
        have hoA : (outL S n n)[j]? = some (colS S j n) := by rw [outL_get _ _ _ _ hjl, if_pos hjl]
        have hoB : (outL S' n n)[j]? = some (colS S' j n) := by rw [outL_get _ _ _ _ hjl, if_pos hjl]
        have hCAl : CA.length = n := by rw [hCA.1]; simp
        have hCBl : CB.length = n := by rw [hCB.1]; simp
        have hjA : j < CA.length := by omega
        have hjB : j < CB.length := by omega
        obtain ⟨ra, hra, hRa⟩ := hCA.2 j _ _ (List.getElem?_eq_getElem hjA) hoA
        obtain ⟨rb, hrb, hRb⟩ := hCB.2 j _ _ (List.getElem?_eq_getElem hjB) hoB
        rw [colS_length] at hra hrb
        have hCAw : CA[j]? = some (.own .nil 0 n ra) := by rw [List.getElem?_eq_getElem hjA, hra]
        have hCBw : CB[j]? = some (.own .nil 0 n rb) := by rw [List.getElem?_eq_getElem hjB, hrb]
        have hral : ra.length = n := by rw [hRa.1, colS_length]
        have hrbl : rb.length = n := by rw [hRb.1, colS_length]
        simp [-EvK_app, d2, d3, d7, d8, d9, d10, d12, d14, d15, d16, d17, d18, dm, dx, hjl]
        rw [EvK_app]
        simp [-EvK_app]
        rw [EvK_app]
        simp [-EvK_app, d2, d3, d7, d8, d9, d10, d12, d14, d15, d16, d17, d18, dm, dx, gMB, hjl, hjA, hjB, hCAl, hCBl, hCAw, hCBw, hra, hrb, hral, hrbl, gnn]
        rw [EvK_app]
        simp [-EvK_app]
        refine EvK_cut (fun D => D.s 2 = .im false wA wc w.length (uL w) ∧ D.s 3 = .bptr nx 0 ∧ D.s 7 = .int .i64 (kk : Int) ∧ D.s 8 = .int .i64 (ff : Int) ∧ D.s 9 = .int .i64 (tt : Int) ∧ D.s 10 = .bptr (nx + 3) 0 ∧ D.s 12 = .bptr (x1 + 1) 0 ∧ D.s 14 = .int .i64 (i : Int) ∧ D.s 15 = .bptr x 0 ∧ D.s 16 = .own .nil 0 n CA ∧ D.s 17 = .own .nil 0 n CB ∧ D.s 18 = .int .i64 (j : Int) ∧ D.m = MB ∧ D.nx = x + 1) (by simp [d2, d3, d7, d8, d9, d10, d12, d14, d15, d16, d17, d18]) fun D ⟨d2, d3, d7, d8, d9, d10, d12, d14, d15, d16, d17, d18, dm, dx⟩ => ?_
        simp [-EvK_app, d2, d3, d7, d8, d9, d10, d12, d14, d15, d16, d17, d18, dm, dx]
        rw [EvK_app]
        simp only [ev_block]
        obtain ⟨K, hK⟩ : ∃ K : Nat → St → Prop, K = fun q D => ∃ (f : Nat) (CA CB : List V), q = n - f ∧ f ≤ n ∧ Rows2 CA (outL S n n) ∧ Rows2 CB (outL S' n n) ∧ D.s 2 = .im false wA wc w.length (uL w) ∧ D.s 3 = .bptr nx 0 ∧ D.s 7 = .int .i64 (kk : Int) ∧ D.s 8 = .int .i64 (ff : Int) ∧ D.s 9 = .int .i64 (tt : Int) ∧ D.s 10 = .bptr (nx + 3) 0 ∧ D.s 12 = .bptr (x1 + 1) 0 ∧ D.s 14 = .int .i64 (i : Int) ∧ D.s 15 = .bptr x 0 ∧ D.s 16 = .own .nil 0 n CA ∧ D.s 17 = .own .nil 0 n CB ∧ D.s 18 = .int .i64 (j : Int) ∧ D.s 19 = .int .i64 (f : Int) ∧ D.m = MB ∧ D.nx = x + 1 := ⟨_, rfl⟩
        refine EvP.loop K (n := n) (by rw [hK]; exact ⟨0, CA, CB, by simp, by simp, hCA, hCB, by simp [d2], by simp [d3], by simp [d7], by simp [d8], by simp [d9], by simp [d10], by simp [d12], by simp [d14], by simp [d15], by simp [d16], by simp [d17], by simp [d18], by simp, by simp, by simp⟩) (by omega) fun q D hD => ?_
        clear hCAw hCBw hra hrb hRa hRb hral hrbl hCAl hCBl hjA hjB
        rw [hK] at hD
        obtain ⟨f, CA, CB, rfl, hf, hCA, hCB, d2, d3, d7, d8, d9, d10, d12, d14, d15, d16, d17, d18, d19, dm, dx⟩ := hD
        by_cases hfl : f < n
        · have e6 := wrap_succ (q := f) (by omega)
          have ef : IntKind.i64.wrap ((f : Int) + 1) = (f : Int) + 1 := wrapi (by omega) (by omega)
          have c19c := c19 ((f : Int) + 1)
          simp only [hnn] at c19c
          have hCAl : CA.length = n := by rw [hCA.1]; simp
          have hCBl : CB.length = n := by rw [hCB.1]; simp
          have hjA : j < CA.length := by omega
          have hjB : j < CB.length := by omega
          obtain ⟨ra, hra, hRa⟩ := hCA.2 j _ _ (List.getElem?_eq_getElem hjA) hoA
          obtain ⟨rb, hrb, hRb⟩ := hCB.2 j _ _ (List.getElem?_eq_getElem hjB) hoB
          rw [colS_length] at hra hrb
          have hCAw : CA[j]? = some (.own .nil 0 n ra) := by rw [List.getElem?_eq_getElem hjA, hra]
          have hCBw : CB[j]? = some (.own .nil 0 n rb) := by rw [List.getElem?_eq_getElem hjB, hrb]
          have hral : ra.length = n := by rw [hRa.1, colS_length]
          have hrbl : rb.length = n := by rw [hRb.1, colS_length]
          have hfa : f < ra.length := by omega
          have hfb : f < rb.length := by omega
          have hcfA : (colS S j n)[f]? = some (sw S f j) := by unfold colS; rw [List.getElem?_map, List.getElem?_range hfl]; rfl
          have hcfB : (colS S' j n)[f]? = some (sw S' f j) := by unfold colS; rw [List.getElem?_map, List.getElem?_range hfl]; rfl
          have hva := hRa.2 f _ _ (List.getElem?_eq_getElem hfa) hcfA
          have hvb := hRb.2 f _ _ (List.getElem?_eq_getElem hfb) hcfB
          obtain ⟨va, hvae⟩ : ∃ v, ra[f] = v := ⟨_, rfl⟩
          have hva? : ra[f]? = some va := by rw [List.getElem?_eq_getElem hfa, hvae]
          obtain ⟨vb, hvbe⟩ : ∃ v, rb[f] = v := ⟨_, rfl⟩
          have hvb? : rb[f]? = some vb := by rw [List.getElem?_eq_getElem hfb, hvbe]
          rw [hvae] at hva
          rw [hvbe] at hvb
          simp [-EvK_app, d2, d3, d7, d8, d9, d10, d12, d14, d15, d16, d17, d18, d19, dm, dx, gMB, hfl]
          rw [EvK_app]
          simp [-EvK_app]
          rw [EvK_app]
          simp only [ev_seq, ev_block]
          refine EvP.cutN (fun D => ∃ CA' CB', Rows2 CA' (outL S n n) ∧ Rows2 CB' (outL S' n n) ∧ D.s 2 = .im false wA wc w.length (uL w) ∧ D.s 3 = .bptr nx 0 ∧ D.s 7 = .int .i64 (kk : Int) ∧ D.s 8 = .int .i64 (ff : Int) ∧ D.s 9 = .int .i64 (tt : Int) ∧ D.s 10 = .bptr (nx + 3) 0 ∧ D.s 12 = .bptr (x1 + 1) 0 ∧ D.s 14 = .int .i64 (i : Int) ∧ D.s 15 = .bptr x 0 ∧ D.s 16 = .own .nil 0 n CA' ∧ D.s 17 = .own .nil 0 n CB' ∧ D.s 18 = .int .i64 (j : Int) ∧ D.s 19 = .int .i64 (f : Int) ∧ D.s 237 = .bool false ∧ D.m = MB ∧ D.nx = x + 1) ?_ fun D ⟨CA', CB', hCA', hCB', d2, d3, d7, d8, d9, d10, d12, d14, d15, d16, d17, d18, d19, d237, dm, dx⟩ => ?_
          rotate_left
          · simp [-EvK_app, d237]
            rw [EvK_app]
            simp [-EvK_app, d237, d2, d3, d7, d8, d9, d10, d12, d14, d15, d16, d17, d18, d19, dm, dx]
            rw [EvK_app]
            simp [-EvK_app, d237, d2, d3, d7, d8, d9, d10, d12, d14, d15, d16, d17, d18, d19, dm, dx, e6]
            subst hK
            exact ⟨n - (f + 1), by omega, f + 1, CA', CB', rfl, by omega, hCA', hCB', by simp [d2], by simp [d3], by simp [d7], by simp [d8], by simp [d9], by simp [d10], by simp [d12], by simp [d14], by simp [d15], by simp [d16], by simp [d17], by simp [d18], by simp, rfl, rfl⟩
          by_cases hcc : (f : Int) + 1 ∈ p.w.corrupt
          · rw [decide_eq_false (fun h => h hcc)] at c19c
            have hse := hsw f j hfl hjl hcc
            rw [hse] at hvb hcfB
            obtain ⟨l, hle⟩ : ∃ l, sw S f j = l := ⟨_, rfl⟩
            have hl1 : l.length ≤ 1000 := by rw [← hle]; exact hSok' f j
            rw [hle] at hva hvb hcfA hcfB
            have c20 := fun A A2 cap cap2 => callP (words20 false false A A2 cap cap2 l l hl1) (k := k) (by omega) (by simp) rfl
            simp only [decide_true] at c20
            have hsa : Rows2 (CA.set j (.own .nil 0 n (ra.set f (.im true none 0 l.length (uL l))))) (outL S n n) := by
              have := hCA.same hRa hoA hcfA (IsRow.im true none 0 l)
              rwa [colS_length] at this
            have hsb : Rows2 (CB.set j (.own .nil 0 n (rb.set f (.im true none 0 l.length (uL l))))) (outL S' n n) := by
              have := hCB.same hRb hoB hcfB (IsRow.im true none 0 l)
              rwa [colS_length] at this
            refine EvP.drawCut [0, 1, 2, 3, 4, 5, 6] [7, 8, 9, 10, 11, 12, 13, 14, 15, 16, 17, 18, 19, 20, 21, 22, 23] rfl (fun D => D.s 2 = .im false wA wc w.length (uL w) ∧ D.s 3 = .bptr nx 0 ∧ D.s 7 = .int .i64 (kk : Int) ∧ D.s 8 = .int .i64 (ff : Int) ∧ D.s 9 = .int .i64 (tt : Int) ∧ D.s 10 = .bptr (nx + 3) 0 ∧ D.s 12 = .bptr (x1 + 1) 0 ∧ D.s 14 = .int .i64 (i : Int) ∧ D.s 15 = .bptr x 0 ∧ D.s 16 = .own .nil 0 n CA ∧ D.s 17 = .own .nil 0 n CB ∧ D.s 18 = .int .i64 (j : Int) ∧ D.s 19 = .int .i64 (f : Int) ∧ D.s 220 = .bool true ∧ D.m = MB ∧ D.nx = x + 1) ?_ fun D ⟨d2, d3, d7, d8, d9, d10, d12, d14, d15, d16, d17, d18, d19, d220, dm, dx⟩ => ?_
            · simp [-reach, -doCall, doCall_eq, d2, d3, d7, d8, d9, d10, d12, d14, d15, d16, d17, d18, d19, dm, dx, gMB, hlt, ef, hnn, c19c]
            cases hva with
            | im pm' A' cap' =>
              cases hvb with
              | im pm2 A2 cap2 =>
                simp [-reach, -doCall, doCall_eq, d2, d3, d7, d8, d9, d10, d12, d14, d15, d16, d17, d18, d19, d220, dm, dx, hjA, hjB, hjl, hCAl, hCBl, hCAw, hCBw, hra, hrb, hral, hrbl, hfa, hfb, hva?, hvb?, hvae, hvbe, hfl, nil_uL, frzL_uL, c20]
                exact ⟨hCA, hCB⟩
              | own k2 =>
                simp [-reach, -doCall, doCall_eq, d2, d3, d7, d8, d9, d10, d12, d14, d15, d16, d17, d18, d19, d220, dm, dx, hjA, hjB, hjl, hCAl, hCBl, hCAw, hCBw, hra, hrb, hral, hrbl, hfa, hfb, hva?, hvb?, hvae, hvbe, hfl, nil_uL, frzL_uL, c20]
                exact ⟨hCA, hsb⟩
            | own k' =>
              cases hvb with
              | im pm2 A2 cap2 =>
                simp [-reach, -doCall, doCall_eq, d2, d3, d7, d8, d9, d10, d12, d14, d15, d16, d17, d18, d19, d220, dm, dx, hjA, hjB, hjl, hCAl, hCBl, hCAw, hCBw, hra, hrb, hral, hrbl, hfa, hfb, hva?, hvb?, hvae, hvbe, hfl, nil_uL, frzL_uL, c20]
                exact ⟨hsa, hCB⟩
              | own k2 =>
                simp [-reach, -doCall, doCall_eq, d2, d3, d7, d8, d9, d10, d12, d14, d15, d16, d17, d18, d19, d220, dm, dx, hjA, hjB, hjl, hCAl, hCBl, hCAw, hCBw, hra, hrb, hral, hrbl, hfa, hfb, hva?, hvb?, hvae, hvbe, hfl, nil_uL, frzL_uL, c20]
                exact ⟨hsa, hsb⟩
          · rw [decide_eq_true hcc] at c19c
            refine EvP.drawCut [0, 1, 2, 3, 4, 5, 6] [7, 8, 9, 10, 11, 12, 13, 14, 15, 16, 17, 18, 19, 20, 21, 22, 23] rfl (fun D => D.s 2 = .im false wA wc w.length (uL w) ∧ D.s 3 = .bptr nx 0 ∧ D.s 7 = .int .i64 (kk : Int) ∧ D.s 8 = .int .i64 (ff : Int) ∧ D.s 9 = .int .i64 (tt : Int) ∧ D.s 10 = .bptr (nx + 3) 0 ∧ D.s 12 = .bptr (x1 + 1) 0 ∧ D.s 14 = .int .i64 (i : Int) ∧ D.s 15 = .bptr x 0 ∧ D.s 16 = .own .nil 0 n CA ∧ D.s 17 = .own .nil 0 n CB ∧ D.s 18 = .int .i64 (j : Int) ∧ D.s 19 = .int .i64 (f : Int) ∧ D.s 220 = .bool false ∧ D.m = MB ∧ D.nx = x + 1) ?_ fun D ⟨d2, d3, d7, d8, d9, d10, d12, d14, d15, d16, d17, d18, d19, d220, dm, dx⟩ => ?_
            · simp [-reach, -doCall, doCall_eq, d2, d3, d7, d8, d9, d10, d12, d14, d15, d16, d17, d18, d19, dm, dx, gMB, hlt, ef, hnn, c19c]
            simp [d2, d3, d7, d8, d9, d10, d12, d14, d15, d16, d17, d18, d19, d220, dm, dx]
            exact ⟨hCA, hCB⟩
        · have hfe : f = n := by omega
          have g2 : ¬ f < n := hfl
          simp [-EvK_app, d2, d3, d7, d8, d9, d10, d12, d14, d15, d16, d17, d18, d19, dm, dx, gMB, g2, e5]
          rw [EvK_app]
          simp [-EvK_app, d2, d3, d7, d8, d9, d10, d12, d14, d15, d16, d17, d18, d19, dm, dx, gMB, g2, e5]
          rw [EvK_app]
          simp [-EvK_app, d2, d3, d7, d8, d9, d10, d12, d14, d15, d16, d17, d18, d19, dm, dx, gMB, g2, e5]
          subst hJ
          exact ⟨n - (j + 1), by omega, j + 1, CA, CB, rfl, by omega, hCA, hCB, by simp [d2], by simp [d3], by simp [d7], by simp [d8], by simp [d9], by simp [d10], by simp [d12], by simp [d14], by simp [d15], by simp [d16], by simp [d17], by simp, rfl, rfl⟩
      · have hje : ¬ j < n := hjl
        simp [-EvK_app, d2, d3, d7, d8, d9, d10, d12, d14, d15, d16, d17, d18, dm, dx, gMB, hje, e3]
        rw [EvK_app]
        simp [-EvK_app, d2, d3, d7, d8, d9, d10, d12, d14, d15, d16, d17, d18, dm, dx, gMB, hje, e3]
        rw [EvK_app]
        simp [-EvK_app, d2, d3, d7, d8, d9, d10, d12, d14, d15, d16, d17, d18, dm, dx, gMB, hje, e3]
        exact hend σ' τ' c' _ I1' I2' lk1.1 s2 lk1.2.2.2 r2 lk1.2.1 t2 V1' V2' hAl' (by simp [d2]) (by simp [d3]) (by simp [d7]) (by simp [d8]) (by simp [d9]) (by simp [d10]) (by simp [d12]) (by simp) hMB.symm rfl
  · have hie : i = p.l.length := by omega
    have hnl : ¬ i < p.l.length := by omega
    simp [-EvK_app, d2, d3, d7, d8, d9, d10, d12, d14, dm, dx, gM, hnl]
    rw [EvK_app]
    simp [-EvK_app, d2, d3, d7, d8, d9, d10, d12, d14, dm, dx, gM]
    refine EvK_cut (fun D => D.s 2 = .im false wA wc w.length (uL w) ∧ D.s 3 = .bptr nx 0 ∧ D.s 7 = .int .i64 (kk : Int) ∧ D.s 8 = .int .i64 (ff : Int) ∧ D.s 9 = .int .i64 (tt : Int) ∧ D.s 10 = .bptr (nx + 3) 0 ∧ D.s 12 = .bptr (x1 + 1) 0 ∧ D.m = M ∧ D.nx = x) (by simp [d2, d3, d7, d8, d9, d10, d12]) fun D ⟨d2, d3, d7, d8, d9, d10, d12, dm, dx⟩ => ?_
    simp [-EvK_app, d2, d3, d7, d8, d9, d10, d12, dm, dx]
    rw [EvK_app]
    simp only [ev_block]
    clear hI d14
    have hv1 : σ.views.length = n := by have := I1.hv; rw [hsc1, hnn] at this; omega
    have hv2 : τ.views.length = n := by have := I2.hv; rw [hsc2, hnn] at this; omega
    obtain ⟨J, hJ⟩ : ∃ J : Nat → St → Prop, J = fun q D => ∃ (j : Nat) (O1 O2 : List (Nat × Box)), q = p.w.corrupt.length - j ∧ j ≤ p.w.corrupt.length ∧ D.s 2 = .im false wA wc w.length (uL w) ∧ D.s 3 = .bptr nx 0 ∧ D.s 7 = .int .i64 (kk : Int) ∧ D.s 8 = .int .i64 (ff : Int) ∧ D.s 9 = .int .i64 (tt : Int) ∧ D.s 10 = .bptr (nx + 3) 0 ∧ D.s 12 = .bptr (x1 + 1) 0 ∧ D.s 20 = .int .i64 (j : Int) ∧ D.m = O1 ++ ((nx + 3, (⟨0, netC σ⟩ : Box)) :: tb1) ++ (O2 ++ ((x1 + 1, (⟨0, netC τ⟩ : Box)) :: tb2)) ∧ D.nx = x ∧ Two nx (nx + 3) (x1 + 1) σ.tp τ.tp ⟨0, exeL p⟩ (O1 ++ O2) x := ⟨_, rfl⟩
    refine EvP.loop J (n := p.w.corrupt.length) (by rw [hJ]; exact ⟨0, O1, O2, by simp, by simp, by simp [d2], by simp [d3], by simp [d7], by simp [d8], by simp [d9], by simp [d10], by simp [d12], by simp, hM.symm, rfl, TW⟩) (by omega) fun q D hD => ?_
    rw [hJ] at hD
    obtain ⟨j, O1, O2, rfl, hj, d2, d3, d7, d8, d9, d10, d12, d20, dm, dx, TW⟩ := hD
    obtain ⟨M, hM⟩ : ∃ M : List (Nat × Box), O1 ++ ((nx + 3, (⟨0, netC σ⟩ : Box)) :: tb1) ++ (O2 ++ ((x1 + 1, (⟨0, netC τ⟩ : Box)) :: tb2)) = M := ⟨_, rfl⟩
    rw [hM] at dm
    have gM : getBox M nx = some ⟨0, exeL p⟩ := by rw [← hM]; exact TW.get2 I1.hT
    have hMn : ∀ e ∈ M, nx ≤ e.1 ∧ e.1 < x := by rw [← hM]; exact TW.mem2 I1.hT I2.hT
    simp only [exeL, h1, h2, h3, hnn] at gM
    by_cases hjl : j < p.w.corrupt.length
    · have e5 := wrap_succ (q := j) (by omega)
      have hco := (good_iff hjl).1 (hs.1.2.2 j hjl)
      obtain ⟨pw, hw⟩ : ∃ pw : Nat, p.w.corrupt[j] = (pw : Int) + 1 := ⟨(p.w.corrupt[j] - 1).toNat, by omega⟩
      have hwn : pw < n := by have := hco.2.1; rw [hw, hnn] at this; omega
      have hwc : (pw : Int) + 1 ∈ p.w.corrupt := by rw [← hw]; exact List.getElem_mem hjl
      obtain ⟨v, u, hv, hu, hvu⟩ := hAl pw hwn hwc
      have hve : σ.views[pw]'(by omega) = v := by rw [List.getElem?_eq_getElem (by omega)] at hv; exact Option.some.inj hv
      have hue : τ.views[pw]'(by omega) = u := by rw [List.getElem?_eq_getElem (by omega)] at hu; exact Option.some.inj hu
      have hvl : v.length ≤ 900 := by
        have := I1.hB _ (List.mem_of_getElem? hv)
        rw [hrd1] at this; omega
      have hul : u.length ≤ 900 := by
        have := I2.hB _ (List.mem_of_getElem? hu)
        rw [hrd2] at this; omega
      obtain ⟨O, hO⟩ : ∃ O, O1 ++ O2 = O := ⟨_, rfl⟩
      obtain ⟨MA, hMA⟩ : ∃ MA : List (Nat × Box), (O ++ ((x1 + 1, (⟨0, netC τ⟩ : Box)) :: tb2)) ++ ((nx + 3, (⟨0, netC σ⟩ : Box)) :: tb1) = MA := ⟨_, rfl⟩
      obtain ⟨MB, hMB⟩ : ∃ MB : List (Nat × Box), (O ++ ((nx + 3, (⟨0, netC σ⟩ : Box)) :: tb1)) ++ ((x1 + 1, (⟨0, netC τ⟩ : Box)) :: tb2) = MB := ⟨_, rfl⟩
      have c23a := fun st dst => TW.callA02 I1.hT I1.hl I2.hT rfl (view23 (nx + 3) 0 σ tb1 I1.hT pw (by omega) (by omega) (by rw [hve]; omega)) (k := k) (by omega) (by simp [ptrsL, ptrs]) rfl st dst
      rw [hM, hve, hO, hMA] at c23a
      rw [hO] at TW
      have gMA : getBox MA nx = some ⟨0, exeL p⟩ := by rw [← hMA]; exact TW.getN
      simp only [exeL, h1, h2, h3, hnn] at gMA
      have c23b := fun st dst => TW.callB0 I1.hT I2.hT I2.hl rfl (view23 (x1 + 1) 0 τ tb2 I2.hT pw (by omega) (by omega) (by rw [hue]; omega)) (k := k) (by omega) (by simp [ptrsL, ptrs]) rfl st dst
      rw [hMA, hMB, hue] at c23b
      simp only [viewV] at c23a c23b
      have c22 := fun A A2 cap cap2 => callP (views22 false false A A2 cap cap2 (v.map lentE) (u.map lentE) (by rw [List.length_map]; omega) (fun e he => by
        obtain ⟨e0, he0, rfl⟩ := List.mem_map.1 he
        exact V1 v (List.mem_of_getElem? hv) e0 he0)) (k := k) (by omega) (by simp) rfl
      have hdec : decide ((v.map lentE).map evK = (u.map lentE).map evK) = true := by rw [evK_lent, evK_lent, hvu]; simp
      simp only [hdec, List.length_map] at c22
      simp [-EvK_app, d2, d3, d7, d8, d9, d10, d12, d20, dm, dx, gM, hjl]
      rw [EvK_app]
      simp [-EvK_app]
      refine EvK_cut (fun D => D.s 2 = .im false wA wc w.length (uL w) ∧ D.s 3 = .bptr nx 0 ∧ D.s 7 = .int .i64 (kk : Int) ∧ D.s 8 = .int .i64 (ff : Int) ∧ D.s 9 = .int .i64 (tt : Int) ∧ D.s 10 = .bptr (nx + 3) 0 ∧ D.s 12 = .bptr (x1 + 1) 0 ∧ D.s 20 = .int .i64 (j : Int) ∧ D.m = M ∧ D.nx = x) (by simp [d2, d3, d7, d8, d9, d10, d12, d20]) fun D ⟨d2, d3, d7, d8, d9, d10, d12, d20, dm, dx⟩ => ?_
      rw [ev_seq, ev_block, ev_seq]
      have ewp : (p.w.corrupt[j] : Int) = (pw : Int) + 1 := hw
      refine EvP.drawT rfl ?_
      apply drawT_ex
      apply Exists.intro
      apply Exists.intro
      apply Exists.intro
      apply And.intro
      · intro P hP
        simp only [paths, List.map_cons, List.map_nil, List.cons_append, List.nil_append, List.mem_cons, List.not_mem_nil, or_false] at hP
        rcases hP with rfl | rfl | rfl | rfl
        · simp [-reach, -doCall, doCall_eq, d2, d3, d7, d8, d9, d10, d12, d20, dm, dx, gM, gMA, hjl, ewp, c23a, c23b, frzL_evsC2, frzL_evsC, c22]
          exact ⟨fun jj => rfl, rfl, rfl⟩
        all_goals
          simp [-reach, -doCall, doCall_eq, d2, d3, d7, d8, d9, d10, d12, d20, dm, dx, gM, gMA, hjl, ewp, c23a, c23b, frzL_evsC2, frzL_evsC, c22]
          refine ⟨fun jj => ?_, rfl, rfl⟩
          rcases Decidable.em (jj = 263) with rfl | a263
          · simp
          rcases Decidable.em (jj = 262) with rfl | a262
          · simp
          rcases Decidable.em (jj = 261) with rfl | a261
          · simp
          rcases Decidable.em (jj = 260) with rfl | a260
          · simp
          rcases Decidable.em (jj = 259) with rfl | a259
          · simp
          rcases Decidable.em (jj = 258) with rfl | a258
          · simp
          rcases Decidable.em (jj = 257) with rfl | a257
          · simp
          rcases Decidable.em (jj = 256) with rfl | a256
          · simp
          rcases Decidable.em (jj = 255) with rfl | a255
          · simp
          rcases Decidable.em (jj = 254) with rfl | a254
          · simp
          rcases Decidable.em (jj = 253) with rfl | a253
          · simp
          rcases Decidable.em (jj = 252) with rfl | a252
          · simp
          rcases Decidable.em (jj = 251) with rfl | a251
          · simp
          rcases Decidable.em (jj = 250) with rfl | a250
          · simp
          rcases Decidable.em (jj = 249) with rfl | a249
          · simp
          rcases Decidable.em (jj = 248) with rfl | a248
          · simp
          rcases Decidable.em (jj = 247) with rfl | a247
          · simp
          rcases Decidable.em (jj = 246) with rfl | a246
          · simp
          simp [a263, a262, a261, a260, a259, a258, a257, a256, a255, a254, a253, a252, a251, a250, a249, a248, a247, a246]
      · simp [-EvK_app, d2, d3, d7, d8, d9, d10, d12, d20, dm, dx, gM]
        rw [EvK_app]
        simp [-EvK_app, d2, d3, d7, d8, d9, d10, d12, d20, dm, dx, gM]
        rw [EvK_app]
        simp [-EvK_app, d2, d3, d7, d8, d9, d10, d12, d20, dm, dx, gM, e5]
        subst hJ
        exact ⟨p.w.corrupt.length - (j + 1), by omega, j + 1, O, [], rfl, by omega, by simp [d2], by simp [d3], by simp [d7], by simp [d8], by simp [d9], by simp [d10], by simp [d12], by simp, by simp [← hMB], rfl, by rw [List.append_nil]; exact TW⟩
    · have hje : ¬ j < p.w.corrupt.length := hjl
      simp [-EvK_app, d2, d3, d7, d8, d9, d10, d12, d20, dm, dx, gM, hje]
      rw [EvK_app]
      simp [-EvK_app, d2, d3, d7, d8, d9, d10, d12, d20, dm, dx, gM, hje]
      rw [EvK_app]
      simp [-EvK_app, d2, d3, d7, d8, d9, d10, d12, d20, dm, dx, gM, hje]
      rw [EvK_app]
      simp [dm]
      exact fun a b h => (hMn (a, b) h).1
end Go.Abs
end
