/- Joined: AbsNY5. -/
import Derived.Test.YtjdgcblikhkioaaDoorAbs24
set_option linter.all false
/- The seat of privitylaw14: NetworkPointToPoint. -/
set_option linter.unusedVariables false
noncomputable section
namespace Go.Abs
open Go Go.Proofs
set_option maxRecDepth 100000
open Classical in
set_option maxHeartbeats 8000000 in
theorem law5 (p : Exe) (hA : ExeA p) (a0 a1 a2 : Nat) (b0 : a0 < 256) (b1 : a1 < 256) (b2 : a2 < 256) (wA : Option Addr) (wc : Nat) (w : List Nat) : ∃ N, AnsN N Tryd.prog H14 5 [exeV p, .agg [.int .u8 (a0 : Int), .int .u8 (a1 : Int), .int .u8 (a2 : Int)], .im false wA wc w.length (uL w)] (.bool true) := by
  obtain ⟨N12, hN12⟩ := awake12
  have n8 : ((8 : Nat) : Int) = 8 := rfl
  obtain ⟨AT, hAT⟩ : ∃ AT : List V, [V.int .u8 (a0 : Int), .int .u8 (a1 : Int), .int .u8 (a2 : Int)] = AT := ⟨_, rfl⟩
  by_cases hF : FairE p
  case neg =>
    refine ⟨max N12 2000 + 1, AnsN.of (fn := Tryd.f5) (t := 6) (by rfl) Tryd.func5 rfl rfl (by rfl) (by rfl) fun k hk nx => ?_⟩
    have c12 := callP (k := k) hN12 (by omega) (by simp [ptrsL]) rfl
    have h1 := hA.w.e1
    have h2 := hA.w.e2
    have h3 := hA.w.e3
    have hlt := lents_ok hA.w.r
    have hrs := frzL_rsps fun r hr => (hA.m r hr).2
    have c15 := callP (k := k) (fair15 p hA) (by omega) (by simp [ptrsL, ptrs, exeV, exeL]) rfl
    rw [decide_eq_false hF] at c15
    simp only [exeV, exeL, h1, h2, h3] at c15
    simp [-EvK_app, -reach, -doCall, doCall_eq, entryS, exeV, exeL, h1, h2, h3]
    rw [EvK_app]
    simp [-EvK_app, -reach, -doCall, doCall_eq, c12]
    rw [EvK_app]
    simp [-EvK_app, -reach, -doCall, doCall_eq, c12]
    refine EvK_cut (fun D => D.s 2 = .im false wA wc w.length (uL w) ∧ D.s 3 = .bptr nx 0 ∧ D.s 4 = .bptr (nx + 1) 0 ∧ D.m = [(nx, ⟨0, exeL p⟩), (nx + 1, ⟨0, AT⟩)] ∧ D.nx = nx + 2) (by simp [exeL, h1, h2, h3, ← hAT]) fun D ⟨d2, d3, d4, dm, dx⟩ => ?_
    simp [-reach, -doCall, doCall_eq, d2, d3, d4, dm, dx, exeL, h1, h2, h3, hlt, hrs, c15]
    exact two_ge
  by_cases hL0 : p.l.length = 0
  case pos =>
    have hLt : ((p.l.length : Int) == 0) = true := by simp [hL0]
    refine ⟨max N12 2000 + 1, AnsN.of (fn := Tryd.f5) (t := 6) (by rfl) Tryd.func5 rfl rfl (by rfl) (by rfl) fun k hk nx => ?_⟩
    have c12 := callP (k := k) hN12 (by omega) (by simp [ptrsL]) rfl
    have h1 := hA.w.e1
    have h2 := hA.w.e2
    have h3 := hA.w.e3
    have hlt := lents_ok hA.w.r
    have hrs := frzL_rsps fun r hr => (hA.m r hr).2
    have c15 := callP (k := k) (fair15 p hA) (by omega) (by simp [ptrsL, ptrs, exeV, exeL]) rfl
    rw [decide_eq_true hF] at c15
    simp only [exeV, exeL, h1, h2, h3] at c15
    simp [-EvK_app, -reach, -doCall, doCall_eq, entryS, exeV, exeL, h1, h2, h3]
    rw [EvK_app]
    simp [-EvK_app, -reach, -doCall, doCall_eq, c12]
    rw [EvK_app]
    simp [-EvK_app, -reach, -doCall, doCall_eq, c12]
    refine EvK_cut (fun D => D.s 2 = .im false wA wc w.length (uL w) ∧ D.s 3 = .bptr nx 0 ∧ D.s 4 = .bptr (nx + 1) 0 ∧ D.m = [(nx, ⟨0, exeL p⟩), (nx + 1, ⟨0, AT⟩)] ∧ D.nx = nx + 2) (by simp [exeL, h1, h2, h3, ← hAT]) fun D ⟨d2, d3, d4, dm, dx⟩ => ?_
    simp [-reach, -doCall, doCall_eq, d2, d3, d4, dm, dx, exeL, h1, h2, h3, hlt, hrs, c15, hLt]
    exact two_ge
  have hLz : ((p.l.length : Int) == 0) = false := by
    have : ¬ ((p.l.length : Int) = 0) := by omega
    simpa using this
  by_cases hW : w.length ≤ 8 ∧ ∀ x ∈ w, x < p.w.p
  case neg =>
    refine ⟨max N12 2000 + 1, AnsN.of (fn := Tryd.f5) (t := 6) (by rfl) Tryd.func5 rfl rfl (by rfl) (by rfl) fun k hk nx => ?_⟩
    have c12 := callP (k := k) hN12 (by omega) (by simp [ptrsL]) rfl
    have h1 := hA.w.e1
    have h2 := hA.w.e2
    have h3 := hA.w.e3
    have hlt := lents_ok hA.w.r
    have hrs := frzL_rsps fun r hr => (hA.m r hr).2
    have c15 := callP (k := k) (fair15 p hA) (by omega) (by simp [ptrsL, ptrs, exeV, exeL]) rfl
    rw [decide_eq_true hF] at c15
    simp only [exeV, exeL, h1, h2, h3] at c15
    simp [-EvK_app, -reach, -doCall, doCall_eq, entryS, exeV, exeL, h1, h2, h3]
    rw [EvK_app]
    simp [-EvK_app, -reach, -doCall, doCall_eq, c12]
    rw [EvK_app]
    simp [-EvK_app, -reach, -doCall, doCall_eq, c12]
    refine EvK_cut (fun D => D.s 2 = .im false wA wc w.length (uL w) ∧ D.s 3 = .bptr nx 0 ∧ D.s 4 = .bptr (nx + 1) 0 ∧ D.m = [(nx, ⟨0, exeL p⟩), (nx + 1, ⟨0, AT⟩)] ∧ D.nx = nx + 2) (by simp [exeL, h1, h2, h3, ← hAT]) fun D ⟨d2, d3, d4, dm, dx⟩ => ?_
    have c21 := callP (k := k) (below21 p.w.p false none 0 [⟨false, wA, wc, w⟩] 8 (by simp) (by omega)) (by omega) (by simp [ptrsL, ptrs, rsV, rV]) rfl
    rw [decide_eq_false (by simpa using hW)] at c21
    simp only [rsV, List.map_cons, List.map_nil, rV, List.length_cons, List.length_nil, Nat.zero_add, n8] at c21
    simp [-reach, -doCall, doCall_eq, d2, d3, d4, dm, dx, exeL, h1, h2, h3, hlt, hrs, c15, hLz, c21]
    exact two_ge
  obtain ⟨⟨f1, f2, f3, f4, hs⟩, hL, hrds⟩ := id hF
  have hn413 := scnS_n hs
  have hr1000 : ∀ r ∈ p.w.tapes, r.l.length ≤ 1000 := fun r h => by have := f4 r h; omega
  obtain ⟨N, hN⟩ := new_ex p.w hs (by omega) (by omega) hr1000 hA.w.k
  refine ⟨max (max N12 1200000) (max N 100 + 1) + 1, AnsN.of (fn := Tryd.f5) (t := 6) (by rfl) Tryd.func5 rfl rfl (by rfl) (by rfl) fun k hk nx => ?_⟩
  have c12 := callP (k := k) hN12 (by omega) (by simp [ptrsL]) rfl
  have h1 := hA.w.e1
  have h2 := hA.w.e2
  have h3 := hA.w.e3
  have hlt := lents_ok hA.w.r
  have hrs := frzL_rsps fun r hr => (hA.m r hr).2
  have c15 := callP (k := k) (fair15 p hA) (by omega) (by simp [ptrsL, ptrs, exeV, exeL]) rfl
  rw [decide_eq_true hF] at c15
  simp only [exeV, exeL, h1, h2, h3] at c15
  simp [-EvK_app, -reach, -doCall, doCall_eq, entryS, exeV, exeL, h1, h2, h3]
  rw [EvK_app]
  simp [-EvK_app, -reach, -doCall, doCall_eq, c12]
  rw [EvK_app]
  simp [-EvK_app, -reach, -doCall, doCall_eq, c12]
  refine EvK_cut (fun D => D.s 2 = .im false wA wc w.length (uL w) ∧ D.s 3 = .bptr nx 0 ∧ D.s 4 = .bptr (nx + 1) 0 ∧ D.m = [(nx, ⟨0, exeL p⟩), (nx + 1, ⟨0, AT⟩)] ∧ D.nx = nx + 2) (by simp [exeL, h1, h2, h3, ← hAT]) fun D ⟨d2, d3, d4, dm, dx⟩ => ?_
  have c21 := callP (k := k) (below21 p.w.p false none 0 [⟨false, wA, wc, w⟩] 8 (by simp) (by omega)) (by omega) (by simp [ptrsL, ptrs, rsV, rV]) rfl
  rw [decide_eq_true (by simpa using hW)] at c21
  simp only [rsV, List.map_cons, List.map_nil, rV, List.length_cons, List.length_nil, Nat.zero_add, n8] at c21
  obtain ⟨n, hn⟩ : ∃ n, p.w.tapes.length = n := ⟨_, rfl⟩
  have hnn : p.w.n = (n : Int) := by rw [← hn]; exact hs.2.1.symm
  obtain ⟨F, hFd⟩ : ∃ F : RD → List V, (fun w => tapeC (lent w) 0) = F := ⟨_, rfl⟩
  have hFp : ∀ w, ptrsL (F w) = [] := fun w => by rw [← hFd]; exact ptrsL_tapeC _ _
  simp [-EvK_app, -reach, -doCall, doCall_eq, d2, d3, d4, dm, dx, exeL, h1, h2, h3, hlt, hrs, c15, hLz, c21]
  rw [EvK_app]
  simp [-EvK_app]
  refine EvK_cut (fun D => D.s 2 = .im false wA wc w.length (uL w) ∧ D.s 3 = .bptr nx 0 ∧ D.s 4 = .bptr (nx + 1) 0 ∧ D.m = [(nx, ⟨0, exeL p⟩), (nx + 1, ⟨0, AT⟩)] ∧ D.nx = nx + 2) (by simp [exeL, h1, h2, h3, d2, d3, d4]) fun D ⟨d2, d3, d4, dm, dx⟩ => ?_
  simp [-EvK_app, d2, d3, d4, dm, dx]
  rw [EvK_app]
  simp only [ev_block]
  obtain ⟨Z, hZ⟩ : ∃ Z : Nat → St → Prop, Z = fun q D => ∃ i : Nat, q = p.w.devs.length - i ∧ i ≤ p.w.devs.length ∧ (∀ x ∈ p.w.devs.take i, x.kind ≠ 3) ∧ D.s 2 = .im false wA wc w.length (uL w) ∧ D.s 3 = .bptr nx 0 ∧ D.s 4 = .bptr (nx + 1) 0 ∧ D.s 7 = .int .i64 (i : Int) ∧ D.m = [(nx, ⟨0, exeL p⟩), (nx + 1, ⟨0, AT⟩)] ∧ D.nx = nx + 2 := ⟨_, rfl⟩
  refine EvP.loop Z (n := p.w.devs.length) (by rw [hZ]; exact ⟨0, by simp [d2, d3, d4]⟩) (by omega) fun q D hD => ?_
  rw [hZ] at hD
  obtain ⟨i, rfl, hi, hpre, d2, d3, d4, d7, dm, dx⟩ := hD
  by_cases hil : i < p.w.devs.length
  · have e3 := wrap_succ (q := i) (by omega)
    have p1 : (devsV p.w.devs).drop (i * 8) = devL p.w.devs[i] ++ devsV (p.w.devs.drop (i + 1)) := by rw [devsV_drop, List.drop_eq_getElem_cons hil]; rfl
    obtain ⟨x, hx⟩ : ∃ x, p.w.devs[i] = x := ⟨_, rfl⟩
    rw [hx] at p1
    by_cases hk3 : x.kind = 3
    · have hb : (x.kind == 3) = true := by simp [hk3]
      simp [d2, d3, d4, d7, dm, dx, exeL, h1, h2, h3, hil, p1, devL, hb]
      exact two_ge
    · have hb : (x.kind == 3) = false := by simp [hk3]
      simp [d2, d3, d4, d7, dm, dx, exeL, h1, h2, h3, hil, p1, devL, hb, e3]
      subst hZ
      exact ⟨p.w.devs.length - (i + 1), by omega, i + 1, rfl, by omega, take_all hil hpre (by rw [hx]; exact hk3), by simp [d2], by simp [d3], by simp [d4], by simp, by simp [exeL, h1, h2, h3], rfl⟩
  have hie : i = p.w.devs.length := by omega
  have hne : ∀ x ∈ p.w.devs, x.kind ≠ 3 := fun x hx => hpre x (by rw [hie, List.take_length]; exact hx)
  subst hie
  clear hpre hi hil hZ
  simp [-EvK_app, d2, d3, d4, d7, dm, dx, exeL, h1, h2, h3]
  rw [EvK_app]
  simp [-EvK_app]
  refine EvK_cut (fun D => D.s 2 = .im false wA wc w.length (uL w) ∧ D.s 3 = .bptr nx 0 ∧ D.s 4 = .bptr (nx + 1) 0 ∧ D.m = [(nx, ⟨0, exeL p⟩), (nx + 1, ⟨0, AT⟩)] ∧ D.nx = nx + 2) (by simp [exeL, h1, h2, h3, d2, d3, d4]) fun D ⟨d2, d3, d4, dm, dx⟩ => ?_
  obtain ⟨kk, hkk⟩ : ∃ kk, a0 % p.l.length = kk := ⟨_, rfl⟩
  obtain ⟨ff, hff⟩ : ∃ ff, a1 % n = ff := ⟨_, rfl⟩
  obtain ⟨tt, htt⟩ : ∃ tt, a2 % n = tt := ⟨_, rfl⟩
  have hkl : kk < p.l.length := by rw [← hkk]; exact Nat.mod_lt _ (by omega)
  have hfn : ff < n := by rw [← hff]; exact Nat.mod_lt _ (by omega)
  have htn : tt < n := by rw [← htt]; exact Nat.mod_lt _ (by omega)
  have q0 : intOp .rem .i64 (a0 : Int) (p.l.length : Int) = some (.int .i64 (kk : Int)) := by rw [← hkk]; exact int_rem (by omega)
  have q1 : intOp .rem .i64 (a1 : Int) p.w.n = some (.int .i64 (ff : Int)) := by rw [← hff, hnn]; exact int_rem (by omega)
  have q2 : intOp .rem .i64 (a2 : Int) p.w.n = some (.int .i64 (tt : Int)) := by rw [← htt, hnn]; exact int_rem (by omega)
  have w0 : IntKind.i64.wrap (a0 : Int) = (a0 : Int) := wrap_nat (by omega) (by omega)
  have w1 : IntKind.i64.wrap (a1 : Int) = (a1 : Int) := wrap_nat (by omega) (by omega)
  have w2 : IntKind.i64.wrap (a2 : Int) = (a2 : Int) := wrap_nat (by omega) (by omega)
  simp [-EvK_app, d2, d3, d4, dm, dx, exeL, h1, h2, h3, ← hAT, q0, q1, q2, w0, w1, w2]
  refine EvK_cut (fun D => D.s 2 = .im false wA wc w.length (uL w) ∧ D.s 3 = .bptr nx 0 ∧ D.s 8 = .int .i64 (kk : Int) ∧ D.s 9 = .int .i64 (ff : Int) ∧ D.s 10 = .int .i64 (tt : Int) ∧ D.m = [(nx, ⟨0, exeL p⟩), (nx + 1, ⟨0, AT⟩)] ∧ D.nx = nx + 2) (by simp [exeL, h1, h2, h3, d2, d3, ← hAT]) fun D ⟨d2, d3, d8, d9, d10, dm, dx⟩ => ?_
  have p1 := rspsV_drop hkl
  cases hck : p.l[kk].cast with
  | true =>
    simp [d2, d3, d8, d9, d10, dm, dx, exeL, h1, h2, h3, hkl, p1, hck]
    exact two_ge
  | false =>
  simp [-EvK_app, d2, d3, d8, d9, d10, dm, dx, exeL, h1, h2, h3, hkl, p1, hck]
  rw [EvK_app]
  simp [-EvK_app]
  refine EvK_cut (fun D => D.s 2 = .im false wA wc w.length (uL w) ∧ D.s 3 = .bptr nx 0 ∧ D.s 8 = .int .i64 (kk : Int) ∧ D.s 9 = .int .i64 (ff : Int) ∧ D.s 10 = .int .i64 (tt : Int) ∧ D.m = [(nx, ⟨0, exeL p⟩), (nx + 1, ⟨0, AT⟩)] ∧ D.nx = nx + 2) (by simp [exeL, h1, h2, h3, d2, d3, d8, d9, d10]) fun D ⟨d2, d3, d8, d9, d10, dm, dx⟩ => ?_
  obtain ⟨x1, hx1⟩ : ∃ x1, nx + 2 + (2 + p.w.tapes.length) = x1 := ⟨_, rfl⟩
  obtain ⟨x2, hx2⟩ : ∃ x2, x1 + (2 + p.w.tapes.length) = x2 := ⟨_, rfl⟩
  obtain ⟨tb1, htb1⟩ : ∃ tb, tapB F (nx + 2 + 2) p.w.tapes = tb := ⟨_, rfl⟩
  obtain ⟨tb2, htb2⟩ : ∃ tb, tapB F (x1 + 2) p.w.tapes = tb := ⟨_, rfl⟩
  obtain ⟨σ0, hσ0⟩ : ∃ σ0, net0 p.w (nx + 2) p.w.tapes.length = σ0 := ⟨_, rfl⟩
  obtain ⟨τ0, hτ0⟩ : ∃ τ0, net0 p.w x1 p.w.tapes.length = τ0 := ⟨_, rfl⟩
  have I1 : NetI N (nx + 3) σ0 tb1 := by rw [← hσ0, ← htb1]; exact net0_I F hFp p.w (nx + 2) hs hN (scnS_pq hs) hn413.2 (by omega)
  have I2 : NetI N (x1 + 1) τ0 tb2 := by rw [← hτ0, ← htb2]; exact net0_I F hFp p.w x1 hs hN (scnS_pq hs) hn413.2 (by omega)
  have TW := net0_two p.w nx (nx + 2) ⟨0, exeL p⟩ ⟨0, scL p.w⟩ ⟨0, scL p.w⟩ [(nx, ⟨0, exeL p⟩), (nx + 1, ⟨0, AT⟩)] (by simp [getBox]) (fun e he => by
    simp only [List.mem_cons, List.not_mem_nil, or_false] at he
    rcases he with rfl | rfl
    · exact ⟨Nat.le_refl _, by show nx < nx + 2; omega⟩
    · exact ⟨by show nx ≤ nx + 1; omega, by show nx + 1 < nx + 2; omega⟩) (by omega)
  rw [hx1, hx2, hσ0, hτ0] at TW
  obtain ⟨O1, hO1⟩ : ∃ O1 : List (Nat × Box), [(nx, (⟨0, exeL p⟩ : Box)), (nx + 1, ⟨0, AT⟩)] ++ [(nx + 2, ⟨0, scL p.w⟩)] = O1 := ⟨_, rfl⟩
  obtain ⟨O2, hO2⟩ : ∃ O2 : List (Nat × Box), [(x1, (⟨0, scL p.w⟩ : Box))] = O2 := ⟨_, rfl⟩
  rw [hO1, hO2] at TW
  have c13 := fun st dst => call13 p.w st [(nx, ⟨0, exeL p⟩), (nx + 1, ⟨0, AT⟩)] (nx + 2) dst (by omega) (by omega) hr1000 hs (k := k) (by omega)
  rw [hFd, netM_at, hσ0, hx1, htb1] at c13
  obtain ⟨M1, hM1⟩ : ∃ M1 : List (Nat × Box), O1 ++ (nx + 3, ⟨0, netC σ0⟩) :: tb1 = M1 := ⟨_, rfl⟩
  have hM1' : [(nx, (⟨0, exeL p⟩ : Box)), (nx + 1, ⟨0, AT⟩)] ++ (nx + 2, ⟨0, scL p.w⟩) :: (nx + 2 + 1, ⟨0, netC σ0⟩) :: tb1 = M1 := by rw [← hM1, ← hO1]; rfl
  rw [hM1'] at c13
  have c13b := fun st dst => call13 p.w st M1 x1 dst (by omega) (by omega) hr1000 hs (k := k) (by omega)
  rw [hFd, netM_at, hτ0, hx2, htb2] at c13b
  obtain ⟨M2, hM2⟩ : ∃ M2 : List (Nat × Box), O1 ++ ((nx + 3, ⟨0, netC σ0⟩) :: tb1) ++ (O2 ++ ((x1 + 1, ⟨0, netC τ0⟩) :: tb2)) = M2 := ⟨_, rfl⟩
  have hM2' : M1 ++ (x1, (⟨0, scL p.w⟩ : Box)) :: (x1 + 1, ⟨0, netC τ0⟩) :: tb2 = M2 := by rw [← hM2, ← hM1, ← hO2]; rfl
  rw [hM2'] at c13b
  have gM1 : getBox M1 nx = some ⟨0, exeL p⟩ := by rw [← hM1']; simp [getBox]
  have gM2 : getBox M2 nx = some ⟨0, exeL p⟩ := by rw [← hM2]; exact TW.get2 I1.hT
  simp only [scV, scL, exeL, h1, h2, h3] at c13 c13b gM1
  simp [-EvK_app, -reach, -doCall, doCall_eq, d2, d3, d8, d9, d10, dm, dx, exeL, h1, h2, h3, hlt, c13]
  refine EvK_cut (fun D => D.s 2 = .im false wA wc w.length (uL w) ∧ D.s 3 = .bptr nx 0 ∧ D.s 8 = .int .i64 (kk : Int) ∧ D.s 9 = .int .i64 (ff : Int) ∧ D.s 10 = .int .i64 (tt : Int) ∧ D.s 11 = .bptr (nx + 3) 0 ∧ D.s 12 = .int .i64 0 ∧ D.m = M1 ∧ D.nx = x1) (by simp [d2, d3, d8, d9, d10]) fun D ⟨d2, d3, d8, d9, d10, d11, d12, dm, dx⟩ => ?_
  simp [-EvK_app, -reach, -doCall, doCall_eq, d2, d3, d8, d9, d10, d11, d12, dm, dx, gM1, hlt, c13b]
  refine EvK_cut (fun D => D.s 2 = .im false wA wc w.length (uL w) ∧ D.s 3 = .bptr nx 0 ∧ D.s 8 = .int .i64 (kk : Int) ∧ D.s 9 = .int .i64 (ff : Int) ∧ D.s 10 = .int .i64 (tt : Int) ∧ D.s 11 = .bptr (nx + 3) 0 ∧ D.s 12 = .int .i64 0 ∧ D.s 13 = .bptr (x1 + 1) 0 ∧ D.s 14 = .int .i64 0 ∧ D.m = M2 ∧ D.nx = x2) (by simp [d2, d3, d8, d9, d10, d11, d12]) fun D ⟨d2, d3, d8, d9, d10, d11, d12, d13, d14, dm, dx⟩ => ?_
  simp [-EvK_app, d2, d3, d8, d9, d10, d11, d12, d13, d14, dm, dx]
  rw [EvK_app]
  simp [-EvK_app, d2, d3, d8, d9, d10, d11, d12, d13, d14, dm, dx]
  refine EvK_cut (fun D => D.s 2 = .im false wA wc w.length (uL w) ∧ D.s 3 = .bptr nx 0 ∧ D.s 8 = .int .i64 (kk : Int) ∧ D.s 9 = .int .i64 (ff : Int) ∧ D.s 10 = .int .i64 (tt : Int) ∧ D.s 11 = .bptr (nx + 3) 0 ∧ D.s 13 = .bptr (x1 + 1) 0 ∧ D.m = M2 ∧ D.nx = x2) (by simp [d2, d3, d8, d9, d10, d11, d13]) fun D ⟨d2, d3, d8, d9, d10, d11, d13, dm, dx⟩ => ?_
  simp [-EvK_app, d2, d3, d8, d9, d10, d11, d13, dm, dx]
  rw [EvK_app]
  simp only [ev_block]
  have hA0 : Alike n (fun w => w ≠ tt) σ0 τ0 := fun w hw _ => by
    refine ⟨[], [], ?_, ?_, rfl⟩
    · rw [← hσ0]
      show (List.replicate p.w.n.toNat ([] : List Ev))[w]? = _
      rw [hnn]; simp [hw]
    · rw [← hτ0]
      show (List.replicate p.w.n.toNat ([] : List Ev))[w]? = _
      rw [hnn]; simp [hw]
  obtain ⟨I, hI⟩ : ∃ I : Nat → St → Prop, I = fun q D => ∃ (i : Nat) (σ τ : NetS) (O1 O2 : List (Nat × Box)) (x : Nat), q = p.l.length - i ∧ i ≤ p.l.length ∧ D.s 2 = .im false wA wc w.length (uL w) ∧ D.s 3 = .bptr nx 0 ∧ D.s 8 = .int .i64 (kk : Int) ∧ D.s 9 = .int .i64 (ff : Int) ∧ D.s 10 = .int .i64 (tt : Int) ∧ D.s 11 = .bptr (nx + 3) 0 ∧ D.s 13 = .bptr (x1 + 1) 0 ∧ D.s 15 = .int .i64 (i : Int) ∧ D.m = O1 ++ ((nx + 3, (⟨0, netC σ⟩ : Box)) :: tb1) ++ (O2 ++ ((x1 + 1, (⟨0, netC τ⟩ : Box)) :: tb2)) ∧ D.nx = x ∧ NetI N (nx + 3) σ tb1 ∧ NetI N (x1 + 1) τ tb2 ∧ σ.scn = p.w ∧ τ.scn = p.w ∧ σ.round = i ∧ τ.round = i ∧ σ.tp = σ0.tp ∧ τ.tp = τ0.tp ∧ Two nx (nx + 3) (x1 + 1) σ0.tp τ0.tp ⟨0, exeL p⟩ (O1 ++ O2) x ∧ VW σ ∧ VW τ ∧ Alike n (fun w => w ≠ tt) σ τ := ⟨_, rfl⟩
  refine EvP.loop I (n := p.l.length) (by rw [hI]; exact ⟨0, σ0, τ0, O1, O2, x2, by simp, by simp, by simp [d2], by simp [d3], by simp [d8], by simp [d9], by simp [d10], by simp [d11], by simp [d13], by simp, hM2.symm, rfl, I1, I2, by rw [← hσ0]; rfl, by rw [← hτ0]; rfl, by rw [← hσ0]; rfl, by rw [← hτ0]; rfl, rfl, rfl, TW, by rw [← hσ0]; exact vw_net0 _ _ _, by rw [← hτ0]; exact vw_net0 _ _ _, hA0⟩) (by omega) fun q D hD => ?_
  clear d2 d3 d8 d9 d10 d11 d13 dm dx c13 c13b hM1' hM2' hM1 hM2 gM1 gM2 TW I1 I2 hO1 hO2 O1 O2
  rw [hI] at hD
  obtain ⟨i, σ, τ, O1, O2, x, rfl, hi, d2, d3, d8, d9, d10, d11, d13, d15, dm, dx, I1, I2, hsc1, hsc2, hrd1, hrd2, htp1, htp2, TW, V1, V2, hAl⟩ := hD
  rw [← htp1, ← htp2] at TW
  obtain ⟨M, hM⟩ : ∃ M : List (Nat × Box), O1 ++ ((nx + 3, (⟨0, netC σ⟩ : Box)) :: tb1) ++ (O2 ++ ((x1 + 1, (⟨0, netC τ⟩ : Box)) :: tb2)) = M := ⟨_, rfl⟩
  rw [hM] at dm
  have gM : getBox M nx = some ⟨0, exeL p⟩ := by rw [← hM]; exact TW.get2 I1.hT
  have hMn : ∀ e ∈ M, nx ≤ e.1 ∧ e.1 < x := by rw [← hM]; exact TW.mem2 I1.hT I2.hT
  simp only [exeL, h1, h2, h3] at gM
  by_cases hil : i < p.l.length
  · have e3 := wrap_succ (q := i) (by omega)
    have p1 := rspsV_drop hil
    obtain ⟨r, hr⟩ : ∃ r, p.l[i] = r := ⟨_, rfl⟩
    rw [hr] at p1
    have hrok : RoundOk p.w.p (n : Int) r := by rw [← hnn, ← hr]; exact hrds _ (List.getElem_mem hil)
    obtain ⟨hrl, hrm⟩ := rounds_ms hrok
    have hmA : ∀ m ∈ r.ms, MdOk m := hr ▸ (hA.m _ (List.getElem_mem hil)).2
    have hlm := lentMs_ok hmA
    have hlf := firsts_ok hmA
    have hns1 : (r.ms.length : Int) = σ.scn.n := by rw [hsc1, hnn, hrl]
    have hns2 : (r.ms.length : Int) = τ.scn.n := by rw [hsc2, hnn, hrl]
    have c17 := callP (broadcasts17 false r.A r.cap r.ms (by omega) fun m hm => by have := (hrok.2 m hm).1; omega) (k := k) (by omega) (by simp) rfl
    have gx0 : ∀ c, getBox (M ++ [(x, c)]) x = some c := fun c => getBox_app_new fun b hb => (hMn b hb).2
    have sx : ∀ c c', setBox (M ++ [(x, c)]) x c' = M ++ [(x, c')] := fun c c' => setBox_app_new fun b hb => (hMn b hb).2
    have hend : ∀ (σ' τ' : NetS) (c' : Box) (D : St), NetI N (nx + 3) σ' tb1 → NetI N (x1 + 1) τ' tb2 → σ'.scn = σ.scn → τ'.scn = τ.scn → σ'.round = σ.round + 1 → τ'.round = τ.round + 1 → σ'.tp = σ.tp → τ'.tp = τ.tp → VW σ' → VW τ' → Alike n (fun w => w ≠ tt) σ' τ' → D.s 2 = .im false wA wc w.length (uL w) → D.s 3 = .bptr nx 0 → D.s 8 = .int .i64 (kk : Int) → D.s 9 = .int .i64 (ff : Int) → D.s 10 = .int .i64 (tt : Int) → D.s 11 = .bptr (nx + 3) 0 → D.s 13 = .bptr (x1 + 1) 0 → D.s 15 = .int .i64 ((i + 1 : Nat) : Int) → D.m = ((O1 ++ O2 ++ [(x, c')]) ++ ((nx + 3, (⟨0, netC σ'⟩ : Box)) :: tb1)) ++ ((x1 + 1, (⟨0, netC τ'⟩ : Box)) :: tb2) → D.nx = x + 1 → ∃ n', n' < p.l.length - i ∧ I n' D := by
      intro σ' τ' c' D i1 i2 s1 s2 r1 r2 t1 t2 v1 v2 al a2 a3 a8 a9 a10 a11 a13 a15 am ax
      rw [hI]
      exact ⟨p.l.length - (i + 1), by omega, i + 1, σ', τ', O1 ++ O2 ++ [(x, c')], [], x + 1, rfl, by omega, a2, a3, a8, a9, a10, a11, a13, a15, am, ax, i1, i2, s1.trans hsc1, s2.trans hsc2, by rw [r1, hrd1]; omega, by rw [r2, hrd2]; omega, t1.trans htp1, t2.trans htp2, by rw [List.append_nil, ← htp1, ← htp2]; exact TW.add, v1, v2, al⟩
    simp [-EvK_app, d2, d3, d8, d9, d10, d11, d13, d15, dm, dx, gM, hil]
    rw [EvK_app]
    simp [-EvK_app]
    rw [EvK_app, ev_seq, ev_block, ev_seq]
    simp [-EvK_app, d2, d3, d8, d9, d10, d11, d13, d15, dm, dx, gM, hil, p1, gx0, sx]
    refine EvK_cut (fun D => D.s 2 = .im false wA wc w.length (uL w) ∧ D.s 3 = .bptr nx 0 ∧ D.s 8 = .int .i64 (kk : Int) ∧ D.s 9 = .int .i64 (ff : Int) ∧ D.s 10 = .int .i64 (tt : Int) ∧ D.s 11 = .bptr (nx + 3) 0 ∧ D.s 13 = .bptr (x1 + 1) 0 ∧ D.s 15 = .int .i64 (i : Int) ∧ D.s 16 = .bptr x 0 ∧ D.m = M ++ [(x, ⟨0, rspC r⟩)] ∧ D.nx = x + 1) (by simp [d2, d3, d8, d9, d10, d11, d13, d15, rspC]) fun D ⟨d2, d3, d8, d9, d10, d11, d13, d15, d16, dm, dx⟩ => ?_
    obtain ⟨O, hO⟩ : ∃ O, O1 ++ O2 = O := ⟨_, rfl⟩
    rw [hO] at TW hend
    cases hc : r.cast with
    | true =>
      obtain ⟨L, hLd⟩ : ∃ L, (firsts r.ms).map (·.l) = L := ⟨_, rfl⟩
      have hLok : LsOk p.w.p L := by rw [← hLd]; exact rounds_ls hrok
      have hfl := firsts_length r.ms
      have lk1 := like_castS cpW (netTold σ L) n σ
      have lk2 := like_castS cpW (netTold τ L) n τ
      obtain ⟨σ', hσ'⟩ : ∃ σ', castS cpW (netTold σ L) n σ = σ' := ⟨_, rfl⟩
      obtain ⟨τ', hτ'⟩ : ∃ τ', castS cpW (netTold τ L) n τ = τ' := ⟨_, rfl⟩
      rw [hσ'] at lk1
      rw [hτ'] at lk2
      have I1' : NetI N (nx + 3) σ' tb1 := by rw [← hσ']; exact I1.cast cpW _ (by rw [← hrl]; exact hns1)
      have I2' : NetI N (x1 + 1) τ' tb2 := by rw [← hτ']; exact I2.cast cpW _ (by rw [← hrl]; exact hns2)
      have V1' : VW σ' := by rw [← hσ']; exact V1.cast cpW (fun _ => rfl) (I1.told_ok (by rw [hsc1]; exact hLok))
      have V2' : VW τ' := by rw [← hτ']; exact V2.cast cpW (fun _ => rfl) (I2.told_ok (by rw [hsc2]; exact hLok))
      have hTe : netTold τ L = netTold σ L := by unfold netTold; rw [hsc1, hsc2, hrd1, hrd2]
      have hAl' : Alike n (fun w => w ≠ tt) σ' τ' := by
        rw [← hσ', ← hτ', hTe]
        exact alike_cast hAl (by rw [hrd1, hrd2]) cpW cpW (fun _ => rfl) _
      obtain ⟨MA, hMA⟩ : ∃ MA : List (Nat × Box), ((O ++ ((x1 + 1, (⟨0, netC τ⟩ : Box)) :: tb2)) ++ [(x, ⟨0, rspC r⟩)]) ++ ((nx + 3, (⟨0, netC σ'⟩ : Box)) :: tb1) = MA := ⟨_, rfl⟩
      obtain ⟨MB, hMB⟩ : ∃ MB : List (Nat × Box), ((O ++ [(x, ⟨0, rspC r⟩)]) ++ ((nx + 3, (⟨0, netC σ'⟩ : Box)) :: tb1)) ++ ((x1 + 1, (⟨0, netC τ'⟩ : Box)) :: tb2) = MB := ⟨_, rfl⟩
      have TW' : Two nx (nx + 3) (x1 + 1) σ'.tp τ.tp ⟨0, exeL p⟩ O x := by rw [lk1.2.1]; exact TW
      have gA : getBox MA x = some ⟨0, rspC r⟩ := by rw [← hMA]; exact TW'.getX I2.hT
      have c16a := fun st dst => Two.callA2 (c' := ⟨0, rspC r⟩) (O1 := O1) (O2 := O2) (by rw [hO]; exact TW) I1.hT I1.hl I2.hT (σ' := σ') (by rw [lk1.2.1]) (by rw [← hσ', ← hLd, ← hrl, ← hfl]; exact I1.cast16 (g := 0) (by omega) false none 0 (firsts r.ms) (by rw [hfl]; exact hns1) (by rw [hsc1]; exact rounds_ls hrok)) (k := k) (by omega) (by simp [ptrsL, ptrs]) rfl st dst
      rw [hM, hO, hMA, hfl] at c16a
      have c16b := fun st dst => Two.callB (c' := ⟨0, rspC r⟩) TW' I1'.hT I2.hT I2.hl (τ' := τ') (by rw [lk2.2.1]) (by rw [← hτ', ← hLd, ← hrl, ← hfl]; exact I2.cast16 (g := 0) (by omega) false none 0 (firsts r.ms) (by rw [hfl]; exact hns2) (by rw [hsc2]; exact rounds_ls hrok)) (k := k) (by omega) (by simp [ptrsL, ptrs]) rfl st dst
      rw [hMA, hMB, hfl] at c16b
      simp only [rspC, hc] at c16a gA
      simp [-EvK_app, -reach, -doCall, doCall_eq, d2, d3, d8, d9, d10, d11, d13, d15, d16, dm, dx, gx0, rspC, hc]
      rw [EvK_app]
      simp [-EvK_app, -reach, -doCall, doCall_eq, d2, d3, d8, d9, d10, d11, d13, d15, d16, dm, dx, gx0, rspC, hc, hlm, c17, rsV_lent2, hlf, c16a]
      refine EvK_cut (fun D => D.s 2 = .im false wA wc w.length (uL w) ∧ D.s 3 = .bptr nx 0 ∧ D.s 8 = .int .i64 (kk : Int) ∧ D.s 9 = .int .i64 (ff : Int) ∧ D.s 10 = .int .i64 (tt : Int) ∧ D.s 11 = .bptr (nx + 3) 0 ∧ D.s 13 = .bptr (x1 + 1) 0 ∧ D.s 15 = .int .i64 (i : Int) ∧ D.s 16 = .bptr x 0 ∧ D.m = MA ∧ D.nx = x + 1) (by simp [d2, d3, d8, d9, d10, d11, d13, d15, d16]) fun D ⟨d2, d3, d8, d9, d10, d11, d13, d15, d16, dm, dx⟩ => ?_
      simp [-reach, -doCall, doCall_eq, d2, d3, d8, d9, d10, d11, d13, d15, d16, dm, dx, gA, hlm, c17, rsV_lent2, hlf, c16b, e3]
      exact hend σ' τ' _ _ I1' I2' lk1.1 lk2.1 lk1.2.2.2 lk2.2.2.2 lk1.2.1 lk2.2.1 V1' V2' hAl' (by simp [d2]) (by simp [d3]) (by simp [d8]) (by simp [d9]) (by simp [d10]) (by simp [d11]) (by simp [d13]) (by simp) hMB.symm rfl
    | false =>
      obtain ⟨S, hS⟩ : ∃ S, netSaid σ n (mls r.ms) = S := ⟨_, rfl⟩
      have hSok : MsOk p.w.p n S := by rw [← hS, ← hsc1]; exact I1.said_ok (by rw [hsc1]; exact hrm)
      obtain ⟨σ', hσ'⟩ : ∃ σ', sentS cpW S n σ = σ' := ⟨_, rfl⟩
      have lk1 := like_sentS cpW S n σ
      rw [hσ'] at lk1
      have I1' : NetI N (nx + 3) σ' tb1 := by rw [← hσ']; exact I1.sent cpW _ (by rw [← hrl]; exact hns1)
      have V1' : VW σ' := by rw [← hσ']; exact V1.sent cpW (fun _ => rfl) (sw_le hSok)
      obtain ⟨MA, hMA⟩ : ∃ MA : Box → List (Nat × Box), (fun c => ((O ++ ((x1 + 1, (⟨0, netC τ⟩ : Box)) :: tb2)) ++ [(x, c)]) ++ ((nx + 3, (⟨0, netC σ'⟩ : Box)) :: tb1)) = MA := ⟨_, rfl⟩
      have hMA' : ∀ c, ((O ++ ((x1 + 1, (⟨0, netC τ⟩ : Box)) :: tb2)) ++ [(x, c)]) ++ ((nx + 3, (⟨0, netC σ'⟩ : Box)) :: tb1) = MA c := fun c => by rw [← hMA]
      have TW' : Two nx (nx + 3) (x1 + 1) σ'.tp τ.tp ⟨0, exeL p⟩ O x := by rw [lk1.2.1]; exact TW
      have gX : ∀ c, getBox (MA c) x = some c := fun c => by rw [← hMA']; exact TW'.getX I2.hT
      have sX : ∀ c c2, setBox (MA c) x c2 = MA c2 := fun c c2 => by rw [← hMA', ← hMA']; exact TW'.setX I2.hT
      obtain ⟨MC, hMC⟩ : ∃ MC, msV r.ms = MC := ⟨_, rfl⟩
      have hMCl : MC.length = n := by rw [← hMC, msV_length, hrl]
      obtain ⟨c0, hc0⟩ : ∃ c0 : Box, (⟨0, rspC r⟩ : Box) = c0 := ⟨_, rfl⟩
      have hc0' : c0 = ⟨0, [.bool false, .im false r.A r.cap n MC]⟩ := by rw [← hc0, ← hMC]; unfold rspC; rw [hc, hrl]
      have c18a := fun st dst => Two.callA2 (c' := c0) (O1 := O1) (O2 := O2) (by rw [hO]; exact TW) I1.hT I1.hl I2.hT (σ' := σ') (by rw [lk1.2.1]) (by rw [← hσ', ← hS, ← hrl]; exact I1.send18 (g := 0) (by omega) false r.A r.cap r.ms hns1 (by rw [hsc1, hrl]; exact hrm)) (k := k) (by omega) (by simp [ptrsL, ptrs]) rfl st dst
      rw [hM, hO, hMA', hrl, hMC] at c18a
      have snd : ∀ (A' : Option Addr) (cap' : Nat) (ms' : List MD) (c' : Box), ms'.length = n → MsOk p.w.p n (mls ms') → (∀ f w, f < n → w < n → w ≠ tt → at2 (mls ms') f w = at2 (mls r.ms) f w) → ∃ (τ' : NetS) (cs : List V), NetI N (x1 + 1) τ' tb2 ∧ τ'.scn = τ.scn ∧ τ'.round = τ.round + 1 ∧ τ'.tp = τ.tp ∧ VW τ' ∧ Alike n (fun w => w ≠ tt) σ' τ' ∧ ∀ st dst, doCallB H14 (evCall Tryd.prog H14 k) 18 false [.bptr (x1 + 1) 0, .im false A' cap' n (msV ms')] ⟨st, MA c', x + 1⟩ dst = some ((St.mk (fun i => killB ((x1 + 1) :: τ.tp) (x + 1) (st i)) (((O ++ [(x, c')]) ++ ((nx + 3, (⟨0, netC σ'⟩ : Box)) :: tb1)) ++ ((x1 + 1, (⟨0, netC τ'⟩ : Box)) :: tb2)) (x + 1)).lay dst (.own .nil 0 n cs)) := by
        intro A' cap' ms' c' hl' hok' hat
        have hns' : (ms'.length : Int) = τ.scn.n := by rw [hsc2, hnn, hl']
        have hS2 : MsOk p.w.p n (netSaid τ n (mls ms')) := by rw [← hsc2]; exact I2.said_ok (by rw [hsc2]; exact hok')
        have lk2 := like_sentS cpW (netSaid τ n (mls ms')) n τ
        refine ⟨sentS cpW (netSaid τ n (mls ms')) n τ, rowsC (outL (netSaid τ n (mls ms')) n n), I2.sent cpW _ (by rw [← hl']; exact hns'), lk2.1, lk2.2.2.2, lk2.2.1, V2.sent cpW (fun _ => rfl) (sw_le hS2), ?_, ?_⟩
        · rw [← hσ']
          refine alike_sent hAl (by rw [hrd1, hrd2]) cpW cpW (fun _ => rfl) fun f w hf hw hq => ?_
          rw [sw_at2, sw_at2, ← hS]
          unfold netSaid
          rw [hsc1, hsc2, hrd1, hrd2]
          rw [msg_plain hne hw (hat f w hf hw hq)]
        · intro st dst
          have := Two.callB (c' := c') TW' I1'.hT I2.hT I2.hl (τ' := sentS cpW (netSaid τ n (mls ms')) n τ) (by rw [lk2.2.1]) (by have h := I2.send18 (g := 0) (by omega) false A' cap' ms' hns' (by rw [hsc2, hl']; exact hok'); rw [hl'] at h; exact h) (k := k) (by omega) (by simp [ptrsL, ptrs]) rfl st dst
          rw [hMA'] at this
          exact this
      rw [hc0] at dm
      simp [-EvK_app, -reach, -doCall, doCall_eq, d2, d3, d8, d9, d10, d11, d13, d15, d16, dm, dx, gx0, hc0']
      rw [EvK_app]
      simp [-EvK_app]
      rw [EvK_app]
      have hlmC : frzL false MC = MC := by rw [← hMC, frzL_msV, hlm]
      rw [hc0'] at c18a
      simp [-EvK_app, -reach, -doCall, doCall_eq, d2, d3, d8, d9, d10, d11, d13, d15, d16, dm, dx, gx0, hc0', hlmC, c18a, inV]
      rw [← hc0']
      refine EvK_cut (fun D => D.s 2 = .im false wA wc w.length (uL w) ∧ D.s 3 = .bptr nx 0 ∧ D.s 8 = .int .i64 (kk : Int) ∧ D.s 9 = .int .i64 (ff : Int) ∧ D.s 10 = .int .i64 (tt : Int) ∧ D.s 11 = .bptr (nx + 3) 0 ∧ D.s 13 = .bptr (x1 + 1) 0 ∧ D.s 15 = .int .i64 (i : Int) ∧ D.s 16 = .bptr x 0 ∧ D.m = MA c0 ∧ D.nx = x + 1) (by simp [d2, d3, d8, d9, d10, d11, d13, d15, d16]) fun D ⟨d2, d3, d8, d9, d10, d11, d13, d15, d16, dm, dx⟩ => ?_
      by_cases hik : i = kk
      · have hikb : ((i : Int) == (kk : Int)) = true := by simp [hik]
        have hfm : ff < r.ms.length := by omega
        obtain ⟨m, hm⟩ : ∃ m, r.ms[ff] = m := ⟨_, rfl⟩
        have hm? : r.ms[ff]? = some m := by rw [List.getElem?_eq_getElem hfm, hm]
        have hml : m.l.length = n := by rw [← hm]; have := (hrok.2 _ (List.getElem_mem hfm)).1; omega
        have hmp : m.pm = false := by rw [← hm]; exact (hmA _ (List.getElem_mem hfm)).1
        obtain ⟨RC, hRC⟩ : ∃ RC, rsV m.l = RC := ⟨_, rfl⟩
        have hRCl : RC.length = n := by rw [← hRC, rsV_length, hml]
        have hMCf : MC[ff]? = some (.im false m.A m.cap n RC) := by rw [← hMC, msV, List.getElem?_map, hm?, Option.map_some, mV, hml, hmp, hRC]
        have hMCe : ∀ h, MC[ff]'h = .im false m.A m.cap n RC := fun h => by
          have := List.getElem?_eq_getElem h
          rw [hMCf] at this
          exact (Option.some.inj this).symm
        have hcell : ∀ (α : Type) (g : α → V) (l : List α), (∀ a, cellIn (g a) = true) → (l.map g).all cellIn = true := fun α g l h => by
          rw [List.all_eq_true]; intro v hv
          obtain ⟨a, _, rfl⟩ := List.mem_map.1 hv
          exact h a
        have hMCa : MC.all cellIn = true := by rw [← hMC]; exact hcell _ _ _ fun a => rfl
        have hRCa : RC.all cellIn = true := by rw [← hRC]; exact hcell _ _ _ fun a => rfl
        have hcr : ∀ (α : Type) (g : α → V) (l : List α), (∀ a, noRow (g a) = true) → noRowL (l.map g) = true := fun α g l h => by
          induction l with
          | nil => rfl
          | cons a l ih => simp only [List.map_cons, noRowL, h a, ih, Bool.and_self]
        have hMCr : noRowL MC = true := by rw [← hMC]; exact hcr _ _ _ fun a => rfl
        have hRCr : noRowL RC = true := by rw [← hRC]; exact hcr _ _ _ fun a => rfl
        have l1 : n * 24 ≤ 140737488355328 := by omega
        have l2 : n ≤ 140737488355328 := by omega
        have l3 : ¬ n = 0 := by omega
        have hfC : ff < MC.length := by omega
        simp [-EvK_app, d2, d3, d8, d9, d10, d11, d13, d15, d16, dm, dx, hikb]
        rw [EvK_app]
        simp [-EvK_app, -List.all_eq_true, d2, d3, d8, d9, d10, d11, d13, d15, d16, dm, dx, gX, sX, hc0', hMCl, hMCa, hMCr, l1, l2, l3]
        refine EvK_cut (fun D => D.s 2 = .im false wA wc w.length (uL w) ∧ D.s 3 = .bptr nx 0 ∧ D.s 8 = .int .i64 (kk : Int) ∧ D.s 9 = .int .i64 (ff : Int) ∧ D.s 10 = .int .i64 (tt : Int) ∧ D.s 11 = .bptr (nx + 3) 0 ∧ D.s 13 = .bptr (x1 + 1) 0 ∧ D.s 15 = .int .i64 (i : Int) ∧ D.s 16 = .bptr x 0 ∧ D.m = MA ⟨0, [.bool false, .own .nil 0 n MC]⟩ ∧ D.nx = x + 1) (by simp [d2, d3, d8, d9, d10, d11, d13, d15, d16]) fun D ⟨d2, d3, d8, d9, d10, d11, d13, d15, d16, dm, dx⟩ => ?_
        refine EvP.seqG (fun D => D.s 2 = .im false wA wc w.length (uL w) ∧ D.s 3 = .bptr nx 0 ∧ D.s 8 = .int .i64 (kk : Int) ∧ D.s 9 = .int .i64 (ff : Int) ∧ D.s 10 = .int .i64 (tt : Int) ∧ D.s 11 = .bptr (nx + 3) 0 ∧ D.s 13 = .bptr (x1 + 1) 0 ∧ D.s 15 = .int .i64 (i : Int) ∧ D.s 16 = .bptr x 0 ∧ D.m = MA ⟨0, [.bool false, .own .nil 0 n (MC.set ff (.own .nil 0 n RC))]⟩ ∧ D.nx = x + 1) ?_ fun D ⟨d2, d3, d8, d9, d10, d11, d13, d15, d16, dm, dx⟩ => ?_
        · refine EvP.drawT rfl ?_
          refine optE_mono (IsSt (fun j => if j = 148 then .loc (.box x) [1, ff] else if j = 147 then .dead else if j = 146 then .im false m.A m.cap n RC else if j = 145 then .loc (.box x) [1, ff] else if j = 144 then .int .i64 (ff : Int) else if j = 143 then .ref (.box x) [1] else if j = 142 then .bptr x 1 else if j = 141 then .dead else if j = 140 then .int .i64 (ff : Int) else if j = 139 then .ref (.box x) [1] else if j = 138 then .bptr x 1 else kill (.box x) [1, ff] (kill (.slot 147) [] (kill (.slot 141) [] (D.s j)))) (MA ⟨0, [.bool false, .own .nil 0 n (MC.set ff (.own .nil 0 n RC))]⟩) (x + 1)) (tree_all _ IsSt.sm _ _ ?_) (fun D2 hD => ?_)
          · intro P hP
            simp only [paths, List.map_cons, List.map_nil, List.cons_append, List.nil_append, List.mem_cons, List.not_mem_nil, or_false] at hP
            rcases hP with rfl | rfl | rfl
            all_goals
              simp [-List.all_eq_true, d2, d3, d8, d9, d10, d11, d13, d15, d16, dm, dx, gX, sX, hMCl, hMCf, hMCe, hfC, hfn, hRCl, hRCa, hRCr, l1, l2, l3]
              refine ⟨fun j => ?_, rfl, rfl⟩
              rcases Decidable.em (j = 148) with rfl | a148
              · simp
              rcases Decidable.em (j = 147) with rfl | a147
              · simp
              rcases Decidable.em (j = 146) with rfl | a146
              · simp
              rcases Decidable.em (j = 145) with rfl | a145
              · simp
              rcases Decidable.em (j = 144) with rfl | a144
              · simp
              rcases Decidable.em (j = 143) with rfl | a143
              · simp
              rcases Decidable.em (j = 142) with rfl | a142
              · simp
              rcases Decidable.em (j = 141) with rfl | a141
              · simp
              rcases Decidable.em (j = 140) with rfl | a140
              · simp
              rcases Decidable.em (j = 139) with rfl | a139
              · simp
              rcases Decidable.em (j = 138) with rfl | a138
              · simp
              simp [a148, a147, a146, a145, a144, a143, a142, a141, a140, a139, a138]
          · obtain ⟨z1, z2, z3⟩ := hD
            refine ⟨by rw [z1]; simp [d2], by rw [z1]; simp [d3], by rw [z1]; simp [d8], by rw [z1]; simp [d9], by rw [z1]; simp [d10], by rw [z1]; simp [d11], by rw [z1]; simp [d13], by rw [z1]; simp [d15], by rw [z1]; simp [d16], by rw [z2], z3⟩
        · obtain ⟨CF, hCF⟩ : ∃ CF, MC.set ff (.own .nil 0 n (RC.set tt (.im false wA wc w.length (uL w)))) = CF := ⟨_, rfl⟩
          have hCFr : ∀ b, frzL false (frzL b CF) = msV (chM r.ms ff tt m wA wc w) := fun b => by
            rw [← hCF, ← hMC, ← hRC]; exact chM_cells hlm hm? hml
          obtain ⟨τ', cs', i2, s2, r2, t2, v2, al, hcall⟩ := snd none 0 (chM r.ms ff tt m wA wc w) ⟨0, [.bool false, .im (noBorL CF) none 0 n (frzL (noBorL CF) CF)]⟩ (by rw [chM_length, hrl]) (chM_ok hm? hrm ⟨by omega, hW.2⟩) (fun f w hf hw hq => chM_at hm? fun h => hq h.2)
          simp [-EvK_app, d2, d3, d8, d9, d10, d11, d13, d15, d16, dm, dx, gX, sX, hMCl, hfC, hfn, hRCl, htn]
          rw [hCF]
          refine EvK_cut (fun D => D.s 2 = .im false wA wc w.length (uL w) ∧ D.s 3 = .bptr nx 0 ∧ D.s 8 = .int .i64 (kk : Int) ∧ D.s 9 = .int .i64 (ff : Int) ∧ D.s 10 = .int .i64 (tt : Int) ∧ D.s 11 = .bptr (nx + 3) 0 ∧ D.s 13 = .bptr (x1 + 1) 0 ∧ D.s 15 = .int .i64 (i : Int) ∧ D.s 16 = .bptr x 0 ∧ D.m = MA ⟨0, [.bool false, .own .nil 0 n CF]⟩ ∧ D.nx = x + 1) (by simp [d2, d3, d8, d9, d10, d11, d13, d15, d16]) fun D ⟨d2, d3, d8, d9, d10, d11, d13, d15, d16, dm, dx⟩ => ?_
          simp [-reach, -doCall, doCall_eq, d2, d3, d8, d9, d10, d11, d13, d15, d16, dm, dx, gX, sX, hCFr, hcall, e3]
          exact hend σ' τ' ⟨0, [.bool false, .im (noBorL CF) none 0 n (frzL (noBorL CF) CF)]⟩ _ I1' i2 lk1.1 s2 lk1.2.2.2 r2 lk1.2.1 t2 V1' v2 al (by simp [d2]) (by simp [d3]) (by simp [d8]) (by simp [d9]) (by simp [d10]) (by simp [d11]) (by simp [d13]) (by simp) (by simp) rfl
      · have hikb : ((i : Int) == (kk : Int)) = false := by
          have : ¬ ((i : Int) = (kk : Int)) := by omega
          simpa using this
        obtain ⟨τ', cs', i2, s2, r2, t2, v2, al, hcall⟩ := snd r.A r.cap r.ms c0 hrl hrm (fun _ _ _ _ _ => rfl)
        rw [hMC] at hcall
        have gX0 := gX c0
        simp only [hc0'] at gX0 hcall
        rw [hc0'] at dm
        simp [-EvK_app, d2, d3, d8, d9, d10, d11, d13, d15, d16, dm, dx, hikb]
        rw [EvK_app]
        simp [-reach, -doCall, doCall_eq, d2, d3, d8, d9, d10, d11, d13, d15, d16, dm, dx, gX0, hlmC, hcall, e3]
        exact hend σ' τ' c0 _ I1' i2 lk1.1 s2 lk1.2.2.2 r2 lk1.2.1 t2 V1' v2 al (by simp [d2]) (by simp [d3]) (by simp [d8]) (by simp [d9]) (by simp [d10]) (by simp [d11]) (by simp [d13]) (by simp) (by simp [hc0']) rfl
  · have hie : i = p.l.length := by omega
    have hnl : ¬ i < p.l.length := by omega
    simp [-EvK_app, d2, d3, d8, d9, d10, d11, d13, d15, dm, dx, gM, hnl]
    rw [EvK_app]
    simp [-EvK_app, d2, d3, d8, d9, d10, d11, d13, d15, dm, dx, gM]
    refine EvK_cut (fun D => D.s 2 = .im false wA wc w.length (uL w) ∧ D.s 3 = .bptr nx 0 ∧ D.s 8 = .int .i64 (kk : Int) ∧ D.s 9 = .int .i64 (ff : Int) ∧ D.s 10 = .int .i64 (tt : Int) ∧ D.s 11 = .bptr (nx + 3) 0 ∧ D.s 13 = .bptr (x1 + 1) 0 ∧ D.m = M ∧ D.nx = x) (by simp [d2, d3, d8, d9, d10, d11, d13]) fun D ⟨d2, d3, d8, d9, d10, d11, d13, dm, dx⟩ => ?_
    simp [-EvK_app, d2, d3, d8, d9, d10, d11, d13, dm, dx]
    rw [EvK_app]
    simp only [ev_block]
    clear hI d15
    have hv1 : σ.views.length = n := by have := I1.hv; rw [hsc1, hnn] at this; omega
    have hv2 : τ.views.length = n := by have := I2.hv; rw [hsc2, hnn] at this; omega
    obtain ⟨J, hJ⟩ : ∃ J : Nat → St → Prop, J = fun q D => ∃ (j : Nat) (O1 O2 : List (Nat × Box)), q = n - j ∧ j ≤ n ∧ D.s 2 = .im false wA wc w.length (uL w) ∧ D.s 3 = .bptr nx 0 ∧ D.s 8 = .int .i64 (kk : Int) ∧ D.s 9 = .int .i64 (ff : Int) ∧ D.s 10 = .int .i64 (tt : Int) ∧ D.s 11 = .bptr (nx + 3) 0 ∧ D.s 13 = .bptr (x1 + 1) 0 ∧ D.s 17 = .int .i64 (j : Int) ∧ D.m = O1 ++ ((nx + 3, (⟨0, netC σ⟩ : Box)) :: tb1) ++ (O2 ++ ((x1 + 1, (⟨0, netC τ⟩ : Box)) :: tb2)) ∧ D.nx = x ∧ Two nx (nx + 3) (x1 + 1) σ.tp τ.tp ⟨0, exeL p⟩ (O1 ++ O2) x := ⟨_, rfl⟩
    refine EvP.loop J (n := n) (by rw [hJ]; exact ⟨0, O1, O2, by simp, by simp, by simp [d2], by simp [d3], by simp [d8], by simp [d9], by simp [d10], by simp [d11], by simp [d13], by simp, hM.symm, rfl, TW⟩) (by omega) fun q D hD => ?_

    rw [hJ] at hD
    obtain ⟨j, O1, O2, rfl, hj, d2, d3, d8, d9, d10, d11, d13, d17, dm, dx, TW⟩ := hD
    obtain ⟨M, hM⟩ : ∃ M : List (Nat × Box), O1 ++ ((nx + 3, (⟨0, netC σ⟩ : Box)) :: tb1) ++ (O2 ++ ((x1 + 1, (⟨0, netC τ⟩ : Box)) :: tb2)) = M := ⟨_, rfl⟩
    rw [hM] at dm
    have gM : getBox M nx = some ⟨0, exeL p⟩ := by rw [← hM]; exact TW.get2 I1.hT
    have hMn : ∀ e ∈ M, nx ≤ e.1 ∧ e.1 < x := by rw [← hM]; exact TW.mem2 I1.hT I2.hT
    simp only [exeL, h1, h2, h3, hnn] at gM
    by_cases hjl : j < n
    · have e5 := wrap_succ (q := j) (by omega)
      have e5' : IntKind.i64.wrap ((j : Int) + 1) = (j : Int) + 1 := wrapi (by omega) (by omega)
      by_cases hjt : j = tt
      · have hb : ((j : Int) != (tt : Int)) = false := by simp [hjt]
        simp [d2, d3, d8, d9, d10, d11, d13, d17, dm, dx, gM, hjl, hb, e5]
        subst hJ
        exact ⟨n - (j + 1), by omega, j + 1, O1, O2, rfl, by omega, by simp [d2], by simp [d3], by simp [d8], by simp [d9], by simp [d10], by simp [d11], by simp [d13], by simp, hM.symm, rfl, TW⟩
      · have hb : ((j : Int) != (tt : Int)) = true := by
          have : ¬ ((j : Int) = (tt : Int)) := by omega
          simpa [bne] using this
        obtain ⟨v, u, hv, hu, hvu⟩ := hAl j hjl hjt
        have hve : σ.views[j]'(by omega) = v := by rw [List.getElem?_eq_getElem (by omega)] at hv; exact Option.some.inj hv
        have hue : τ.views[j]'(by omega) = u := by rw [List.getElem?_eq_getElem (by omega)] at hu; exact Option.some.inj hu
        have hvl : v.length ≤ 900 := by
          have := I1.hB _ (List.mem_of_getElem? hv)
          rw [hrd1] at this; omega
        have hul : u.length ≤ 900 := by
          have := I2.hB _ (List.mem_of_getElem? hu)
          rw [hrd2] at this; omega
        obtain ⟨O, hO⟩ : ∃ O, O1 ++ O2 = O := ⟨_, rfl⟩
        obtain ⟨MA, hMA⟩ : ∃ MA : List (Nat × Box), (O ++ ((x1 + 1, (⟨0, netC τ⟩ : Box)) :: tb2)) ++ ((nx + 3, (⟨0, netC σ⟩ : Box)) :: tb1) = MA := ⟨_, rfl⟩
        obtain ⟨MB, hMB⟩ : ∃ MB : List (Nat × Box), (O ++ ((nx + 3, (⟨0, netC σ⟩ : Box)) :: tb1)) ++ ((x1 + 1, (⟨0, netC τ⟩ : Box)) :: tb2) = MB := ⟨_, rfl⟩
        have c23a := fun st dst => TW.callA02 I1.hT I1.hl I2.hT rfl (view23 (nx + 3) 0 σ tb1 I1.hT j (by omega) (by omega) (by rw [hve]; omega)) (k := k) (by omega) (by simp [ptrsL, ptrs]) rfl st dst
        rw [hM, hve, hO, hMA] at c23a
        rw [hO] at TW
        have c23b := fun st dst => TW.callB0 I1.hT I2.hT I2.hl rfl (view23 (x1 + 1) 0 τ tb2 I2.hT j (by omega) (by omega) (by rw [hue]; omega)) (k := k) (by omega) (by simp [ptrsL, ptrs]) rfl st dst
        rw [hMA, hMB, hue] at c23b
        simp only [viewV] at c23a c23b
        have c22 := fun A A2 cap cap2 => callP (views22 false false A A2 cap cap2 (v.map lentE) (u.map lentE) (by rw [List.length_map]; omega) (fun e he => by
          obtain ⟨e0, he0, rfl⟩ := List.mem_map.1 he
          exact V1 v (List.mem_of_getElem? hv) e0 he0)) (k := k) (by omega) (by simp) rfl
        have hdec : decide ((v.map lentE).map evK = (u.map lentE).map evK) = true := by rw [evK_lent, evK_lent, hvu]; simp
        simp only [hdec, List.length_map] at c22
        simp [-reach, -doCall, doCall_eq, d2, d3, d8, d9, d10, d11, d13, d17, dm, dx, gM, hjl, hb, e5, e5', c23a, c23b, frzL_evsC2, frzL_evsC, c22]
        subst hJ
        exact ⟨n - (j + 1), by omega, j + 1, O, [], rfl, by omega, by simp [d2], by simp [d3], by simp [d8], by simp [d9], by simp [d10], by simp [d11], by simp [d13], by simp, by simp [← hMB], rfl, by rw [List.append_nil]; exact TW⟩
    · have hje : ¬ j < n := hjl
      simp [-EvK_app, d2, d3, d8, d9, d10, d11, d13, d17, dm, dx, gM, hje]
      rw [EvK_app]
      simp [-EvK_app, d2, d3, d8, d9, d10, d11, d13, d17, dm, dx, gM, hje]
      rw [EvK_app]
      simp [-EvK_app, d2, d3, d8, d9, d10, d11, d13, d17, dm, dx, gM, hje]
      rw [EvK_app]
      simp [dm]
      exact fun a b h => (hMn (a, b) h).1
end Go.Abs
end
