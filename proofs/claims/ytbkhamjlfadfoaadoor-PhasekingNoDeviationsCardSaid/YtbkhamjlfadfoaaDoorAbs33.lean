/- Joined: AbsPY7. -/
import Derived.Test.YtbkhamjlfadfoaaDoorAbs28
set_option linter.all false
set_option linter.unusedVariables false
noncomputable section
namespace Go.Abs
open Go Go.Proofs
set_option maxRecDepth 100000
open Classical in
set_option maxHeartbeats 8000000 in
theorem law7 (z : Ask) (hB : ScnB z.s) (hpm : z.pm = true) (x : Nat) : ∃ N, AnsN N Tryd.prog H14 7 [askV z, .int .u64 (x : Int)] (.bool true) := by
  obtain ⟨N17, hN17⟩ := awake17
  obtain ⟨n, t, N, ho⟩ : ∃ n t N, MayS z → AskOk z n t N := by
    by_cases hm : MayS z
    · obtain ⟨n, t, N, h⟩ := askOk_ex hB hm
      exact ⟨n, t, N, fun _ => h⟩
    · exact ⟨0, 0, 0, fun h => absurd h hm⟩
  obtain ⟨N0, ho0⟩ : ∃ N0, MayS z → AskOk (dvA z [] 0) n t N0 := by
    by_cases hm : MayS z
    · obtain ⟨N0, h⟩ := dvA_ok (l := []) (cap := 0) hB hm (ho hm) (fun x hx => (by cases hx)) (Nat.zero_le _)
      exact ⟨N0, fun _ => h⟩
    · exact ⟨0, fun h => absurd h hm⟩
  refine ⟨max (max N17 2000) (max (max (max N N0) 100 + 3) 1111 + 1) + 1, AnsN.of (fn := Tryd.f7) (t := 4) (by rfl) Tryd.func7 rfl rfl (by rfl) (by rfl) fun k hk nx => ?_⟩
  have c17 := callP (k := k) hN17 (by omega) (by simp [ptrsL]) rfl
  have c16 := callP (k := k) (may16 (lentA z)) (by omega) (by simp [askV, askL, scL, ptrsL, ptrs, lentA, lentS, nil_uL]) rfl
  simp only [askV, askL, scL, lentA, lentS, List.length_map, List.cons_append, List.nil_append] at c16
  by_cases hm : MayS z
  case neg =>
    have e1 : decide (MayS (lentA z)) = false := by simp [MayS.lent, hm]
    simp only [lentA, lentS] at e1
    rw [e1] at c16
    simp [-reach, -doCall, doCall_eq, entryS, askV, askL, scL, c16, c17]
  have e1 : decide (MayS (lentA z)) = true := by simp [MayS.lent, hm]
  simp only [lentA, lentS] at e1
  rw [e1] at c16
  have o := ho hm
  have t1 := hB.T.c
  have t2 := hB.T.d
  have t3 := hB.T.t
  have hn := o.hn
  have ht := o.ht
  have vl := o.l
  have h13 := o.h13
  have h3 := o.h3
  have nb := noBorL_rs hB.T.r
  have c18 := fun A cap vs hl hv st m nx dst => o.call (k := k) (by omega) false A cap vs hl hv st m nx dst
  have c20 := fun v => callP (honest19 (lentS z.s) o.c v) (k := k) (by omega) (by simp [scV, scL, ptrsL, ptrs, lentS]) rfl
  have hcc : (lentS z.s).corrupt = z.s.corrupt := rfl
  simp only [hcc] at c20
  simp only [scV, scL, t1, t2, t3, hn, ht, lentS, List.length_map, vl] at c18 c20 c16
  obtain ⟨Z0, hZ0⟩ : ∃ Z0 : List V, [.int .u64 (z.s.p : Int), .int .i64 (n : Int), .int .i64 (t : Int), .im true z.s.cA z.s.ccap z.s.corrupt.length (iL z.s.corrupt), .im true z.s.dA z.s.dcap z.s.devs.length (devsV z.s.devs), .im true z.s.tA z.s.tcap z.s.tapes.length (rsV z.s.tapes), .im true z.A z.cap n (uL z.ws)] = Z0 := ⟨_, rfl⟩
  by_cases hx : x < z.s.p
  case neg =>
    have hx1 : z.s.p ≤ x := by omega
    simp [-reach, -doCall, doCall_eq, askV, askL, scL, t1, t2, t3, hn, ht, vl, hpm, noBorL_iL, noBorL_devs, nb, entryS, c16, c17, hx1]
  have hx1 : ¬ z.s.p ≤ x := by omega
  have o0 := ho0 hm
  have hP := o0.ph (t := t) (nx + 2) vl o.w
  obtain ⟨hP1, hPr⟩ := hP.phases o0.hn (by omega) (t + 1)
  have gT : Good n t (fun _ => true) := ⟨by
    have : cnt n (fun f => !true) = 0 := List.countP_eq_zero.2 fun f _ => by simp
    show cnt n (fun f => !true) ≤ t
    omega, h3⟩
  obtain ⟨y, hy⟩ := phases_agree hP o0.hn gT (hears_all rfl n)
  have hq : n - t ≤ cnt n (fun f => decide (vF z.ws f = x)) → y = x := fun h => by
    rw [← hy 0 (by omega) rfl]
    exact phases_quorum hP o0.hn h3 rfl h 0 (by omega)
  obtain ⟨b, hb⟩ : ∃ b, phases n t ⟨nwO (dvA z [] 0).s (nx + 2), z.ws⟩ (t + 1) = b := ⟨_, rfl⟩
  have hb' : pkO (dvA z [] 0).s (nx + 2) n t z.ws = b := hb
  rw [hb] at hP1 hy
  have hlt := agM_lt (s := (dvA z [] 0).s) (a := nx + 2) (σ := b.σ) hP1.o.tp
  obtain ⟨M, hM⟩ : ∃ M, agM (dvA z [] 0).s (nx + 2) b.σ = M := ⟨_, rfl⟩
  rw [hM] at hlt
  have bl := hP1.l
  have c18 := fun A cap st m dst => o0.call (k := k) (by omega) false A cap z.ws vl o.w st m (nx + 2) dst
  simp only [hb', hM] at c18
  have hn0 : (dvA z [] 0).s.n = (n : Int) := hn
  have ht0 : (dvA z [] 0).s.t = (t : Int) := ht
  have q1 : (dvA z [] 0).s.cA = z.s.cA := rfl
  have q2 : (dvA z [] 0).s.ccap = z.s.ccap := rfl
  have q3 : (dvA z [] 0).s.corrupt = z.s.corrupt := rfl
  have q4 : (dvA z [] 0).s.tA = z.s.tA := rfl
  have q5 : (dvA z [] 0).s.tcap = z.s.tcap := rfl
  have q6 : (dvA z [] 0).s.tapes = z.s.tapes := rfl
  have q7 : (dvA z [] 0).s.p = z.s.p := rfl
  have q8 : (dvA z [] 0).s.dA = none := rfl
  have q9 : (dvA z [] 0).s.dcap = 0 := rfl
  have qa : (dvA z [] 0).s.devs = [] := rfl
  have qb : (dvA z [] 0).s.cpm = true := t1
  have qc : (dvA z [] 0).s.dpm = true := rfl
  have qd : (dvA z [] 0).s.tpm = true := t3
  have qe : devsV [] = [] := rfl
  simp only [scV, scL, hn0, ht0, q1, q2, q3, q4, q5, q6, q7, q8, q9, qa, qb, qc, qd, qe, List.length_nil] at c18
  obtain ⟨cf, hcf⟩ : ∃ cf : Nat → Nat, cf = fun i => (List.range i).countP (fun f => decide (vF z.ws f = x)) := ⟨_, rfl⟩
  have cf0 : cf 0 = 0 := by rw [hcf]; rfl
  have cfs : ∀ i, cf (i + 1) = cf i + if vF z.ws i = x then 1 else 0 := fun i => by
    rw [hcf]
    show (List.range (i + 1)).countP _ = (List.range i).countP _ + _
    rw [List.range_succ, List.countP_append]
    by_cases h : vF z.ws i = x <;> simp [h]
  have cfn : cf n = cnt n (fun f => decide (vF z.ws f = x)) := by rw [hcf]; rfl
  have cfl : ∀ i, cf i ≤ i := fun i => by
    rw [hcf]
    have := List.countP_le_length (p := fun f => decide (vF z.ws f = x)) (l := List.range i)
    rwa [List.length_range] at this
  obtain ⟨B1, hB1⟩ : ∃ B1 : List V, [.int .u64 (z.s.p : Int), .int .i64 (n : Int), .int .i64 (t : Int), .im true z.s.cA z.s.ccap z.s.corrupt.length (iL z.s.corrupt), .own .nil 0 0 [], .im true z.s.tA z.s.tcap z.s.tapes.length (rsV z.s.tapes)] = B1 := ⟨_, rfl⟩
  obtain ⟨I, hI⟩ : ∃ I : Nat → St → Prop, I = fun q D => ∃ (i : Nat), q = n - i ∧ i ≤ n ∧ D.s 1 = .int .u64 (x : Int) ∧ D.s 2 = .bptr nx 0 ∧ D.s 5 = .bptr (nx + 1) 0 ∧ D.s 6 = .int .i64 (cf i : Int) ∧ D.s 7 = .int .i64 (i : Int) ∧ D.m = [(nx, ⟨0, Z0⟩), (nx + 1, ⟨0, B1⟩)] ∧ D.nx = nx + 2 := ⟨_, rfl⟩
  simp [-reach, -doCall, doCall_eq, askV, askL, scL, t1, t2, t3, hn, ht, vl, hpm, noBorL_iL, noBorL_devs, nb, entryS, c16, c17, hx1]
  refine EvP.loop I (n := n) (by rw [hI]; exact ⟨0, by simp, by simp, by simp [hZ0, ← hB1, cf0]⟩) (by omega) fun q D hD => ?_
  rw [hI] at hD
  obtain ⟨i, rfl, hi, d1, d2, d5, d6, d7, dm, dx⟩ := hD
  rw [← hZ0, ← hB1] at dm
  by_cases hil : i < n
  · have e3 := wrapi (x := (i : Int) + 1) (by omega) (by omega)
    have hci := cfl i
    have e4 := wrapi (x := (cf i : Int) + 1) (by omega) (by omega)
    have hiv : i < z.ws.length := by omega
    have hu := uL_get hiv
    have hs := cfs i
    by_cases hh : vF z.ws i = x
    · rw [if_pos hh] at hs
      rw [hh] at hu
      simp [-reach, -doCall, doCall_eq, askV, askL, scL, t1, t2, t3, hn, ht, vl, hpm, noBorL_iL, noBorL_devs, nb, d1, d2, d5, d6, d7, dm, dx, hil, hu, e3, e4]
      subst hI
      exact ⟨n - (i + 1), by omega, i + 1, rfl, by omega, by simp [d1], by simp [d2], by simp [d5], by simp [hs], by simp, by simp [dm, ← hZ0, ← hB1], by simp [dx]⟩
    · rw [if_neg hh] at hs
      have hne : ((vF z.ws i : Int) == (x : Int)) = false := by simp; omega
      simp [-reach, -doCall, doCall_eq, askV, askL, scL, t1, t2, t3, hn, ht, vl, hpm, noBorL_iL, noBorL_devs, nb, d1, d2, d5, d6, d7, dm, dx, hil, hu, hne, e3, e4]
      subst hI
      exact ⟨n - (i + 1), by omega, i + 1, rfl, by omega, by simp [d1], by simp [d2], by simp [d5], by simp [hs, d6], by simp, by simp [dm, ← hZ0, ← hB1], by simp [dx]⟩
  · have hin : i = n := by omega
    subst hin
    have gnl : ¬ i < i := Nat.lt_irrefl i
    obtain ⟨B2, hB2⟩ : ∃ B2 : List V, [.int .u64 (z.s.p : Int), .int .i64 (i : Int), .int .i64 (t : Int), .im true z.s.cA z.s.ccap z.s.corrupt.length (iL z.s.corrupt), .im true none 0 0 [], .im true z.s.tA z.s.tcap z.s.tapes.length (rsV z.s.tapes)] = B2 := ⟨_, rfl⟩
    obtain ⟨J, hJ⟩ : ∃ J : Nat → St → Prop, J = fun q D => ∃ (j : Nat), q = i - j ∧ j ≤ i ∧ D.s 1 = .int .u64 (x : Int) ∧ D.s 5 = .bptr (nx + 1) 0 ∧ D.s 6 = .int .i64 (cf i : Int) ∧ D.s 8 = .own .nil 0 i (uL b.vs) ∧ D.s 11 = .int .i64 (j : Int) ∧ D.m = (nx, ⟨0, Z0⟩) :: (nx + 1, ⟨0, B2⟩) :: M ∧ D.nx = nx + 2 + (3 + z.s.tapes.length) := ⟨_, rfl⟩
    simp [-reach, -doCall, doCall_eq, askV, askL, scL, t1, t2, t3, hn, ht, vl, hpm, noBorL_iL, noBorL_devs, nb, d1, d2, d5, d6, d7, dm, dx, c18]
    refine EvP.loop J (n := i) (by rw [hJ]; exact ⟨0, by simp, by simp, by simp [d1, d5, d6, hZ0, ← hB2]⟩) (by omega) fun q D hD => ?_
    rw [hJ] at hD
    obtain ⟨j, rfl, hj, d1, d5, d6, d8, d11, dm, dx⟩ := hD
    rw [← hB2] at dm
    by_cases hjl : j < i
    · have e3 := wrapi (x := (j : Int) + 1) (by omega) (by omega)
      have e4 := wrapi (x := (i : Int) - (t : Int)) (by omega) (by omega)
      have hjb : j < b.vs.length := by omega
      have h0b : 0 < b.vs.length := by omega
      have h0i : 0 < i := by omega
      have hu := uL_get hjb
      have hu0 := uL_get h0b
      have hus : (uL b.vs)[j]? = some (.int .u64 (vF b.vs j : Int)) := uL_vF hjb
      have hus0 : (uL b.vs)[0]? = some (.int .u64 (vF b.vs 0 : Int)) := uL_vF h0b
      have hju : j < (uL b.vs).length := by simp [uL]; omega
      have h0u : 0 < (uL b.vs).length := by simp [uL]; omega
      rw [hy j hjl rfl] at hu hus
      rw [hy 0 h0i rfl] at hu0 hus0
      have hcni := cfl i
      by_cases hg : (i : Int) - (t : Int) ≤ (cf i : Int)
      · have hyx : y = x := hq (by rw [← cfn]; omega)
        rw [hyx] at hu hus hu0 hus0
        simp [-reach, -doCall, doCall_eq, askV, askL, scL, t1, t2, t3, hn, ht, vl, hpm, noBorL_iL, noBorL_devs, nb, d1, d5, d6, d8, d11, dm, dx, hjl, h0i, bl, hu, hu0, hus, hus0, hju, h0u, hg, e3, e4, bne]
        subst hJ
        exact ⟨i - (j + 1), by omega, j + 1, rfl, by omega, by simp [d1], by simp [d5], by simp [d6], by simp [d8], by simp, by simp [dm, ← hB2], by simp [dx]⟩
      · simp [-reach, -doCall, doCall_eq, askV, askL, scL, t1, t2, t3, hn, ht, vl, hpm, noBorL_iL, noBorL_devs, nb, d1, d5, d6, d8, d11, dm, dx, hjl, h0i, bl, hu, hu0, hus, hus0, hju, h0u, hg, e3, e4, bne]
        subst hJ
        exact ⟨i - (j + 1), by omega, j + 1, rfl, by omega, by simp [d1], by simp [d5], by simp [d6], by simp [d8], by simp, by simp [dm, ← hB2], by simp [dx]⟩
    · have hje : j = i := by omega
      subst hje
      simp [-reach, -doCall, doCall_eq, askV, askL, scL, t1, t2, t3, hn, ht, vl, hpm, noBorL_iL, noBorL_devs, nb, d1, d5, d6, d8, d11, dm, dx, c17]
      rintro a b (⟨rfl, -⟩ | ⟨rfl, -⟩ | h)
      · exact Nat.le_refl _
      · omega
      · have := (hlt (a, b) h).1
        have : nx + 2 ≤ a := this
        omega
end Go.Abs
end
