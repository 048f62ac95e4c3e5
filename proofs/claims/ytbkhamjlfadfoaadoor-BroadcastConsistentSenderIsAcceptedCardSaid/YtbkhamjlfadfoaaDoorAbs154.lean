/- Joined: AbsQJ AbsPY13. -/
import Derived.Test.YtbkhamjlfadfoaaDoorAbs153
set_option linter.all false
set_option linter.unusedVariables false
noncomputable section
namespace Go.Abs
open Go Go.Proofs
set_option maxRecDepth 100000
theorem said_first {s : Scn} {nx n : Nat} (h : ∀ x ∈ s.devs, x.round ≠ 0) (L : List (List Nat)) : saidE (nwO s nx) n L = eachL n L := by
  unfold saidE netSaid
  rw [msg_rounds]
  have e : ((nwO s nx).scn.devs.filter fun x => decide (x.round = (nwO s nx).round)) = [] := filter_none0 fun x hx => by
    have := h x hx
    show decide (x.round = 0) = false
    simpa using this
  rw [e]; rfl
theorem PlayOk.hd_first {z : Play} {n t N nx : Nat} (o : PlayOk z n t N) (h : ∀ x ∈ z.s.devs, x.round ≠ 0) {i j : Nat} (hi : i < n) (hj : j < n) : pHd z nx n j i = resizeS (rwF z.rs i) (lnF z.ls i) := by
  unfold pHd hrd
  have e : hS (saidE (nwO z.s nx) n (sayL n z.rs z.ls)) j i = resizeS (rwF z.rs i) (lnF z.ls i) := by
    rw [said_first h]
    unfold hS
    rw [sw_at2, eachL_at hj]
    unfold sayL
    rw [List.getElem?_map, List.getElem?_range hi]; rfl
  rw [e]; exact resize_idem _ _
theorem hpL_sorted (c : List Int) : ∀ n, (hpL c n).Pairwise (· < ·)
  | 0 => List.Pairwise.nil
  | n + 1 => by
    rw [hpL_succ]
    by_cases h : ((n : Int) + 1) ∈ c
    · rw [if_pos h, List.append_nil]; exact hpL_sorted c n
    · rw [if_neg h, List.pairwise_append]
      refine ⟨hpL_sorted c n, List.pairwise_singleton _ _, fun x hx y hy => ?_⟩
      rw [List.mem_singleton] at hy
      obtain ⟨f, hf, rfl, _⟩ := hpL_mem hx
      omega
theorem hpL_get {c : List Int} {n i : Nat} (h : i < (hpL c n).length) : ∃ f : Nat, f < n ∧ (hpL c n)[i] = (f : Int) + 1 ∧ ((f : Int) + 1) ∉ c := hpL_mem (List.getElem_mem h)
theorem hpL_lt {c : List Int} {n i j : Nat} (hi : i < j) (hj : j < (hpL c n).length) : (hpL c n)[i] < (hpL c n)[j] := List.pairwise_iff_getElem.1 (hpL_sorted c n) i j (by omega) hj hi
def dvP (z : Play) (l : List Dev) : Play := { z with s := { z.s with devs := l, dpm := true, dA := none, dcap := 0 } }
theorem dvP_ok {z : Play} {l : List Dev} {n t N : Nat} (hB : ScnB z.s) (hm : PlayS z) (o : PlayOk z n t N) (hl : ∀ x ∈ l, x ∈ z.s.devs) (hn : l.length ≤ z.s.devs.length) : ∃ N0, PlayOk (dvP z l) n t N0 := by
  have hB' : ScnB (dvP z l).s := ⟨fun x hx => hB.k x (hl x hx), hB.T.c, rfl, hB.T.t, hB.T.r⟩
  have hm' : PlayS (dvP z l) := by
    obtain ⟨⟨f1, f2, f3, f4, hs⟩, h2⟩ := hm
    exact ⟨⟨f1, Nat.le_trans hn f2, f3, f4, hs.1, hs.2.1, fun x hx => hs.2.2.1 x (hl x hx), hs.2.2.2⟩, h2⟩
  obtain ⟨n', t', N0, h⟩ := playOk_ex hB' hm'
  have e1 : n' = n := by
    have h1 : z.rs.length = n' := h.lr
    have h2 : z.rs.length = n := o.lr
    omega
  have e2 : t' = t := by
    have h1 : z.s.t = (t' : Int) := h.ht
    have h2 : z.s.t = (t : Int) := o.ht
    omega
  subst e1 e2
  exact ⟨N0, h⟩
end Go.Abs
end
set_option linter.unusedVariables false
noncomputable section
namespace Go.Abs
open Go Go.Proofs
set_option maxRecDepth 100000
open Classical in
set_option maxHeartbeats 8000000 in
theorem law13 (z : Play) (hw : ScnB z.s ∧ z.pm = true ∧ z.pl = true ∧ ∀ r ∈ z.rs, r.pm = true) : ∃ N, AnsN N Tryd.prog H14 13 [playV z] (.bool true) := by
  obtain ⟨hB, hpm, hpl, hrp⟩ := hw
  obtain ⟨N30, hN30⟩ := awake30
  obtain ⟨n, t, N, ho⟩ : ∃ n t N, PlayS z → PlayOk z n t N := by
    by_cases hm : PlayS z
    · obtain ⟨n, t, N, h⟩ := playOk_ex hB hm
      exact ⟨n, t, N, fun _ => h⟩
    · exact ⟨0, 0, 0, fun h => absurd h hm⟩
  obtain ⟨l13, hl13⟩ : ∃ l, z.s.devs.filter (fun x => decide (0 < x.round)) = l := ⟨_, rfl⟩
  obtain ⟨N0, ho0⟩ : ∃ N0, PlayS z → PlayOk (dvP z l13) n t N0 := by
    by_cases hm : PlayS z
    · obtain ⟨N0, h⟩ := dvP_ok (l := l13) hB hm (ho hm) (fun x hx => by rw [← hl13] at hx; exact (List.mem_filter.1 hx).1) (by rw [← hl13]; exact List.length_filter_le _ _)
      exact ⟨N0, fun _ => h⟩
    · exact ⟨0, fun h => absurd h hm⟩
  refine ⟨max (max N30 100300) (max (max N N0) 1200 + 5) + 1, AnsN.of (fn := Tryd.f13) (t := 2) (by rfl) Tryd.func13 rfl rfl (by rfl) (by rfl) fun k hk nx => ?_⟩
  have c30 := callP (k := k) hN30 (by omega) (by simp [ptrsL]) rfl
  have c31 := callP (k := k) (fair31 (lentP z)) (by omega) (by simp [playV, playL, scL, ptrsL, ptrs, lentP, lentS]) rfl
  have e1 : decide (PlayS (lentP z)) = decide (PlayS z) := decide_eq_decide.2 PlayS.lent
  rw [e1] at c31
  simp only [playV, playL, scL, lentP, lentS, List.length_map, List.cons_append, List.nil_append] at c31
  by_cases hm : PlayS z
  case neg =>
    rw [decide_eq_false hm] at c31
    simp [-reach, -doCall, doCall_eq, entryS, playV, playL, scL, c30, c31]
  rw [decide_eq_true hm] at c31
  have o := ho hm
  have t1 := hB.T.c
  have t2 := hB.T.d
  have t3 := hB.T.t
  have hn := o.hn
  have ht := o.ht
  have lr := o.lr
  have ll := o.ll
  have h5 := o.h5
  have h3 := o.h3
  have nb := noBorL_rs hB.T.r
  have hnl : (z.s.tapes.length : Int) = z.s.n := o.s.2.1
  obtain ⟨cP, hcP⟩ : ∃ cP : Box, (⟨0, [.int .u64 (z.s.p : Int), .int .i64 (n : Int), .int .i64 (t : Int), .im true z.s.cA z.s.ccap z.s.corrupt.length (iL z.s.corrupt), .im true z.s.dA z.s.dcap z.s.devs.length (devsV z.s.devs), .im true z.s.tA z.s.tcap z.s.tapes.length (rsV z.s.tapes), .im true z.A z.cap n (rsV z.rs), .im true z.Al z.cl n (iL z.ls)]⟩ : Box) = cP := ⟨_, rfl⟩
  have hcs : cP.cs = [.int .u64 (z.s.p : Int), .int .i64 (n : Int), .int .i64 (t : Int), .im true z.s.cA z.s.ccap z.s.corrupt.length (iL z.s.corrupt), .im true z.s.dA z.s.dcap z.s.devs.length (devsV z.s.devs), .im true z.s.tA z.s.tcap z.s.tapes.length (rsV z.s.tapes), .im true z.A z.cap n (rsV z.rs), .im true z.Al z.cl n (iL z.ls)] := by rw [← hcP]
  obtain ⟨cS, hcS⟩ : ∃ cS : Box, (⟨0, scL z.s⟩ : Box) = cS := ⟨_, rfl⟩
  have c32 := fun st dst => o.new (nx := nx) (k := k) (by omega) cP st dst
  have c33 := fun A Al cap cl st dst => o.bcall A Al cap cl nx (k := k) (by omega) cP cS st dst
  obtain ⟨hfin, hrd⟩ := o.fin nx
  have AO : Around nx (nx + 2) (pEnd z nx n t).σ.tp cP [(nx, cP), (nx + 1, cS)] (nx + (3 + z.s.tapes.length)) := by rw [hfin.tp]; exact nwO_A z.s nx cP cS
  rw [hcS] at c32
  obtain ⟨W0, hW0⟩ : ∃ W0, [(nx, cP), (nx + 1, cS)] ++ (nx + 2, (⟨0, netC (nwO z.s nx)⟩ : Box)) :: tbO z.s nx = W0 := ⟨_, rfl⟩
  obtain ⟨W1, hW1⟩ : ∃ W1, [(nx, cP), (nx + 1, cS)] ++ (nx + 2, (⟨0, netC (pEnd z nx n t).σ⟩ : Box)) :: tbO z.s nx = W1 := ⟨_, rfl⟩
  have g0 : getBox W0 nx = some cP := by rw [← hW0]; simp [getBox]
  have g1 : getBox W1 nx = some cP := by rw [← hW1]; exact AO.get
  have hall : ∀ e ∈ W1, nx ≤ e.1 := fun e he => (AO.mem hfin.I.hT e (by rw [hW1]; exact he)).1
  rw [hW0] at c32
  rw [hW0, hW1] at c33
  simp only [scV, scL, t1, t2, t3, hn, ht, List.length_map, lr, ll] at c32 c31
  have o0 := ho0 hm
  obtain ⟨q, hq⟩ : ∃ q : Dev → Bool, (fun x : Dev => decide (0 < x.round)) = q := ⟨_, rfl⟩
  rw [hq] at hl13
  have hd1000 := o.d
  obtain ⟨BF, hBF⟩ : ∃ BF : List Dev → List V, BF = fun L => [.int .u64 (z.s.p : Int), .int .i64 (n : Int), .int .i64 (t : Int), .im true z.s.cA z.s.ccap z.s.corrupt.length (iL z.s.corrupt), .own .nil 0 L.length (devsV L), .im true z.s.tA z.s.tcap z.s.tapes.length (rsV z.s.tapes)] := ⟨_, rfl⟩
  obtain ⟨I, hI⟩ : ∃ I : Nat → St → Prop, I = fun q' D => ∃ (i : Nat) (L : List Dev), q' = z.s.devs.length - i ∧ i ≤ z.s.devs.length ∧ L = (z.s.devs.take i).filter q ∧ D.s 1 = .bptr nx 0 ∧ D.s 3 = .bptr (nx + 1) 0 ∧ D.s 4 = .int .i64 (i : Int) ∧ D.m = [(nx, cP), (nx + 1, ⟨0, BF L⟩)] ∧ D.nx = nx + 2 := ⟨_, rfl⟩
  have dnl : devsV [] = [] := rfl
  simp [-reach, -doCall, doCall_eq, playV, playL, scL, t1, t2, t3, hn, ht, lr, ll, hpm, hpl, noBorL_iL, noBorL_devs, nb, -EvK_app, entryS]
  rw [EvK_app]
  simp [-reach, -doCall, doCall_eq, playV, playL, scL, t1, t2, t3, hn, ht, lr, ll, hpm, hpl, noBorL_iL, noBorL_devs, nb, -EvK_app, c30]
  rw [EvK_app]
  simp [-reach, -doCall, doCall_eq, playV, playL, scL, t1, t2, t3, hn, ht, lr, ll, hpm, hpl, noBorL_iL, noBorL_devs, nb, -EvK_app, c30]
  refine EvK_cut (fun D => D.s 1 = .bptr nx 0 ∧ D.m = [(nx, cP)] ∧ D.nx = nx + 1) (by simp [← hcP]) fun D ⟨d1, dm, dx⟩ => ?_
  simp [-reach, -doCall, doCall_eq, playV, playL, scL, t1, t2, t3, hn, ht, lr, ll, hpm, hpl, noBorL_iL, noBorL_devs, nb, d1, dm, dx, hcs, c31]
  refine EvP.loop I (n := z.s.devs.length) (by rw [hI]; exact ⟨0, [], by simp, by simp, by simp, by simp [hBF, dnl, d1]⟩) (by omega) fun q' D hD => ?_
  rw [hI] at hD
  obtain ⟨i, L, rfl, hi, hL, d1, d3, d4, dm, dx⟩ := hD
  simp only [hBF] at dm
  have hLl : L.length ≤ i := by
    rw [hL]
    have := List.length_filter_le q (z.s.devs.take i)
    rw [List.length_take] at this; omega
  have hLd : (devsV L).length = L.length * 8 := devsV_length L
  by_cases hil : i < z.s.devs.length
  · obtain ⟨d, hd⟩ : ∃ d, z.s.devs[i] = d := ⟨_, rfl⟩
    have htk := devs_take z.s.devs i hil
    rw [hd] at htk
    have hdl : 8 ≤ ((devsV z.s.devs).drop (i * 8)).length := by rw [List.length_drop, devsV_length]; omega
    have hdl2 : 8 ≤ z.s.devs.length * 8 - i * 8 := by omega
    have hdv : (devsV z.s.devs).length = z.s.devs.length * 8 := devsV_length _
    have hix : i * 8 < (devsV z.s.devs).length := by rw [hdv]; omega
    have hd0 : (devsV z.s.devs)[i * 8]? = some (.int .i64 d.round) := by
      have h1 : ((devsV z.s.devs).drop (i * 8))[0]? = some (.int .i64 d.round) := by
        rw [← List.getElem?_take_of_lt (j := 8) (by omega), htk]; rfl
      rwa [List.getElem?_drop, Nat.add_zero] at h1
    have hd1 : (devsV z.s.devs)[i * 8]'hix = .int .i64 d.round := by
      have := List.getElem?_eq_getElem hix
      rw [hd0] at this
      exact (Option.some.inj this).symm
    have e3 := wrapi (x := (i : Int) + 1) (by omega) (by omega)
    have hnext : (z.s.devs.take (i + 1)).filter q = L ++ [d].filter q := by
      rw [List.take_succ_eq_append_getElem hil, List.filter_append, hd, hL]
    have b1 : (L.length + 1) * 64 ≤ 140737488355328 := by omega
    have b2 : L.length ≤ 140737488355327 := by omega
    have hdvs : devsV (L ++ [d]) = devsV L ++ devL d := by
      unfold devsV; rw [List.flatMap_append]; simp
    by_cases h1 : 0 < d.round
    · have hqd : q d = true := by rw [← hq]; simp [h1]
      have hn' : (z.s.devs.take (i + 1)).filter q = L ++ [d] := by rw [hnext]; simp [hqd]
      simp [-reach, -doCall, doCall_eq, playV, playL, scL, t1, t2, t3, hn, ht, lr, ll, hpm, hpl, noBorL_iL, noBorL_devs, nb, d1, d3, d4, dm, dx, hcs, hil, hdl, hdl2, hdv, htk, hd0, hd1, hix, h1, e3, b1, b2, hLd, devL]
      subst hI
      exact ⟨z.s.devs.length - (i + 1), by omega, i + 1, L ++ [d], rfl, by omega, hn'.symm, by simp [d1], by simp [d3], by simp, by simp [hBF, hdvs, devL], by simp⟩
    · have hqd : q d = false := by rw [← hq]; simp [h1]
      have hn' : (z.s.devs.take (i + 1)).filter q = L := by rw [hnext]; simp [hqd]
      simp [-reach, -doCall, doCall_eq, playV, playL, scL, t1, t2, t3, hn, ht, lr, ll, hpm, hpl, noBorL_iL, noBorL_devs, nb, d1, d3, d4, dm, dx, hcs, hil, hdl, hdl2, hdv, htk, hd0, hd1, hix, h1, e3, devL]
      subst hI
      exact ⟨z.s.devs.length - (i + 1), by omega, i + 1, L, rfl, by omega, hn'.symm, by simp [d1], by simp [d3], by simp, by simp [hBF], by simp⟩
  · have hin : i = z.s.devs.length := by omega
    rw [hin, List.take_length, hl13] at hL
    have hL' := hL.symm
    subst hL'
    obtain ⟨s', hs'⟩ : ∃ s', (dvP z l13).s = s' := ⟨_, rfl⟩
    obtain ⟨cB, hcB⟩ : ∃ cB : Box, (⟨0, [.int .u64 (z.s.p : Int), .int .i64 (n : Int), .int .i64 (t : Int), .im true z.s.cA z.s.ccap z.s.corrupt.length (iL z.s.corrupt), .im true none 0 l13.length (devsV l13), .im true z.s.tA z.s.tcap z.s.tapes.length (rsV z.s.tapes)]⟩ : Box) = cB := ⟨_, rfl⟩
    obtain ⟨cT, hcT⟩ : ∃ cT : Box, (⟨0, scL s'⟩ : Box) = cT := ⟨_, rfl⟩
    have hsl : s'.tapes.length = z.s.tapes.length := by rw [← hs']; rfl
    have hsc : scV s' = .agg [.int .u64 (z.s.p : Int), .int .i64 (n : Int), .int .i64 (t : Int), .im true z.s.cA z.s.ccap z.s.corrupt.length (iL z.s.corrupt), .im true none 0 l13.length (devsV l13), .im true z.s.tA z.s.tcap z.s.tapes.length (rsV z.s.tapes)] := by rw [← hs']; simp [scV, scL, dvP, t1, t3, hn, ht]
    obtain ⟨y0, hy0⟩ : ∃ y0, nx + 2 + (2 + z.s.tapes.length) = y0 := ⟨_, rfl⟩
    have c13 := fun st dst => call13 (dvP z l13).s st [(nx, cP), (nx + 1, cB)] (nx + 2) dst o0.d (by show z.s.tapes.length ≤ 1000; omega) o0.r o0.s o0.T.r (k := k) (by omega)
    rw [netM_at, hs', hsl, hy0, hsc, hcT] at c13
    have o0A := nwO_A (dvP z l13).s (nx + 1) cB cT
    have hbc := fun A Al cap cl => o0.bc A Al cap cl (nx + 1)
    obtain ⟨hf0, hf0r⟩ := o0.fin (nx + 1)
    have hnet0 := o0.net (nx + 1)
    have hdev : ∀ x ∈ (dvP z l13).s.devs, x.round ≠ 0 := fun x hx => by
      have hx : x ∈ l13 := hx
      rw [← hl13, ← hq] at hx
      have := (List.mem_filter.1 hx).2
      simp only [decide_eq_true_eq] at this
      omega
    have hval : ∀ j i, j < n → i < n → hon z.s j = true → (pEnd (dvP z l13) (nx + 1) n t).tk j i = resizeS (rwF z.rs i) (lnF z.ls i) := fun j i hj hi hH => o0.valid o0.good o0.hears hi resizeS_pos (fun j hj _ => o0.hd_first hdev hi hj) hj hH
    obtain ⟨tk, htk⟩ : ∃ tk, (pEnd (dvP z l13) (nx + 1) n t).tk = tk := ⟨_, rfl⟩
    obtain ⟨σ1, hσ1⟩ : ∃ σ1, (pEnd (dvP z l13) (nx + 1) n t).σ = σ1 := ⟨_, rfl⟩
    obtain ⟨σ0, hσ0⟩ : ∃ σ0, nwO (dvP z l13).s (nx + 1) = σ0 := ⟨_, rfl⟩
    obtain ⟨tb, htb⟩ : ∃ tb, tbO (dvP z l13).s (nx + 1) = tb := ⟨_, rfl⟩
    have hσ0' : net0 s' (nx + 2) z.s.tapes.length = σ0 := by rw [← hσ0, ← hs']; rfl
    have htb' : tapB (fun w => tapeC w 0) (nx + 2 + 2) s'.tapes = tb := by rw [← htb, ← hs']; rfl
    rw [hσ0', htb'] at c13
    have hrs0 : (dvP z l13).rs = z.rs := rfl
    have hls0 : (dvP z l13).ls = z.ls := rfl
    simp only [htk] at hval
    simp only [htk, hσ1, hσ0, htb, hrs0, hls0] at hbc
    rw [hσ0] at o0A
    rw [hσ1] at hf0
    rw [hσ0, htb] at hf0 hnet0
    have hy1 : nx + 1 + (3 + (dvP z l13).s.tapes.length) = y0 := by rw [← hy0]; show nx + 1 + (3 + z.s.tapes.length) = _; omega
    rw [hy1] at o0A
    obtain ⟨O3, hO3⟩ : ∃ O3, [(nx, cP), (nx + 1, cB), (nx + 2, cT)] = O3 := ⟨_, rfl⟩
    have hd3 : ∀ e ∈ O3 ++ [], e.1 ∉ (nx + 1 + 2) :: σ0.tp := fun e he hx => by
      rw [List.append_nil, ← hO3] at he
      have h1 := (o0A.t _ hx).1
      rcases List.mem_cons.1 he with rfl | he
      · exact absurd (show nx + 1 ≤ nx from h1) (by omega)
      · exact (o0A.o e he).2.2 hx
    have c33' := fun A Al cap cl st dst => netCall (O1 := O3) (O2 := []) (nx := y0) hnet0.I.hT hnet0.I.hl hd3 hf0.tp (hbc A Al cap cl) (k := k) (by omega) (by simp [ptrsL, ptrs]) rfl (fun e he => (o0A.t _ (net_keys hnet0.I.hT e he)).2) st dst
    simp only [List.append_nil] at c33'
    obtain ⟨V0, hV0⟩ : ∃ V0, O3 ++ (nx + 1 + 2, (⟨0, netC σ0⟩ : Box)) :: tb = V0 := ⟨_, rfl⟩
    obtain ⟨V1, hV1⟩ : ∃ V1, O3 ++ (nx + 1 + 2, (⟨0, netC σ1⟩ : Box)) :: tb = V1 := ⟨_, rfl⟩
    rw [hV0, hV1] at c33'
    have eV0 : [(nx, cP), (nx + 1, cB)] ++ (nx + 2, cT) :: (nx + 2 + 1, (⟨0, netC σ0⟩ : Box)) :: tb = V0 := by rw [← hV0, ← hO3]; rfl
    rw [eV0] at c13
    have gV0 : getBox V0 nx = some cP := by rw [← hV0, ← hO3]; simp [getBox]
    have gV1 : getBox V1 nx = some cP := by rw [← hV1, ← hO3]; simp [getBox]
    have hallV : ∀ e ∈ V1, nx ≤ e.1 := fun e he => by
      rw [← hV1, ← hO3] at he
      rcases List.mem_append.1 he with he | he
      · simp only [List.mem_cons, List.not_mem_nil, or_false] at he
        rcases he with rfl | rfl | rfl <;> simp
      · have h1 := net_keys (g := 0) (σ := σ1) (by rw [hf0.tp]; exact hnet0.I.hT) e he
        rw [hf0.tp] at h1
        have := (o0A.t _ h1).1; omega
    have c34 := fun A cap => callP (hp34 z.s.p n (t : Int) (by omega) false A cap z.s.corrupt o.c) (k := k) (by omega) (by simp [ptrsL, ptrs]) rfl
    obtain ⟨HL, hHL⟩ : ∃ HL, hpL z.s.corrupt n = HL := ⟨_, rfl⟩
    rw [hHL] at c34
    have hHl : HL.length ≤ n := by rw [← hHL]; exact hpL_len _ _
    have hnl2 : ¬ i < z.s.devs.length := by omega
    obtain ⟨J, hJ⟩ : ∃ J : Nat → St → Prop, J = fun q D => ∃ (i : Nat) (RS : List V), q = HL.length - i ∧ i ≤ HL.length ∧ RS.length = n ∧ (∀ w, w < n → (∀ (i' : Nat) (h : i' < HL.length), i' < i → HL[i'] ≠ (w : Int) + 1) → RS[w]? = some (.own .nil 0 n (tkRow (tk w) n))) ∧ D.s 1 = .bptr nx 0 ∧ D.s 7 = .own .nil 0 n RS ∧ D.s 8 = .own .nil 0 HL.length (iL HL) ∧ D.s 9 = .int .i64 (i : Int) ∧ D.m = V1 ∧ D.nx = y0 := ⟨_, rfl⟩
    simp [-reach, -doCall, doCall_eq, playV, playL, scL, t1, t2, t3, hn, ht, lr, ll, hpm, hpl, noBorL_iL, noBorL_devs, nb, d1, d3, d4, dm, dx, hcs, hnl2, hcB, c13, gV0, gV1, c33', c34]
    have htl : (tkC tk n).length = n := by simp
    refine EvP.loop J (n := HL.length) (by rw [hJ]; exact ⟨0, tkC tk n, by simp, by simp, by simp, fun w hw _ => by unfold tkC; rw [List.getElem?_map, List.getElem?_range hw]; rfl, by simp [d1]⟩) (by omega) fun q' D hD => ?_
    rw [hJ] at hD
    obtain ⟨i, RS, rfl, hi, hRl, hRS, d1, d7, d8, d9, dm, dx⟩ := hD
    by_cases hil : i < HL.length
    · have e3 := wrapi (x := (i : Int) + 1) (by omega) (by omega)
      obtain ⟨f, hf, hHf, hfc⟩ : ∃ f : Nat, f < n ∧ HL[i] = (f : Int) + 1 ∧ ((f : Int) + 1) ∉ z.s.corrupt := by
        subst hHL
        exact hpL_get hil
      have hHi : i < (iL HL).length := by simp [iL]; exact hil
      have hHe : (iL HL)[i]'hHi = .int .i64 ((f : Int) + 1) := by simp [iL, hHf]
      have hH? : (iL HL)[i]? = some (.int .i64 ((f : Int) + 1)) := by rw [List.getElem?_eq_getElem hHi, hHe]
      have ef := wrapi (x := (f : Int)) (by omega) (by omega)
      have hfh : hon z.s f = true := by simpa [hon] using hfc
      have hfR : f < RS.length := by omega
      have hR? : RS[f]? = some (.own .nil 0 n (tkRow (tk f) n)) := hRS f hf fun i' h' hi' => by
        subst hHL
        have := hpL_lt hi' hil
        rw [hHf] at this
        omega
      have hRe : RS[f] = .own .nil 0 n (tkRow (tk f) n) := by
        have := List.getElem?_eq_getElem hfR
        rw [hR?] at this
        exact (Option.some.inj this).symm
      obtain ⟨J2, hJ2⟩ : ∃ J : Nat → St → Prop, J = fun q D => ∃ (kk : Nat) (RS RR : List V), q = n - kk ∧ kk ≤ n ∧ RS.length = n ∧ RS[f]? = some (.own .nil 0 n RR) ∧ RR.length = n ∧ (∀ k', kk ≤ k' → k' < n → RR[k']? = some (ownR (tk f k'))) ∧ (∀ w, w < n → w ≠ f → (∀ (i' : Nat) (h : i' < HL.length), i' < i → HL[i'] ≠ (w : Int) + 1) → RS[w]? = some (.own .nil 0 n (tkRow (tk w) n))) ∧ D.s 1 = .bptr nx 0 ∧ D.s 7 = .own .nil 0 n RS ∧ D.s 8 = .own .nil 0 HL.length (iL HL) ∧ D.s 9 = .int .i64 (i : Int) ∧ D.s 10 = .int .i64 (kk : Int) ∧ D.m = V1 ∧ D.nx = y0 := ⟨_, rfl⟩
      simp [-reach, -doCall, doCall_eq, playV, playL, scL, t1, t2, t3, hn, ht, lr, ll, hpm, hpl, noBorL_iL, noBorL_devs, nb, d1, d7, d8, d9, dm, dx, gV1, hcs, hil, hHi, hHe, hH?, hf, ef, hfR, hRl, hR?, hRe]
      refine EvP.loop J2 (n := n) (by rw [hJ2]; exact ⟨0, RS, tkRow (tk f) n, by simp, by simp, hRl, hR?, by simp, fun k' _ hk' => tkRow_get _ hk', fun w hw _ h => hRS w hw h, by simp [d1, d7, d8, d9]⟩) (by omega) fun q' D hD => ?_
      rw [hJ2] at hD
      obtain ⟨kk, RS, RR, rfl, hkk, hRl, hR?, hRRl, hRR, hRS, d1, d7, d8, d9, d10, dm, dx⟩ := hD
      have hfR : f < RS.length := by omega
      have hRe : RS[f] = .own .nil 0 n RR := by
        have := List.getElem?_eq_getElem hfR
        rw [hR?] at this
        exact (Option.some.inj this).symm
      by_cases hkn : kk < n
      · have e4 := wrapi (x := (kk : Int) + 1) (by omega) (by omega)
        have hkR : kk < RR.length := by omega
        have hkr : kk < z.rs.length := by omega
        have hkl : kk < z.ls.length := by omega
        obtain ⟨r, hr⟩ : ∃ r, z.rs[kk] = r := ⟨_, rfl⟩
        obtain ⟨cs, hcsv⟩ : ∃ cs, rsV z.rs = cs := ⟨_, rfl⟩
        have hcl : cs.length = n := by rw [← hcsv]; simp [lr]
        have hkc : kk < cs.length := by omega
        have hce : cs[kk] = rV r := by subst hcsv; rw [rs_get z.rs kk hkr, hr]
        obtain ⟨is, hisv⟩ : ∃ is, iL z.ls = is := ⟨_, rfl⟩
        have hisl : is.length = n := by rw [← hisv]; simp [iL, ll]
        have hki : kk < is.length := by omega
        have hlk : z.ls[kk] = (lnF z.ls kk : Int) ∧ lnF z.ls kk ≤ 1000 := by
          have h1 := o.ls _ (List.getElem_mem hkl)
          have h2 : lnF z.ls kk = (z.ls[kk]).toNat := by unfold lnF; rw [List.getElem?_eq_getElem hkl]; rfl
          omega
        have hie : is[kk] = .int .i64 (lnF z.ls kk : Int) := by subst hisv; simp [iL, hlk.1]
        have hrw : rwF z.rs kk = r.l := by unfold rwF; rw [List.getElem?_eq_getElem hkr, hr]; rfl
        obtain ⟨u, hu⟩ : ∃ u, resizeS r.l (lnF z.ls kk) = u := ⟨_, rfl⟩
        have hul : u.length = lnF z.ls kk := by rw [← hu]; exact resizeS_pos
        have htku : tk f kk = u := by rw [hval f kk hf hkn hfh, hrw, hu]
        have hK? : RR[kk]? = some (.own .nil 0 (lnF z.ls kk) (uL u)) := by rw [hRR kk (Nat.le_refl _) hkn, htku]; unfold ownR; rw [hul]
        have hKe : RR[kk] = .own .nil 0 (lnF z.ls kk) (uL u) := by
          have := List.getElem?_eq_getElem hkR
          rw [hK?] at this
          exact (Option.some.inj this).symm
        have c37 := callP (resize25 false r.A r.cap r.l (lnF z.ls kk) hlk.2) (k := k) (by omega) (by simp [ptrsL, ptrs, nil_uL]) rfl
        rw [hu] at c37
        have c36 := callP (same36 false false none none 0 0 u u (by omega)) (k := k) (by omega) (by simp [ptrsL, ptrs, nil_uL]) rfl
        rw [hul, decide_eq_true rfl] at c36
        simp only [rV] at hce
        simp [-reach, -doCall, doCall_eq, playV, playL, scL, t1, t2, t3, hn, ht, lr, ll, hpm, hpl, noBorL_iL, noBorL_devs, nb, d1, d7, d8, d9, d10, dm, dx, gV1, hcs, hcsv, hisv, hil, hHi, hHe, hH?, hf, ef, hfR, hRl, hR?, hRe, hkn, hkR, hRRl, hK?, hKe, hkc, hcl, hce, hki, hisl, hie, c37, c36, e4]
        subst hJ2
        refine ⟨n - (kk + 1), by omega, kk + 1, RS.set f (.own .nil 0 n (RR.set kk (.im true none 0 (lnF z.ls kk) (uL u)))), RR.set kk (.im true none 0 (lnF z.ls kk) (uL u)), rfl, by omega, by simp [hRl], by rw [List.getElem?_set_self hfR], by simp [hRRl], fun k' h1 h2 => by rw [List.getElem?_set_ne (by omega)]; exact hRR k' (by omega) h2, fun w hw hne h => by rw [List.getElem?_set_ne (fun e => hne e.symm)]; exact hRS w hw hne h, by simp [d1], by simp, by simp [d8], by simp [d9], by simp, by simp, by simp⟩
      · have hke : kk = n := by omega
        simp [-reach, -doCall, doCall_eq, playV, playL, scL, t1, t2, t3, hn, ht, lr, ll, hpm, hpl, noBorL_iL, noBorL_devs, nb, d1, d7, d8, d9, d10, dm, dx, gV1, hcs, hkn, e3]
        subst hJ
        refine ⟨HL.length - (i + 1), by omega, i + 1, RS, rfl, by omega, hRl, fun w hw h => hRS w hw (fun e => ?_) (fun i' h' hi' => h i' h' (by omega)), by simp [d1], by simp [d7], by simp [d8], by simp, by simp, by simp⟩
        exact h i hil (Nat.lt_succ_self i) (by rw [hHf, e])
    · simp [-reach, -doCall, doCall_eq, playV, playL, scL, t1, t2, t3, hn, ht, lr, ll, hpm, hpl, noBorL_iL, noBorL_devs, nb, d1, d7, d8, d9, dm, dx, gV1, hcs, hil]
      exact fun a b h => hallV (a, b) h
end Go.Abs
end
