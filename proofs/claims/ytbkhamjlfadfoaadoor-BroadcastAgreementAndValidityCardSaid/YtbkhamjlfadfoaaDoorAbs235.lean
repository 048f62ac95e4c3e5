/- Joined: AbsPY11. -/
import Derived.Test.YtbkhamjlfadfoaaDoorAbs234
set_option linter.all false
set_option linter.unusedVariables false
noncomputable section
namespace Go.Abs
open Go Go.Proofs
set_option maxRecDepth 100000
theorem noBorL_all : ∀ {l : List V}, (∀ v ∈ l, noBor v = true) → noBorL l = true
  | [], _ => rfl
  | v :: l, h => by
    show (noBor v && noBorL l) = true
    rw [h v List.mem_cons_self, noBorL_all (fun x hx => h x (List.mem_cons_of_mem _ hx))]; rfl
open Classical in
set_option maxHeartbeats 8000000 in
theorem law11 (z : Play) (hw : ScnB z.s ∧ z.pm = true ∧ z.pl = true ∧ ∀ r ∈ z.rs, r.pm = true) : ∃ N, AnsN N Tryd.prog H14 11 [playV z] (.bool true) := by
  obtain ⟨hB, hpm, hpl, hrp⟩ := hw
  obtain ⟨N30, hN30⟩ := awake30
  obtain ⟨n, t, N, ho⟩ : ∃ n t N, PlayS z → PlayOk z n t N := by
    by_cases hm : PlayS z
    · obtain ⟨n, t, N, h⟩ := playOk_ex hB hm
      exact ⟨n, t, N, fun _ => h⟩
    · exact ⟨0, 0, 0, fun h => absurd h hm⟩
  refine ⟨max (max N30 100300) (max (N) 1200 + 5) + 1, AnsN.of (fn := Tryd.f11) (t := 2) (by rfl) Tryd.func11 rfl rfl (by rfl) (by rfl) fun k hk nx => ?_⟩
  have c30 := callP (k := k) hN30 (by omega) (by simp [ptrsL]) rfl
  have c31 := callP (k := k) (fair31 (lentP z)) (by omega) (by simp [playV, playL, scL, ptrsL, ptrs, lentP, lentS]) rfl
  have e1 : decide (PlayS (lentP z)) = decide (PlayS z) := decide_eq_decide.2 PlayS.lent
  rw [e1] at c31
  simp only [playV, playL, scL, lentP, lentS, List.length_map, List.cons_append, List.nil_append] at c31
  by_cases hm : PlayS z
  case neg =>
    rw [decide_eq_false hm] at c31
    simp [-reach, -doCall, doCall_eq, entryS, playV, playL, scL, c30, c31]
  rw [decide_eq_true hm] at c31
  have o := ho hm
  have t1 := hB.T.c
  have t2 := hB.T.d
  have t3 := hB.T.t
  have hn := o.hn
  have ht := o.ht
  have lr := o.lr
  have ll := o.ll
  have h5 := o.h5
  have h3 := o.h3
  have nb := noBorL_rs hB.T.r
  have hnl : (z.s.tapes.length : Int) = z.s.n := o.s.2.1
  obtain ⟨cP, hcP⟩ : ∃ cP : Box, (⟨0, [.int .u64 (z.s.p : Int), .int .i64 (n : Int), .int .i64 (t : Int), .im true z.s.cA z.s.ccap z.s.corrupt.length (iL z.s.corrupt), .im true z.s.dA z.s.dcap z.s.devs.length (devsV z.s.devs), .im true z.s.tA z.s.tcap z.s.tapes.length (rsV z.s.tapes), .im true z.A z.cap n (rsV z.rs), .im true z.Al z.cl n (iL z.ls)]⟩ : Box) = cP := ⟨_, rfl⟩
  have hcs : cP.cs = [.int .u64 (z.s.p : Int), .int .i64 (n : Int), .int .i64 (t : Int), .im true z.s.cA z.s.ccap z.s.corrupt.length (iL z.s.corrupt), .im true z.s.dA z.s.dcap z.s.devs.length (devsV z.s.devs), .im true z.s.tA z.s.tcap z.s.tapes.length (rsV z.s.tapes), .im true z.A z.cap n (rsV z.rs), .im true z.Al z.cl n (iL z.ls)] := by rw [← hcP]
  obtain ⟨cS, hcS⟩ : ∃ cS : Box, (⟨0, scL z.s⟩ : Box) = cS := ⟨_, rfl⟩
  have c32 := fun st dst => o.new (nx := nx) (k := k) (by omega) cP st dst
  have c33 := fun A Al cap cl st dst => o.bcall A Al cap cl nx (k := k) (by omega) cP cS st dst
  obtain ⟨hfin, hrd⟩ := o.fin nx
  have AO : Around nx (nx + 2) (pEnd z nx n t).σ.tp cP [(nx, cP), (nx + 1, cS)] (nx + (3 + z.s.tapes.length)) := by rw [hfin.tp]; exact nwO_A z.s nx cP cS
  rw [hcS] at c32
  obtain ⟨W0, hW0⟩ : ∃ W0, [(nx, cP), (nx + 1, cS)] ++ (nx + 2, (⟨0, netC (nwO z.s nx)⟩ : Box)) :: tbO z.s nx = W0 := ⟨_, rfl⟩
  obtain ⟨W1, hW1⟩ : ∃ W1, [(nx, cP), (nx + 1, cS)] ++ (nx + 2, (⟨0, netC (pEnd z nx n t).σ⟩ : Box)) :: tbO z.s nx = W1 := ⟨_, rfl⟩
  have g0 : getBox W0 nx = some cP := by rw [← hW0]; simp [getBox]
  have g1 : getBox W1 nx = some cP := by rw [← hW1]; exact AO.get
  have hall : ∀ e ∈ W1, nx ≤ e.1 := fun e he => (AO.mem hfin.I.hT e (by rw [hW1]; exact he)).1
  rw [hW0] at c32
  rw [hW0, hW1] at c33
  simp only [scV, scL, t1, t2, t3, hn, ht, List.length_map, lr, ll] at c32 c31
  obtain ⟨tk, htk⟩ : ∃ tk, (pEnd z nx n t).tk = tk := ⟨_, rfl⟩
  have hval : ∀ j i, j < n → i < n → hon z.s j = true → hon z.s i = true → tk j i = resizeS (rwF z.rs i) (lnF z.ls i) := fun j i hj hi hH hHi => by rw [← htk]; exact o.valid_h o.good o.hears hi hHi hj hH
  have hag : ∀ i j j', i < n → j < n → j' < n → hon z.s j = true → hon z.s j' = true → tk j i = tk j' i := fun i j j' hi hj hj' h1 h2 => by rw [← htk]; exact o.agree o.good o.hears hi hj hj' h1 h2
  have c34 := fun A cap => callP (hp34 z.s.p n (t : Int) (by omega) false A cap z.s.corrupt o.c) (k := k) (by omega) (by simp [ptrsL, ptrs]) rfl
  obtain ⟨HL, hHL⟩ : ∃ HL, hpL z.s.corrupt n = HL := ⟨_, rfl⟩
  rw [hHL] at c34
  have hHl : HL.length ≤ n := by rw [← hHL]; exact hpL_len _ _
  simp [-reach, -doCall, doCall_eq, playV, playL, scL, t1, t2, t3, hn, ht, lr, ll, hpm, hpl, noBorL_iL, noBorL_devs, nb, -EvK_app, entryS]
  rw [EvK_app]
  simp [-reach, -doCall, doCall_eq, playV, playL, scL, t1, t2, t3, hn, ht, lr, ll, hpm, hpl, noBorL_iL, noBorL_devs, nb, -EvK_app, c30]
  rw [EvK_app]
  simp [-reach, -doCall, doCall_eq, playV, playL, scL, t1, t2, t3, hn, ht, lr, ll, hpm, hpl, noBorL_iL, noBorL_devs, nb, -EvK_app, c30]
  refine EvK_cut (fun D => D.s 1 = .bptr nx 0 ∧ D.m = [(nx, cP)] ∧ D.nx = nx + 1) (by simp [← hcP]) fun D ⟨d1, dm, dx⟩ => ?_
  simp [-reach, -doCall, doCall_eq, playV, playL, scL, t1, t2, t3, hn, ht, lr, ll, hpm, hpl, noBorL_iL, noBorL_devs, nb, -EvK_app, d1, dm, dx, hcs, c31]
  rw [EvK_app]
  simp [-reach, -doCall, doCall_eq, playV, playL, scL, t1, t2, t3, hn, ht, lr, ll, hpm, hpl, noBorL_iL, noBorL_devs, nb, -EvK_app, d1, dm, dx, hcs, c32]
  rw [EvK_app]
  simp [-reach, -doCall, doCall_eq, playV, playL, scL, t1, t2, t3, hn, ht, lr, ll, hpm, hpl, noBorL_iL, noBorL_devs, nb, -EvK_app, d1, dm, dx, hcs, c32]
  refine EvK_cut (fun D => D.s 1 = .bptr nx 0 ∧ D.s 3 = .bptr (nx + 2) 0 ∧ D.s 4 = .int .i64 0 ∧ D.m = W0 ∧ D.nx = nx + (3 + z.s.tapes.length)) (by simp [d1]) fun D ⟨d1, d3, d4, dm, dx⟩ => ?_
  simp only [htk] at c33
  simp [-reach, -doCall, doCall_eq, playV, playL, scL, t1, t2, t3, hn, ht, lr, ll, hpm, hpl, noBorL_iL, noBorL_devs, nb, -EvK_app, d1, d3, d4, dm, dx, g0, hcs, c33]
  rw [EvK_app]
  simp [-reach, -doCall, doCall_eq, playV, playL, scL, t1, t2, t3, hn, ht, lr, ll, hpm, hpl, noBorL_iL, noBorL_devs, nb, -EvK_app, d1, d3, d4, dm, dx]
  rw [EvK_app]
  simp [-reach, -doCall, doCall_eq, playV, playL, scL, t1, t2, t3, hn, ht, lr, ll, hpm, hpl, noBorL_iL, noBorL_devs, nb, -EvK_app, d1, d3, d4, dm, dx, g0, hcs, c33]
  refine EvK_cut (fun D => D.s 1 = .bptr nx 0 ∧ D.s 5 = .own .nil 0 n (tkC tk n) ∧ D.m = W1 ∧ D.nx = nx + (3 + z.s.tapes.length)) (by simp [d1]) fun D ⟨d1, d5, dm, dx⟩ => ?_
  simp [-reach, -doCall, doCall_eq, playV, playL, scL, t1, t2, t3, hn, ht, lr, ll, hpm, hpl, noBorL_iL, noBorL_devs, nb, d1, d5, dm, dx, g1, hcs, c34]
  have htl : (tkC tk n).length = n := by simp
  obtain ⟨RF, hRF⟩ : ∃ RF : Nat → List V, RF = fun f => frzL true (tkRow (tk f) n) := ⟨_, rfl⟩
  have hRFm : ∀ f, RF f = ((List.range n).map fun i => rt (tk f i)).map rV := fun f => by
    rw [hRF]
    show frzL true (tkRow (tk f) n) = _
    unfold tkRow
    rw [frzL_map, List.map_map, List.map_map]
    refine List.map_congr_left fun i _ => ?_
    simp [ownR, rt, rV, frz]
  have hRFl : ∀ f, (RF f).length = n := fun f => by rw [hRFm, List.length_map, List.length_map, List.length_range]
  have hRFg : ∀ f i, i < n → (RF f)[i]? = some (.im true none 0 (tk f i).length (uL (tk f i))) := fun f i hi => by
    rw [hRFm, List.getElem?_map, List.getElem?_map, List.getElem?_range hi]; rfl
  have hRFb : ∀ b f, frzL false (frzL b (RF f)) = rsV ((List.range n).map fun i => rz (tk f i)) := fun b f => by
    rw [hRFm]
    show frzL false (frzL b (rsV _)) = _
    rw [rsV_lent2, List.map_map]
    rfl
  have hRFf : ∀ f, frzL false (RF f) = rsV ((List.range n).map fun i => rz (tk f i)) := fun f => by
    rw [hRFm]
    show frzL false (rsV _) = _
    rw [rsV_lent, List.map_map]
    rfl
  have hRFt : ∀ f, frzL true (tkRow (tk f) n) = RF f := fun f => by rw [hRF]
  have hnbr : ∀ f, noBorL (tkRow (tk f) n) = true := fun f => by
    unfold tkRow
    refine noBorL_all fun v hv => ?_
    obtain ⟨i, _, rfl⟩ := List.mem_map.1 hv
    simp [ownR, noBor]
  obtain ⟨J, hJ⟩ : ∃ J : Nat → St → Prop, J = fun q D => ∃ (i : Nat) (RS : List V), q = HL.length - i ∧ i ≤ HL.length ∧ RS.length = n ∧ (∀ (f : Nat), f < n → ∀ (i' : Nat) (h : i' < HL.length), i' < i → HL[i'] = (f : Int) + 1 → RS[f]? = some (.im true none 0 n (RF f))) ∧ (∀ w, w < n → (∀ (i' : Nat) (h : i' < HL.length), i' < i → HL[i'] ≠ (w : Int) + 1) → RS[w]? = some (.own .nil 0 n (tkRow (tk w) n))) ∧ D.s 1 = .bptr nx 0 ∧ D.s 5 = .own .nil 0 n RS ∧ D.s 6 = .own .nil 0 HL.length (iL HL) ∧ D.s 7 = .int .i64 (i : Int) ∧ D.m = W1 ∧ D.nx = nx + (3 + z.s.tapes.length) := ⟨_, rfl⟩
  refine EvP.loop J (n := HL.length) (by rw [hJ]; exact ⟨0, tkC tk n, by simp, by simp, by simp, fun f _ i' _ h => absurd h (by omega), fun w hw _ => by unfold tkC; rw [List.getElem?_map, List.getElem?_range hw]; rfl, by simp [d1, d5]⟩) (by omega) fun q' D hD => ?_
  rw [hJ] at hD
  obtain ⟨i, RS, rfl, hi, hRl, hRZ, hRS, d1, d5, d6, d7, dm, dx⟩ := hD
  by_cases hil : i < HL.length
  case neg =>
    simp [-reach, -doCall, doCall_eq, playV, playL, scL, t1, t2, t3, hn, ht, lr, ll, hpm, hpl, noBorL_iL, noBorL_devs, nb, d1, d5, d6, d7, dm, dx, hil]
    exact fun a b h => hall (a, b) h
  have e3 := wrapi (x := (i : Int) + 1) (by omega) (by omega)
  obtain ⟨f, hf, hHf, hfc⟩ : ∃ f : Nat, f < n ∧ HL[i] = (f : Int) + 1 ∧ ((f : Int) + 1) ∉ z.s.corrupt := by
    subst hHL
    exact hpL_get hil
  have hi0 : 0 < HL.length := by omega
  have hn0 : ¬ n = 0 := by omega
  obtain ⟨f0, hf0, hHf0, hfc0⟩ : ∃ f : Nat, f < n ∧ HL[0] = (f : Int) + 1 ∧ ((f : Int) + 1) ∉ z.s.corrupt := by
    subst hHL
    exact hpL_get hi0
  have hHi : i < (iL HL).length := by simp [iL]; exact hil
  have hHe : (iL HL)[i]'hHi = .int .i64 ((f : Int) + 1) := by simp [iL, hHf]
  have hH? : (iL HL)[i]? = some (.int .i64 ((f : Int) + 1)) := by rw [List.getElem?_eq_getElem hHi, hHe]
  have hH0 : 0 < (iL HL).length := by simp [iL]; exact hi0
  have hHe0 : (iL HL)[0]'hH0 = .int .i64 ((f0 : Int) + 1) := by simp [iL, hHf0]
  have hH?0 : (iL HL)[0]? = some (.int .i64 ((f0 : Int) + 1)) := by rw [List.getElem?_eq_getElem hH0, hHe0]
  have ef := wrapi (x := (f : Int)) (by omega) (by omega)
  have ef0 := wrapi (x := (f0 : Int)) (by omega) (by omega)
  have hfh : hon z.s f = true := by simpa [hon] using hfc
  have hfh0 : hon z.s f0 = true := by simpa [hon] using hfc0
  have hfR : f < RS.length := by omega
  have hR? : RS[f]? = some (.own .nil 0 n (tkRow (tk f) n)) := hRS f hf fun i' h' hi' => by
    subst hHL
    have := hpL_lt hi' hil
    rw [hHf] at this
    omega
  have hRe : RS[f] = .own .nil 0 n (tkRow (tk f) n) := by
    have := List.getElem?_eq_getElem hfR
    rw [hR?] at this
    exact (Option.some.inj this).symm
  obtain ⟨RT, hRT⟩ : ∃ RT, RS.set f (.im true none 0 n (RF f)) = RT := ⟨_, rfl⟩
  have hRTl : RT.length = n := by rw [← hRT]; simp [hRl]
  have hf0R : f0 < RT.length := by omega
  have hRT0 : RT[f0]? = some (.im true none 0 n (RF f0)) := by
    rw [← hRT]
    by_cases h : f = f0
    · rw [h, List.getElem?_set_self (by omega)]
    · rw [List.getElem?_set_ne h]
      refine hRZ f0 hf0 0 hi0 ?_ hHf0
      by_cases h0 : i = 0
      · exact absurd (by have h1 : HL[i] = HL[0] := by simp [h0]
                         rw [hHf, hHf0] at h1; omega) h
      · omega
  have hRT0e : RT[f0] = .im true none 0 n (RF f0) := by
    have := List.getElem?_eq_getElem hf0R
    rw [hRT0] at this
    exact (Option.some.inj this).symm
  have hrows : ((List.range n).map fun i => rz (tk f i)).map (·.l) = ((List.range n).map fun i => rz (tk f0 i)).map (·.l) := by
    rw [List.map_map, List.map_map]
    refine List.map_congr_left fun i hi => ?_
    exact hag i f f0 (List.mem_range.1 hi) hf hf0 hfh hfh0
  have hlen : ∀ i, i < n → (tk f i).length ≤ 1000 := fun i hi => by
    rw [← htk, o.tk nx hi, List.length_map, List.length_range]
    have h1 : i < z.ls.length := by omega
    have h2 := o.ls _ (List.getElem_mem h1)
    have h3 : lnF z.ls i = (z.ls[i]).toNat := by unfold lnF; rw [List.getElem?_eq_getElem h1]; rfl
    omega
  have c35 := callP (sameRows35 false false none none 0 0 ((List.range n).map fun i => rz (tk f i)) ((List.range n).map fun i => rz (tk f0 i)) (by rw [List.length_map, List.length_range]; omega) (fun r hr => by
    obtain ⟨i, hi, rfl⟩ := List.mem_map.1 hr
    exact hlen i (List.mem_range.1 hi)) hrows) (k := k) (by omega) (by simp [ptrsL, ptrs]) rfl
  simp only [List.length_map, List.length_range] at c35
  obtain ⟨RL, hRL⟩ : ∃ RL : Nat → List RD, (fun f : Nat => (List.range n).map fun i => rz (tk f i)) = RL := ⟨_, rfl⟩
  have hRLf : ∀ f, ((List.range n).map fun i => rz (tk f i)) = RL f := fun f => by rw [← hRL]
  rw [hRLf, hRLf] at c35
  simp only [hRLf] at hRFb hRFf
  simp [-reach, -doCall, doCall_eq, playV, playL, scL, t1, t2, t3, hn, ht, lr, ll, hpm, hpl, noBorL_iL, noBorL_devs, nb, -EvK_app, d1, d5, d6, d7, dm, dx, hil]
  rw [EvK_app]
  simp [-reach, -doCall, doCall_eq, playV, playL, scL, t1, t2, t3, hn, ht, lr, ll, hpm, hpl, noBorL_iL, noBorL_devs, nb, -EvK_app, d1, d5, d6, d7, dm, dx, hil]
  rw [EvK_app]
  simp [-reach, -doCall, doCall_eq, playV, playL, scL, t1, t2, t3, hn, ht, lr, ll, hpm, hpl, noBorL_iL, noBorL_devs, nb, -EvK_app, d1, d5, d6, d7, dm, dx, hil, hHi, hHe, hH?, hHf, hf, ef, hfR, hRl, hR?, hRe, hnbr, hRFt, hRT, hn0]
  refine EvK_cut (fun D => D.s 1 = .bptr nx 0 ∧ D.s 5 = .own .nil 0 n RT ∧ D.s 6 = .own .nil 0 HL.length (iL HL) ∧ D.s 7 = .int .i64 (i : Int) ∧ D.s 8 = .im true none 0 n (RF f) ∧ D.m = W1 ∧ D.nx = nx + (3 + z.s.tapes.length)) (by simp [d1, d6, d7]) fun D ⟨d1, d5, d6, d7, d8, dm, dx⟩ => ?_
  simp [-reach, -doCall, doCall_eq, playV, playL, scL, t1, t2, t3, hn, ht, lr, ll, hpm, hpl, noBorL_iL, noBorL_devs, nb, -EvK_app, d1, d5, d6, d7, d8, dm, dx, hil, hi0, hH0, hHe0, hH?0, hHf0, hf0, ef0, hf0R, hRTl, hRT0, hRT0e, hRFb, hRFf, hRFl, c35, g1, hcs]
  rw [EvK_app]
  simp [-reach, -doCall, doCall_eq, playV, playL, scL, t1, t2, t3, hn, ht, lr, ll, hpm, hpl, noBorL_iL, noBorL_devs, nb, -EvK_app]
  refine EvK_cut (fun D => D.s 1 = .bptr nx 0 ∧ D.s 5 = .own .nil 0 n RT ∧ D.s 6 = .own .nil 0 HL.length (iL HL) ∧ D.s 7 = .int .i64 (i : Int) ∧ D.s 8 = .im true none 0 n (RF f) ∧ D.m = W1 ∧ D.nx = nx + (3 + z.s.tapes.length)) (by simp [d1, d5, d6, d7, d8]) fun D ⟨d1, d5, d6, d7, d8, dm, dx⟩ => ?_
  obtain ⟨J2, hJ2⟩ : ∃ J : Nat → St → Prop, J = fun q D => ∃ (kk : Nat), q = HL.length - kk ∧ kk ≤ HL.length ∧ D.s 1 = .bptr nx 0 ∧ D.s 5 = .own .nil 0 n RT ∧ D.s 6 = .own .nil 0 HL.length (iL HL) ∧ D.s 7 = .int .i64 (i : Int) ∧ D.s 8 = .im true none 0 n (RF f) ∧ D.s 9 = .int .i64 (kk : Int) ∧ D.m = W1 ∧ D.nx = nx + (3 + z.s.tapes.length) := ⟨_, rfl⟩
  simp [-reach, -doCall, doCall_eq, playV, playL, scL, t1, t2, t3, hn, ht, lr, ll, hpm, hpl, noBorL_iL, noBorL_devs, nb, d1, d5, d6, d7, d8, dm, dx]
  refine EvP.loop J2 (n := HL.length) (by rw [hJ2]; exact ⟨0, by simp, by simp, by simp [d1, d5, d6, d7, d8, dm, dx]⟩) (by omega) fun q' D hD => ?_
  rw [hJ2] at hD
  obtain ⟨kk, rfl, hkk, d1, d5, d6, d7, d8, d9, dm, dx⟩ := hD
  by_cases hkn : kk < HL.length
  case neg =>
    simp [-reach, -doCall, doCall_eq, playV, playL, scL, t1, t2, t3, hn, ht, lr, ll, hpm, hpl, noBorL_iL, noBorL_devs, nb, d1, d5, d6, d7, d8, d9, dm, dx, hkn, e3]
    subst hJ
    refine ⟨HL.length - (i + 1), by omega, i + 1, RT, rfl, by omega, hRTl, fun f' hf' i' h hi' he => ?_, fun w hw h => ?_, by simp [d1], by simp [d5], by simp [d6], by simp, by simp, by simp⟩
    · by_cases h1 : f = f'
      · rw [← hRT, ← h1, List.getElem?_set_self (by omega)]
      · rw [← hRT, List.getElem?_set_ne h1]
        refine hRZ f' hf' i' h ?_ he
        by_cases h2 : i' = i
        · subst h2; rw [hHf] at he; omega
        · omega
    · have h1 : f ≠ w := fun e => h i hil (by omega) (by rw [hHf, e])
      rw [← hRT, List.getElem?_set_ne h1]
      exact hRS w hw fun i' h' hi' => h i' h' (by omega)
  obtain ⟨g, hg, hHg, hgc⟩ : ∃ f : Nat, f < n ∧ HL[kk] = (f : Int) + 1 ∧ ((f : Int) + 1) ∉ z.s.corrupt := by
    subst hHL
    exact hpL_get hkn
  have hgh : hon z.s g = true := by simpa [hon] using hgc
  have hKi : kk < (iL HL).length := by simp [iL]; exact hkn
  have hKe : (iL HL)[kk]'hKi = .int .i64 ((g : Int) + 1) := by simp [iL, hHg]
  have hK? : (iL HL)[kk]? = some (.int .i64 ((g : Int) + 1)) := by rw [List.getElem?_eq_getElem hKi, hKe]
  have eg := wrapi (x := (g : Int)) (by omega) (by omega)
  have e4 := wrapi (x := (kk : Int) + 1) (by omega) (by omega)
  have hkr : g < z.rs.length := by omega
  have hkl : g < z.ls.length := by omega
  obtain ⟨r, hr⟩ : ∃ r, z.rs[g] = r := ⟨_, rfl⟩
  obtain ⟨cs, hcsv⟩ : ∃ cs, rsV z.rs = cs := ⟨_, rfl⟩
  have hcl : cs.length = n := by rw [← hcsv]; simp [lr]
  have hkc : g < cs.length := by omega
  have hce : cs[g] = rV r := by subst hcsv; rw [rs_get z.rs g hkr, hr]
  obtain ⟨is, hisv⟩ : ∃ is, iL z.ls = is := ⟨_, rfl⟩
  have hisl : is.length = n := by rw [← hisv]; simp [iL, ll]
  have hki : g < is.length := by omega
  have hlk : z.ls[g] = (lnF z.ls g : Int) ∧ lnF z.ls g ≤ 1000 := by
    have h1 := o.ls _ (List.getElem_mem hkl)
    have h2 : lnF z.ls g = (z.ls[g]).toNat := by unfold lnF; rw [List.getElem?_eq_getElem hkl]; rfl
    omega
  have hie : is[g] = .int .i64 (lnF z.ls g : Int) := by subst hisv; simp [iL, hlk.1]
  have hrw : rwF z.rs g = r.l := by unfold rwF; rw [List.getElem?_eq_getElem hkr, hr]; rfl
  obtain ⟨u, hu⟩ : ∃ u, resizeS r.l (lnF z.ls g) = u := ⟨_, rfl⟩
  have hul : u.length = lnF z.ls g := by rw [← hu]; exact resizeS_pos
  have htku : tk f g = u := by rw [hval f g hf hg hfh hgh, hrw, hu]
  have hGg : g < (RF f).length := by rw [hRFl]; exact hg
  have hG? : (RF f)[g]? = some (.im true none 0 (lnF z.ls g) (uL u)) := by rw [hRFg f g hg, htku, hul]
  have hGe : (RF f)[g]'hGg = .im true none 0 (lnF z.ls g) (uL u) := by
    have := List.getElem?_eq_getElem hGg
    rw [hG?] at this
    exact (Option.some.inj this).symm
  have c37 := callP (resize25 false r.A r.cap r.l (lnF z.ls g) hlk.2) (k := k) (by omega) (by simp [ptrsL, ptrs, nil_uL]) rfl
  rw [hu] at c37
  have c36 := callP (same36 false false none none 0 0 u u (by omega)) (k := k) (by omega) (by simp [ptrsL, ptrs, nil_uL]) rfl
  rw [hul, decide_eq_true rfl] at c36
  simp only [rV] at hce
  simp [-reach, -doCall, doCall_eq, playV, playL, scL, t1, t2, t3, hn, ht, lr, ll, hpm, hpl, noBorL_iL, noBorL_devs, nb, d1, d5, d6, d7, d8, d9, dm, dx, g1, hcs, hcsv, hisv, hkn, hKi, hKe, hK?, hHg, hg, eg, hGg, hRFl, hG?, hGe, hkc, hcl, hce, hki, hisl, hie, c37, c36, e4]
  subst hJ2
  exact ⟨HL.length - (kk + 1), by omega, kk + 1, rfl, by omega, by simp [d1], by simp [d5], by simp [d6], by simp [d7], by simp [d8], by simp, by simp, by simp⟩
end Go.Abs
end
