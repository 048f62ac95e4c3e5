/- Joined: AbsNY4. -/
import Derived.Test.YtjdgcblikhkioaaDoorAbs7
import Derived.Test.YtjdgcblikhkioaaDoorAbs23
set_option linter.all false
/- The seat of privitylaw14: NetworkHonestDelivery. -/
set_option linter.unusedVariables false
noncomputable section
namespace Go.Abs
open Go Go.Proofs
set_option maxRecDepth 100000
theorem rows2_inV (S : List (List (List Nat))) (n : Nat) : Rows2 (rowsC (outL S n n)) (outL S n n) := by
  refine ⟨by simp, fun i v l h1 h2 => ?_⟩
  rw [rowsC_get h2] at h1
  refine ⟨_, (Option.some.inj h1).symm, by simp, fun j u w h3 h4 => ?_⟩
  rw [List.getElem?_map, h4] at h3
  have : cpV w = u := Option.some.inj h3
  subst this
  cases w with
  | nil => exact IsRow.own 0 []
  | cons a w => rw [cpV_cons]; exact IsRow.im true none 0 (a :: w)
theorem set_self {α : Type} {l : List α} {i : Nat} {a : α} (h : l[i]? = some a) : l.set i a = l := by
  apply List.ext_getElem?
  intro j
  rw [List.getElem?_set]
  by_cases hij : i = j
  · subst hij
    have := (List.getElem?_eq_some_iff.1 h).1
    rw [if_pos rfl, if_pos this, h]
  · rw [if_neg hij]
theorem Rows2.same {cs : List V} {L : List (List (List Nat))} (h : Rows2 cs L) {j f : Nat} {rc : List V} {ls : List (List Nat)} {l : List Nat} (hR : Rows rc ls) (hL : L[j]? = some ls) (hl : ls[f]? = some l) {v : V} (hv : IsRow v l) : Rows2 (cs.set j (.own .nil 0 ls.length (rc.set f v))) L := by
  have h1 := hR.set f hv
  rw [set_self hl] at h1
  have h2 := Rows2.set h j h1
  rwa [set_self hL] at h2
open Classical in
set_option maxHeartbeats 8000000 in
theorem law4 (p : Exe) (hA : ExeA p) : ∃ N, AnsN N Tryd.prog H14 4 [exeV p] (.bool true) := by
  obtain ⟨N12, hN12⟩ := awake12
  by_cases hF : FairE p
  case neg =>
    refine ⟨max N12 2000 + 1, AnsN.of (fn := Tryd.f4) (t := 2) (by rfl) Tryd.func4 rfl rfl (by rfl) (by rfl) fun k hk nx => ?_⟩
    have c12 := callP (k := k) hN12 (by omega) (by simp [ptrsL]) rfl
    have h1 := hA.w.e1
    have h2 := hA.w.e2
    have h3 := hA.w.e3
    have hlt := lents_ok hA.w.r
    have hrs := frzL_rsps fun r hr => (hA.m r hr).2
    have c15 := callP (k := k) (fair15 p hA) (by omega) (by simp [ptrsL, ptrs, exeV, exeL]) rfl
    rw [decide_eq_false hF] at c15
    simp only [exeV, exeL, h1, h2, h3] at c15
    simp [-EvK_app, -reach, -doCall, doCall_eq, entryS, exeV, exeL, h1, h2, h3]
    rw [EvK_app]
    simp [-EvK_app, -reach, -doCall, doCall_eq, c12]
    rw [EvK_app]
    simp [-reach, -doCall, doCall_eq, hlt, hrs, c15]
  obtain ⟨⟨f1, f2, f3, f4, hs⟩, hL, hrds⟩ := id hF
  have hn413 := scnS_n hs
  have hr1000 : ∀ r ∈ p.w.tapes, r.l.length ≤ 1000 := fun r h => by have := f4 r h; omega
  obtain ⟨N, hN⟩ := new_ex p.w hs (by omega) (by omega) hr1000 hA.w.k
  refine ⟨max (max N12 1200000) (max N 100 + 1) + 1, AnsN.of (fn := Tryd.f4) (t := 2) (by rfl) Tryd.func4 rfl rfl (by rfl) (by rfl) fun k hk nx => ?_⟩
  have c12 := callP (k := k) hN12 (by omega) (by simp [ptrsL]) rfl
  have h1 := hA.w.e1
  have h2 := hA.w.e2
  have h3 := hA.w.e3
  have hlt := lents_ok hA.w.r
  have hrs := frzL_rsps fun r hr => (hA.m r hr).2
  have c15 := callP (k := k) (fair15 p hA) (by omega) (by simp [ptrsL, ptrs, exeV, exeL]) rfl
  rw [decide_eq_true hF] at c15
  simp only [exeV, exeL, h1, h2, h3] at c15
  obtain ⟨n, hn⟩ : ∃ n, p.w.tapes.length = n := ⟨_, rfl⟩
  have hnn : p.w.n = (n : Int) := by rw [← hn]; exact hs.2.1.symm
  obtain ⟨F, hFd⟩ : ∃ F : RD → List V, (fun w => tapeC (lent w) 0) = F := ⟨_, rfl⟩
  have hFp : ∀ w, ptrsL (F w) = [] := fun w => by rw [← hFd]; exact ptrsL_tapeC _ _
  obtain ⟨tb, htb⟩ : ∃ tb, tapB F (nx + 1 + 2) p.w.tapes = tb := ⟨_, rfl⟩
  obtain ⟨σ0, hσ0⟩ : ∃ σ0, net0 p.w (nx + 1) p.w.tapes.length = σ0 := ⟨_, rfl⟩
  obtain ⟨x0, hx0⟩ : ∃ x0, nx + 1 + (2 + p.w.tapes.length) = x0 := ⟨_, rfl⟩
  have I0 : NetI N (nx + 2) σ0 tb := by rw [← hσ0, ← htb]; exact net0_I F hFp p.w (nx + 1) hs hN (scnS_pq hs) hn413.2 (by omega)
  have A0 : Around nx (nx + 2) σ0.tp ⟨0, exeL p⟩ [(nx, ⟨0, exeL p⟩), (nx + 1, ⟨0, scL p.w⟩)] x0 := by rw [← hσ0, ← hx0]; exact net0_around p.w nx _ _
  have c13 := fun st dst => call13 p.w st [(nx, ⟨0, exeL p⟩)] (nx + 1) dst (by omega) (by omega) hr1000 hs (k := k) (by omega)
  rw [hFd, netM_at, hσ0, hx0, htb] at c13
  simp only [scV, scL, exeL, h1, h2, h3] at c13
  simp [-EvK_app, -reach, -doCall, doCall_eq, entryS, exeV, exeL, h1, h2, h3]
  rw [EvK_app]
  simp [-EvK_app, -reach, -doCall, doCall_eq, c12]
  rw [EvK_app]
  simp [-EvK_app, -reach, -doCall, doCall_eq, c12]
  refine EvK_cut (fun D => D.s 1 = .bptr nx 0 ∧ D.m = [(nx, ⟨0, exeL p⟩)] ∧ D.nx = nx + 1) (by simp [exeL, h1, h2, h3]) fun D ⟨d1, dm, dx⟩ => ?_
  simp [-EvK_app, -reach, -doCall, doCall_eq, d1, dm, dx, exeL, h1, h2, h3, hlt, hrs, c15]
  rw [EvK_app]
  simp [-EvK_app, d1, dm, dx]
  refine EvK_cut (fun D => D.s 1 = .bptr nx 0 ∧ D.m = [(nx, ⟨0, exeL p⟩)] ∧ D.nx = nx + 1) (by simp [exeL, h1, h2, h3, d1]) fun D ⟨d1, dm, dx⟩ => ?_
  simp [-EvK_app, -reach, -doCall, doCall_eq, d1, dm, dx, exeL, h1, h2, h3, hlt, c13]
  refine EvK_cut (fun D => D.s 1 = .bptr nx 0 ∧ D.s 3 = .bptr (nx + 2) 0 ∧ D.s 4 = .int .i64 0 ∧ D.m = [(nx, ⟨0, exeL p⟩), (nx + 1, ⟨0, scL p.w⟩)] ++ (nx + 2, ⟨0, netC σ0⟩) :: tb ∧ D.nx = x0) (by simp [d1, exeL, scL, h1, h2, h3]) fun D ⟨d1, d3, d4, dm, dx⟩ => ?_
  simp [-EvK_app, d1, d3, d4, dm, dx]
  rw [EvK_app]
  simp [-EvK_app, d1, d3, d4, dm, dx]
  refine EvK_cut (fun D => D.s 1 = .bptr nx 0 ∧ D.s 3 = .bptr (nx + 2) 0 ∧ D.m = [(nx, ⟨0, exeL p⟩), (nx + 1, ⟨0, scL p.w⟩)] ++ (nx + 2, ⟨0, netC σ0⟩) :: tb ∧ D.nx = x0) (by simp [d1, d3]) fun D ⟨d1, d3, dm, dx⟩ => ?_
  simp [-EvK_app, d1, d3, dm, dx]
  rw [EvK_app]
  simp only [ev_block]
  obtain ⟨I, hI⟩ : ∃ I : Nat → St → Prop, I = fun q D => ∃ (i : Nat) (σ : NetS) (O : List (Nat × Box)) (x : Nat), q = p.l.length - i ∧ i ≤ p.l.length ∧ D.s 1 = .bptr nx 0 ∧ D.s 3 = .bptr (nx + 2) 0 ∧ D.s 5 = .int .i64 (i : Int) ∧ D.m = O ++ (nx + 2, ⟨0, netC σ⟩) :: tb ∧ D.nx = x ∧ NetI N (nx + 2) σ tb ∧ σ.scn = p.w ∧ σ.round = i ∧ σ.tp = σ0.tp ∧ Around nx (nx + 2) σ0.tp ⟨0, exeL p⟩ O x := ⟨_, rfl⟩
  refine EvP.loop I (n := p.l.length) (by rw [hI]; exact ⟨0, σ0, _, _, by simp, by simp, by simp [d1], by simp [d3], by simp, rfl, rfl, I0, by rw [← hσ0]; rfl, by rw [← hσ0]; rfl, rfl, A0⟩) (by omega) fun q D hD => ?_
  rw [hI] at hD
  obtain ⟨i, σ, O, x, rfl, hi, d1, d3, d5, dm, dx, IN, hsc, hrd, htp, AO⟩ := hD
  rw [← htp] at AO
  obtain ⟨M, hM⟩ : ∃ M : List (Nat × Box), O ++ (nx + 2, ⟨0, netC σ⟩) :: tb = M := ⟨_, rfl⟩
  rw [hM] at dm
  have gM : getBox M nx = some ⟨0, exeL p⟩ := by rw [← hM]; exact AO.get
  simp only [exeL, h1, h2, h3] at gM
  have hMn := AO.mem IN.hT
  rw [hM] at hMn
  by_cases hil : i < p.l.length
  · have e3 := wrap_succ (q := i) (by omega)
    have p1 := rspsV_drop hil
    obtain ⟨r, hr⟩ : ∃ r, p.l[i] = r := ⟨_, rfl⟩
    rw [hr] at p1
    have hrok : RoundOk p.w.p (n : Int) r := by rw [← hnn, ← hr]; exact hrds _ (List.getElem_mem hil)
    obtain ⟨hrl, hrm⟩ := rounds_ms hrok
    have hmA : ∀ m ∈ r.ms, MdOk m := hr ▸ (hA.m _ (List.getElem_mem hil)).2
    have hlm := lentMs_ok hmA
    have hlf := firsts_ok hmA
    have hns : (r.ms.length : Int) = σ.scn.n := by rw [hsc, hnn, hrl]
    have c17 := callP (broadcasts17 false r.A r.cap r.ms (by omega) fun m hm => by have := (hrok.2 m hm).1; omega) (k := k) (by omega) (by simp) rfl
    have IR := IN.round cpW r (n := n) (by rw [← hrl]; exact hns)
    have hR := like_roundS cpW n σ r
    have gx : ∀ c c', getBox ((M ++ [(x, c)]) ++ c') x = some c := fun c c' => getBox_app_old (getBox_app_new fun b hb => (hMn b hb).2)
    have gx0 : ∀ c, getBox (M ++ [(x, c)]) x = some c := fun c => getBox_app_new fun b hb => (hMn b hb).2
    have sx : ∀ c c', setBox (M ++ [(x, c)]) x c' = M ++ [(x, c')] := fun c c' => setBox_app_new fun b hb => (hMn b hb).2
    have gn : ∀ c, getBox (M ++ [(x, c)]) nx = some ⟨0, exeL p⟩ := fun c => getBox_app_old (by rw [gM]; simp only [exeL, h1, h2, h3])
    simp only [exeL, h1, h2, h3] at gn
    obtain ⟨M', hM'⟩ : ∃ M' : List (Nat × Box), (O ++ [(x, ⟨0, rspC r⟩)]) ++ (nx + 2, ⟨0, netC (roundS cpW n σ r)⟩) :: tb = M' := ⟨_, rfl⟩
    have AO' : Around nx (nx + 2) (roundS cpW n σ r).tp ⟨0, exeL p⟩ (O ++ [(x, ⟨0, rspC r⟩)]) (x + 1) := by rw [hR.2.1]; exact AO.add
    have hend : ∀ D : St, D.s 1 = .bptr nx 0 → D.s 3 = .bptr (nx + 2) 0 → D.s 5 = .int .i64 ((i : Int) + 1) → D.m = M' → D.nx = x + 1 → ∃ n', n' < p.l.length - i ∧ I n' D := by
      intro D a1 a3 a5 am ax
      rw [hI]
      exact ⟨p.l.length - (i + 1), by omega, i + 1, roundS cpW n σ r, _, _, rfl, by omega, a1, a3, by rw [a5]; rfl, by rw [am, ← hM'], ax, IR, hR.1.trans hsc, by rw [hR.2.2, hrd]; omega, hR.2.1.trans htp, by rw [← htp, ← hR.2.1]; exact AO'⟩
    simp [-EvK_app, d1, d3, d5, dm, dx, gM, hil]
    rw [EvK_app]
    simp [-EvK_app]
    rw [EvK_app]
    simp only [ev_seq, ev_block]
    simp [-EvK_app, d1, d3, d5, dm, dx, gM, hil, p1, gx0, sx]
    refine EvK_cut (fun D => D.s 1 = .bptr nx 0 ∧ D.s 3 = .bptr (nx + 2) 0 ∧ D.s 5 = .int .i64 (i : Int) ∧ D.s 6 = .bptr x 0 ∧ D.m = M ++ [(x, ⟨0, rspC r⟩)] ∧ D.nx = x + 1) (by simp [d1, d3, d5, rspC]) fun D ⟨d1, d3, d5, d6, dm, dx⟩ => ?_
    cases hc : r.cast with
    | true =>
      have hcs : castS cpW (netTold σ ((firsts r.ms).map (·.l))) r.ms.length σ = roundS cpW n σ r := by unfold roundS; rw [hc, hrl]; rfl
      have hfl := firsts_length r.ms
      have c16 := fun st dst => AO.call1 (c' := ⟨0, rspC r⟩) IN.hT IN.hl (like_castS _ _ _ _).2.1 (IN.cast16 (g := 0) (by omega) false none 0 (firsts r.ms) (by rw [hfl]; exact hns) (by rw [hsc]; exact rounds_ls hrok)) (k := k) (by omega) (by simp [ptrsL, ptrs]) rfl st dst
      rw [hM, hfl, hcs, hM'] at c16
      simp only [rspC, hc] at c16
      simp [-reach, -doCall, doCall_eq, d1, d3, d5, d6, dm, dx, gx0, rspC, hc, hlm, c17, rsV_lent2, hlf, c16, e3]
      exact hend _ (by simp [d1]) (by simp [d3]) (by simp) rfl rfl
    | false =>
      have hcs : sentS cpW (netSaid σ r.ms.length (mls r.ms)) r.ms.length σ = roundS cpW n σ r := by unfold roundS; rw [hc, hrl]; rfl
      have c18 := fun st dst => AO.call1 (c' := ⟨0, rspC r⟩) IN.hT IN.hl (like_sentS _ _ _ _).2.1 (IN.send18 (g := 0) (by omega) false r.A r.cap r.ms hns (by rw [hsc, hrl]; exact hrm)) (k := k) (by omega) (by simp [ptrsL, ptrs]) rfl st dst
      rw [hM, hcs, hM'] at c18
      obtain ⟨S, hS⟩ : ∃ S, netSaid σ r.ms.length (mls r.ms) = S := ⟨_, rfl⟩
      simp only [rspC, hc, hS] at c18
      have gM' : getBox M' nx = some ⟨0, exeL p⟩ := by rw [← hM']; exact AO'.get
      have gx' : getBox M' x = some ⟨0, rspC r⟩ := by
        rw [← hM']
        exact getBox_app_old (getBox_app_new fun b hb => (AO.o b hb).2.1)
      simp only [exeL, h1, h2, h3, rspC, hc] at gM' gx'
      have hrn : ((r.ms.length : Int) != p.w.n) = false := by rw [hnn, hrl]; simp
      simp [-EvK_app, -reach, -doCall, doCall_eq, d1, d3, d5, d6, dm, dx, gx0, rspC, hc]
      rw [EvK_app]
      simp [-EvK_app]
      rw [EvK_app]
      simp [-EvK_app, -reach, -doCall, doCall_eq, d1, d3, d5, d6, dm, dx, gx0, rspC, hc, hlm, c18, inV]
      refine EvK_cut (fun D => D.s 1 = .bptr nx 0 ∧ D.s 3 = .bptr (nx + 2) 0 ∧ D.s 5 = .int .i64 (i : Int) ∧ D.s 6 = .bptr x 0 ∧ D.s 7 = .own .nil 0 n (rowsC (outL S n n)) ∧ D.m = M' ∧ D.nx = x + 1) (by simp [d1, d3, d5, d6, hrl]) fun D ⟨d1, d3, d5, d6, d7, dm, dx⟩ => ?_
      have gnn : ((n : Int) != p.w.n) = false := by rw [hnn]; simp
      simp [-EvK_app, d1, d3, d5, d6, d7, dm, dx, gM', gnn]
      rw [EvK_app]
      simp [-EvK_app]
      rw [EvK_app]
      simp [-EvK_app, d1, d3, d5, d6, d7, dm, dx]
      rw [EvK_app]
      simp only [ev_block]
      have hSok : MsOk p.w.p n S := by
        rw [← hS, hrl]
        obtain ⟨q, hq⟩ := scnS_pq hs
        have hp0 : 0 < p.w.p := by
          obtain ⟨hp1, hq1, hq2⟩ := pq_facts hq
          have : 2 ^ 5 ≤ 2 ^ q := Nat.pow_le_pow_right (by omega) hq1
          omega
        unfold netSaid
        rw [hsc]
        exact msg_ok hp0 hrm
      have hhon : ∀ f j, f < n → j < n → ((f : Int) + 1 ∉ p.w.corrupt ∨ f = j) → ∀ (hf : f < r.ms.length) (hj : j < (r.ms[f]).l.length), sw S f j = ((r.ms[f]).l[j]).l := by
        intro f j hfn hjn hc hf hj
        have e := msg_honest (p := p.w.p) (n := n) (c := p.w.corrupt) (rd := σ.round) (out := mls r.ms) (devs := p.w.devs) (by rw [← hnn]; exact hs.P.devs) hjn (i := f) hc
        have e2 : netSaid σ r.ms.length (mls r.ms) = msgS p.w.p p.w.corrupt σ.round n (mls r.ms) p.w.devs := by unfold netSaid; rw [hsc, hrl]
        rw [← e2, hS] at e
        unfold at2 at e
        have e3 : ((mls r.ms)[f]?.getD [])[j]? = some ((r.ms[f]).l[j]).l := by simp [mls, hf, hj]
        rw [e3] at e
        unfold sw
        rw [e]; rfl
      obtain ⟨J, hJ⟩ : ∃ J : Nat → St → Prop, J = fun q D => ∃ (j : Nat) (CS : List V), q = n - j ∧ j ≤ n ∧ Rows2 CS (outL S n n) ∧ D.s 1 = .bptr nx 0 ∧ D.s 3 = .bptr (nx + 2) 0 ∧ D.s 5 = .int .i64 (i : Int) ∧ D.s 6 = .bptr x 0 ∧ D.s 7 = .own .nil 0 n CS ∧ D.s 8 = .int .i64 (j : Int) ∧ D.m = M' ∧ D.nx = x + 1 := ⟨_, rfl⟩
      refine EvP.loop J (n := n) (by rw [hJ]; exact ⟨0, _, by simp, by simp, rows2_inV S n, by simp [d1, d3, d5, d6, d7]⟩) (by omega) fun q D hD => ?_
      rw [hJ] at hD
      obtain ⟨j, CS, rfl, hj, hCS, d1, d3, d5, d6, d7, d8, dm, dx⟩ := hD
      by_cases hjl : j < n
      · have g1 : (j : Int) < p.w.n := by omega
        have e5 := wrap_succ (q := j) (by omega)
        have hCl : CS.length = n := by rw [hCS.1]; simp
        have hoj : (outL S n n)[j]? = some (colS S j n) := by rw [outL_get _ _ _ _ hjl, if_pos hjl]
        have hjC : j < CS.length := by omega
        obtain ⟨rc, hrc, hRc⟩ := hCS.2 j _ _ (List.getElem?_eq_getElem hjC) hoj
        rw [colS_length] at hrc
        have hCw : CS[j]? = some (.own .nil 0 n rc) := by rw [List.getElem?_eq_getElem hjC, hrc]
        have hrcl : rc.length = n := by rw [hRc.1, colS_length]
        simp [d1, d3, d5, d6, d7, d8, dm, dx, gM', g1, hjC, hjl, hCl, hCw, hrc, hrcl, gnn]
        obtain ⟨K, hK⟩ : ∃ K : Nat → St → Prop, K = fun q D => ∃ (f : Nat) (CS : List V), q = n - f ∧ f ≤ n ∧ Rows2 CS (outL S n n) ∧ D.s 1 = .bptr nx 0 ∧ D.s 3 = .bptr (nx + 2) 0 ∧ D.s 5 = .int .i64 (i : Int) ∧ D.s 6 = .bptr x 0 ∧ D.s 7 = .own .nil 0 n CS ∧ D.s 8 = .int .i64 (j : Int) ∧ D.s 9 = .int .i64 (f : Int) ∧ D.m = M' ∧ D.nx = x + 1 := ⟨_, rfl⟩
        refine EvP.loop K (n := n) (by rw [hK]; exact ⟨0, CS, by simp, by simp, hCS, by simp [d1, d3, d5, d6, d7, d8]⟩) (by omega) fun q D hD => ?_
        rw [hK] at hD
        obtain ⟨f, CS, rfl, hf, hCS, d1, d3, d5, d6, d7, d8, d9, dm, dx⟩ := hD
        clear hCw hrc hRc hrcl hCl hjC
        by_cases hfl : f < n
        · have g2 : (f : Int) < p.w.n := by omega
          have e6 := wrap_succ (q := f) (by omega)
          have hCl : CS.length = n := by rw [hCS.1]; simp
          have hjC : j < CS.length := by omega
          obtain ⟨rc, hrc, hRc⟩ := hCS.2 j _ _ (List.getElem?_eq_getElem hjC) hoj
          rw [colS_length] at hrc
          have hCw : CS[j]? = some (.own .nil 0 n rc) := by rw [List.getElem?_eq_getElem hjC, hrc]
          have hrcl : rc.length = n := by rw [hRc.1, colS_length]
          have hfr : f < rc.length := by omega
          have hcf : (colS S j n)[f]? = some (sw S f j) := by unfold colS; rw [List.getElem?_map, List.getElem?_range hfl]; rfl
          have hvr := hRc.2 f _ _ (List.getElem?_eq_getElem hfr) hcf
          obtain ⟨v, hve⟩ : ∃ v, rc[f] = v := ⟨_, rfl⟩
          have hv? : rc[f]? = some v := by rw [List.getElem?_eq_getElem hfr, hve]
          rw [hve] at hvr
          have c19 := callP (k := k) (honest19 p.w (by omega) ((f : Int) + 1)) (by omega) (by simp [ptrsL, ptrs, scV, scL]) rfl
          simp only [scV, scL, h1, h2, h3] at c19
          have hfm : f < r.ms.length := by omega
          have hjm : j < (r.ms[f]).l.length := by have := (hrok.2 _ (List.getElem_mem hfm)).1; omega
          simp [-EvK_app, d1, d3, d5, d6, d7, d8, d9, dm, dx, gM', g2]
          rw [EvK_app]
          simp [-EvK_app]
          rw [EvK_app]
          simp only [ev_seq, ev_block]
          refine EvP.cutN (fun D => ∃ CS', Rows2 CS' (outL S n n) ∧ D.s 1 = .bptr nx 0 ∧ D.s 3 = .bptr (nx + 2) 0 ∧ D.s 5 = .int .i64 (i : Int) ∧ D.s 6 = .bptr x 0 ∧ D.s 7 = .own .nil 0 n CS' ∧ D.s 8 = .int .i64 (j : Int) ∧ D.s 9 = .int .i64 (f : Int) ∧ D.s 107 = .bool false ∧ D.m = M' ∧ D.nx = x + 1) ?_ fun D ⟨CS', hCS', d1, d3, d5, d6, d7, d8, d9, d107, dm, dx⟩ => ?_
          rotate_left
          · simp [-EvK_app, d107]
            rw [EvK_app]
            simp [-EvK_app, d107, d1, d3, d5, d6, d7, d8, d9, dm, dx]
            rw [EvK_app]
            simp [-EvK_app, d107, d1, d3, d5, d6, d7, d8, d9, dm, dx, e6]
            subst hK
            exact ⟨n - (f + 1), by omega, f + 1, CS', rfl, by omega, hCS', by simp [d1], by simp [d3], by simp [d5], by simp [d6], by simp [d7], by simp [d8], by simp, rfl, rfl⟩
          by_cases hcmp : (f : Int) + 1 ∉ p.w.corrupt ∨ f = j
          · have hsw := hhon f j hfl hjl hcmp hfm hjm
            have hl1 : (sw S f j).length ≤ 1000 := by
              have := ((hrok.2 _ (List.getElem_mem hfm)).2 _ (List.getElem_mem hjm)).1
              rw [hsw]; omega
            obtain ⟨l, hle⟩ : ∃ l, sw S f j = l := ⟨_, rfl⟩
            rw [hle] at hvr hl1 hsw hcf
            obtain ⟨m, hm⟩ : ∃ m, r.ms[f] = m := ⟨_, rfl⟩
            obtain ⟨w, hw⟩ : ∃ w, (r.ms[f]).l[j] = w := ⟨_, rfl⟩
            rw [hw] at hsw
            simp only [hm] at hw hjm
            have c20 := fun A A2 cap cap2 => callP (words20 false false A A2 cap cap2 l w.l hl1) (k := k) (by omega) (by simp) rfl
            rw [decide_eq_true hsw] at c20
            by_cases hhb : (f : Int) + 1 ∉ p.w.corrupt
            · rw [decide_eq_true hhb] at c19
              cases hvr with
              | im pm' A' cap' =>
                simp [-reach, -doCall, doCall_eq, d1, d3, d5, d6, d7, d8, d9, dm, dx, gM', gx', hlt, c19, hjC, hjl, hCl, hCw, hrc, hrcl, hfr, hv?, hve, hfl, hfm, hjm, hm, hw, hrl, hlm, e6, nil_uL, frzL_uL, c20]
                exact hCS
              | own k' =>
                simp [-reach, -doCall, doCall_eq, d1, d3, d5, d6, d7, d8, d9, dm, dx, gM', gx', hlt, c19, hjC, hjl, hCl, hCw, hrc, hrcl, hfr, hv?, hve, hfl, hfm, hjm, hm, hw, hrl, hlm, e6, nil_uL, frzL_uL, c20]
                have := hCS.same hRc hoj hcf (IsRow.im true none 0 l)
                rwa [colS_length] at this
            · have hfj : f = j := hcmp.resolve_left hhb
              rw [decide_eq_false hhb] at c19
              have hfj2 : ((f : Int) == (j : Int)) = true := by simp [hfj]
              cases hvr with
              | im pm' A' cap' =>
                simp [-reach, -doCall, doCall_eq, d1, d3, d5, d6, d7, d8, d9, dm, dx, gM', gx', hlt, c19, hjC, hjl, hCl, hCw, hrc, hrcl, hfr, hv?, hve, hfl, hfm, hjm, hm, hw, hrl, hlm, e6, nil_uL, frzL_uL, c20, hfj2]
                exact hCS
              | own k' =>
                simp [-reach, -doCall, doCall_eq, d1, d3, d5, d6, d7, d8, d9, dm, dx, gM', gx', hlt, c19, hjC, hjl, hCl, hCw, hrc, hrcl, hfr, hv?, hve, hfl, hfm, hjm, hm, hw, hrl, hlm, e6, nil_uL, frzL_uL, c20, hfj2]
                have := hCS.same hRc hoj hcf (IsRow.im true none 0 l)
                rwa [colS_length] at this
          · have hhb : ¬ ((f : Int) + 1 ∉ p.w.corrupt) := fun h => hcmp (.inl h)
            have hfj2 : ((f : Int) == (j : Int)) = false := by
              have : f ≠ j := fun h => hcmp (.inr h)
              have : ¬ ((f : Int) = (j : Int)) := by omega
              simpa using this
            rw [decide_eq_false hhb] at c19
            simp [-reach, -doCall, doCall_eq, d1, d3, d5, d6, d7, d8, d9, dm, dx, gM', gx', hlt, c19, e6, hfj2]
            exact hCS
        · have hfe : f = n := by omega
          have g2 : ¬ (f : Int) < p.w.n := by omega
          simp [-EvK_app, d1, d3, d5, d6, d7, d8, d9, dm, dx, gM', g2, e5]
          rw [EvK_app]
          simp [-EvK_app, d1, d3, d5, d6, d7, d8, d9, dm, dx, gM', g2, e5]
          rw [EvK_app]
          simp [-EvK_app, d1, d3, d5, d6, d7, d8, d9, dm, dx, gM', g2, e5]
          subst hJ
          exact ⟨n - (j + 1), by omega, j + 1, CS, rfl, by omega, hCS, by simp [d1], by simp [d3], by simp [d5], by simp [d6], by simp [d7], by simp, rfl, rfl⟩
      · have hje : j = n := by omega
        have g1 : ¬ (j : Int) < p.w.n := by omega
        simp [d1, d3, d5, d6, d7, d8, dm, dx, gM', g1, e3]
        exact hend _ (by simp [d1]) (by simp [d3]) (by simp) rfl rfl
  · have hie : i = p.l.length := by omega
    subst hie
    simp [d1, d3, d5, dm, dx, gM]
    exact fun a b h => (hMn (a, b) h).1
end Go.Abs
end
