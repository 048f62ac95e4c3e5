/- Joined: AbsNYJ AbsNYK. -/
import Derived.Test.YtjdgcblikhkioaaDoorAbs24
set_option linter.all false
/- The seat of privitylaw14: a round on both networks. -/
set_option linter.unusedVariables false
noncomputable section
namespace Go.Abs
open Go Go.Proofs
set_option maxRecDepth 100000
theorem frz_bcV (b : Bool) (ls : List (List Nat)) : frzL false (frzL b (ls.map bcV)) = rsV (ls.map rz) := by
  induction ls with
  | nil => rfl
  | cons l ls ih =>
    show frz false (frz b (bcV l)) :: frzL false (frzL b (ls.map bcV)) = rV (rz l) :: rsV (ls.map rz)
    rw [ih]
    simp [bcV, frz, rV, rz]
theorem frz_cpV (b : Bool) (ls : List (List Nat)) : frzL false (frzL b (ls.map cpV)) = rsV (ls.map rz) := by
  induction ls with
  | nil => rfl
  | cons l ls ih =>
    show frz false (frz b (cpV l)) :: frzL false (frzL b (ls.map cpV)) = rV (rz l) :: rsV (ls.map rz)
    rw [ih]
    cases l with
    | nil => rfl
    | cons a l => rw [cpV_cons]; simp [frz, rV, rz, uL_cons]
theorem rz_l (ls : List (List Nat)) : (ls.map rz).map (·.l) = ls := by
  rw [List.map_map]
  induction ls with
  | nil => rfl
  | cons l ls ih => rw [List.map_cons, ih]; rfl
open Classical in
set_option maxHeartbeats 8000000 in
theorem same27 {N b1 b2 n : Nat} {σ τ : NetS} {tb1 tb2 : List (Nat × Box)} (I1 : NetI N b1 σ tb1) (I2 : NetI N b2 τ tb2) (hd : ∀ y ∈ b1 :: σ.tp, y ∉ b2 :: τ.tp) (hs : τ.scn = σ.scn) (hr : τ.round = σ.round) (hrd : σ.round < 1000) (r : RSp) (hn : σ.scn.n = (n : Int)) (hn0 : 0 < n) (hrok : RoundOk σ.scn.p (n : Int) r) (hmA : ∀ m ∈ r.ms, MdOk m) :
    AnsM (max (max N 100 + 1) 1200 + 1) Tryd.prog H14 27 [.bptr b1 0, .bptr b2 0, .agg (rspC r)] (((b2, ⟨0, netC τ⟩) :: tb2) ++ ((b1, ⟨0, netC σ⟩) :: tb1)) (.bool true) (((b1, ⟨0, netC (roundS cpW n σ r)⟩) :: tb1) ++ ((b2, ⟨0, netC (roundS lnW n τ r)⟩) :: tb2)) := by
  obtain ⟨hrl, hrm⟩ := rounds_ms hrok
  have h13 : n ≤ 13 := by have := I1.h13; omega
  have hns1 : (r.ms.length : Int) = σ.scn.n := by rw [hn, hrl]
  have hns2 : (r.ms.length : Int) = τ.scn.n := by rw [hs, hn, hrl]
  have lk1 := like_roundS cpW n σ r
  have lk2 := like_roundS lnW n τ r
  have I1' : NetI N b1 (roundS cpW n σ r) tb1 := I1.round cpW r (by rw [← hrl]; exact hns1)
  have I2' : NetI N b2 (roundS lnW n τ r) tb2 := I2.round lnW r (by rw [← hrl]; exact hns2)
  have hlm := lentMs_ok hmA
  have hlf := firsts_ok hmA
  obtain ⟨σ', hσ'⟩ : ∃ σ', roundS cpW n σ r = σ' := ⟨_, rfl⟩
  obtain ⟨τ', hτ'⟩ : ∃ τ', roundS lnW n τ r = τ' := ⟨_, rfl⟩
  rw [hσ'] at lk1 I1' ⊢
  rw [hτ'] at lk2 I2' ⊢
  refine AnsM.gen (fn := Tryd.f27) (by rfl) Tryd.func27 rfl (by rfl) (fun nx h c hc => ?_) fun k hk nx h => ?_
  · have h1 : ∀ e ∈ (b1, (⟨0, netC σ'⟩ : Box)) :: tb1, e.1 < nx := fun e he => by
      rcases List.mem_cons.1 he with rfl | he
      · exact h (b1, ⟨0, netC σ⟩) (List.mem_append_right _ List.mem_cons_self)
      · exact h e (List.mem_append_right _ (List.mem_cons_of_mem _ he))
    have h2 : ∀ e ∈ (b2, (⟨0, netC τ'⟩ : Box)) :: tb2, e.1 < nx := fun e he => by
      rcases List.mem_cons.1 he with rfl | he
      · exact h (b2, ⟨0, netC τ⟩) (List.mem_append_left _ List.mem_cons_self)
      · exact h e (List.mem_append_left _ (List.mem_cons_of_mem _ he))
    simp only [ptrs, List.nil_append, List.flatMap_append, List.mem_append] at hc
    rcases hc with hc | hc
    · exact net_ptrs I1'.hT h1 hc
    · exact net_ptrs I2'.hT h2 hc
  obtain ⟨N1, hN1⟩ : ∃ N1, (b1, (⟨0, netC σ⟩ : Box)) :: tb1 = N1 := ⟨_, rfl⟩
  obtain ⟨N2, hN2⟩ : ∃ N2, (b2, (⟨0, netC τ⟩ : Box)) :: tb2 = N2 := ⟨_, rfl⟩
  obtain ⟨N1', hN1'⟩ : ∃ N1', (b1, (⟨0, netC σ'⟩ : Box)) :: tb1 = N1' := ⟨_, rfl⟩
  obtain ⟨N2', hN2'⟩ : ∃ N2', (b2, (⟨0, netC τ'⟩ : Box)) :: tb2 = N2' := ⟨_, rfl⟩
  have k1 : ∀ e ∈ N1, e.1 < nx := fun e he => h e (by rw [hN1, hN2]; exact List.mem_append_right _ he)
  have k2 : ∀ e ∈ N2, e.1 < nx := fun e he => h e (by rw [hN1, hN2]; exact List.mem_append_left _ he)
  have k1' : ∀ e ∈ N1', e.1 < nx := fun e he => by
    rw [← hN1'] at he
    rcases List.mem_cons.1 he with rfl | he
    · exact k1 (b1, ⟨0, netC σ⟩) (by rw [← hN1]; exact List.mem_cons_self)
    · exact k1 e (by rw [← hN1]; exact List.mem_cons_of_mem _ he)
  have k2' : ∀ e ∈ N2', e.1 < nx := fun e he => by
    rw [← hN2'] at he
    rcases List.mem_cons.1 he with rfl | he
    · exact k2 (b2, ⟨0, netC τ⟩) (by rw [← hN2]; exact List.mem_cons_self)
    · exact k2 e (by rw [← hN2]; exact List.mem_cons_of_mem _ he)
  have y1 : ∀ y ∈ b1 :: σ.tp, y < nx := fun y hy => by
    rcases List.mem_cons.1 hy with rfl | hy
    · exact k1 (y, ⟨0, netC σ⟩) (by rw [← hN1]; exact List.mem_cons_self)
    · exact lt_of_fst I1.hT.ids (fun e he => k1 e (by rw [← hN1]; exact List.mem_cons_of_mem _ he)) hy
  have y2 : ∀ y ∈ b2 :: τ.tp, y < nx := fun y hy => by
    rcases List.mem_cons.1 hy with rfl | hy
    · exact k2 (y, ⟨0, netC τ⟩) (by rw [← hN2]; exact List.mem_cons_self)
    · exact lt_of_fst I2.hT.ids (fun e he => k2 e (by rw [← hN2]; exact List.mem_cons_of_mem _ he)) hy
  have q2 : ∀ e ∈ N2, e.1 ∈ b2 :: τ.tp := by rw [← hN2]; exact net_keys I2.hT
  have q1' : ∀ e ∈ N1', e.1 ∈ b1 :: σ.tp := by rw [← hN1', ← lk1.2.1]; exact net_keys I1'.hT
  obtain ⟨c0, hc0⟩ : ∃ c0 : Box, (⟨0, rspC r⟩ : Box) = c0 := ⟨_, rfl⟩
  obtain ⟨M0, hM0⟩ : ∃ M0, N2 ++ N1 = M0 := ⟨_, rfl⟩
  obtain ⟨MX, hMX⟩ : ∃ MX, M0 ++ [(nx, c0)] = MX := ⟨_, rfl⟩
  obtain ⟨MA, hMA⟩ : ∃ MA, N2 ++ [(nx, c0)] ++ N1' = MA := ⟨_, rfl⟩
  obtain ⟨MB, hMB⟩ : ∃ MB, [(nx, c0)] ++ N1' ++ N2' = MB := ⟨_, rfl⟩
  have kM0 : ∀ e ∈ M0, e.1 < nx := fun e he => by
    rw [← hM0] at he
    rcases List.mem_append.1 he with he | he
    · exact k2 e he
    · exact k1 e he
  have gX : getBox MX nx = some c0 := by rw [← hMX]; exact getBox_app_new kM0
  have gA : getBox MA nx = some c0 := by
    rw [← hMA, List.append_assoc, getBox_skip fun e he => Nat.ne_of_lt (k2 e he)]
    simp [getBox]
  have hfB : MB.filter (fun e => decide (e.1 < nx)) = N1' ++ N2' := by
    rw [← hMB, List.filter_append, List.filter_append, List.filter_cons_of_neg (by simp), filt_lt k1', filt_lt k2']
    rfl
  have dA : ∀ e ∈ N2 ++ [(nx, c0)], e.1 ∉ b1 :: σ.tp := fun e he hx => by
    rcases List.mem_append.1 he with he | he
    · exact hd _ hx (q2 e he)
    · rw [List.mem_singleton] at he; subst he
      exact absurd (y1 _ hx) (Nat.lt_irrefl _)
  have dB : ∀ e ∈ [] ++ ([(nx, c0)] ++ N1'), e.1 ∉ b2 :: τ.tp := fun e he hx => by
    rw [List.nil_append] at he
    rcases List.mem_append.1 he with he | he
    · rw [List.mem_singleton] at he; subst he
      exact absurd (y2 _ hx) (Nat.lt_irrefl _)
    · exact hd _ (q1' e he) hx
  have callA : ∀ {f : Nat} {xs : List V} {v : V} {K : Nat}, AnsM K Tryd.prog H14 f xs ((b1, ⟨0, netC σ⟩) :: tb1) v ((b1, ⟨0, netC σ'⟩) :: tb1) → K ≤ k → ptrsL xs = [b1] → H14.X f xs = none → ∀ s dst, doCallB H14 (evCall Tryd.prog H14 k) f false xs ⟨s, MX, nx + 1⟩ dst = some ((St.mk (fun i => killB (b1 :: σ.tp) (nx + 1) (s i)) MA (nx + 1)).lay dst v) := by
    intro f xs v K h1 h2 h3 h4 s dst
    have := netCall (nx := nx + 1) (O1 := N2) (O2 := [(nx, c0)]) I1.hT I1.hl dA lk1.2.1 h1 h2 h3 h4 (fun e he => by have := k1 e (by rw [← hN1]; exact he); omega) s dst
    rw [hN1, hN1', hM0, hMX, hMA] at this
    exact this
  have callB : ∀ {f : Nat} {xs : List V} {v : V} {K : Nat}, AnsM K Tryd.prog H14 f xs ((b2, ⟨0, netC τ⟩) :: tb2) v ((b2, ⟨0, netC τ'⟩) :: tb2) → K ≤ k → ptrsL xs = [b2] → H14.X f xs = none → ∀ s dst, doCallB H14 (evCall Tryd.prog H14 k) f false xs ⟨s, MA, nx + 1⟩ dst = some ((St.mk (fun i => killB (b2 :: τ.tp) (nx + 1) (s i)) MB (nx + 1)).lay dst v) := by
    intro f xs v K h1 h2 h3 h4 s dst
    have := netCall (nx := nx + 1) (O1 := []) (O2 := [(nx, c0)] ++ N1') I2.hT I2.hl dB lk2.2.1 h1 h2 h3 h4 (fun e he => by have := k2 e (by rw [← hN2]; exact he); omega) s dst
    rw [hN2, hN2', List.nil_append, List.nil_append, ← List.append_assoc, hMA, hMB] at this
    exact this
  have c17 := callP (broadcasts17 false r.A r.cap r.ms (by omega) fun m hm => by have := (hrok.2 m hm).1; omega) (k := k) (by omega) (by simp) rfl
  simp only [hrl] at c17
  rw [hN1, hN2, hM0] at h
  rw [hN1, hN2, hM0, hN1', hN2']
  cases hc : r.cast with
  | true =>
    obtain ⟨L, hLd⟩ : ∃ L, (firsts r.ms).map (·.l) = L := ⟨_, rfl⟩
    have hLok : LsOk σ.scn.p L := by rw [← hLd]; exact rounds_ls hrok
    have hfl := firsts_length r.ms
    have hTe : netTold τ L = netTold σ L := by unfold netTold; rw [hs, hr]
    have e1 : castS cpW (netTold σ L) n σ = σ' := by rw [← hσ', ← hLd]; unfold roundS; rw [hc]; rfl
    have e2 : castS lnW (netTold τ L) n τ = τ' := by rw [← hτ', ← hLd]; unfold roundS; rw [hc]; rfl
    have c16 := callA (K := max N 100 + 1) (by rw [← e1, ← hLd, ← hrl, ← hfl]; exact I1.cast16 (g := 0) hrd false none 0 (firsts r.ms) (by rw [hfl]; exact hns1) (rounds_ls hrok)) (by omega) (by simp [ptrsL, ptrs]) rfl
    have c43 := callB (K := max N 100 + 1) (by rw [← e2, ← hLd, ← hrl, ← hfl]; exact I2.cast43 (g := 0) (by rw [hr]; exact hrd) false none 0 (firsts r.ms) (by rw [hfl]; exact hns2) (by rw [hs]; exact rounds_ls hrok)) (by omega) (by simp [ptrsL, ptrs]) rfl
    rw [hLd, hfl, hrl] at c16 c43
    rw [hTe] at c43
    obtain ⟨TL, hTL⟩ : ∃ TL, netTold σ L = TL := ⟨_, rfl⟩
    rw [hTL] at c16 c43
    have hTLl : TL.length = n := by
      rw [← hTL]
      obtain ⟨q, hq⟩ := I1.hp
      exact ((fold_ok (pq_pos hq) hLok).2).trans (by rw [← hLd, List.length_map, hfl, hrl])
    have hTLo : ∀ l ∈ TL, l.length ≤ 1000 := by rw [← hTL]; exact I1.told_ok hLok
    have c42 := fun pm pm2 A A2 cap cap2 => callP (k := k) (lists42 pm pm2 A A2 cap cap2 (TL.map rz) (TL.map rz) (by rw [List.length_map]; omega) (fun w hw => by
      obtain ⟨l, hl, rfl⟩ := List.mem_map.1 hw
      exact hTLo l hl)) (by omega) (by simp) rfl
    simp only [decide_true, List.length_map, hTLl] at c42
    simp [-EvK_app, entryS, rspC]
    refine EvK_cut (fun D => D.s 0 = .bptr b1 0 ∧ D.s 1 = .bptr b2 0 ∧ D.s 5 = .bptr nx 0 ∧ D.m = MX ∧ D.nx = nx + 1) (by simp [← hMX, ← hc0, rspC]) fun D ⟨d0, d1, d5, dm, dx⟩ => ?_
    have hc0' : c0 = ⟨0, [.bool true, .im false r.A r.cap r.ms.length (msV r.ms)]⟩ := by rw [← hc0]; unfold rspC; rw [hc]
    simp [-EvK_app, d0, d1, d5, dm, dx, gX, hc0']
    rw [EvK_app]
    simp [-EvK_app]
    refine EvP.drawT rfl ?_
    apply drawT_ex
    apply Exists.intro
    apply Exists.intro
    apply Exists.intro
    apply And.intro
    · intro P hP
      simp only [paths, List.map_cons, List.map_nil, List.cons_append, List.nil_append, List.mem_cons, List.not_mem_nil, or_false] at hP
      rcases hP with rfl | rfl | rfl
      · simp [-reach, -doCall, doCall_eq, d0, d1, d5, dm, dx, gX, gA, hc0', hlm, c17, rsV_lent2, hlf, hrl, c16, c43, frz_bcV, frz_cpV, c42]
        exact ⟨fun jj => rfl, rfl, rfl⟩
      all_goals
        simp [-reach, -doCall, doCall_eq, d0, d1, d5, dm, dx, gX, gA, hc0', hlm, c17, rsV_lent2, hlf, hrl, c16, c43, frz_bcV, frz_cpV, c42]
        refine ⟨fun jj => ?_, rfl, rfl⟩
        rcases Decidable.em (jj = 6) with rfl | a6
        · simp
        rcases Decidable.em (jj = 22) with rfl | a22
        · simp
        rcases Decidable.em (jj = 21) with rfl | a21
        · simp
        rcases Decidable.em (jj = 20) with rfl | a20
        · simp
        rcases Decidable.em (jj = 19) with rfl | a19
        · simp
        rcases Decidable.em (jj = 18) with rfl | a18
        · simp
        rcases Decidable.em (jj = 17) with rfl | a17
        · simp
        rcases Decidable.em (jj = 16) with rfl | a16
        · simp
        rcases Decidable.em (jj = 15) with rfl | a15
        · simp
        rcases Decidable.em (jj = 14) with rfl | a14
        · simp
        rcases Decidable.em (jj = 13) with rfl | a13
        · simp
        rcases Decidable.em (jj = 12) with rfl | a12
        · simp
        simp [a6, a22, a21, a20, a19, a18, a17, a16, a15, a14, a13, a12]
    · simp [hfB]
  | false =>
    obtain ⟨S, hS⟩ : ∃ S, netSaid σ n (mls r.ms) = S := ⟨_, rfl⟩
    have hSe : netSaid τ n (mls r.ms) = S := by rw [← hS]; unfold netSaid; rw [hs, hr]
    have hSok : MsOk σ.scn.p n S := by rw [← hS]; exact I1.said_ok hrm
    have e1 : sentS cpW (netSaid σ n (mls r.ms)) n σ = σ' := by rw [← hσ']; unfold roundS; rw [hc]; rfl
    have e2 : sentS lnW (netSaid τ n (mls r.ms)) n τ = τ' := by rw [← hτ']; unfold roundS; rw [hc]; rfl
    have c18 := callA (K := max N 100 + 1) (by rw [← e1, ← hrl]; exact I1.send18 (g := 0) hrd false r.A r.cap r.ms hns1 (by rw [hrl]; exact hrm)) (by omega) (by simp [ptrsL, ptrs]) rfl
    have c44 := callB (K := max N 100 + 1) (by rw [← e2, ← hrl]; exact I2.send44 (g := 0) (by rw [hr]; exact hrd) false r.A r.cap r.ms hns2 (by rw [hs, hrl]; exact hrm)) (by omega) (by simp [ptrsL, ptrs]) rfl
    rw [hrl, hS] at c18
    rw [hrl, hSe] at c44
    obtain ⟨RA, hRA⟩ : ∃ RA, rowsC (outL S n n) = RA := ⟨_, rfl⟩
    simp only [inV, hRA] at c18 c44
    simp [-EvK_app, entryS, rspC]
    refine EvK_cut (fun D => D.s 0 = .bptr b1 0 ∧ D.s 1 = .bptr b2 0 ∧ D.s 5 = .bptr nx 0 ∧ D.m = MX ∧ D.nx = nx + 1) (by simp [← hMX, ← hc0, rspC]) fun D ⟨d0, d1, d5, dm, dx⟩ => ?_
    have hc0' : c0 = ⟨0, [.bool false, .im false r.A r.cap r.ms.length (msV r.ms)]⟩ := by rw [← hc0]; unfold rspC; rw [hc]
    simp [-EvK_app, d0, d1, d5, dm, dx, gX, hc0']
    rw [EvK_app]
    simp [-EvK_app]
    refine EvK_cut (fun D => D.s 0 = .bptr b1 0 ∧ D.s 1 = .bptr b2 0 ∧ D.s 5 = .bptr nx 0 ∧ D.m = MX ∧ D.nx = nx + 1) (by simp [d0, d1, d5]) fun D ⟨d0, d1, d5, dm, dx⟩ => ?_
    refine EvP.seqG (fun D => D.s 7 = .own .nil 0 n RA ∧ D.s 8 = .own .nil 0 n RA ∧ D.m = MB ∧ D.nx = nx + 1) ?_ fun D ⟨d7, d8, dm, dx⟩ => ?_
    · refine EvP.drawT rfl ?_
      apply drawT_ex
      apply Exists.intro
      apply Exists.intro
      apply Exists.intro
      apply And.intro
      · intro P hP
        simp only [paths, List.map_cons, List.map_nil, List.cons_append, List.nil_append, List.mem_cons, List.not_mem_nil, or_false] at hP
        rcases hP with rfl | rfl
        · simp [-reach, -doCall, doCall_eq, d0, d1, d5, dm, dx, gX, gA, hc0', hlm, hrl, c18, c44]
          exact ⟨fun jj => rfl, rfl, rfl⟩
        all_goals
          simp [-reach, -doCall, doCall_eq, d0, d1, d5, dm, dx, gX, gA, hc0', hlm, hrl, c18, c44]
          refine ⟨fun jj => ?_, rfl, rfl⟩
          rcases Decidable.em (jj = 7) with rfl | a7
          · simp
          rcases Decidable.em (jj = 8) with rfl | a8
          · simp
          rcases Decidable.em (jj = 30) with rfl | a30
          · simp
          rcases Decidable.em (jj = 29) with rfl | a29
          · simp
          rcases Decidable.em (jj = 28) with rfl | a28
          · simp
          rcases Decidable.em (jj = 27) with rfl | a27
          · simp
          rcases Decidable.em (jj = 26) with rfl | a26
          · simp
          rcases Decidable.em (jj = 25) with rfl | a25
          · simp
          rcases Decidable.em (jj = 24) with rfl | a24
          · simp
          rcases Decidable.em (jj = 23) with rfl | a23
          · simp
          simp [a7, a8, a30, a29, a28, a27, a26, a25, a24, a23]
      · simp
    have gnn : ((n : Int) != (n : Int)) = false := by simp
    simp [-EvK_app, d7, d8, dm, dx, gnn]
    rw [EvK_app]
    simp [-EvK_app, d7, d8, dm, dx]
    refine EvK_cut (fun D => D.s 7 = .own .nil 0 n RA ∧ D.s 8 = .own .nil 0 n RA ∧ D.m = MB ∧ D.nx = nx + 1) (by simp [d7, d8]) fun D ⟨d7, d8, dm, dx⟩ => ?_
    simp [-EvK_app, d7, d8, dm, dx]
    rw [EvK_app]
    simp only [ev_block]
    obtain ⟨J, hJ⟩ : ∃ J : Nat → St → Prop, J = fun q D => ∃ (j : Nat) (CA CB : List V), q = n - j ∧ j ≤ n ∧ CA.length = n ∧ CB.length = n ∧ (∀ j', j ≤ j' → CA[j']? = RA[j']?) ∧ (∀ j', j ≤ j' → CB[j']? = RA[j']?) ∧ D.s 7 = .own .nil 0 n CA ∧ D.s 8 = .own .nil 0 n CB ∧ D.s 9 = .int .i64 (j : Int) ∧ D.m = MB ∧ D.nx = nx + 1 := ⟨_, rfl⟩
    have hRAl : RA.length = n := by rw [← hRA]; simp
    refine EvP.loop J (n := n) (by rw [hJ]; exact ⟨0, RA, RA, by simp, by simp, hRAl, hRAl, fun _ _ => rfl, fun _ _ => rfl, by simp [d7], by simp [d8], by simp, by simp, by simp⟩) (by omega) fun q D hD => ?_
    rw [hJ] at hD
    obtain ⟨j, CA, CB, rfl, hj, hCAl, hCBl, hCA, hCB, d7, d8, d9, dm, dx⟩ := hD
    by_cases hjl : j < n
    · have e5 := wrap_succ (q := j) (by omega)
      have hoA : (outL S n n)[j]? = some (colS S j n) := by rw [outL_get _ _ _ _ hjl, if_pos hjl]
      obtain ⟨rc, hrc⟩ : ∃ rc, (colS S j n).map cpV = rc := ⟨_, rfl⟩
      have hrcl : rc.length = n := by rw [← hrc, List.length_map, colS_length]
      have hRAj : RA[j]? = some (.own .nil 0 n rc) := by rw [← hRA, rowsC_get hoA, colS_length, hrc]
      have hjA : j < CA.length := by omega
      have hjB : j < CB.length := by omega
      have hCAw : CA[j]? = some (.own .nil 0 n rc) := by rw [hCA j (Nat.le_refl _), hRAj]
      have hCBw : CB[j]? = some (.own .nil 0 n rc) := by rw [hCB j (Nat.le_refl _), hRAj]
      have hCAe : CA[j] = .own .nil 0 n rc := by rw [List.getElem?_eq_getElem hjA] at hCAw; exact Option.some.inj hCAw
      have hCBe : CB[j] = .own .nil 0 n rc := by rw [List.getElem?_eq_getElem hjB] at hCBw; exact Option.some.inj hCBw
      obtain ⟨ls, hls⟩ : ∃ ls, colS S j n = ls := ⟨_, rfl⟩
      have hlsl : ls.length = n := by rw [← hls, colS_length]
      have hlso : ∀ l ∈ ls, l.length ≤ 1000 := fun l hl => by
        rw [← hls] at hl
        obtain ⟨f, _, rfl⟩ := List.mem_map.1 hl
        exact sw_le hSok f j
      have hfrz : ∀ b, frzL false (frzL b rc) = rsV (ls.map rz) := fun b => by rw [← hrc, hls]; exact frz_cpV b ls
      have c42 := fun pm pm2 A A2 cap cap2 => callP (k := k) (lists42 pm pm2 A A2 cap cap2 (ls.map rz) (ls.map rz) (by rw [List.length_map]; omega) (fun w hw => by
        obtain ⟨l, hl, rfl⟩ := List.mem_map.1 hw
        exact hlso l hl)) (by omega) (by simp) rfl
      simp only [decide_true, List.length_map, hlsl] at c42
      obtain ⟨FA, hFA⟩ : ∃ FA : V, V.im (noBorL rc) none 0 n (frzL (noBorL rc) rc) = FA := ⟨_, rfl⟩
      simp [-reach, -doCall, doCall_eq, d7, d8, d9, dm, dx, hjl, hjA, hjB, hCAl, hCBl, hCAw, hCBw, hCAe, hCBe, hrcl, hfrz, c42, e5]
      subst hJ
      refine ⟨n - (j + 1), by omega, j + 1, CA.set j (.im (noBorL rc) none 0 n (frzL (noBorL rc) rc)), CB.set j (.im (noBorL rc) none 0 n (frzL (noBorL rc) rc)), rfl, by omega, by simp [hCAl], by simp [hCBl], fun j' h' => ?_, fun j' h' => ?_, by simp [d7], by simp [d8], by simp, rfl, rfl⟩
      · rw [List.getElem?_set_ne (by omega)]; exact hCA j' (by omega)
      · rw [List.getElem?_set_ne (by omega)]; exact hCB j' (by omega)
    · have hje : ¬ j < n := hjl
      simp [d7, d8, d9, dm, dx, hje, hfB]
end Go.Abs
end
/- The seat of privitylaw14: a call on two networks; structs compared. -/
set_option linter.unusedVariables false
noncomputable section
namespace Go.Abs
open Go Go.Proofs
set_option maxRecDepth 100000
theorem eq24 (p : Nat) (n t : Int) : eqStruct Tryd.prog 24 [.int .u64 (p : Int), .int .i64 n, .int .i64 t] [.int .u64 (p : Int), .int .i64 n, .int .i64 t] = some true := by
  have h1 : Tryd.prog.stoodInHeld 24 = false := by kernel_rfl
  have h2 : Tryd.prog.eqGuardType Tryd.prog.depth 24 = false := by kernel_rfl
  unfold eqStruct
  rw [Tryd.underlying24]
  simp [h1, h2, eqFs, aggT, intV, Tryd.underlying22, Tryd.underlying3]
/-- The boxes that some pointers lead to. -/
theorem reach_nets {m : List (Nat × Box)} {bs ts : List Nat} (hm : (bs.flatMap fun b => match getBox m b with | some c => ptrsL c.cs | none => []) = ts) (hts : ∀ t ∈ ts, ∃ c', getBox m t = some c' ∧ ptrsL c'.cs = []) (hb : ∀ t ∈ ts, t ∉ bs) (hnd : ts.eraseDups = ts) :
    ∀ {k : Nat}, 2 ≤ k → reach m k bs = bs ++ ts := by
  intro k hk
  obtain ⟨k, rfl⟩ : ∃ j, k = j + 2 := ⟨k - 2, by omega⟩
  have e1 : ((bs.flatMap fun b => match getBox m b with | some c => ptrsL c.cs | none => []).filter fun x => !bs.contains x) = ts := by
    rw [hm, List.filter_eq_self]
    intro x hx
    have := hb x hx
    simpa using this
  have e3 : (((bs ++ ts).flatMap fun b => match getBox m b with | some c => ptrsL c.cs | none => []).filter fun x => !(bs ++ ts).contains x) = [] := by
    rw [List.filter_eq_nil_iff]
    intro x hx
    rw [List.flatMap_append, hm] at hx
    rcases List.mem_append.1 hx with hx | hx
    · simp [hx]
    · rw [List.mem_flatMap] at hx
      obtain ⟨y, hy, hx⟩ := hx
      obtain ⟨c', h1, h2⟩ := hts y hy
      rw [h1] at hx
      simp only [h2] at hx
      cases hx
  have s1 : reach m (k + 2) bs = if (((bs.flatMap fun b => match getBox m b with | some c => ptrsL c.cs | none => []).filter fun x => !bs.contains x)).isEmpty then bs else reach m (k + 1) (bs ++ ((bs.flatMap fun b => match getBox m b with | some c => ptrsL c.cs | none => []).filter fun x => !bs.contains x).eraseDups) := rfl
  rw [s1, e1, hnd]
  cases hts' : ts with
  | nil => simp
  | cons t l =>
    rw [← hts']
    have e2 : ts.isEmpty = false := by rw [hts']; rfl
    rw [e2]
    have s2 : reach m (k + 1) (bs ++ ts) = if ((((bs ++ ts).flatMap fun b => match getBox m b with | some c => ptrsL c.cs | none => []).filter fun x => !(bs ++ ts).contains x)).isEmpty then (bs ++ ts) else reach m k ((bs ++ ts) ++ (((bs ++ ts).flatMap fun b => match getBox m b with | some c => ptrsL c.cs | none => []).filter fun x => !(bs ++ ts).contains x).eraseDups) := rfl
    show reach m (k + 1) (bs ++ ts) = bs ++ ts
    rw [s2, e3]
    rfl
section
variable {nx b1 b2 x : Nat} {c : Box} {O tb1 tb2 : List (Nat × Box)} {σ σ' τ τ' : NetS} {P : Program} {H : Hint} {f k N : Nat} {xs : List V} {r : V}
/-- A call on both networks. -/
theorem Two.call2 (h : Two nx b1 b2 σ.tp τ.tp c O x) (hT1 : TB b1 σ.tp tb1) (hT2 : TB b2 τ.tp tb2) (hl : 1 ≤ tb1.length) (h1' : σ'.tp = σ.tp) (h2' : τ'.tp = τ.tp) (hans : AnsM N P H f xs (((b2, ⟨0, netC τ⟩) :: tb2) ++ ((b1, ⟨0, netC σ⟩) :: tb1)) r (((b1, ⟨0, netC σ'⟩) :: tb1) ++ ((b2, ⟨0, netC τ'⟩) :: tb2))) (hk : N ≤ k) (hp : ptrsL xs = [b1, b2]) (hX : H.X f xs = none) (s : Nat → V) (dst : Option Nat) :
    doCallB H (evCall P H k) f false xs ⟨s, O ++ ((b2, ⟨0, netC τ⟩) :: tb2) ++ ((b1, ⟨0, netC σ⟩) :: tb1), x⟩ dst = some ((St.mk (fun i => killB ([b1, b2] ++ (σ.tp ++ τ.tp)) x (s i)) (O ++ ((b1, ⟨0, netC σ'⟩) :: tb1) ++ ((b2, ⟨0, netC τ'⟩) :: tb2)) x).lay dst r) := by
  obtain ⟨N1, hN1⟩ : ∃ N1, (b1, (⟨0, netC σ⟩ : Box)) :: tb1 = N1 := ⟨_, rfl⟩
  obtain ⟨N2, hN2⟩ : ∃ N2, (b2, (⟨0, netC τ⟩ : Box)) :: tb2 = N2 := ⟨_, rfl⟩
  have q1 : ∀ e ∈ N1, e.1 ∈ b1 :: σ.tp := by rw [← hN1]; exact net_keys hT1
  have q2 : ∀ e ∈ N2, e.1 ∈ b2 :: τ.tp := by rw [← hN2]; exact net_keys hT2
  have hO1 : ∀ y ∈ b1 :: σ.tp, ∀ e ∈ O, e.1 ≠ y := fun y hy e he hx => (h.o e he).2.2.1 (hx ▸ hy)
  have hO2 : ∀ y ∈ b2 :: τ.tp, ∀ e ∈ O, e.1 ≠ y := fun y hy e he hx => (h.o e he).2.2.2 (hx ▸ hy)
  have h21 : ∀ y ∈ b1 :: σ.tp, ∀ e ∈ N2, e.1 ≠ y := fun y hy e he hx => (h.t1 y hy).2.2 (hx ▸ q2 e he)
  have g1 : ∀ y ∈ b1 :: σ.tp, getBox (O ++ N2 ++ N1) y = getBox N1 y := fun y hy => by
    rw [List.append_assoc, getBox_skip (hO1 y hy), getBox_skip (h21 y hy)]
  have g2 : ∀ y c', y ∈ b2 :: τ.tp → getBox N2 y = some c' → getBox (O ++ N2 ++ N1) y = some c' := fun y c' hy hc => by
    rw [List.append_assoc, getBox_skip (hO2 y hy)]
    exact getBox_app_old hc
  have hb12 : b1 ≠ b2 := fun e => (h.t1 b1 List.mem_cons_self).2.2 (e ▸ List.mem_cons_self)
  have gb1 : getBox (O ++ N2 ++ N1) b1 = some ⟨0, netC σ⟩ := by rw [g1 b1 List.mem_cons_self, ← hN1]; simp [getBox]
  have gb2 : getBox (O ++ N2 ++ N1) b2 = some ⟨0, netC τ⟩ := g2 b2 _ List.mem_cons_self (by rw [← hN2]; simp [getBox])
  have hdis : ∀ y ∈ σ.tp, y ∉ τ.tp := fun y hy hy2 => (h.t1 y (List.mem_cons_of_mem _ hy)).2.2 (List.mem_cons_of_mem _ hy2)
  have hnd : (σ.tp ++ τ.tp).Nodup := by
    rw [List.nodup_append]
    exact ⟨hT1.nd, hT2.nd, fun a ha b hb hab => hdis a ha (hab ▸ hb)⟩
  have hr : reach (O ++ N2 ++ N1) (O ++ N2 ++ N1).length [b1, b2] = [b1, b2] ++ (σ.tp ++ τ.tp) := by
    refine reach_nets ?_ (fun t ht => ?_) (fun t ht => ?_) (nodup_ed hnd) ?_
    · simp only [List.flatMap_cons, List.flatMap_nil, List.append_nil, gb1, gb2, ptrsL_netC]
    · rcases List.mem_append.1 ht with ht | ht
      · obtain ⟨c', a1, a2⟩ := net_get (g := 0) hT1 ht
        rw [hN1] at a1
        exact ⟨c', by rw [g1 t (List.mem_cons_of_mem _ ht)]; exact a1, a2⟩
      · obtain ⟨c', a1, a2⟩ := net_get (g := 0) hT2 ht
        rw [hN2] at a1
        exact ⟨c', g2 t c' (List.mem_cons_of_mem _ ht) a1, a2⟩
    · simp only [List.mem_cons, List.not_mem_nil, or_false]
      rcases List.mem_append.1 ht with ht | ht
      · rintro (rfl | rfl)
        · exact hT1.nb ht
        · exact (h.t1 t (List.mem_cons_of_mem _ ht)).2.2 List.mem_cons_self
      · rintro (rfl | rfl)
        · exact (h.t1 t List.mem_cons_self).2.2 (List.mem_cons_of_mem _ ht)
        · exact hT2.nb ht
    · rw [← hN1, ← hN2]; simp; omega
  have hed : ([b1, b2] : List Nat).eraseDups = [b1, b2] := nodup_ed (by simp [hb12])
  have hmem : ∀ e : Nat × Box, e.1 ∈ [b1, b2] ++ (σ.tp ++ τ.tp) ↔ e.1 ∈ b1 :: σ.tp ∨ e.1 ∈ b2 :: τ.tp := fun e => by
    simp only [List.mem_append, List.mem_cons, List.not_mem_nil, or_false]
    constructor
    · rintro ((h | h) | (h | h)) <;> simp [h]
    · rintro ((h | h) | (h | h)) <;> simp [h]
  have hf : ((O ++ N2 ++ N1).filter fun e => ([b1, b2] ++ (σ.tp ++ τ.tp)).contains e.1) = N2 ++ N1 := by
    rw [List.append_assoc, List.filter_append]
    have e1 : (O.filter fun e => ([b1, b2] ++ (σ.tp ++ τ.tp)).contains e.1) = [] := List.filter_eq_nil_iff.2 fun e he => by
      rw [List.contains_iff_mem, hmem]
      rintro (hx | hx)
      · exact (h.o e he).2.2.1 hx
      · exact (h.o e he).2.2.2 hx
    have e2 : ((N2 ++ N1).filter fun e => ([b1, b2] ++ (σ.tp ++ τ.tp)).contains e.1) = N2 ++ N1 := List.filter_eq_self.2 fun e he => by
      rw [List.contains_iff_mem, hmem]
      rcases List.mem_append.1 he with he | he
      · exact .inr (q2 e he)
      · exact .inl (q1 e he)
    rw [e1, e2, List.nil_append]
  have ho : othersM (O ++ N2 ++ N1) ([b1, b2] ++ (σ.tp ++ τ.tp)) = O := by
    unfold othersM
    rw [List.append_assoc, List.filter_append]
    have e1 : (O.filter fun e => !([b1, b2] ++ (σ.tp ++ τ.tp)).contains e.1) = O := List.filter_eq_self.2 fun e he => by
      rw [Bool.not_eq_true', ← Bool.not_eq_true, List.contains_iff_mem, hmem]
      rintro (hx | hx)
      · exact (h.o e he).2.2.1 hx
      · exact (h.o e he).2.2.2 hx
    have e2 : ((N2 ++ N1).filter fun e => !([b1, b2] ++ (σ.tp ++ τ.tp)).contains e.1) = [] := List.filter_eq_nil_iff.2 fun e he => by
      rw [Bool.not_eq_true', Bool.not_eq_false, List.contains_iff_mem, hmem]
      rcases List.mem_append.1 he with he | he
      · exact .inr (q2 e he)
      · exact .inl (q1 e he)
    rw [e1, e2, List.append_nil]
  rw [hN1, hN2] at hans ⊢
  have := callBox (H := H) (f := f) (s := s) (C := evCall P H k) hX (by rw [hp, hed]; exact hr) hf ho (by simp) (hans k hk x fun e he => by
    rcases List.mem_append.1 he with he | he
    · exact (h.t2 _ (q2 e he)).2
    · exact (h.t1 _ (q1 e he)).2.1) (fun e he => .inl (by
    rw [hmem]
    rcases List.mem_append.1 he with he | he
    · have := net_keys (g := 0) (σ := σ') (by rw [h1']; exact hT1) e he
      rw [h1'] at this; exact .inl this
    · have := net_keys (g := 0) (σ := τ') (by rw [h2']; exact hT2) e he
      rw [h2'] at this; exact .inr this)) dst
  rw [this, List.append_assoc]
end
theorem ptrsL_tapeR (w : RD) : ptrsL (tapeR w) = [] := by simp [tapeR]
end Go.Abs
end
