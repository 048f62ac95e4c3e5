/- Joined: AbsNY7 AbsNY3 AbsNY11. -/
import Derived.Test.YtjdgcblikhkioaaDoorAbs13
set_option linter.all false
/- The seat of privitylaw14: NetworkResize. -/
set_option linter.unusedVariables false
noncomputable section
namespace Go.Abs
open Go Go.Proofs
theorem resizeS_idem (l : List Nat) (n : Nat) : resizeS (resizeS l n) n = resizeS l n := by
  have h : (resizeS l n).length = n := resizeS_length l n
  generalize resizeS l n = m at h
  subst h
  simp [resizeS]
set_option maxHeartbeats 4000000 in
set_option maxRecDepth 100000 in
theorem law7 (pm : Bool) (A : Option Addr) (cap : Nat) (l : List Nat) (n : Nat) (hn : n < 256) : ∃ N, AnsN N Tryd.prog H14 7 [.im pm A cap l.length (uL l), .int .u8 (n : Int)] (.bool true) := by
  obtain ⟨N, hN⟩ := awake12
  refine ⟨max N 2000 + 1, AnsN.of (fn := Tryd.f7) (t := 4) (by rfl) Tryd.func7 rfl rfl (by rfl) (by rfl) fun k hk nx => ?_⟩
  have c12 := callP (k := k) hN (by omega) (by simp [ptrsL]) rfl
  by_cases hl : l.length ≤ 100
  · have h1 : ¬ ((l.length : Int) > 100) := by omega
    have c24 := callP (k := k) (resize24 false A cap l n (by omega)) (by omega) (by simp) rfl
    have c24b := callP (k := k) (resize24 false none 0 (resizeS l n) n (by omega)) (by omega) (by simp) rfl
    have c25 := callP (k := k) (resize25 false A cap l n (by omega)) (by omega) (by simp) rfl
    have c20 := callP (k := k) (words20 false false none none 0 0 (resizeS l n) (resizeS l n) (by rw [resizeS_length]; omega)) (by omega) (by simp) rfl
    have hw : IntKind.i64.wrap (n : Int) = n := wrap_nat (by omega) (by omega)
    simp only [resizeS_length, decide_true, resizeS_idem] at c20 c24b
    simp [-doCall, doCall_eq, entryS, c12, h1, c24, c24b, c25, c20, hw]
  · have h1 : (l.length : Int) > 100 := by omega
    simp [-doCall, doCall_eq, entryS, c12, h1]
end Go.Abs
end
/- The seat of privitylaw14: NetworkNew. -/
set_option linter.unusedVariables false
noncomputable section
namespace Go.Abs
open Go Go.Proofs
set_option maxRecDepth 100000
set_option maxHeartbeats 4000000 in
theorem law3 (s : Scn) (hA : ScnA s) : ∃ N, AnsN N Tryd.prog H14 3 [scV s] (.bool true) := by
  obtain ⟨N, hN⟩ := awake12
  refine ⟨max N 2000 + 1, AnsN.of (fn := Tryd.f3) (t := 2) (by rfl) Tryd.func3 rfl rfl (by rfl) (by rfl) fun k hk nx => ?_⟩
  have c12 := callP (k := k) hN (by omega) (by simp [ptrsL]) rfl
  have e := hA.lent
  by_cases hb : s.tapes.length ≤ 20 ∧ s.corrupt.length ≤ 20 ∧ s.devs.length ≤ 20
  · obtain ⟨b1, b2, b3⟩ := hb
    have g1 : ¬ ((s.tapes.length : Int) > 20) := by omega
    have g2 : ¬ ((s.corrupt.length : Int) > 20) := by omega
    have g3 : ¬ ((s.devs.length : Int) > 20) := by omega
    simp [-reach, -doCall, doCall_eq, entryS, c12, g1, g2, g3, scV, scL]
    obtain ⟨I, hI⟩ : ∃ I : Nat → St → Prop, I = fun q D => ∃ i : Nat, q = s.tapes.length - i ∧ i ≤ s.tapes.length ∧ (∀ r ∈ s.tapes.take i, r.l.length ≤ 50) ∧ D.s 1 = .bptr nx 0 ∧ D.s 3 = .int .i64 (i : Int) ∧ D.m = [(nx, ⟨0, scL s⟩)] ∧ D.nx = nx + 1 := ⟨_, rfl⟩
    refine EvP.loop I (n := s.tapes.length) (by rw [hI]; exact ⟨0, by simp [scL]⟩) (by omega) fun q D hD => ?_
    rw [hI] at hD
    obtain ⟨i, rfl, hi, hpre, d1, d3, dm, dx⟩ := hD
    by_cases hil : i < s.tapes.length
    · have e3 := wrap_succ (q := i) (by omega)
      by_cases h50 : (s.tapes[i]).l.length ≤ 50
      · have g4 : ¬ (((s.tapes[i]).l.length : Int) > 50) := by omega
        simp [d1, d3, dm, dx, scL, hil, g4, e3]
        subst hI
        refine ⟨s.tapes.length - (i + 1), by omega, i + 1, rfl, by omega, fun r hr => ?_, by simp [d1], by simp, rfl, rfl⟩
        rw [List.take_succ_eq_append_getElem hil, List.mem_append, List.mem_singleton] at hr
        rcases hr with hr | rfl
        · exact hpre r hr
        · exact h50
      · have g4 : ((s.tapes[i]).l.length : Int) > 50 := by omega
        simp [d1, d3, dm, dx, scL, hil, g4]
    · have hie : i = s.tapes.length := by omega
      subst hie
      have hr : ∀ r ∈ s.tapes, r.l.length ≤ 1000 := fun r hr => by
        have := hpre r (by rw [List.take_length]; exact hr)
        omega
      have hl := lents_ok hA.r
      have h1 := hA.e1
      have h2 := hA.e2
      have h3 := hA.e3
      by_cases hs : ScnS s
      · have c13 := fun st m nx dst => call13 s st m nx dst (by omega) (by omega) hr hs (k := k) (by omega)
        have c14 := fun st m nx dst => call14 s st m nx dst (by omega) (by omega) hr hs (k := k) (by omega)
        obtain ⟨M13, hM13⟩ : ∃ M : Nat → List (Nat × Box), (fun nx => netM (fun w => tapeC (lent w) 0) s nx s.tapes.length) = M := ⟨_, rfl⟩
        obtain ⟨M14, hM14⟩ : ∃ M : Nat → List (Nat × Box), (fun nx => netM tapeR s nx s.tapes.length) = M := ⟨_, rfl⟩
        have q13 : ∀ nx, netM (fun w => tapeC (lent w) 0) s nx s.tapes.length = M13 nx := fun nx => congrFun hM13 nx
        have q14 : ∀ nx, netM tapeR s nx s.tapes.length = M14 nx := fun nx => congrFun hM14 nx
        have z13 : ∀ nx, ∀ e ∈ M13 nx, nx ≤ e.1 := fun nx e he => by rw [← q13] at he; exact (netM_ge _ _ _ e he).1
        have z14 : ∀ nx, ∀ e ∈ M14 nx, nx ≤ e.1 := fun nx e he => by rw [← q14] at he; exact (netM_ge _ _ _ e he).1
        simp only [q13, q14] at c13 c14
        simp only [scV, scL, h1, h2, h3] at c13 c14
        simp [-reach, -doCall, doCall_eq, d1, d3, dm, dx, scL, h1, h2, h3, hl, c13, c14]
        rintro a b (⟨rfl, -⟩ | h | h)
        · exact Nat.le_refl _
        · have := z13 _ _ h; omega
        · have := z14 _ _ h; omega
      · have c13 := callP (new13a s (by omega) (by omega) hr hs) (k := k) (by omega) (ptrsL_scV s) rfl
        have c14 := callP (new14a s (by omega) (by omega) hr hs) (k := k) (by omega) (ptrsL_scV s) rfl
        simp only [scV, scL, h1, h2, h3] at c13 c14
        simp [-reach, -doCall, doCall_eq, d1, d3, dm, dx, scL, h1, h2, h3, hl, c13, c14]
  · by_cases b1 : s.tapes.length ≤ 20
    · have g1 : ¬ ((s.tapes.length : Int) > 20) := by omega
      by_cases b2 : s.corrupt.length ≤ 20
      · have g2 : ¬ ((s.corrupt.length : Int) > 20) := by omega
        have g3 : (s.devs.length : Int) > 20 := by omega
        simp [-reach, -doCall, doCall_eq, entryS, c12, g1, g2, g3, scV, scL]
      · have g2 : (s.corrupt.length : Int) > 20 := by omega
        simp [-reach, -doCall, doCall_eq, entryS, c12, g1, g2, scV, scL]
    · have g1 : (s.tapes.length : Int) > 20 := by omega
      simp [-reach, -doCall, doCall_eq, entryS, c12, g1, scV, scL]
end Go.Abs
end
/- The seat of privitylaw14: NetworkTapes. -/
set_option linter.unusedVariables false
noncomputable section
namespace Go.Abs
open Go Go.Proofs
set_option maxRecDepth 100000
theorem tapB_mem (F : RD → List V) : ∀ (l : List RD) (n i : Nat) (h : i < l.length), (n + i, (⟨0, F l[i]⟩ : Box)) ∈ tapB F n l
  | w :: l, n, 0, h => List.mem_cons_self
  | w :: l, n, i + 1, h => by
    have := tapB_mem F l (n + 1) i (by simpa using h)
    rw [show n + 1 + i = n + (i + 1) by omega] at this
    exact List.mem_cons_of_mem _ this
theorem net0_tp (s : Scn) (nx i : Nat) (h : i < s.tapes.length) (h2 : i < (net0 s nx s.tapes.length).tp.length) : (net0 s nx s.tapes.length).tp[i] = nx + 2 + i := by
  have e : (net0 s nx s.tapes.length).tp[i]? = some (nx + 2 + i) := by
    show ((List.range s.tapes.length).map (nx + 2 + ·))[i]? = _
    rw [List.getElem?_map, List.getElem?_range h]; rfl
  exact (List.getElem?_eq_some_iff.1 e).2
theorem netCallE {b g : Nat} {σ σ' : NetS} {tb O : List (Nat × Box)} {P : Program} {H : Hint} {f k N nx : Nat} {xs : List V} {r : V} (hT : TB b σ.tp tb) (hl : 1 ≤ tb.length) (hd : ∀ e ∈ O, e.1 ∉ b :: σ.tp) (h' : σ'.tp = σ.tp) (hans : AnsM N P H f xs ((b, ⟨g, netC σ⟩) :: tb) r ((b, ⟨g, netC σ'⟩) :: tb)) (hk : N ≤ k) (hp : ptrsL xs = [b]) (hX : H.X f xs = none) (hlt : ∀ e ∈ (b, (⟨g, netC σ⟩ : Box)) :: tb, e.1 < nx) (s : Nat → V) (dst : Option Nat) :
    doCallB H (evCall P H k) f false xs ⟨s, O ++ (b, ⟨g, netC σ⟩) :: tb, nx⟩ dst = some ((St.mk (fun i => killB (b :: σ.tp) nx (s i)) (O ++ (b, ⟨g, netC σ'⟩) :: tb) nx).lay dst r) := by
  have := netCall (O1 := O) (O2 := []) hT hl (by rwa [List.append_nil]) h' hans hk hp hX hlt s dst
  simpa only [List.append_nil] using this
theorem netM_eq (F : RD → List V) (s : Scn) (a : Nat) : netM F s a s.tapes.length = [(a, ⟨0, scL s⟩)] ++ (a + 1, ⟨0, netC (net0 s a s.tapes.length)⟩) :: tapB F (a + 2) s.tapes := by
  unfold netM
  rw [List.take_length]; rfl
theorem net0_rng (s : Scn) (a : Nat) : ∀ x ∈ (a + 1) :: (net0 s a s.tapes.length).tp, a + 1 ≤ x ∧ x < a + 2 + s.tapes.length := fun x hx => by
  rcases List.mem_cons.1 hx with rfl | hx
  · exact ⟨Nat.le_refl _, by omega⟩
  · obtain ⟨j, hj, rfl⟩ := List.mem_map.1 (show x ∈ (List.range s.tapes.length).map (a + 2 + ·) from hx)
    have := List.mem_range.1 hj
    exact ⟨by omega, by omega⟩
theorem takeV_cases (w : RD) (hw : w.pm = false) (q n : Nat) : (n = 0 ∧ ∃ d, takeV w q n = .own d 0 0 []) ∨ (0 < n ∧ ∃ A, takeV w q n = .im false A n n (uL ((w.l.drop q).take n))) := by
  unfold takeV
  by_cases h : n = 0
  · exact .inl ⟨h, by rw [if_pos h]; exact ⟨_, rfl⟩⟩
  · exact .inr ⟨by omega, by rw [if_neg h, hw]; exact ⟨_, rfl⟩⟩
open Classical in
set_option maxHeartbeats 4000000 in
theorem law11 (s : Scn) (hA : ScnA s) (i : Nat) (hi : i < 256) (c : Nat) (hc : c < 256) : ∃ N, AnsN N Tryd.prog H14 11 [scV s, .int .u8 (i : Int), .int .u8 (c : Int)] (.bool true) := by
  obtain ⟨N, hN⟩ := awake12
  refine ⟨max N 2000 + 1, AnsN.of (fn := Tryd.f11) (t := 6) (by rfl) Tryd.func11 rfl rfl (by rfl) (by rfl) fun k hk nx => ?_⟩
  have c12 := callP (k := k) hN (by omega) (by simp [ptrsL]) rfl
  have hl := lents_ok hA.r
  have h1 := hA.e1
  have h2 := hA.e2
  have h3 := hA.e3
  have c30 := callP (k := k) (fair30 s 8 20 (by omega) (by omega)) (by omega) (by simp [ptrsL, ptrs, scV, scL]) rfl
  have n8 : ((8 : Nat) : Int) = 8 := rfl
  have n20 : ((20 : Nat) : Int) = 20 := rfl
  simp only [scV, scL, h1, h2, h3, n8, n20] at c30
  simp [-EvK_app, -reach, -doCall, doCall_eq, entryS, scV, scL, h1, h2, h3]
  rw [EvK_app]
  simp [-EvK_app, -reach, -doCall, doCall_eq, c12]
  rw [EvK_app]
  simp [-EvK_app, -reach, -doCall, doCall_eq, c12]
  by_cases hF : FairS s 8 20
  case neg =>
    rw [decide_eq_false hF] at c30
    simp [-reach, -doCall, doCall_eq, h1, h2, h3, hl, c30]
  rw [decide_eq_true hF] at c30
  obtain ⟨f1, f2, f3, f4, hs⟩ := hF
  have hn := scnS_n hs
  have ht : (s.tapes.length : Int) = s.n := hs.2.1
  have hr : ∀ r ∈ s.tapes, r.l.length ≤ 1000 := fun r h => by have := f4 r h; omega
  refine EvK_cut (fun D => D.s 1 = .int .u8 (i : Int) ∧ D.s 2 = .int .u8 (c : Int) ∧ D.s 3 = .bptr nx 0 ∧ D.m = [(nx, ⟨0, scL s⟩)] ∧ D.nx = nx + 1) (by simp [scL, h1, h2, h3]) fun D ⟨d1, d2, d3, dm, dx⟩ => ?_
  simp [-EvK_app, -reach, -doCall, doCall_eq, c30, d1, d2, d3, dm, dx, scL, h1, h2, h3, hl]
  rw [EvK_app]
  simp [-EvK_app, -reach, -doCall, doCall_eq, c30, d1, d2, d3, dm, dx]
  obtain ⟨L, hL⟩ : ∃ L, s.tapes.length = L := ⟨_, rfl⟩
  obtain ⟨F, hF⟩ : ∃ F : RD → List V, (fun w => tapeC (lent w) 0) = F := ⟨_, rfl⟩
  have hFp : ∀ w, ptrsL (F w) = [] := fun w => by rw [← hF]; exact ptrsL_tapeC _ _
  obtain ⟨M0, hM0⟩ : ∃ M0 : List (Nat × Box), [(nx, ⟨0, scL s⟩)] ++ netM F s (nx + 1) s.tapes.length = M0 := ⟨_, rfl⟩
  obtain ⟨x2, hx2⟩ : ∃ x2, nx + 1 + (2 + s.tapes.length) = x2 := ⟨_, rfl⟩
  obtain ⟨xx, hxx⟩ : ∃ xx, x2 + (2 + s.tapes.length) = xx := ⟨_, rfl⟩
  obtain ⟨M1, hM1⟩ : ∃ M1 : List (Nat × Box), M0 ++ netM F s x2 s.tapes.length = M1 := ⟨_, rfl⟩
  have c13a := fun st dst => call13 s st [(nx, ⟨0, scL s⟩)] (nx + 1) dst (by omega) (by omega) hr hs (k := k) (by omega)
  have c13b := fun st dst => call13 s st M0 x2 dst (by omega) (by omega) hr hs (k := k) (by omega)
  rw [hF, hM0, hx2] at c13a
  rw [hF, hM1, hxx] at c13b
  simp only [scV, scL, h1, h2, h3] at c13a c13b
  refine EvK_cut (fun D => D.s 1 = .int .u8 (i : Int) ∧ D.s 2 = .int .u8 (c : Int) ∧ D.s 3 = .bptr nx 0 ∧ D.m = [(nx, ⟨0, scL s⟩)] ∧ D.nx = nx + 1) (by simp [scL, h1, h2, h3, d1, d2, d3]) fun D ⟨d1, d2, d3, dm, dx⟩ => ?_
  simp [-EvK_app, -reach, -doCall, doCall_eq, d1, d2, d3, dm, dx, scL, h1, h2, h3, hl, c13a]
  refine EvK_cut (fun D => D.s 1 = .int .u8 (i : Int) ∧ D.s 2 = .int .u8 (c : Int) ∧ D.s 3 = .bptr nx 0 ∧ D.s 7 = .bptr (nx + 2) 0 ∧ D.s 8 = .int .i64 0 ∧ D.m = M0 ∧ D.nx = x2) (by simp [d1, d2, d3]) fun D ⟨d1, d2, d3, d7, d8, dm, dx⟩ => ?_
  have gM0 : getBox M0 nx = some ⟨0, scL s⟩ := by rw [← hM0]; simp [getBox]
  simp [-EvK_app, -reach, -doCall, doCall_eq, d1, d2, d3, d7, d8, dm, dx, gM0, scL, h1, h2, h3, hl, c13b]
  refine EvK_cut (fun D => D.s 1 = .int .u8 (i : Int) ∧ D.s 2 = .int .u8 (c : Int) ∧ D.s 3 = .bptr nx 0 ∧ D.s 7 = .bptr (nx + 2) 0 ∧ D.s 8 = .int .i64 0 ∧ D.s 9 = .bptr (x2 + 1) 0 ∧ D.s 10 = .int .i64 0 ∧ D.m = M1 ∧ D.nx = xx) (by simp [d1, d2, d3, d7, d8]) fun D ⟨d1, d2, d3, d7, d8, d9, d10, dm, dx⟩ => ?_
  simp [-EvK_app, d1, d2, d3, d7, d8, d9, d10, dm, dx]
  rw [EvK_app]
  simp [-EvK_app, d1, d2, d3, d7, d8, d9, d10, dm, dx]
  have gM1 : getBox M1 nx = some ⟨0, scL s⟩ := by rw [← hM1, ← hM0]; simp [getBox]
  obtain ⟨i0, hi0⟩ : ∃ i0, i % s.tapes.length = i0 := ⟨_, rfl⟩
  have hi0l : i0 < s.tapes.length := by rw [← hi0]; exact Nat.mod_lt _ (by omega)
  have hrem : intOp .rem .i64 (i : Int) (s.tapes.length : Int) = some (.int .i64 (i0 : Int)) := by rw [int_rem (by omega), hi0]
  have hw1 : IntKind.i64.wrap (i : Int) = (i : Int) := wrap_nat (by omega) (by omega)
  have hw2 : IntKind.i64.wrap (1 + (i0 : Int)) = (i0 : Int) + 1 := by rw [wrap_nat (by omega) (by omega)]; omega
  have hw3 : IntKind.i64.wrap (i0 : Int) = (i0 : Int) := wrap_nat (by omega) (by omega)
  obtain ⟨w, hw⟩ : ∃ w, s.tapes[i0] = w := ⟨_, rfl⟩
  have hw20 : w.l.length ≤ 20 := by rw [← hw]; exact f4 _ (List.getElem_mem hi0l)
  have hwok : RdOk w := by rw [← hw]; exact hA.r _ (List.getElem_mem hi0l)
  obtain ⟨c0, hc0⟩ : ∃ c0, c % (w.l.length + 1) = c0 := ⟨_, rfl⟩
  have hc0l : c0 ≤ w.l.length := by rw [← hc0]; exact Nat.le_of_lt_succ (Nat.mod_lt _ (by omega))
  have hw4 : IntKind.i64.wrap (c : Int) = (c : Int) := wrap_nat (by omega) (by omega)
  have hw5 : IntKind.i64.wrap ((w.l.length : Int) + 1) = ((w.l.length + 1 : Nat) : Int) := by rw [wrap_nat (by omega) (by omega)]; omega
  have hrem2 : intOp .rem .i64 (c : Int) ((w.l.length + 1 : Nat) : Int) = some (.int .i64 (c0 : Int)) := by rw [int_rem (by omega), hc0]
  have hrem3 : intOp .rem .i64 (c : Int) ((w.l.length : Int) + 1) = some (.int .i64 (c0 : Int)) := hrem2
  refine EvK_cut (fun D => D.s 1 = .int .u8 (i : Int) ∧ D.s 2 = .int .u8 (c : Int) ∧ D.s 3 = .bptr nx 0 ∧ D.s 7 = .bptr (nx + 2) 0 ∧ D.s 9 = .bptr (x2 + 1) 0 ∧ D.m = M1 ∧ D.nx = xx) (by simp [d1, d2, d3, d7, d9]) fun D ⟨d1, d2, d3, d7, d9, dm, dx⟩ => ?_
  simp [-EvK_app, d1, d2, d3, d7, d9, dm, dx, gM1, scL, ← ht, hrem, hw1, hw2]
  refine EvK_cut (fun D => D.s 2 = .int .u8 (c : Int) ∧ D.s 3 = .bptr nx 0 ∧ D.s 7 = .bptr (nx + 2) 0 ∧ D.s 9 = .bptr (x2 + 1) 0 ∧ D.s 11 = .int .i64 ((i0 : Int) + 1) ∧ D.m = M1 ∧ D.nx = xx) (by simp [d2, d3, d7, d9]) fun D ⟨d2, d3, d7, d9, d11, dm, dx⟩ => ?_
  simp [-EvK_app, d2, d3, d7, d9, d11, dm, dx, gM1, scL, hi0l, hw3, h3, hw]
  refine EvK_cut (fun D => D.s 2 = .int .u8 (c : Int) ∧ D.s 7 = .bptr (nx + 2) 0 ∧ D.s 9 = .bptr (x2 + 1) 0 ∧ D.s 11 = .int .i64 ((i0 : Int) + 1) ∧ D.s 12 = rV w ∧ D.m = M1 ∧ D.nx = xx) (by simp [d2, d7, d9, d11, rV]) fun D ⟨d2, d7, d9, d11, d12, dm, dx⟩ => ?_
  simp only [rV] at d12
  simp [-EvK_app, d2, d7, d9, d11, d12, dm, dx, hw4, hw5, hrem3, hrem2]
  refine EvK_cut (fun D => D.s 7 = .bptr (nx + 2) 0 ∧ D.s 9 = .bptr (x2 + 1) 0 ∧ D.s 11 = .int .i64 ((i0 : Int) + 1) ∧ D.s 12 = rV w ∧ D.s 13 = .int .i64 (c0 : Int) ∧ D.m = M1 ∧ D.nx = xx) (by simp [d7, d9, d11, d12, rV]) fun D ⟨d7, d9, d11, d12, d13, dm, dx⟩ => ?_
  simp only [rV] at d12
  -- the two networks
  obtain ⟨σ1, hσ1⟩ : ∃ σ1, net0 s (nx + 1) s.tapes.length = σ1 := ⟨_, rfl⟩
  obtain ⟨σ2, hσ2⟩ : ∃ σ2, net0 s x2 s.tapes.length = σ2 := ⟨_, rfl⟩
  obtain ⟨tb1, htb1⟩ : ∃ tb1, tapB F (nx + 1 + 2) s.tapes = tb1 := ⟨_, rfl⟩
  obtain ⟨tb2, htb2⟩ : ∃ tb2, tapB F (x2 + 2) s.tapes = tb2 := ⟨_, rfl⟩
  have hT1 : TB (nx + 2) σ1.tp tb1 := by rw [← hσ1, ← htb1]; exact net0_TB F hFp s (nx + 1)
  have hT2 : TB (x2 + 1) σ2.tp tb2 := by rw [← hσ2, ← htb2]; exact net0_TB F hFp s x2
  have hl1 : 1 ≤ tb1.length := by rw [← htb1, tapB_length]; omega
  have hl2 : 1 ≤ tb2.length := by rw [← htb2, tapB_length]; omega
  have rng1 : ∀ x ∈ (nx + 2) :: σ1.tp, nx + 2 ≤ x ∧ x < x2 := by rw [← hσ1]; exact fun x hx => by have := net0_rng s (nx + 1) x hx; omega
  have rng2 : ∀ x ∈ (x2 + 1) :: σ2.tp, x2 + 1 ≤ x ∧ x < xx := by rw [← hσ2]; exact fun x hx => by have := net0_rng s x2 x hx; omega
  have hp1 : i0 < σ1.tp.length := by rw [← hσ1, net0_tpl]; exact hi0l
  have hp2 : i0 < σ2.tp.length := by rw [← hσ2, net0_tpl]; exact hi0l
  have hlen1 : σ1.tp.length ≤ 1000 := by rw [← hσ1, net0_tpl]; omega
  have hlen2 : σ2.tp.length ≤ 1000 := by rw [← hσ2, net0_tpl]; omega
  have tp1 : σ1.tp[i0] = nx + 1 + 2 + i0 := by subst hσ1; exact net0_tp s (nx + 1) i0 hi0l _
  have tp2 : σ2.tp[i0] = x2 + 2 + i0 := by subst hσ2; exact net0_tp s x2 i0 hi0l _
  have m1 : (nx + 1 + 2 + i0, (⟨0, tapeC w ((0 : Nat) : Int)⟩ : Box)) ∈ tb1 := by
    have := tapB_mem F s.tapes (nx + 1 + 2) i0 hi0l
    rw [htb1, hw, ← hF] at this
    simp only [lent_ok hwok] at this
    exact this
  have m2 : (x2 + 2 + i0, (⟨0, tapeC w ((0 : Nat) : Int)⟩ : Box)) ∈ tb2 := by
    have := tapB_mem F s.tapes (x2 + 2) i0 hi0l
    rw [htb2, hw, ← hF] at this
    simp only [lent_ok hwok] at this
    exact this
  have X3 : ∀ e ∈ [(nx, (⟨0, scL s⟩ : Box)), (nx + 1, ⟨0, scL s⟩), (x2, ⟨0, scL s⟩)], e.1 = nx ∨ e.1 = nx + 1 ∨ e.1 = x2 := fun e he => by
    simp only [List.mem_cons, List.not_mem_nil, or_false] at he
    rcases he with rfl | rfl | rfl <;> simp
  have e1 : M1 = [(nx, ⟨0, scL s⟩), (nx + 1, ⟨0, scL s⟩)] ++ ((nx + 2, ⟨0, netC σ1⟩) :: tb1) ++ ((x2, ⟨0, scL s⟩) :: (x2 + 1, ⟨0, netC σ2⟩) :: tb2) := by
    rw [← hM1, ← hM0, netM_eq, netM_eq, hσ1, hσ2, htb1, htb2]
    simp
  have k1 : ∀ tb, TB (nx + 2) σ1.tp tb → ∀ e ∈ (nx + 2, (⟨0, netC σ1⟩ : Box)) :: tb, nx + 2 ≤ e.1 ∧ e.1 < x2 := fun tb hT e he => rng1 _ (net_keys hT e he)
  have k2 : ∀ tb, TB (x2 + 1) σ2.tp tb → ∀ e ∈ (x2 + 1, (⟨0, netC σ2⟩ : Box)) :: tb, x2 + 1 ≤ e.1 ∧ e.1 < xx := fun tb hT e he => rng2 _ (net_keys hT e he)
  -- stage 1
  obtain ⟨M2, hM2⟩ : ∃ M2 : List (Nat × Box), ([(nx, ⟨0, scL s⟩), (nx + 1, ⟨0, scL s⟩)] ++ ((x2, ⟨0, scL s⟩) :: (x2 + 1, ⟨0, netC σ2⟩) :: tb2)) ++ (nx + 2, ⟨0, netC σ1⟩) :: tb1 = M2 := ⟨_, rfl⟩
  have t31 := fun σ tb b hT hi hl => tape31 b 0 σ tb hT i0 hi hl
  have a1 := fun st dst => netCall (O1 := [(nx, ⟨0, scL s⟩), (nx + 1, ⟨0, scL s⟩)]) (O2 := (x2, ⟨0, scL s⟩) :: (x2 + 1, ⟨0, netC σ2⟩) :: tb2) hT1 hl1 (fun e he hx => by
    have hr1 := rng1 _ hx
    simp only [List.cons_append, List.nil_append, List.mem_cons] at he
    rcases he with rfl | rfl | rfl | he
    · dsimp only at hr1; omega
    · dsimp only at hr1; omega
    · dsimp only at hr1; omega
    · have := k2 tb2 hT2 e (List.mem_cons.2 he); omega) rfl (t31 σ1 tb1 (nx + 2) hT1 hp1 hlen1) (k := k) (nx := xx) (by omega) (by simp [ptrsL, ptrs]) rfl (fun e he => by have := k1 tb1 hT1 e he; omega) st dst
  rw [← e1, hM2, tp1] at a1
  have hO1 : ∀ tb, TB (x2 + 1) σ2.tp tb → ∀ e ∈ ([(nx, (⟨0, scL s⟩ : Box)), (nx + 1, ⟨0, scL s⟩)] ++ ((x2, ⟨0, scL s⟩) :: (x2 + 1, ⟨0, netC σ2⟩) :: tb)), e.1 ∉ (nx + 2) :: σ1.tp := fun tb hT e he hx => by
    have hr1 := rng1 _ hx
    simp only [List.cons_append, List.nil_append, List.mem_cons] at he
    rcases he with rfl | rfl | rfl | he
    · dsimp only at hr1; omega
    · dsimp only at hr1; omega
    · dsimp only at hr1; omega
    · have := k2 tb hT e (List.mem_cons.2 he); omega
  obtain ⟨tb3, hT3, hl3, m3, _, a2⟩ := tapeCall (g := 0) (k := k) (nx := xx) hT1 m1 (hO1 tb2 hT2) (take32 (nx + 1 + 2 + i0) 0 w 0 c0 (by omega) (by omega)) (by omega) (by omega)
  rw [hM2] at a2
  obtain ⟨M3, hM3⟩ : ∃ M3 : List (Nat × Box), ([(nx, ⟨0, scL s⟩), (nx + 1, ⟨0, scL s⟩)] ++ ((x2, ⟨0, scL s⟩) :: (x2 + 1, ⟨0, netC σ2⟩) :: tb2)) ++ (nx + 2, ⟨0, netC σ1⟩) :: tb3 = M3 := ⟨_, rfl⟩
  rw [hM3] at a2
  -- stage 2
  have b1 := fun st dst => netCallE (O := [(nx, ⟨0, scL s⟩), (nx + 1, ⟨0, scL s⟩)] ++ ((x2, ⟨0, scL s⟩) :: (x2 + 1, ⟨0, netC σ2⟩) :: tb2)) hT3 (by omega) (hO1 tb2 hT2) rfl (t31 σ1 tb3 (nx + 2) hT3 hp1 hlen1) (k := k) (nx := xx) (by omega) (by simp [ptrsL, ptrs]) rfl (fun e he => by have := k1 tb3 hT3 e he; omega) st dst
  rw [hM3, tp1] at b1
  obtain ⟨tb4, hT4, hl4, m4, _, b2⟩ := tapeCall (g := 0) (k := k) (nx := xx) hT3 m3 (hO1 tb2 hT2) (take32 (nx + 1 + 2 + i0) 0 w (0 + c0) (w.l.length - c0) (by omega) (by omega)) (by omega) (by omega)
  rw [hM3] at b2
  obtain ⟨M4, hM4⟩ : ∃ M4 : List (Nat × Box), ([(nx, ⟨0, scL s⟩), (nx + 1, ⟨0, scL s⟩)] ++ ((x2, ⟨0, scL s⟩) :: (x2 + 1, ⟨0, netC σ2⟩) :: tb2)) ++ (nx + 2, ⟨0, netC σ1⟩) :: tb4 = M4 := ⟨_, rfl⟩
  rw [hM4] at b2
  -- stage 3
  obtain ⟨M5, hM5⟩ : ∃ M5 : List (Nat × Box), ([(nx, ⟨0, scL s⟩), (nx + 1, ⟨0, scL s⟩), (x2, ⟨0, scL s⟩)] ++ ((nx + 2, ⟨0, netC σ1⟩) :: tb4)) ++ (x2 + 1, ⟨0, netC σ2⟩) :: tb2 = M5 := ⟨_, rfl⟩
  have hO2 : ∀ e ∈ [(nx, (⟨0, scL s⟩ : Box)), (nx + 1, ⟨0, scL s⟩), (x2, ⟨0, scL s⟩)] ++ ((nx + 2, ⟨0, netC σ1⟩) :: tb4), e.1 ∉ (x2 + 1) :: σ2.tp := fun e he hx => by
    have hr2 := rng2 _ hx
    rcases List.mem_append.1 he with he | he
    · have := X3 e he; omega
    · have := k1 tb4 hT4 e he; omega
  have c1 := fun st dst => netCall (O1 := [(nx, ⟨0, scL s⟩), (nx + 1, ⟨0, scL s⟩), (x2, ⟨0, scL s⟩)]) (O2 := (nx + 2, ⟨0, netC σ1⟩) :: tb4) hT2 hl2 hO2 rfl (t31 σ2 tb2 (x2 + 1) hT2 hp2 hlen2) (k := k) (nx := xx) (by omega) (by simp [ptrsL, ptrs]) rfl (fun e he => by have := k2 tb2 hT2 e he; omega) st dst
  have e4 : [(nx, (⟨0, scL s⟩ : Box)), (nx + 1, ⟨0, scL s⟩), (x2, ⟨0, scL s⟩)] ++ ((x2 + 1, ⟨0, netC σ2⟩) :: tb2) ++ ((nx + 2, ⟨0, netC σ1⟩) :: tb4) = M4 := by rw [← hM4]; simp
  rw [e4, hM5, tp2] at c1
  obtain ⟨tb5, hT5, hl5, m5, _, c2⟩ := tapeCall (g := 0) (k := k) (nx := xx) hT2 m2 hO2 (take32 (x2 + 2 + i0) 0 w 0 w.l.length (by omega) (by omega)) (by omega) (by omega)
  rw [hM5] at c2
  obtain ⟨M6, hM6⟩ : ∃ M6 : List (Nat × Box), ([(nx, ⟨0, scL s⟩), (nx + 1, ⟨0, scL s⟩), (x2, ⟨0, scL s⟩)] ++ ((nx + 2, ⟨0, netC σ1⟩) :: tb4)) ++ (x2 + 1, ⟨0, netC σ2⟩) :: tb5 = M6 := ⟨_, rfl⟩
  rw [hM6] at c2
  -- stage 4
  obtain ⟨M7, hM7⟩ : ∃ M7 : List (Nat × Box), ([(nx, ⟨0, scL s⟩), (nx + 1, ⟨0, scL s⟩), (x2, ⟨0, scL s⟩)] ++ ((x2 + 1, ⟨0, netC σ2⟩) :: tb5)) ++ (nx + 2, ⟨0, netC σ1⟩) :: tb4 = M7 := ⟨_, rfl⟩
  have hO3 : ∀ e ∈ [(nx, (⟨0, scL s⟩ : Box)), (nx + 1, ⟨0, scL s⟩), (x2, ⟨0, scL s⟩)] ++ ((x2 + 1, ⟨0, netC σ2⟩) :: tb5), e.1 ∉ (nx + 2) :: σ1.tp := fun e he hx => by
    have hr1 := rng1 _ hx
    rcases List.mem_append.1 he with he | he
    · have := X3 e he; omega
    · have := k2 tb5 hT5 e he; omega
  have d1' := fun st dst => netCall (O1 := [(nx, ⟨0, scL s⟩), (nx + 1, ⟨0, scL s⟩), (x2, ⟨0, scL s⟩)]) (O2 := (x2 + 1, ⟨0, netC σ2⟩) :: tb5) hT4 (by omega) hO3 rfl (t31 σ1 tb4 (nx + 2) hT4 hp1 hlen1) (k := k) (nx := xx) (by omega) (by simp [ptrsL, ptrs]) rfl (fun e he => by have := k1 tb4 hT4 e he; omega) st dst
  rw [hM7, tp1] at d1'
  have e6 : [(nx, (⟨0, scL s⟩ : Box)), (nx + 1, ⟨0, scL s⟩), (x2, ⟨0, scL s⟩)] ++ ((nx + 2, ⟨0, netC σ1⟩) :: tb4) ++ ((x2 + 1, ⟨0, netC σ2⟩) :: tb5) = M6 := hM6
  rw [e6] at d1'
  obtain ⟨tb6, hT6, hl6, m6, _, d2'⟩ := tapeCall (g := 0) (k := k) (nx := xx) hT4 m4 hO3 (take32a (nx + 1 + 2 + i0) 0 w (0 + c0 + (w.l.length - c0)) 1 (by omega) (by omega) (by omega)) (by omega) (by omega)
  rw [hM7] at d2'
  obtain ⟨M8, hM8⟩ : ∃ M8 : List (Nat × Box), ([(nx, ⟨0, scL s⟩), (nx + 1, ⟨0, scL s⟩), (x2, ⟨0, scL s⟩)] ++ ((x2 + 1, ⟨0, netC σ2⟩) :: tb5)) ++ (nx + 2, ⟨0, netC σ1⟩) :: tb6 = M8 := ⟨_, rfl⟩
  rw [hM8] at d2'
  have hM8n : ∀ b ∈ M8, nx ≤ b.1 := fun b hb => by
    rw [← hM8] at hb
    rcases List.mem_append.1 hb with hb | hb
    · rcases List.mem_append.1 hb with hb | hb
      · have := X3 b hb; omega
      · have := k2 tb5 hT5 b hb; omega
    · have := k1 tb6 hT6 b hb; omega
  obtain ⟨r0, hr0⟩ : ∃ r0, w.l.length - c0 = r0 := ⟨_, rfl⟩
  have hw6 : IntKind.i64.wrap ((w.l.length : Int) - (c0 : Int)) = (r0 : Int) := by rw [wrap_nat (by omega) (by omega)]; omega
  rw [hr0] at b2
  simp only [Nat.zero_add] at b2
  have c20 := fun A A2 cap cap2 => callP (words20 false false A A2 cap cap2 w.l w.l (by omega)) (k := k) (by omega) (by simp) rfl
  simp only [decide_true] at c20
  have hsum : c0 + r0 = w.l.length := by omega
  have happ : uL (w.l.take c0) ++ uL ((w.l.drop c0).take r0) = uL w.l := by
    rw [← uL_append]
    congr 1
    rw [List.take_of_length_le (l := w.l.drop c0) (by rw [List.length_drop]; omega), List.take_append_drop]
  have g1 : c0 * 8 ≤ 140737488355328 := by omega
  have g2 : c0 ≤ 140737488355328 := by omega
  have g3 : r0 * 8 ≤ 140737488355328 := by omega
  have g4 : r0 ≤ 140737488355328 := by omega
  have g5 : (c0 + r0) * 8 ≤ 140737488355328 := by omega
  have g6 : c0 + r0 ≤ 140737488355328 := by omega
  have hmc : min c0 w.l.length = c0 := by omega
  have hmn : min r0 (w.l.length - c0) = r0 := by omega
  have gl1 : w.l.length * 8 ≤ 140737488355328 := by omega
  have gl2 : w.l.length ≤ 140737488355328 := by omega
  have z0 : ∀ l : List Nat, l.length = 0 → uL l = [] := fun l h => by rw [List.length_eq_zero_iff.1 h]; rfl
  rcases takeV_cases w hwok.1 0 c0 with ⟨y0, da, ya⟩ | ⟨y0, Aa, ya⟩ <;> rcases takeV_cases w hwok.1 c0 r0 with ⟨y1, db, yb⟩ | ⟨y1, Ab, yb⟩ <;> rcases takeV_cases w hwok.1 0 w.l.length with ⟨y2, dd, yd⟩ | ⟨y2, Ad, yd⟩
  all_goals try omega
  all_goals rw [ya] at a2; rw [yb] at b2; rw [yd] at c2
  all_goals
    simp [-EvK_app, -reach, -doCall, doCall_eq, d7, d9, d11, d12, d13, dm, dx, a1, a2]
    refine EvK_cut (fun D => D.s 7 = .bptr (nx + 2) 0 ∧ D.s 9 = .bptr (x2 + 1) 0 ∧ D.s 11 = .int .i64 ((i0 : Int) + 1) ∧ D.s 12 = rV w ∧ D.s 13 = .int .i64 (c0 : Int) ∧ D.s 14 = takeV w 0 c0 ∧ D.s 15 = .int .i64 0 ∧ D.m = M3 ∧ D.nx = xx) (by simp [d7, d9, d11, d12, d13, rV, ya]) fun D ⟨d7, d9, d11, d12, d13, d14, d15, dm, dx⟩ => ?_
    simp only [rV, ya] at d12 d14
    simp [-EvK_app, -reach, -doCall, doCall_eq, d7, d9, d11, d12, d13, d14, d15, dm, dx, b1, b2, hw6]
    refine EvK_cut (fun D => D.s 7 = .bptr (nx + 2) 0 ∧ D.s 9 = .bptr (x2 + 1) 0 ∧ D.s 11 = .int .i64 ((i0 : Int) + 1) ∧ D.s 12 = rV w ∧ D.s 14 = takeV w 0 c0 ∧ D.s 15 = .int .i64 0 ∧ D.s 16 = takeV w c0 r0 ∧ D.s 17 = .int .i64 0 ∧ D.m = M4 ∧ D.nx = xx) (by simp [d7, d9, d11, d12, d14, d15, rV, ya, yb]) fun D ⟨d7, d9, d11, d12, d14, d15, d16, d17, dm, dx⟩ => ?_
    simp only [rV, ya, yb] at d12 d14 d16
    simp [-EvK_app, -reach, -doCall, doCall_eq, d7, d9, d11, d12, d14, d15, d16, d17, dm, dx, c1, c2]
    refine EvK_cut (fun D => D.s 7 = .bptr (nx + 2) 0 ∧ D.s 11 = .int .i64 ((i0 : Int) + 1) ∧ D.s 12 = rV w ∧ D.s 14 = takeV w 0 c0 ∧ D.s 15 = .int .i64 0 ∧ D.s 16 = takeV w c0 r0 ∧ D.s 17 = .int .i64 0 ∧ D.s 18 = takeV w 0 w.l.length ∧ D.s 19 = .int .i64 0 ∧ D.m = M6 ∧ D.nx = xx) (by simp [d7, d11, d12, d14, d15, d16, d17, rV, ya, yb, yd]) fun D ⟨d7, d11, d12, d14, d15, d16, d17, d18, d19, dm, dx⟩ => ?_
    simp only [rV, ya, yb, yd] at d12 d14 d16 d18
    simp [-EvK_app, -reach, -doCall, doCall_eq, d7, d11, d12, d14, d15, d16, d17, d18, d19, dm, dx, d1', d2']
    refine EvK_cut (fun D => D.s 12 = rV w ∧ D.s 14 = takeV w 0 c0 ∧ D.s 15 = .int .i64 0 ∧ D.s 16 = takeV w c0 r0 ∧ D.s 17 = .int .i64 0 ∧ D.s 18 = takeV w 0 w.l.length ∧ D.s 19 = .int .i64 0 ∧ D.s 21 = .int .i64 10 ∧ D.m = M8 ∧ D.nx = xx) (by simp [d12, d14, d15, d16, d17, d18, d19, rV, ya, yb, yd]) fun D ⟨d12, d14, d15, d16, d17, d18, d19, d21, dm, dx⟩ => ?_
    simp only [rV, ya, yb, yd] at d12 d14 d16 d18
  · have e0 : w.l.length = 0 := by omega
    have eu : uL w.l = [] := z0 _ e0
    simp only [e0, eu] at c20
    simp [-reach, -doCall, doCall_eq, d12, d14, d15, d16, d17, d18, d19, d21, dm, dx, c20, e0, eu]
    exact fun a b h => hM8n (a, b) h
  · have em : (w.l.drop c0).take r0 = w.l := by rw [y0, List.drop_zero, List.take_of_length_le (by omega)]
    have er : r0 = w.l.length := by omega
    simp [-reach, -doCall, doCall_eq, d12, d14, d15, d16, d17, d18, d19, d21, dm, dx, c20, y0, er, gl1, gl2]
    exact fun a b h => hM8n (a, b) h
  · have ec : c0 = w.l.length := by omega
    have em : w.l.take c0 = w.l := List.take_of_length_le (by omega)
    simp [-reach, -doCall, doCall_eq, d12, d14, d15, d16, d17, d18, d19, d21, dm, dx, c20, ec, gl1, gl2]
    exact fun a b h => hM8n (a, b) h
  · simp [-reach, -doCall, doCall_eq, d12, d14, d15, d16, d17, d18, d19, d21, dm, dx, c20, hsum, happ, g1, g2, g3, g4, g5, g6, hmc, hmn, gl1, gl2]
    exact fun a b h => hM8n (a, b) h
end Go.Abs
end
