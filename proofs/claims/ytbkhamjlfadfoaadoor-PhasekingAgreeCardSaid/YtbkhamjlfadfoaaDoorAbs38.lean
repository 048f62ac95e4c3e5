/- Joined: AbsPV AbsPW. -/
import Derived.Test.YtbkhamjlfadfoaaDoorAbs28
import Derived.Test.YtbkhamjlfadfoaaDoorAbs37
set_option linter.all false
set_option linter.unusedVariables false
noncomputable section
namespace Go.Abs
open Go Go.Proofs
set_option maxRecDepth 100000
def phasesR (n t : Nat) (a : Ph) : Nat → Ph
  | 0 => a
  | k + 1 => phaseR n t k (phasesR n t a k)
theorem PhQ.phases {N b n t : Nat} {tb : List (Nat × Box)} {s : Scn} {tp : List Nat} {a : Ph} (h : PhQ N b n t tb s tp a) (hn : s.n = (n : Int)) (htn : t < n) : ∀ k, PhQ N b n t tb s tp (phasesR n t a k) ∧ (phasesR n t a k).σ.round = a.σ.round + 3 * k
  | 0 => ⟨h, by simp [phasesR]⟩
  | k + 1 => by
    obtain ⟨h1, h2⟩ := PhQ.phases h hn htn k
    obtain ⟨h3, h4⟩ := h1.phase hn htn k
    exact ⟨h3, by show (phaseR _ _ _ _).σ.round = _; rw [h4, h2]; push_cast; omega⟩
set_option maxHeartbeats 8000000 in
theorem refAgree25 {N b g : Nat} {σ : NetS} {tb : List (Nat × Box)} (I : NetI N b σ tb) (pm : Bool) (A : Option Addr) (cap : Nat) (vs : List Nat) (n t : Nat) (hl : vs.length = n) (hn : σ.scn.n = (n : Int)) (ht : σ.scn.t = (t : Int)) (htn : t < n) (hvs : ∀ x ∈ vs, x < σ.scn.p) (hr : σ.round + 3 * (t + 1) < 1000) :
    AnsM (max N 1200 + 4) Tryd.prog H14 25 [.bptr b 0, .im pm A cap n (uL vs)] ((b, ⟨g, netC σ⟩) :: tb) (.own .nil 0 n (uL (phasesR n t ⟨σ, vs⟩ (t + 1)).vs)) ((b, ⟨g, netC (phasesR n t ⟨σ, vs⟩ (t + 1)).σ⟩) :: tb) := by
  have h13 : n ≤ 13 := by have := I.h13; omega
  have hP0 : PhQ N b n t tb σ.scn σ.tp ⟨σ, vs⟩ := ⟨⟨I, rfl, rfl⟩, hl, hvs⟩
  refine AnsM.gen (fn := Tryd.f25) (by rfl) Tryd.func25 rfl (by rfl) (fun nx h c hc => ?_) fun k hk nx h => ?_
  · simp only [ptrs, nil_uL, List.nil_append] at hc
    exact net_ptrs (σ := (phasesR n t ⟨σ, vs⟩ (t + 1)).σ) (hP0.phases hn htn (t + 1)).1.o.I.hT (fun e he => by
      rcases List.mem_cons.1 he with rfl | he
      · exact h (b, ⟨g, netC σ⟩) List.mem_cons_self
      · exact h _ (List.mem_cons_of_mem _ he)) hc
  obtain ⟨hb, hfl⟩ := net_filt h
  have hnet : ∀ τ : NetS, ∀ e ∈ (b, (⟨g, netC τ⟩ : Box)) :: tb, e.1 < nx := fun τ e he => by
    rcases List.mem_cons.1 he with rfl | he
    · exact hb
    · exact h _ (List.mem_cons_of_mem _ he)
  obtain ⟨Mf, hMf⟩ : ∃ Mf : NetS → List (Nat × Box), Mf = fun τ => (b, (⟨g, netC τ⟩ : Box)) :: tb := ⟨_, rfl⟩
  have hM : ∀ τ, (b, (⟨g, netC τ⟩ : Box)) :: tb = Mf τ := fun τ => by rw [hMf]
  have hff : ∀ τ, (Mf τ).filter (fun e => decide (e.1 < nx)) = Mf τ := fun τ => by rw [← hM]; exact filt_lt (hnet τ)
  have f1 : n * 8 ≤ 140737488355328 := by omega
  have f2 : n ≤ 140737488355328 := by omega
  have hn0 : ¬ n = 0 := by omega
  have hul : (uL vs).length = n := by simp [uL, hl]
  rw [hM, hM]
  obtain ⟨J, hJ⟩ : ∃ J : Nat → St → Prop, J = fun q D => ∃ (j : Nat) (a : Ph), q = t + 1 - j ∧ j ≤ t + 1 ∧ a = phasesR n t ⟨σ, vs⟩ j ∧ D.s 0 = .bptr b 0 ∧ D.s 5 = .own .nil 0 n (uL a.vs) ∧ D.s 6 = .int .i64 ((j : Int) + 1) ∧ D.m = Mf a.σ ∧ D.nx = nx := ⟨_, rfl⟩
  simp [-reach, -doCall, doCall_eq, entryS, hl, hul, f1, f2, hn0]
  refine EvP.loop J (n := t + 1) (by rw [hJ]; exact ⟨0, ⟨σ, vs⟩, by simp, by simp, rfl, by simp⟩) (by omega) fun q D hD => ?_
  rw [hJ] at hD
  obtain ⟨j, a, rfl, hj, ha, d0, d5, d6, dm, dx⟩ := hD
  obtain ⟨hPa, hra⟩ := hP0.phases hn htn j
  rw [← ha] at hPa hra
  have hra : a.σ.round = σ.round + 3 * (j : Int) := hra
  have hs := hPa.o.s
  have hT := hPa.o.I.hT
  have c51 := fun s dst => netCall0 (s := s) (dst := dst) (g := g) hT hPa.o.I.hl rfl (scen51 b g a.σ tb hT) (k := k) (by omega) (by simp [ptrsL, ptrs]) rfl (hnet a.σ)
  rw [hs, hM] at c51
  simp only [scV, scL, hn, ht] at c51
  have hw33 : IntKind.i64.wrap ((t : Int) + 1) = (t : Int) + 1 := wrapi (by omega) (by omega)
  by_cases hjt : j < t + 1
  · have e3 := wrapi (x := (j : Int) + 1 + 1) (by omega) (by omega)
    have g2 : (j : Int) + 1 ≤ (t : Int) + 1 := by omega
    have hjt2 : j ≤ t := by omega
    obtain ⟨hPb, hrb⟩ := hPa.phase hn htn j
    have c52 := fun A cap s dst => netCall0 (s := s) (dst := dst) (g := g) hT hPa.o.I.hl (hPb.o.tp.trans hPa.o.tp.symm) (phase52 (g := g) hPa.o.I false A cap a.vs n t j hPa.l (by rw [hs, hn]) (by rw [hs, ht]) htn (by omega) (by rw [hs]; exact hPa.v) (by rw [hra]; omega)) (k := k) (by omega) (by simp [ptrsL, ptrs, nil_uL]) rfl (hnet a.σ)
    have hae : (⟨a.σ, a.vs⟩ : Ph) = a := rfl
    simp only [hae, hM] at c52
    simp [-reach, -doCall, doCall_eq, d0, d5, d6, dm, dx, c51, hw33, g2, hjt2, c52, e3]
    subst hJ
    exact ⟨t + 1 - (j + 1), by omega, j + 1, phaseR n t j a, rfl, by omega, by rw [ha]; rfl, by simp [d0], by simp, by simp, rfl, rfl⟩
  · have hje : j = t + 1 := by omega
    have g2 : ¬ (j : Int) + 1 ≤ (t : Int) + 1 := by omega
    have hjt2 : ¬ j ≤ t := by omega
    rw [hje] at ha
    have hff := hff a.σ
    simp [-reach, -doCall, doCall_eq, d0, d5, d6, dm, dx, c51, hw33, g2, hjt2, ← ha, hff]
end Go.Abs
end
set_option linter.unusedVariables false
noncomputable section
namespace Go.Abs
open Go Go.Proofs
set_option maxRecDepth 100000
structure LikeW (σ τ : NetS) : Prop where
  p : τ.scn.p = σ.scn.p
  c : τ.scn.corrupt = σ.scn.corrupt
  d : τ.scn.devs = σ.scn.devs
  r : τ.round = σ.round
theorem LikeW.said {σ τ : NetS} (h : LikeW σ τ) (n : Nat) (L : List (List Nat)) : saidE τ n L = saidE σ n L := by
  unfold saidE netSaid
  rw [h.p, h.c, h.d, h.r]
theorem LikeW.sent {σ τ : NetS} (h : LikeW σ τ) (n : Nat) (L : List (List Nat)) : LikeW (sentE σ n L) (rsent τ n L) := by
  obtain ⟨a1, _, _, a4⟩ := like_sentS cpW (saidE σ n L) n σ
  obtain ⟨b1, _, _, b4⟩ := like_sentS lnW (saidE τ n L) n τ
  exact ⟨(congrArg (·.p) b1).trans (h.p.trans (congrArg (·.p) a1).symm), (congrArg (·.corrupt) b1).trans (h.c.trans (congrArg (·.corrupt) a1).symm), (congrArg (·.devs) b1).trans (h.d.trans (congrArg (·.devs) a1).symm), b4.trans ((congrArg (· + 1) h.r).trans a4.symm)⟩
abbrev AllQ : Nat → Prop := fun _ => True
theorem LikeW.alike {σ τ : NetS} (h : LikeW σ τ) {n : Nat} (al : Alike n AllQ σ τ) (L : List (List Nat)) : Alike n AllQ (sentE σ n L) (rsent τ n L) := by
  unfold sentE rsent
  rw [h.said]
  exact alike_sent al h.r cpW lnW (fun _ => rfl) fun _ _ _ _ _ => rfl
section
variable {n t k : Nat} {a a' : Ph} {H : Nat → Bool}
theorem phase_ref (hw : LikeW a.σ a'.σ) (hv : a'.vs = a.vs) (al : Alike n AllQ a.σ a'.σ) (hlk : ∀ w, w < n → lock2 n t (hS (phB n t a)) w = ((leastS n (hS (phB n t a) w) (t + 1)).isSome && decide (n - t ≤ votes n (hS (phB n t a) w) (val2 n t (vF a.vs) (hS (phB n t a)) w)))) :
    LikeW (phase n t k a).σ (phaseR n t k a').σ ∧ (phaseR n t k a').vs = (phase n t k a).vs ∧ Alike n AllQ (phase n t k a).σ (phaseR n t k a').σ := by
  have eA : rfA n a' = phA n a := by unfold rfA phA; rw [hv, hw.said]
  have w1 : LikeW (phσ1 n a) (rf1 n a') := by unfold phσ1 rf1; rw [hv]; exact hw.sent n _
  have l1 : Alike n AllQ (phσ1 n a) (rf1 n a') := by unfold phσ1 rf1; rw [hv]; exact hw.alike al _
  have eB : rfB n t a' = phB n t a := by unfold rfB phB; rw [eA, w1.said]
  have w2 : LikeW (phσ2 n t a) (rf2 n t a') := by unfold phσ2 rf2; rw [eA]; exact w1.sent n _
  have l2 : Alike n AllQ (phσ2 n t a) (rf2 n t a') := by unfold phσ2 rf2; rw [eA]; exact w1.alike l1 _
  have eV : rfV n t a' = phV n t a := by unfold rfV phV; rw [eB, hv]
  have eC : rfC n t k a' = phC n t k a := by unfold rfC phC; rw [eV, w2.said]
  have w3 : LikeW (phσ3 n t k a) (rf3 n t k a') := by unfold phσ3 rf3; rw [eV]; exact w2.sent n _
  have l3 : Alike n AllQ (phσ3 n t k a) (rf3 n t k a') := by unfold phσ3 rf3; rw [eV]; exact w2.alike l2 _
  refine ⟨w3, ?_, l3⟩
  show (List.range n).map (rfO n t k a') = (List.range n).map (out3 n t k (vF a.vs) (hS (phB n t a)) (hS (phC n t k a)))
  refine List.map_congr_left fun w hw' => ?_
  have hw' := List.mem_range.1 hw'
  unfold rfO rfL out3
  rw [eB, eC, hv, hlk w hw']
end
theorem phases_ref {N b n t : Nat} {tb : List (Nat × Box)} {s : Scn} {tp : List Nat} {a a' : Ph} {H : Nat → Bool} (h : PhO N b n t tb s tp a) (hn : s.n = (n : Int)) (g : Good n t H) (hh : Hears s n H) (hw : LikeW a.σ a'.σ) (hv : a'.vs = a.vs) (al : Alike n AllQ a.σ a'.σ) :
    ∀ k, k ≤ t + 1 → LikeW (phases n t a k).σ (phasesR n t a' k).σ ∧ (phasesR n t a' k).vs = (phases n t a k).vs ∧ Alike n AllQ (phases n t a k).σ (phasesR n t a' k).σ
  | 0, _ => ⟨hw, hv, al⟩
  | k + 1, hk => by
    obtain ⟨i1, i2, i3⟩ := phases_ref h hn g hh hw hv al k (by omega)
    have g3 := g.third
    have r := run_of h hn (by omega) hh (t + 1) (by omega)
    exact phase_ref i1 i2 i3 fun w hw' => lock_ref g (r.s1 k (by omega)) (r.s2 k (by omega)) hw'
theorem lentS_idem (s : Scn) : lentS (lentS s) = lentS s := by
  have h : s.tapes.map (lent ∘ lent) = s.tapes.map lent := List.map_congr_left fun x _ => rfl
  unfold lentS
  simp only [List.map_map, h]
def nwR (s : Scn) (x : Nat) : NetS := net0 (lentS s) x (lentS s).tapes.length
def tbR (s : Scn) (x : Nat) : List (Nat × Box) := tapB tapeR (x + 2) (lentS s).tapes
theorem ptrsL_tapeR2 (w : RD) : ptrsL (tapeR w) = [] := by simp [tapeR, ptrsL, ptrs, nil_uL]
theorem nwR_I {s : Scn} {N : Nat} (hs : ScnS s) (hN : SendN (lentS s) N) (x : Nat) : NetI N (x + 1) (nwR s x) (tbR s x) := by
  have hs' : ScnS (lentS s) := (scnS_lent s).2 hs
  have h4 := scnS_n hs'
  have hl : ((lentS s).tapes.length : Int) = (lentS s).n := hs'.2.1
  exact net0_I _ ptrsL_tapeR2 (lentS s) x hs' (by rw [lentS_idem]; exact hN) (scnS_pq hs') h4.2 (by omega)
theorem nw_like (s : Scn) (nx x n : Nat) (hn : s.n = (n : Int)) : LikeW (nwO s nx) (nwR s x) ∧ Alike n AllQ (nwO s nx) (nwR s x) := by
  refine ⟨⟨rfl, rfl, rfl, rfl⟩, fun w hw _ => ⟨[], [], ?_, ?_, rfl⟩⟩
  · show (List.replicate s.n.toNat ([] : List Ev))[w]? = _
    rw [hn]; simp [hw]
  · show (List.replicate (lentS s).n.toNat ([] : List Ev))[w]? = _
    show (List.replicate s.n.toNat ([] : List Ev))[w]? = _
    rw [hn]; simp [hw]
theorem vw_sentE {p n : Nat} {σ : NetS} (h : VW σ) {L : List (List Nat)} (hM : MsOk p n (saidE σ n L)) : VW (sentE σ n L) := h.sent cpW (fun _ => rfl) fun f w => sw_le hM f w
theorem vw_rsent {p n : Nat} {σ : NetS} (h : VW σ) {L : List (List Nat)} (hM : MsOk p n (saidE σ n L)) : VW (rsent σ n L) := h.sent lnW (fun _ => rfl) fun f w => sw_le hM f w
theorem PhO.vw {N b n t : Nat} {tb : List (Nat × Box)} {s : Scn} {tp : List Nat} {a : Ph} (h : PhO N b n t tb s tp a) (hn : s.n = (n : Int)) (htn : t < n) (hv : VW a.σ) : ∀ k, VW (Go.Abs.phases n t a k).σ
  | 0 => hv
  | k + 1 => by
    obtain ⟨h1, _⟩ := h.phases hn htn k
    have F := h1.facts hn htn k
    have e1 : VW (phσ1 n (Go.Abs.phases n t a k)) := vw_sentE (PhO.vw h hn htn hv k) F.A
    have e2 : VW (phσ2 n t (Go.Abs.phases n t a k)) := vw_sentE e1 F.B
    show VW (phσ3 n t k (Go.Abs.phases n t a k))
    exact vw_sentE e2 F.C
theorem PhQ.vw {N b n t : Nat} {tb : List (Nat × Box)} {s : Scn} {tp : List Nat} {a : Ph} (h : PhQ N b n t tb s tp a) (hn : s.n = (n : Int)) (htn : t < n) (hv : VW a.σ) : ∀ k, VW (phasesR n t a k).σ
  | 0 => hv
  | k + 1 => by
    obtain ⟨h1, _⟩ := h.phases hn htn k
    have F := h1.facts hn htn k
    have e1 : VW (rf1 n (phasesR n t a k)) := vw_rsent (PhQ.vw h hn htn hv k) F.A
    have e2 : VW (rf2 n t (phasesR n t a k)) := vw_rsent e1 F.B
    show VW (rf3 n t k (phasesR n t a k))
    exact vw_rsent e2 F.C
end Go.Abs
end
