/- Joined: AbsQJ AbsPV AbsPW AbsQK AbsQL0 AbsQM. -/
import Derived.Test.YtbkhamjlfadfoaaDoorAbs328
import Derived.Test.YtbkhamjlfadfoaaDoorAbs330
import Derived.Test.YtbkhamjlfadfoaaDoorAbs331
import Derived.Test.YtbkhamjlfadfoaaDoorAbs332
import Derived.Test.YtbkhamjlfadfoaaDoorAbs333
set_option linter.all false
set_option maxHeartbeats 16000000
noncomputable section
namespace Go.Abs
open Go Go.Proofs
set_option maxRecDepth 100000
def dvP (z : Play) (l : List Dev) : Play := { z with s := { z.s with devs := l, dpm := true, dA := none, dcap := 0 } }
def phasesR (n t : Nat) (a : Ph) : Nat → Ph
 | 0 => a
 | k + 1 => phaseR n t k (phasesR n t a k)
theorem PhQ.phases {N b n t : Nat} {tb : List (Nat × Box)} {s : Scn} {tp : List Nat} {a : Ph} (h : PhQ N b n t tb s tp a) (hn : s.n = (n : Int)) (htn : t < n) : ∀ k, PhQ N b n t tb s tp (phasesR n t a k) ∧ (phasesR n t a k).σ.round = a.σ.round + 3 * k
 | 0 => ⟨h, by simp [phasesR]⟩
 | k + 1 => by
   obtain ⟨h1, h2⟩ := PhQ.phases h hn htn k
   obtain ⟨h3, h4⟩ := h1.phase hn htn k
   exact ⟨h3, by show (phaseR _ _ _ _).σ.round = _; rw [h4, h2]; push_cast; omega⟩
theorem refAgree25 {N b g : Nat} {σ : NetS} {tb : List (Nat × Box)} (I : NetI N b σ tb) (pm : Bool) (A : Option Addr) (cap : Nat) (vs : List Nat) (n t : Nat) (hl : vs.length = n) (hn : σ.scn.n = (n : Int)) (ht : σ.scn.t = (t : Int)) (htn : t < n) (hvs : ∀ x ∈ vs, x < σ.scn.p) (hr : σ.round + 3 * (t + 1) < 1000) :
 AnsM (max N 1200 + 4) Tryd.prog H14 25 [.bptr b 0, .im pm A cap n (uL vs)] ((b, ⟨g, netC σ⟩) :: tb) (.own .nil 0 n (uL (phasesR n t ⟨σ, vs⟩ (t + 1)).vs)) ((b, ⟨g, netC (phasesR n t ⟨σ, vs⟩ (t + 1)).σ⟩) :: tb) := by
 have h13 : n ≤ 13 := by have := I.h13; omega
 have hP0 : PhQ N b n t tb σ.scn σ.tp ⟨σ, vs⟩ := ⟨⟨I, rfl, rfl⟩, hl, hvs⟩
 refine AnsM.gen (fn := Tryd.f25) (by rfl) Tryd.func25 rfl (by rfl) (fun nx h c hc => ?_) fun k hk nx h => ?_
 ·simp only [ptrs, nil_uL, List.nil_append] at hc
  exact net_ptrs (σ := (phasesR n t ⟨σ, vs⟩ (t + 1)).σ) (hP0.phases hn htn (t + 1)).1.o.I.hT (fun e he => by
   rcases List.mem_cons.1 he with rfl | he
   ·exact h (b, ⟨g, netC σ⟩) List.mem_cons_self
   ·exact h _ (List.mem_cons_of_mem _ he)) hc
 obtain ⟨hb, hfl⟩ := net_filt h
 have hnet : ∀ τ : NetS, ∀ e ∈ (b, (⟨g, netC τ⟩ : Box)) :: tb, e.1 < nx := fun τ e he => by
  rcases List.mem_cons.1 he with rfl | he
  ·exact hb
  ·exact h _ (List.mem_cons_of_mem _ he)
 obtain ⟨Mf, hMf⟩ : ∃ Mf : NetS → List (Nat × Box), Mf = fun τ => (b, (⟨g, netC τ⟩ : Box)) :: tb := ⟨_, rfl⟩
 have hM : ∀ τ, (b, (⟨g, netC τ⟩ : Box)) :: tb = Mf τ := fun τ => by rw [hMf]
 have hff : ∀ τ, (Mf τ).filter (fun e => decide (e.1 < nx)) = Mf τ := fun τ => by rw [← hM]; exact filt_lt (hnet τ)
 have f1 : n * 8 ≤ 140737488355328 := by omega
 have f2 : n ≤ 140737488355328 := by omega
 have hn0 : ¬ n = 0 := by omega
 have hul : (uL vs).length = n := by simp [uL, hl]
 rw [hM, hM]
 obtain ⟨J, hJ⟩ : ∃ J : Nat → St → Prop, J = fun q D => ∃ (j : Nat) (a : Ph), q = t + 1 - j ∧ j ≤ t + 1 ∧ a = phasesR n t ⟨σ, vs⟩ j ∧ D.s 0 = .bptr b 0 ∧ D.s 5 = .own .nil 0 n (uL a.vs) ∧ D.s 6 = .int .i64 ((j : Int) + 1) ∧ D.m = Mf a.σ ∧ D.nx = nx := ⟨_, rfl⟩
 simp [-reach, -doCall, doCall_eq, entryS, hl, hul, f1, f2, hn0]
 refine EvP.loop J (n := t + 1) (by rw [hJ]; exact ⟨0, ⟨σ, vs⟩, by simp, by simp, rfl, by simp⟩) (by omega) fun q D hD => ?_
 rw [hJ] at hD
 obtain ⟨j, a, rfl, hj, ha, d0, d5, d6, dm, dx⟩ := hD
 obtain ⟨hPa, hra⟩ := hP0.phases hn htn j
 rw [← ha] at hPa hra
 have hra : a.σ.round = σ.round + 3 * (j : Int) := hra
 have hs := hPa.o.s
 have hT := hPa.o.I.hT
 have c51 := fun s dst => netCall0 (s := s) (dst := dst) (g := g) hT hPa.o.I.hl rfl (scen51 b g a.σ tb hT) (k := k) (by omega) (by simp [ptrsL, ptrs]) rfl (hnet a.σ)
 rw [hs, hM] at c51
 simp only [scV, scL, hn, ht] at c51
 have hw33 : IntKind.i64.wrap ((t : Int) + 1) = (t : Int) + 1 := wrapi (by omega) (by omega)
 by_cases hjt : j < t + 1
 ·have e3 := wrapi (x := (j : Int) + 1 + 1) (by omega) (by omega)
  have g2 : (j : Int) + 1 ≤ (t : Int) + 1 := by omega
  have hjt2 : j ≤ t := by omega
  obtain ⟨hPb, hrb⟩ := hPa.phase hn htn j
  have c52 := fun A cap s dst => netCall0 (s := s) (dst := dst) (g := g) hT hPa.o.I.hl (hPb.o.tp.trans hPa.o.tp.symm) (phase52 (g := g) hPa.o.I false A cap a.vs n t j hPa.l (by rw [hs, hn]) (by rw [hs, ht]) htn (by omega) (by rw [hs]; exact hPa.v) (by rw [hra]; omega)) (k := k) (by omega) (by simp [ptrsL, ptrs, nil_uL]) rfl (hnet a.σ)
  have hae : (⟨a.σ, a.vs⟩ : Ph) = a := rfl
  simp only [hae, hM] at c52
  simp [-reach, -doCall, doCall_eq, d0, d5, d6, dm, dx, c51, hw33, g2, hjt2, c52, e3]
  subst hJ
  exact ⟨t + 1 - (j + 1), by omega, j + 1, phaseR n t j a, rfl, by omega, by rw [ha]; rfl, by simp [d0], by simp, by simp, rfl, rfl⟩
 ·have hje : j = t + 1 := by omega
  have g2 : ¬ (j : Int) + 1 ≤ (t : Int) + 1 := by omega
  have hjt2 : ¬ j ≤ t := by omega
  rw [hje] at ha
  have hff := hff a.σ
  simp [-reach, -doCall, doCall_eq, d0, d5, d6, dm, dx, c51, hw33, g2, hjt2, ← ha, hff]
structure LikeW (σ τ : NetS) : Prop where
 p : τ.scn.p = σ.scn.p
 c : τ.scn.corrupt = σ.scn.corrupt
 d : τ.scn.devs = σ.scn.devs
 r : τ.round = σ.round
theorem LikeW.said {σ τ : NetS} (h : LikeW σ τ) (n : Nat) (L : List (List Nat)) : saidE τ n L = saidE σ n L := by
 unfold saidE netSaid
 rw [h.p, h.c, h.d, h.r]
theorem LikeW.sent {σ τ : NetS} (h : LikeW σ τ) (n : Nat) (L : List (List Nat)) : LikeW (sentE σ n L) (rsent τ n L) := by
 obtain ⟨a1, _, _, a4⟩ := like_sentS cpW (saidE σ n L) n σ
 obtain ⟨b1, _, _, b4⟩ := like_sentS lnW (saidE τ n L) n τ
 exact ⟨(congrArg (·.p) b1).trans (h.p.trans (congrArg (·.p) a1).symm), (congrArg (·.corrupt) b1).trans (h.c.trans (congrArg (·.corrupt) a1).symm), (congrArg (·.devs) b1).trans (h.d.trans (congrArg (·.devs) a1).symm), b4.trans ((congrArg (· + 1) h.r).trans a4.symm)⟩
abbrev AllQ : Nat → Prop := fun _ => True
theorem LikeW.alike {σ τ : NetS} (h : LikeW σ τ) {n : Nat} (al : Alike n AllQ σ τ) (L : List (List Nat)) : Alike n AllQ (sentE σ n L) (rsent τ n L) := by
 unfold sentE rsent
 rw [h.said]
 exact alike_sent al h.r cpW lnW (fun _ => rfl) fun _ _ _ _ _ => rfl
section
variable {n t k : Nat} {a a' : Ph} {H : Nat → Bool}
theorem phase_ref (hw : LikeW a.σ a'.σ) (hv : a'.vs = a.vs) (al : Alike n AllQ a.σ a'.σ) (hlk : ∀ w, w < n → lock2 n t (hS (phB n t a)) w = ((leastS n (hS (phB n t a) w) (t + 1)).isSome && decide (n - t ≤ votes n (hS (phB n t a) w) (val2 n t (vF a.vs) (hS (phB n t a)) w)))) :
 LikeW (phase n t k a).σ (phaseR n t k a').σ ∧ (phaseR n t k a').vs = (phase n t k a).vs ∧ Alike n AllQ (phase n t k a).σ (phaseR n t k a').σ := by
 have eA : rfA n a' = phA n a := by unfold rfA phA; rw [hv, hw.said]
 have w1 : LikeW (phσ1 n a) (rf1 n a') := by unfold phσ1 rf1; rw [hv]; exact hw.sent n _
 have l1 : Alike n AllQ (phσ1 n a) (rf1 n a') := by unfold phσ1 rf1; rw [hv]; exact hw.alike al _
 have eB : rfB n t a' = phB n t a := by unfold rfB phB; rw [eA, w1.said]
 have w2 : LikeW (phσ2 n t a) (rf2 n t a') := by unfold phσ2 rf2; rw [eA]; exact w1.sent n _
 have l2 : Alike n AllQ (phσ2 n t a) (rf2 n t a') := by unfold phσ2 rf2; rw [eA]; exact w1.alike l1 _
 have eV : rfV n t a' = phV n t a := by unfold rfV phV; rw [eB, hv]
 have eC : rfC n t k a' = phC n t k a := by unfold rfC phC; rw [eV, w2.said]
 have w3 : LikeW (phσ3 n t k a) (rf3 n t k a') := by unfold phσ3 rf3; rw [eV]; exact w2.sent n _
 have l3 : Alike n AllQ (phσ3 n t k a) (rf3 n t k a') := by unfold phσ3 rf3; rw [eV]; exact w2.alike l2 _
 refine ⟨w3, ?_, l3⟩
 show (List.range n).map (rfO n t k a') = (List.range n).map (out3 n t k (vF a.vs) (hS (phB n t a)) (hS (phC n t k a)))
 refine List.map_congr_left fun w hw' => ?_
 have hw' := List.mem_range.1 hw'
 unfold rfO rfL out3
 rw [eB, eC, hv, hlk w hw']
end
theorem phases_ref {N b n t : Nat} {tb : List (Nat × Box)} {s : Scn} {tp : List Nat} {a a' : Ph} {H : Nat → Bool} (h : PhO N b n t tb s tp a) (hn : s.n = (n : Int)) (g : Good n t H) (hh : Hears s n H) (hw : LikeW a.σ a'.σ) (hv : a'.vs = a.vs) (al : Alike n AllQ a.σ a'.σ) :
 ∀ k, k ≤ t + 1 → LikeW (phases n t a k).σ (phasesR n t a' k).σ ∧ (phasesR n t a' k).vs = (phases n t a k).vs ∧ Alike n AllQ (phases n t a k).σ (phasesR n t a' k).σ
 | 0, _ => ⟨hw, hv, al⟩
 | k + 1, hk => by
   obtain ⟨i1, i2, i3⟩ := phases_ref h hn g hh hw hv al k (by omega)
   have g3 := g.third
   have r := run_of h hn (by omega) hh (t + 1) (by omega)
   exact phase_ref i1 i2 i3 fun w hw' => lock_ref g (r.s1 k (by omega)) (r.s2 k (by omega)) hw'
theorem lentS_idem (s : Scn) : lentS (lentS s) = lentS s := by
 have h : s.tapes.map (lent ∘ lent) = s.tapes.map lent := List.map_congr_left fun x _ => rfl
 unfold lentS
 simp only [List.map_map, h]
def nwR (s : Scn) (x : Nat) : NetS := net0 (lentS s) x (lentS s).tapes.length
def tbR (s : Scn) (x : Nat) : List (Nat × Box) := tapB tapeR (x + 2) (lentS s).tapes
theorem ptrsL_tapeR2 (w : RD) : ptrsL (tapeR w) = [] := by simp [tapeR, ptrsL, ptrs, nil_uL]
theorem nwR_I {s : Scn} {N : Nat} (hs : ScnS s) (hN : SendN (lentS s) N) (x : Nat) : NetI N (x + 1) (nwR s x) (tbR s x) := by
 have hs' : ScnS (lentS s) := (scnS_lent s).2 hs
 have h4 := scnS_n hs'
 have hl : ((lentS s).tapes.length : Int) = (lentS s).n := hs'.2.1
 exact net0_I _ ptrsL_tapeR2 (lentS s) x hs' (by rw [lentS_idem]; exact hN) (scnS_pq hs') h4.2 (by omega)
theorem nw_like (s : Scn) (nx x n : Nat) (hn : s.n = (n : Int)) : LikeW (nwO s nx) (nwR s x) ∧ Alike n AllQ (nwO s nx) (nwR s x) := by
 refine ⟨⟨rfl, rfl, rfl, rfl⟩, fun w hw _ => ⟨[], [], ?_, ?_, rfl⟩⟩
 ·show (List.replicate s.n.toNat ([] : List Ev))[w]? = _
  rw [hn]; simp [hw]
 ·show (List.replicate (lentS s).n.toNat ([] : List Ev))[w]? = _
  show (List.replicate s.n.toNat ([] : List Ev))[w]? = _
  rw [hn]; simp [hw]
theorem vw_sentE {p n : Nat} {σ : NetS} (h : VW σ) {L : List (List Nat)} (hM : MsOk p n (saidE σ n L)) : VW (sentE σ n L) := h.sent cpW (fun _ => rfl) fun f w => sw_le hM f w
theorem PhO.vw {N b n t : Nat} {tb : List (Nat × Box)} {s : Scn} {tp : List Nat} {a : Ph} (h : PhO N b n t tb s tp a) (hn : s.n = (n : Int)) (htn : t < n) (hv : VW a.σ) : ∀ k, VW (Go.Abs.phases n t a k).σ
 | 0 => hv
 | k + 1 => by
   obtain ⟨h1, _⟩ := h.phases hn htn k
   have F := h1.facts hn htn k
   have e1 : VW (phσ1 n (Go.Abs.phases n t a k)) := vw_sentE (PhO.vw h hn htn hv k) F.A
   have e2 : VW (phσ2 n t (Go.Abs.phases n t a k)) := vw_sentE e1 F.B
   show VW (phσ3 n t k (Go.Abs.phases n t a k))
   exact vw_sentE e2 F.C
theorem sameEvent82 (a b : Ev) (h : evK a = evK b) (hl : a.w.l.length ≤ 1000) : AnsN 1102 Tryd.prog H14 82 [.agg (evC a), .agg (evC b)] (.bool true) := by
 refine AnsN.of (fn := Tryd.f82) (t := 4) (by rfl) Tryd.func82 rfl rfl (by rfl) (by rfl) fun k hk nx => ?_
 have c36 := callP (same36 false false a.w.A b.w.A a.w.cap b.w.cap a.w.l b.w.l hl) (k := k) (by omega) (by simp [ptrsL, ptrs, nil_uL]) rfl
 obtain ⟨ra, fa, wa⟩ := a
 obtain ⟨rb, fb, wb⟩ := b
 have h1 : ra = rb := congrArg (fun x : Int × Int × List Nat => x.1) h
 have h2 : fa = fb := congrArg (fun x : Int × Int × List Nat => x.2.1) h
 have h3 : wa.l = wb.l := congrArg (fun x : Int × Int × List Nat => x.2.2) h
 subst h1 h2
 rw [decide_eq_true h3] at c36
 simp [-doCall, doCall_eq, entryS, evC, rV, c36]
 rintro a b (⟨rfl, -⟩ | ⟨rfl, -⟩) <;> omega
theorem evsC_take3 (es : List Ev) : ∀ i (h : i < es.length), ((evsC es).drop (i * 3)).take 3 = evC es[i] := by
 intro i h
 have hd : (evsC es).drop (i * 3) = evsC (es.drop i) := by
  induction es generalizing i with
  | nil => simp at h
  | cons e es ih =>
    cases i with
    | zero => simp
    | succ i =>
      have h3 : (evC e).length = 3 := rfl
      show (evC e ++ evsC es).drop ((i + 1) * 3) = _
      rw [show (i + 1) * 3 = (evC e).length + i * 3 by rw [h3]; omega, ← List.drop_drop, List.drop_left, ih i (by simpa using h)]
      rfl
 rw [hd, List.drop_eq_getElem_cons h]
 show (evC es[i] ++ evsC (es.drop (i + 1))).take 3 = _
 have h3 : (evC es[i]).length = 3 := rfl
 rw [← h3, List.take_left]
theorem firstDiff60 (pm pm2 : Bool) (A A2 : Option Addr) (cap cap2 : Nat) (a b : List Ev) (ha : a.length ≤ 100000) (hr : ∀ e ∈ a, e.w.l.length ≤ 1000) (he : a.map evK = b.map evK) : AnsN 100103 Tryd.prog H14 60 [.im pm A cap a.length (evsC a), .im pm2 A2 cap2 b.length (evsC b)] (.int .i64 (-1)) := by
 refine AnsN.of (fn := Tryd.f60) (t := 4) (by rfl) Tryd.func60 rfl rfl (by rfl) (by rfl) fun k hk nx => ?_
 have hl : a.length = b.length := by have := congrArg List.length he; simpa using this
 obtain ⟨n, hn⟩ : ∃ n, a.length = n := ⟨_, rfl⟩
 have hnb : b.length = n := by omega
 obtain ⟨ca, hca⟩ : ∃ c, evsC a = c := ⟨_, rfl⟩
 obtain ⟨cb, hcb⟩ : ∃ c, evsC b = c := ⟨_, rfl⟩
 have la : ca.length = n * 3 := by rw [← hca]; simp [hn]
 have lb : cb.length = n * 3 := by rw [← hcb]; simp [hnb]
 rw [hca, hcb, hn, hnb]
 obtain ⟨I, hI⟩ : ∃ I : Nat → St → Prop, I = fun q D => ∃ i : Nat, q = n - i ∧ i ≤ n ∧ D.s 0 = .im pm A cap n ca ∧ D.s 1 = .im pm2 A2 cap2 n cb ∧ D.s 5 = .int .i64 (i : Int) ∧ D.m = [] ∧ D.nx = nx := ⟨_, rfl⟩
 simp [entryS]
 refine EvP.loop I (n := n) (by rw [hI]; exact ⟨0, by simp⟩) (by omega) fun q D hD => ?_
 rw [hI] at hD
 obtain ⟨i, rfl, hi, d0, d1, d5, dm, dx⟩ := hD
 by_cases hlt : i < n
 ·have e3 := wrapi (x := (i : Int) + 1) (by omega) (by omega)
  have hia : i < a.length := by omega
  have hib : i < b.length := by omega
  have ta := evsC_take3 a i hia
  have tb := evsC_take3 b i hib
  obtain ⟨ea, hea⟩ : ∃ e, a[i] = e := ⟨_, rfl⟩
  obtain ⟨eb, heb⟩ : ∃ e, b[i] = e := ⟨_, rfl⟩
  rw [hca, hea] at ta
  rw [hcb, heb] at tb
  have hk : evK ea = evK eb := by
   have h1 := congrArg (fun l => l[i]?) he
   simp only [List.getElem?_map, List.getElem?_eq_getElem hia, List.getElem?_eq_getElem hib, Option.map_some, Option.some.injEq, hea, heb] at h1
   exact h1
  have c82 := callP (sameEvent82 (lentE ea) (lentE eb) hk (by show ea.w.l.length ≤ 1000; exact hr ea (hea ▸ List.getElem_mem hia))) (k := k) (by omega) (by simp [evC, rV, ptrsL, ptrs, lentE, lent, nil_uL]) rfl
  simp only [evC, lentE, lent, rV] at c82 ta tb
  have x1 : 3 ≤ n * 3 - i * 3 := by omega
  simp [-doCall, doCall_eq, d0, d1, d5, dm, dx, hlt, la, lb, x1, ta, tb, c82, e3]
  subst hI
  exact ⟨n - (i + 1), by omega, i + 1, rfl, by omega, by simp [d0], by simp [d1], by simp, by simp, by simp⟩
 ·simp [d0, d1, d5, dm, dx, hlt]
theorem same40 (pm pm2 : Bool) (A A2 : Option Addr) (cap cap2 : Nat) (a b : List Ev) (ha : a.length ≤ 100000) (hr : ∀ e ∈ a, e.w.l.length ≤ 1000) (he : a.map evK = b.map evK) : AnsN 100105 Tryd.prog H14 40 [.im pm A cap a.length (evsC a), .im pm2 A2 cap2 b.length (evsC b)] (.bool true) := by
 refine AnsN.of (fn := Tryd.f40) (t := 4) (by rfl) Tryd.func40 rfl rfl (by rfl) (by rfl) fun k hk nx => ?_
 have hk2 : (a.map lentE).map evK = (b.map lentE).map evK := by rw [evK_lent, evK_lent, he]
 have c60 := callP (firstDiff60 false false A A2 cap cap2 (a.map lentE) (b.map lentE) (by rw [List.length_map]; exact ha) (fun e he => by
  obtain ⟨e0, h0, rfl⟩ := List.mem_map.1 he
  exact hr e0 h0) hk2) (k := k) (by omega) (by simp) rfl
 simp only [List.length_map] at c60
 simp [-doCall, doCall_eq, entryS, frzL_evsC, c60]
def rRun (n t : Nat) (hd : Nat → Nat → List Nat) (i k : Nat) (s : BS) : Ph := phasesR n t ⟨s.σ, (List.range n).map fun j => vF (hd j i) k⟩ (t + 1)
def rStep (n t : Nat) (hd : Nat → Nat → List Nat) (i k : Nat) (s : BS) : BS := ⟨(rRun n t hd i k s).σ, fun j => addT (s.tk j) i (vF (rRun n t hd i k s).vs j)⟩
def rRow (n t : Nat) (hd : Nat → Nat → List Nat) (i : Nat) (s : BS) : Nat → BS
 | 0 => s
 | k + 1 => rStep n t hd i k (rRow n t hd i s k)
def rAll (n t : Nat) (hd : Nat → Nat → List Nat) (ln : Nat → Nat) (s : BS) : Nat → BS
 | 0 => s
 | i + 1 => rRow n t hd i (rAll n t hd ln s i) (ln i)
section
variable {N b n t : Nat} {tb : List (Nat × Box)} {s : Scn} {tp : List Nat} {hd : Nat → Nat → List Nat}
theorem rRun_ok {z : BS} (h : NetQ N b tb s tp z.σ) (hn : s.n = (n : Int)) (htn : t < n) (hp : ∀ j i, ∀ x ∈ hd j i, x < s.p) (i k : Nat) : PhQ N b n t tb s tp (rRun n t hd i k z) ∧ (rRun n t hd i k z).σ.round = z.σ.round + 3 * ((t + 1 : Nat) : Int) := by
 have p0 : 0 < s.p := by have := h.I.p0; rwa [h.s] at this
 have h0 : PhQ N b n t tb s tp ⟨z.σ, (List.range n).map fun j => vF (hd j i) k⟩ := ⟨h, map_len _ _, fun x hx => by
  obtain ⟨j, _, rfl⟩ := List.mem_map.1 hx
  exact vF_lt p0 (hp j i) k⟩
 exact h0.phases hn htn (t + 1)
theorem rRow_ok {z : BS} (h : NetQ N b tb s tp z.σ) (hn : s.n = (n : Int)) (htn : t < n) (hp : ∀ j i, ∀ x ∈ hd j i, x < s.p) (i : Nat) : ∀ k, NetQ N b tb s tp (rRow n t hd i z k).σ ∧ (rRow n t hd i z k).σ.round = z.σ.round + 3 * ((t + 1 : Nat) : Int) * (k : Int) ∧ ∀ j, ((rRow n t hd i z k).tk j i).length = (z.tk j i).length + k
 | 0 => ⟨h, by simp [rRow], fun j => rfl⟩
 | k + 1 => by
   obtain ⟨h1, h2, h3⟩ := rRow_ok h hn htn hp i k
   obtain ⟨h4, h5⟩ := rRun_ok h1 hn htn hp i k
   refine ⟨h4.o, ?_, fun j => ?_⟩
   ·show (rRun n t hd i k (rRow n t hd i z k)).σ.round = _
    rw [h5, h2, Int.add_assoc]
    congr 1
   ·show (addT ((rRow n t hd i z k).tk j) i _ i).length = _
    unfold addT
    rw [if_pos rfl, List.length_append, h3 j]; rfl
theorem rRow_other {z : BS} (i i' : Nat) (h : i' ≠ i) : ∀ k j, (rRow n t hd i z k).tk j i' = z.tk j i'
 | 0, j => rfl
 | k + 1, j => by
   show addT ((rRow n t hd i z k).tk j) i _ i' = _
   unfold addT
   rw [if_neg h, rRow_other i i' h k j]
theorem rAll_ok {ln : Nat → Nat} {z : BS} (h : NetQ N b tb s tp z.σ) (hn : s.n = (n : Int)) (htn : t < n) (hp : ∀ j i, ∀ x ∈ hd j i, x < s.p) : ∀ i, NetQ N b tb s tp (rAll n t hd ln z i).σ ∧ (rAll n t hd ln z i).σ.round = z.σ.round + 3 * ((t + 1 : Nat) : Int) * (sumL ln i : Int) ∧ ∀ i', i ≤ i' → ∀ j, (rAll n t hd ln z i).tk j i' = z.tk j i'
 | 0 => ⟨h, by simp [rAll, sumL], fun i' _ j => rfl⟩
 | i + 1 => by
   obtain ⟨h1, h2, h3⟩ := rAll_ok h hn htn hp i
   obtain ⟨h4, h5, h6⟩ := rRow_ok h1 hn htn hp i (ln i)
   refine ⟨h4, ?_, fun i' hi' j => ?_⟩
   ·show (rRow n t hd i (rAll n t hd ln z i) (ln i)).σ.round = _
    rw [h5, h2, Int.add_assoc, ← Int.mul_add]
    show _ = z.σ.round + 3 * ((t + 1 : Nat) : Int) * ((sumL ln i + ln i : Nat) : Int)
    push_cast; rfl
   ·show (rRow n t hd i (rAll n t hd ln z i) (ln i)).tk j i' = _
    rw [rRow_other i i' (by omega), h3 i' (by omega)]
end
def rEnd (n t : Nat) (σ : NetS) (rs : List RD) (ls : List Int) : BS := rAll n t (hrd (saidE σ n (sayL n rs ls)) ls) (lnF ls) ⟨rsent σ n (sayL n rs ls), fun _ _ => []⟩ n
def IsC (v : V) (l : List Nat) : Prop := v = cpV l ∨ l = [] ∧ v = .im true none 0 0 []
theorem sayC_map {n : Nat} {L : List (List Nat)} (hl : L.length = n) : sayC n n L = L.map fun l => sayR n l n := by
 unfold sayC
 rw [Nat.sub_self, List.replicate_zero, List.append_nil, ← hl, List.take_length]
structure LikeB (n : Nat) (y y' : BS) : Prop where
 w : LikeW y.σ y'.σ
 t : y'.tk = y.tk
 a : Alike n AllQ y.σ y'.σ
section
variable {N b n t : Nat} {tb : List (Nat × Box)} {s : Scn} {tp : List Nat} {hd : Nat → Nat → List Nat} {H : Nat → Bool}
theorem phO_start {z : BS} (h : NetO N b tb s tp z.σ) (hp : ∀ j i, ∀ x ∈ hd j i, x < s.p) (i k : Nat) : PhO N b n t tb s tp ⟨z.σ, (List.range n).map fun j => vF (hd j i) k⟩ := by
 have p0 : 0 < s.p := by have := h.I.p0; rwa [h.s] at this
 exact ⟨h, map_len _ _, fun x hx => by
  obtain ⟨j, _, rfl⟩ := List.mem_map.1 hx
  exact vF_lt p0 (hp j i) k⟩
theorem bStep_ref {y y' : BS} (h : NetO N b tb s tp y.σ) (hn : s.n = (n : Int)) (g : Good n t H) (hh : Hears s n H) (hp : ∀ j i, ∀ x ∈ hd j i, x < s.p) (i k : Nat) (L : LikeB n y y') : LikeB n (bStep n t hd i k y) (rStep n t hd i k y') := by
 obtain ⟨q1, q2, q3⟩ := phases_ref (a' := ⟨y'.σ, (List.range n).map fun j => vF (hd j i) k⟩) (phO_start (t := t) h hp i k) hn g hh L.w rfl L.a (t + 1) (Nat.le_refl _)
 refine ⟨q1, ?_, q3⟩
 funext j
 show addT (y'.tk j) i (vF (rRun n t hd i k y').vs j) = addT (y.tk j) i (vF (bRun n t hd i k y).vs j)
 have e : (rRun n t hd i k y').vs = (bRun n t hd i k y).vs := q2
 rw [e, L.t]
theorem bRow_ref {y y' : BS} (h : NetO N b tb s tp y.σ) (hn : s.n = (n : Int)) (htn : t < n) (g : Good n t H) (hh : Hears s n H) (hp : ∀ j i, ∀ x ∈ hd j i, x < s.p) (i : Nat) (L : LikeB n y y') : ∀ k, LikeB n (bRow n t hd i y k) (rRow n t hd i y' k)
 | 0 => L
 | k + 1 => bStep_ref (bRow_ok h hn htn hp i k).1 hn g hh hp i k (bRow_ref h hn htn g hh hp i L k)
theorem bAll_ref {ln : Nat → Nat} {y y' : BS} (h : NetO N b tb s tp y.σ) (hn : s.n = (n : Int)) (htn : t < n) (g : Good n t H) (hh : Hears s n H) (hp : ∀ j i, ∀ x ∈ hd j i, x < s.p) (L : LikeB n y y') : ∀ i, LikeB n (bAll n t hd ln y i) (rAll n t hd ln y' i)
 | 0 => L
 | i + 1 => bRow_ref (bAll_ok h hn htn hp i).1 hn htn g hh hp i (bAll_ref h hn htn g hh hp L i) (ln i)
theorem bRow_vw {y : BS} (h : NetO N b tb s tp y.σ) (hn : s.n = (n : Int)) (htn : t < n) (hp : ∀ j i, ∀ x ∈ hd j i, x < s.p) (i : Nat) (hv : VW y.σ) : ∀ k, VW (bRow n t hd i y k).σ
 | 0 => hv
 | k + 1 => (phO_start (t := t) (bRow_ok h hn htn hp i k).1 hp i k).vw hn htn (bRow_vw h hn htn hp i hv k) (t + 1)
theorem bAll_vw {ln : Nat → Nat} {y : BS} (h : NetO N b tb s tp y.σ) (hn : s.n = (n : Int)) (htn : t < n) (hp : ∀ j i, ∀ x ∈ hd j i, x < s.p) (hv : VW y.σ) : ∀ i, VW (bAll n t hd ln y i).σ
 | 0 => hv
 | i + 1 => bRow_vw (bAll_ok h hn htn hp i).1 hn htn hp i (bAll_vw h hn htn hp hv i) (ln i)
end
def qEnd (z : Play) (x n t : Nat) : BS := rEnd n t (nwR z.s x) z.rs z.ls
section
variable {z : Play} {n t N nx x : Nat}
theorem PlayOk.like (o : PlayOk z n t N) (nx x : Nat) : LikeB n (pEnd z nx n t) (qEnd z x n t) := by
 obtain ⟨w0, a0⟩ := nw_like z.s nx x n o.hn
 have hs : saidE (nwR z.s x) n (sayL n z.rs z.ls) = saidE (nwO z.s nx) n (sayL n z.rs z.ls) := w0.said n _
 have h1 := (o.z1 nx).1
 rw [pEnd_eq]
 unfold qEnd rEnd
 rw [hs]
 exact bAll_ref h1 o.hn (show t < n by have := o.h3; omega) o.good o.hears (o.hdp nx) (y' := ⟨rsent (nwR z.s x) n (sayL n z.rs z.ls), fun _ _ => []⟩) ⟨w0.sent n (sayL n z.rs z.ls), rfl, w0.alike a0 (sayL n z.rs z.ls)⟩ n
theorem PlayOk.vw (o : PlayOk z n t N) (nx : Nat) : VW (pEnd z nx n t).σ := by
 rw [pEnd_eq]
 refine bAll_vw (o.z1 nx).1 o.hn (show t < n by have := o.h3; omega) (o.hdp nx) ?_ n
 exact vw_sentE (vw_net0 z.s (nx + 1) z.s.tapes.length) ((o.net nx).said o.hn (by simp) (sayL_ok o.p0 o.ls o.okr))
theorem PlayOk.netR (o : PlayOk z n t N) (x : Nat) : NetQ N (x + 1) (tbR z.s x) (lentS z.s) (nwR z.s x).tp (nwR z.s x) := ⟨nwR_I o.s o.hN x, rfl, rfl⟩
theorem PlayOk.finR (o : PlayOk z n t N) (x : Nat) : NetQ N (x + 1) (tbR z.s x) (lentS z.s) (nwR z.s x).tp (qEnd z x n t).σ := by
 have h0 := o.netR x
 have hn : (lentS z.s).n = (n : Int) := o.hn
 obtain ⟨h1, h2⟩ := h0.sent hn (sayL n z.rs z.ls)
 have hS : SOk (lentS z.s).p (saidE (nwR z.s x) n (sayL n z.rs z.ls)) := sOk_of (h0.said hn (by simp) (sayL_ok o.p0 o.ls o.okr))
 have hp : ∀ j i, ∀ y ∈ hrd (saidE (nwR z.s x) n (sayL n z.rs z.ls)) z.ls j i, y < (lentS z.s).p := fun j i => hrd_lt o.p0 hS z.ls j i
 exact (rAll_ok (ln := lnF z.ls) (z := ⟨rsent (nwR z.s x) n (sayL n z.rs z.ls), fun _ _ => []⟩) h1 hn (show t < n by have := o.h3; omega) hp n).1
end
end Go.Abs
end
