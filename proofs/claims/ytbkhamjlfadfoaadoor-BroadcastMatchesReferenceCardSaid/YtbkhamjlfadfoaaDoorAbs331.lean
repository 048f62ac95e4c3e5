/- Joined: AbsQD. -/
import Derived.Test.YtbkhamjlfadfoaaDoorAbs330
set_option linter.all false
set_option maxHeartbeats 16000000
noncomputable section
namespace Go.Abs
open Go Go.Proofs
set_option maxRecDepth 100000
theorem filt_setBox {q nx : Nat} {c' : Box} (h : nx ≤ q) : ∀ m : List (Nat × Box), (setBox m q c').filter (fun e => decide (e.1 < nx)) = m.filter (fun e => decide (e.1 < nx))
 | [] => rfl
 | (a, c) :: m => by
   show (if a = q then (a, c') :: m else (a, c) :: setBox m q c').filter _ = _
   by_cases e : a = q
   ·rw [if_pos e, List.filter_cons, List.filter_cons, if_neg (by simp; omega), if_neg (by simp; omega)]
   ·rw [if_neg e, List.filter_cons, List.filter_cons, filt_setBox h m]
def bEnd (n t : Nat) (σ : NetS) (rs : List RD) (ls : List Int) : BS := bAll n t (hrd (saidE σ n (sayL n rs ls)) ls) (lnF ls) ⟨sentE σ n (sayL n rs ls), fun _ _ => []⟩ n
theorem sayL_ok {p n : Nat} (hp : 0 < p) {rs : List RD} {ls : List Int} (hls : ∀ x ∈ ls, 0 ≤ x ∧ x ≤ 1000) (hok : ∀ r ∈ rs, ∀ x ∈ r.l, x < p) : LsOk p (sayL n rs ls) := fun l hl => by
 obtain ⟨i, hi, rfl⟩ := List.mem_map.1 hl
 have hr : ∀ x ∈ rwF rs i, x < p := fun x hx => by
  unfold rwF at hx
  cases e : rs[i]? with
  | none => rw [e] at hx; cases hx
  | some r => rw [e] at hx; exact hok r (List.mem_of_getElem? e) x hx
 have hL : lnF ls i ≤ 1000 := by
  unfold lnF
  cases e : ls[i]? with
  | none => simp
  | some y => have := hls y (List.mem_of_getElem? e); simp; omega
 obtain ⟨h1, h2⟩ := resizeS_ok hp hr (lnF ls i)
 exact ⟨by rw [h1]; exact hL, h2⟩
theorem hrd_lt {p : Nat} (hp : 0 < p) {S : List (List (List Nat))} (h : SOk p S) (ls : List Int) (j i : Nat) : ∀ x ∈ hrd S ls j i, x < p := fun x hx => (resizeS_ok hp (hS_ok hp h j i) (lnF ls i)).2 x hx
theorem bcast33 {N b g : Nat} {σ : NetS} {tb : List (Nat × Box)} (I : NetI N b σ tb) (T : NetT σ) (hTb : ∀ e ∈ tb, noBorL e.2.cs = true) (A Al : Option Addr) (cap cl : Nat) (rs : List RD) (ls : List Int) (n t : Nat) (hl : rs.length = n) (hll : ls.length = n) (hn : σ.scn.n = (n : Int)) (ht : σ.scn.t = (t : Int)) (h3 : 3 * t < n) (hls : ∀ x ∈ ls, 0 ≤ x ∧ x ≤ 1000) (hok : ∀ r ∈ rs, ∀ x ∈ r.l, x < σ.scn.p) (hpm : ∀ r ∈ rs, r.pm = false) (hr : σ.round + 1 + 3 * ((t + 1 : Nat) : Int) * (sumL (lnF ls) n : Int) < 1000) :
 AnsM (max N 1200 + 5) Tryd.prog H14 33 [.bptr b 0, .im false A cap n (rsV rs), .im false Al cl n (iL ls)] ((b, ⟨g, netC σ⟩) :: tb) (.own .nil 0 n (tkC (bEnd n t σ rs ls).tk n)) ((b, ⟨g, netC (bEnd n t σ rs ls).σ⟩) :: tb) := by
 have h13 : n ≤ 13 := by have := I.h13; omega
 have hp0 : 0 < σ.scn.p := I.p0
 have hr0 := I.hr
 have hprod : (0 : Int) ≤ 3 * ((t + 1 : Nat) : Int) * (sumL (lnF ls) n : Int) := Int.mul_nonneg (by omega) (by omega)
 have hO0 : NetO N b tb σ.scn σ.tp σ := ⟨I, T, rfl, rfl⟩
 obtain ⟨S, hS1⟩ : ∃ S, saidE σ n (sayL n rs ls) = S := ⟨_, rfl⟩
 have hLok := sayL_ok (n := n) hp0 hls hok
 have hSO : SOk σ.scn.p S := by rw [← hS1]; exact sOk_of (hO0.said hn (by simp) hLok)
 obtain ⟨hO1, hr1⟩ := hO0.sent hn (sayL n rs ls)
 obtain ⟨z0, hz0⟩ : ∃ z0 : BS, (⟨sentE σ n (sayL n rs ls), fun _ _ => []⟩ : BS) = z0 := ⟨_, rfl⟩
 have hz0σ : z0.σ = sentE σ n (sayL n rs ls) := by rw [← hz0]
 rw [← hz0σ] at hO1 hr1
 obtain ⟨hd, hhd⟩ : ∃ hd, hrd S ls = hd := ⟨_, rfl⟩
 have hdp : ∀ j i, ∀ x ∈ hd j i, x < σ.scn.p := fun j i => by rw [← hhd]; exact hrd_lt hp0 hSO ls j i
 have hdl : ∀ j i, (hd j i).length = lnF ls i := fun j i => by rw [← hhd]; exact resizeS_pos
 have hE : bEnd n t σ rs ls = bAll n t hd (lnF ls) z0 n := by unfold bEnd; rw [hS1, hhd, hz0]
 rw [hE]
 have hA := fun i => bAll_ok (ln := lnF ls) hO1 hn (show t < n by omega) hdp i
 have hli : ∀ i (h : i < ls.length), ls[i] = (lnF ls i : Int) ∧ lnF ls i ≤ 1000 := fun i h => by
  have h1 := hls _ (List.getElem_mem h)
  have h2 : lnF ls i = (ls[i]).toNat := by unfold lnF; rw [List.getElem?_eq_getElem h]; rfl
  omega
 have a57 := sent57 (g := g) I (by omega) false false A Al cap cl rs ls n hl hll hn (by omega) hls hok
 rw [hS1, ← hz0σ, hrC_tk, hhd] at a57
 refine AnsM.gen (fn := Tryd.f33) (by rfl) Tryd.func33 rfl (by rfl) (fun nx h c hc => ?_) fun k hk nx h => ?_
 ·simp only [ptrs, ptrsL_tkC, List.nil_append] at hc
  exact net_ptrs (σ := (bAll n t hd (lnF ls) z0 n).σ) (hA n).1.I.hT (fun e he => by
   rcases List.mem_cons.1 he with rfl | he
   ·exact h (b, ⟨g, netC σ⟩) List.mem_cons_self
   ·exact h _ (List.mem_cons_of_mem _ he)) hc
 have hb : b < nx := h (b, ⟨g, netC σ⟩) List.mem_cons_self
 have hnet : ∀ τ : NetS, ∀ e ∈ (b, (⟨g, netC τ⟩ : Box)) :: tb, e.1 < nx := fun τ e he => by
  rcases List.mem_cons.1 he with rfl | he
  ·exact hb
  ·exact h _ (List.mem_cons_of_mem _ he)
 have htpl : ∀ y ∈ b :: σ.tp, y < nx := fun y hy => by
  rcases List.mem_cons.1 hy with rfl | hy
  ·exact hb
  ·obtain ⟨e, he, rfl⟩ := List.mem_map.1 (I.hT.ids.mem_iff.2 hy)
   exact h e (List.mem_cons_of_mem _ he)
 have hq : BxQ b σ.tp nx (nx + 1) (nx + 2) (nx + 3) := ⟨⟨by omega, by omega, by omega, by omega, by omega, by omega⟩, fun q hq hm => by
  have := htpl q hm
  simp only [List.mem_cons, List.not_mem_nil, or_false] at hq
  omega⟩
 obtain ⟨rv, hrv⟩ : ∃ rv, rsV rs = rv := ⟨_, rfl⟩
 obtain ⟨iv, hiv⟩ : ∃ iv, iL ls = iv := ⟨_, rfl⟩
 have hrvl : rv.length = n := by rw [← hrv]; simp [rsV, hl]
 have hrvp : ptrsL rv = [] := by rw [← hrv]; simp
 have hivl : iv.length = n := by rw [← hiv]; simp [iL, hll]
 have hfr : frzL false rv = rv := by
  rw [← hrv]
  have : rs.map lent = rs := by
   clear hrv hl a57 hE hLok hSO hz0 hS1 hO1 hr1 hz0σ hok hrvl hrvp
   induction rs with
   | nil => rfl
   | cons r rs ih =>
     have h1 : lent r = r := by
      have := hpm r List.mem_cons_self
      obtain ⟨pm, A, cap, l⟩ := r
      simp only at this
      subst this; rfl
     rw [List.map_cons, h1, ih fun x hx => hpm x (List.mem_cons_of_mem _ hx)]
  simp [this]
 have hfi : frzL false iv = iv := by rw [← hiv]; simp
 rw [hrv, hiv] at a57 ⊢
 have c57 := fun s dst => netCall (g := g) (k := k) (O1 := []) (O2 := [(nx, ⟨0, [.bptr b 0]⟩), (nx + 1, ⟨0, [.im false A cap n rv]⟩)]) (nx := nx + 2) I.hT I.hl (fun e he hm => by
  have := htpl _ hm
  simp only [List.nil_append, List.mem_cons, List.not_mem_nil, or_false] at he
  rcases he with rfl | rfl <;> simp at this <;> omega) (hO1.tp) a57 (by omega) (by simp [ptrsL, ptrs, hrvp, ← hiv]) rfl (fun e he => by have := hnet σ e he; omega) s dst
 simp only [List.nil_append] at c57
 obtain ⟨M, hM⟩ : ∃ M, (b, (⟨g, netC σ⟩ : Box)) :: tb = M := ⟨_, rfl⟩
 have hMl : ∀ q, nx ≤ q → ∀ e ∈ M, e.1 ≠ q := fun q hq e he => by
  rw [← hM] at he
  have := hnet σ e he; omega
 have gM : ∀ q l, nx ≤ q → getBox (M ++ l) q = getBox l q := fun q l hq => getBox_skip (hMl q hq)
 obtain ⟨M1, hM1⟩ : ∃ M1, (b, (⟨g, netC z0.σ⟩ : Box)) :: tb = M1 := ⟨_, rfl⟩
 rw [hM, hM1] at c57
 obtain ⟨HC, hHC⟩ : ∃ HC, tkC hd n = HC := ⟨_, rfl⟩
 rw [hHC] at c57
 rw [hM]
 have b1 : (n : Int) ≤ 140737488355328 := by omega
 have b2 : (n : Int) * 24 ≤ 140737488355328 := by omega
 have hz : ¬ (n = 0 ∧ 0 < n) := by omega
 have gM0 : ∀ l, getBox (M ++ l) nx = getBox l nx := fun l => gM nx l (by omega)
 have gM1 : ∀ l, getBox (M ++ l) (nx + 1) = getBox l (nx + 1) := fun l => gM (nx + 1) l (by omega)
 have hM1l : ∀ q, nx ≤ q → ∀ e ∈ M1, e.1 ≠ q := fun q hq e he => by
  rw [← hM1] at he
  have := hnet z0.σ e he; omega
 have g12 : ∀ l, getBox (M1 ++ l) (nx + 2) = getBox l (nx + 2) := fun l => getBox_skip (hM1l _ (by omega))
 have g13 : ∀ l, getBox (M1 ++ l) (nx + 3) = getBox l (nx + 3) := fun l => getBox_skip (hM1l _ (by omega))
 have s12 : ∀ l c, setBox (M1 ++ l) (nx + 2) c = M1 ++ setBox l (nx + 2) c := fun l c => setBox_skip (hM1l _ (by omega))
 have s13 : ∀ l c, setBox (M1 ++ l) (nx + 3) c = M1 ++ setBox l (nx + 3) c := fun l c => setBox_skip (hM1l _ (by omega))
 obtain ⟨MT, hMT⟩ : ∃ MT : List V → List (Nat × Box), MT = fun TK => (nx, ⟨0, [.bptr b 0]⟩) :: (nx + 1, ⟨0, [.im false A cap n rv]⟩) :: (M1 ++ [(nx + 2, ⟨0, [.own .nil 0 n HC]⟩), (nx + 3, ⟨0, [.own .nil 0 n TK]⟩)]) := ⟨_, rfl⟩
 have gT1 : ∀ TK, getBox (MT TK) (nx + 1) = some ⟨0, [.im false A cap n rv]⟩ := fun TK => by rw [hMT]; simp [getBox]
 have gT3 : ∀ TK, getBox (MT TK) (nx + 3) = some ⟨0, [.own .nil 0 n TK]⟩ := fun TK => by rw [hMT]; simp [getBox, g13]
 have sT3 : ∀ TK TK', setBox (MT TK) (nx + 3) ⟨0, [.own .nil 0 n TK']⟩ = MT TK' := fun TK TK' => by rw [hMT]; simp [setBox, s13]
 obtain ⟨J, hJ⟩ : ∃ J : Nat → St → Prop, J = fun q D => ∃ (j : Nat) (TK : List V), q = n - j ∧ j ≤ n ∧ TK = mix (fun _ => V.own .nil 0 n (List.replicate n (.own .nil 0 0 []))) (fun _ => V.own .nil 0 0 []) n j ∧ D.s 2 = .im false Al cl n iv ∧ D.s 3 = .bptr nx 0 ∧ D.s 4 = .bptr (nx + 1) 0 ∧ D.s 7 = .bptr (nx + 2) 0 ∧ D.s 8 = .bptr (nx + 3) 0 ∧ D.s 21 = .int .i64 (n : Int) ∧ D.s 22 = .int .i64 (j : Int) ∧ D.m = MT TK ∧ D.nx = nx + 4 := ⟨_, rfl⟩
 have hrep : List.replicate n (V.own .nil 0 0 []) = mix (fun _ => V.own .nil 0 n (List.replicate n (.own .nil 0 0 []))) (fun _ => V.own .nil 0 0 []) n 0 := by
  rw [mix_zero, start9, List.map_map]; rfl
 have x11 : nx + 1 + 1 = nx + 2 := rfl
 have x21 : nx + 2 + 1 = nx + 3 := rfl
 have x31 : nx + 3 + 1 = nx + 4 := rfl
 simp [-reach, -doCall, doCall_eq, entryS, x11, x21, x31, gM0, gM1, hfr, hfi, c57, g12, g13, s12, s13, b1, b2, hz, rep_rep]
 refine EvP.loop J (n := n) (by rw [hJ]; exact ⟨0, List.replicate n (.own .nil 0 0 []), by simp, by simp, hrep, by simp [hMT]⟩) (by omega) fun q D hD => ?_
 rw [hJ] at hD
 obtain ⟨j, TK, rfl, hj, hTK, d2, d3, d4, d7, d8, d21, d22, dm, dx⟩ := hD
 have hTl : TK.length = n := by rw [hTK]; simp
 by_cases hjn : j < n
 ·have e4 := wrap_succ (q := j) (by omega)
  have hjT : j < TK.length := by omega
  have hT? : TK[j]? = some (.own .nil 0 0 []) := by rw [hTK, mix_get _ _ _ _ hjn]
  have hTe : TK[j] = .own .nil 0 0 [] := by
   have := List.getElem?_eq_getElem hjT
   rw [hT?] at this
   exact (Option.some.inj this).symm
  simp [-reach, -doCall, doCall_eq, d2, d3, d4, d7, d8, d21, d22, dm, dx, hjn, gT1, gT3, sT3, hT?, hTe, hjT, hTl, b1, b2, hz, rep_rep, e4]
  subst hJ
  exact ⟨n - (j + 1), by omega, j + 1, TK.set j (.own .nil 0 n (List.replicate n (.own .nil 0 0 []))), rfl, by omega, by rw [hTK]; exact mix_set (fun _ => V.own .nil 0 n (List.replicate n (.own .nil 0 0 []))) _ _ _ hjn, by simp [d2], by simp [d3], by simp [d4], by simp [d7], by simp [d8], by simp [d21], by simp, by simp, by simp⟩
 ·have hje : j = n := by omega
  rw [hje, mix_full] at hTK
  have hz0t : z0.tk = fun _ _ => [] := by rw [← hz0]
  have hTK2 : TK = tkC z0.tk n := by
   rw [hTK, hz0t]
   unfold tkC tkRow
   refine List.map_congr_left fun _ _ => ?_
   rw [start9, List.map_map]; rfl
  rw [hje] at d22
  rw [hTK2] at dm
  obtain ⟨FN, hFN⟩ : ∃ FN : V, V.fn (.func 58) [] [.bptr (nx + 1) 0, .bptr (nx + 2) 0, .bptr nx 0, .bptr (nx + 3) 0] = FN := ⟨_, rfl⟩
  have hkFN : ∀ ids x, killB ids x FN = FN := fun ids x => by rw [← hFN]; simp
  obtain ⟨U, hU⟩ : ∃ U : Nat → St → Prop, U = fun q D => ∃ (i : Nat) (z : BS) (O1 O2 : List (Nat × Box)), q = n - i ∧ i ≤ n ∧ z = bAll n t hd (lnF ls) z0 i ∧ O1 ++ O2 = bxO b n nx (nx + 1) (nx + 2) (nx + 3) [.im false A cap n rv] HC (tkC z.tk n) ∧ D.s 2 = .im false Al cl n iv ∧ D.s 8 = .bptr (nx + 3) 0 ∧ D.s 10 = FN ∧ D.s 34 = .int .i64 (n : Int) ∧ D.s 35 = .int .i64 (i : Int) ∧ D.m = O1 ++ ((b, ⟨g, netC z.σ⟩) :: tb) ++ O2 ∧ D.nx = nx + 4 := ⟨_, rfl⟩
  simp [-reach, -doCall, doCall_eq, d2, d3, d4, d7, d8, d21, d22, dm, dx, gT1]
  refine EvP.loop U (n := n) (by rw [hU]; exact ⟨0, z0, [(nx, ⟨0, [.bptr b 0]⟩), (nx + 1, ⟨0, [.im false A cap n rv]⟩)], [(nx + 2, ⟨0, [.own .nil 0 n HC]⟩), (nx + 3, ⟨0, [.own .nil 0 n (tkC z0.tk n)]⟩)], by simp, by simp, rfl, rfl, by simp [d2, d8, hMT, hM1, ← hFN]⟩) (by omega) fun q D hD => ?_
  rw [hU] at hD
  obtain ⟨i, z, O1, O2, rfl, hi, hzi, hO, d2, d8, d10, d34, d35, dm, dx⟩ := hD
  obtain ⟨hAo, hAr, hAk⟩ := hA i
  rw [← hzi] at hAo hAr hAk
  by_cases hin : i < n
  ·have e4 := wrap_succ (q := i) (by omega)
   have hils : i < ls.length := by omega
   have hii : i < iv.length := by omega
   have hiL : iv[i] = .int .i64 (lnF ls i : Int) := by subst hiv; simp [iL, (hli i hils).1]
   have hL1 := (hli i hils).2
   obtain ⟨V0, hV0⟩ : ∃ V0 : Nat → St → Prop, V0 = fun q D => ∃ (kk : Nat) (y : BS) (O1 O2 : List (Nat × Box)), q = lnF ls i - kk ∧ kk ≤ lnF ls i ∧ y = bRow n t hd i z kk ∧ O1 ++ O2 = bxO b n nx (nx + 1) (nx + 2) (nx + 3) [.im false A cap n rv] HC (tkC y.tk n) ∧ D.s 2 = .im false Al cl n iv ∧ D.s 8 = .bptr (nx + 3) 0 ∧ D.s 10 = FN ∧ D.s 11 = .int .i64 (i : Int) ∧ D.s 34 = .int .i64 (n : Int) ∧ D.s 35 = .int .i64 (i : Int) ∧ D.s 41 = .int .i64 (lnF ls i : Int) ∧ D.s 42 = .int .i64 (kk : Int) ∧ D.m = O1 ++ ((b, ⟨g, netC y.σ⟩) :: tb) ++ O2 ∧ D.nx = nx + 4 := ⟨_, rfl⟩
   obtain ⟨MZ, hMZ⟩ : ∃ MZ, O1 ++ ((b, (⟨g, netC z.σ⟩ : Box)) :: tb) ++ O2 = MZ := ⟨_, rfl⟩
   rw [hMZ] at dm
   simp [-reach, -doCall, doCall_eq, d2, d8, d10, d34, d35, dm, dx, hin, hii, hivl, hiL]
   refine EvP.loop V0 (n := lnF ls i) (by rw [hV0]; exact ⟨0, z, O1, O2, by simp, by simp, rfl, hO, by simp [d2, d8, d10, d34, d35, hMZ]⟩) (by omega) fun q D hD => ?_
   rw [hV0] at hD
   obtain ⟨kk, y, P1, P2, rfl, hkk, hyk, hP, d2, d8, d10, d11, d34, d35, d41, d42, dm, dx⟩ := hD
   obtain ⟨hRo, hRr, hRk⟩ := bRow_ok hAo hn (show t < n by omega) hdp i kk
   rw [← hyk] at hRo hRr hRk
   by_cases hkl : kk < lnF ls i
   ·have e5 := wrap_succ (q := kk) (by omega)
    have hsum : sumL (lnF ls) i + lnF ls i ≤ sumL (lnF ls) n := sumL_mono (ln := lnF ls) (i := i + 1) (j := n) (by omega)
    have hround : y.σ.round + 3 * (t + 1) < 1000 := by
     have h1 : y.σ.round = z0.σ.round + 3 * ((t + 1 : Nat) : Int) * ((sumL (lnF ls) i + kk : Nat) : Int) := by
      rw [hRr, hAr, Int.add_assoc, ← Int.mul_add]; push_cast; rfl
     have h2 : 3 * ((t + 1 : Nat) : Int) * ((sumL (lnF ls) i + kk : Nat) : Int) + 3 * ((t + 1 : Nat) : Int) ≤ 3 * ((t + 1 : Nat) : Int) * (sumL (lnF ls) n : Int) := by
      have h3 : ((sumL (lnF ls) i + kk : Nat) : Int) + 1 ≤ (sumL (lnF ls) n : Int) := by omega
      have h4 := Int.mul_le_mul_of_nonneg_left h3 (show (0 : Int) ≤ 3 * ((t + 1 : Nat) : Int) by omega)
      rwa [Int.mul_add, Int.mul_one] at h4
     rw [h1, hr1]; push_cast at h2 hr ⊢; omega
    have hOy : NetO N b tb σ.scn σ.tp y.σ := hRo
    obtain ⟨hRun, hRunr⟩ := bRun_ok hRo hn (show t < n by omega) hdp i kk
    have a58 := clo58 (g := g) hRo.I hRo.T hTb n t (by rw [hRo.s, hn]) (by rw [hRo.s, ht]) (by omega) hround nx (nx + 1) (nx + 2) (nx + 3) (by rw [hRo.tp]; exact hq) A cap rv hrvl hrvp hd y.tk i kk hin (fun j _ => by rw [hdl]; exact hkl) (fun j => by rw [hRo.s]; exact hdp j i) (fun j => by rw [hRk j, hAk i (Nat.le_refl _) j, hz0t]; simp; omega) P1 P2 (by rw [hHC]; exact hP) (bRun n t hd i kk y) rfl
    rw [hHC] at a58
    have hlt4 : ∀ e ∈ P1 ++ ((b, (⟨g, netC y.σ⟩ : Box)) :: tb) ++ P2, e.1 < nx + 4 := fun e he => by
     have hin4 : ∀ e ∈ P1 ++ P2, e.1 < nx + 4 := fun e he => by
      rw [hP] at he
      unfold bxO at he
      simp only [List.mem_cons, List.not_mem_nil, or_false] at he
      rcases he with rfl | rfl | rfl | rfl <;> simp
     rcases List.mem_append.1 he with he | he
     ·rcases List.mem_append.1 he with he | he
      ·exact hin4 e (List.mem_append_left _ he)
      ·have := hnet y.σ e he; omega
     ·exact hin4 e (List.mem_append_right _ he)
    have c58 := fun s dst => clo_call (g := g) (k := k) (nx := nx + 4) (σ' := (bRun n t hd i kk y).σ) hRo.I.hT hRo.I.hl (by rw [hRo.tp]; exact hq) hrvp (by rw [← hHC]; exact ptrsL_tkC _ _) (ptrsL_tkC _ _) hP (hRun.o.tp.trans hRo.tp.symm) a58 (by omega) hlt4 s dst
    obtain ⟨MY, hMY⟩ : ∃ MY, P1 ++ ((b, (⟨g, netC y.σ⟩ : Box)) :: tb) ++ P2 = MY := ⟨_, rfl⟩
    obtain ⟨MW, hMW⟩ : ∃ MW, bxO b n nx (nx + 1) (nx + 2) (nx + 3) [.im false A cap n rv] HC (tkC (fun j => addT (y.tk j) i (vF (bRun n t hd i kk y).vs j)) n) ++ ((b, (⟨g, netC (bRun n t hd i kk y).σ⟩ : Box)) :: tb) = MW := ⟨_, rfl⟩
    rw [hMY, hMW] at c58
    rw [hMY] at dm
    rw [← hFN] at d10
    simp [-reach, -doCall, doCall_eq, d2, d8, d10, d11, d34, d35, d41, d42, dm, dx, hkl, c58, e5]
    subst hV0
    exact ⟨lnF ls i - (kk + 1), by omega, kk + 1, bStep n t hd i kk y, bxO b n nx (nx + 1) (nx + 2) (nx + 3) [.im false A cap n rv] HC (tkC (fun j => addT (y.tk j) i (vF (bRun n t hd i kk y).vs j)) n), [], rfl, by omega, by rw [hyk]; rfl, by rw [List.append_nil]; rfl, by simp [d2], by simp [d8], by simp [d10, hFN, hkFN], by simp [d11], by simp [d34], by simp [d35], by simp [d41], by simp, by rw [← hMW, List.append_nil]; rfl, rfl⟩
   ·have hke : kk = lnF ls i := by omega
    obtain ⟨MY, hMY⟩ : ∃ MY, P1 ++ ((b, (⟨g, netC y.σ⟩ : Box)) :: tb) ++ P2 = MY := ⟨_, rfl⟩
    rw [hMY] at dm
    simp [-reach, -doCall, doCall_eq, d2, d8, d10, d11, d34, d35, d41, d42, dm, dx, hkl, e4]
    subst hU
    exact ⟨n - (i + 1), by omega, i + 1, y, P1, P2, rfl, by omega, by rw [hyk, hke, hzi]; rfl, hP, by simp [d2], by simp [d8], by simp [d10], by simp [d34], by simp, by rw [hMY], rfl⟩
  ·have hie : i = n := by omega
   rw [hie] at hzi d35
   have hg3 : getBox (O1 ++ ((b, (⟨g, netC z.σ⟩ : Box)) :: tb) ++ O2) (nx + 3) = some ⟨0, [.own .nil 0 n (tkC z.tk n)]⟩ := by
    rw [getBox_mid4 (fun e he => by have := hnet z.σ e he; omega), hO]
    simp [bxO, getBox]
   have hf3 : (O1 ++ ((b, (⟨g, netC z.σ⟩ : Box)) :: tb) ++ O2).filter (fun e => decide (e.1 < nx)) = (b, ⟨g, netC z.σ⟩) :: tb := by
    have hge : ∀ e ∈ O1 ++ O2, ¬ e.1 < nx := fun e he => by
     rw [hO] at he
     unfold bxO at he
     simp only [List.mem_cons, List.not_mem_nil, or_false] at he
     rcases he with rfl | rfl | rfl | rfl <;> simp
    rw [List.filter_append, List.filter_append, filt_lt (hnet z.σ), filter_none0 (l := O1) (fun e he => by simpa using hge e (List.mem_append_left _ he)), filter_none0 (l := O2) (fun e he => by simpa using hge e (List.mem_append_right _ he)), List.nil_append, List.append_nil]
   obtain ⟨MZ, hMZ⟩ : ∃ MZ, O1 ++ ((b, (⟨g, netC z.σ⟩ : Box)) :: tb) ++ O2 = MZ := ⟨_, rfl⟩
   rw [hMZ] at dm hg3 hf3
   have hf4 : ∀ c', (setBox MZ (nx + 3) c').filter (fun e => decide (e.1 < nx)) = (b, ⟨g, netC z.σ⟩) :: tb := fun c' => by rw [filt_setBox (by omega)]; exact hf3
   simp [-reach, -doCall, doCall_eq, d2, d8, d10, d34, d35, dm, dx, hg3, hf4, ← hzi]
end Go.Abs
end
