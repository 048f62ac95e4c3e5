/- Joined: AbsPNXF AbsPNXG AbsPNXO AbsPNXP AbsPNYA. -/
import Derived.Test.YtbkhamjlfadfoaaDoorAbs310
import Derived.Test.YtbkhamjlfadfoaaDoorAbs319
import Derived.Test.YtbkhamjlfadfoaaDoorAbs320
import Derived.Test.YtbkhamjlfadfoaaDoorAbs323
set_option linter.all false
set_option maxHeartbeats 16000000
noncomputable section
namespace Go.Abs
open Go Go.Proofs
def tapB (F : RD → List V) : Nat → List RD → List (Nat × Box)
 | _, [] => []
 | n, w :: l => (n, ⟨0, F w⟩) :: tapB F (n + 1) l
theorem tapB_app (F : RD → List V) (w : RD) : ∀ (l : List RD) (n : Nat), tapB F n (l ++ [w]) = tapB F n l ++ [(n + l.length, ⟨0, F w⟩)]
 | [], n => rfl
 | v :: l, n => by
   show (n, _) :: tapB F (n + 1) (l ++ [w]) = ((n, _) :: tapB F (n + 1) l) ++ _
   rw [tapB_app F w l (n + 1), List.cons_append, List.length_cons, show n + 1 + l.length = n + (l.length + 1) by omega]
theorem tapB_ids (F : RD → List V) : ∀ (l : List RD) (n : Nat), (tapB F n l).map (·.1) = (List.range l.length).map (n + ·)
 | [], n => rfl
 | v :: l, n => by
   show n :: (tapB F (n + 1) l).map (·.1) = _
   rw [tapB_ids F l (n + 1), List.length_cons, List.range_succ_eq_map, List.map_cons, List.map_map]
   have : List.map (fun x => n + 1 + x) (List.range l.length) = List.map ((fun x => n + x) ∘ Nat.succ) (List.range l.length) := List.map_congr_left fun i _ => by
    show n + 1 + i = n + (i + 1)
    omega
   rw [← this]; rfl
def net0 (s : Scn) (nx i : Nat) : NetS := ⟨s, 0, List.replicate s.n.toNat [], (List.range i).map (nx + 2 + ·)⟩
@[simp] theorem net0_tpl (s : Scn) (nx i : Nat) : (net0 s nx i).tp.length = i := by
 show ((List.range i).map (nx + 2 + ·)).length = i
 rw [List.length_map, List.length_range]
def netM (F : RD → List V) (s : Scn) (nx i : Nat) : List (Nat × Box) := (nx, ⟨0, scL s⟩) :: (nx + 1, ⟨0, netC (net0 s nx i)⟩) :: tapB F (nx + 2) (s.tapes.take i)
theorem scnS_lent (s : Scn) : ScnS (lentS s) ↔ ScnS s := by
 rw [scnS_iff, scnS_iff]
 show CoalS s.p s.n s.t s.corrupt ∧ ((s.tapes.map lent).length : Int) = s.n ∧ (¬ ∃ r ∈ s.devs, DB s.n r) ∧ (¬ ∃ r ∈ s.tapes.map lent, RB s.p r) ↔ _
 rw [rb_lent, List.length_map]
theorem lentS_r {s : Scn} (hr : ∀ r ∈ s.tapes, r.l.length ≤ 1000) : ∀ r ∈ (lentS s).tapes, r.l.length ≤ 1000 := fun r h => by
 obtain ⟨x, hx, rfl⟩ := List.mem_map.1 (show r ∈ s.tapes.map lent from h)
 exact hr x hx
theorem rep_views : ∀ n : Nat, rep n [V.own .nil 0 0 []] = viewsC (List.replicate n [])
 | 0 => rfl
 | n + 1 => by
   show [V.own .nil 0 0 []] ++ rep n [V.own .nil 0 0 []] = viewsC (List.replicate (n + 1) [])
   rw [rep_views n, List.replicate_succ]
   rfl
theorem filt_tt {α : Type} (l : List α) : l.filter (fun _ => true) = l := by induction l <;> simp_all
theorem net0_succ (s : Scn) (nx i : Nat) : (netC (net0 s nx i)).set 8 (.own .nil 0 (i + 1) (bpL (net0 s nx i).tp ++ [.bptr (nx + 2 + i) 0])) = netC (net0 s nx (i + 1)) := by
 have e : (List.range (i + 1)).map (nx + 2 + ·) = (List.range i).map (nx + 2 + ·) ++ [nx + 2 + i] := by rw [List.range_succ, List.map_append]; rfl
 have e2 : (net0 s nx (i + 1)) = { net0 s nx i with tp := (net0 s nx i).tp ++ [nx + 2 + i] } := by
  unfold net0
  rw [e]
 rw [e2]
 have e3 : bpL ((net0 s nx i).tp ++ [nx + 2 + i]) = bpL (net0 s nx i).tp ++ [.bptr (nx + 2 + i) 0] := List.map_append
 show _ = [_, _, _, _, _, _, _, _, V.own .nil 0 ((net0 s nx i).tp ++ [nx + 2 + i]).length (bpL ((net0 s nx i).tp ++ [nx + 2 + i]))]
 rw [e3, List.length_append, net0_tpl]
 rfl
theorem netM_succ (F : RD → List V) (s : Scn) (nx i : Nat) (hi : i < s.tapes.length) : netM F s nx (i + 1) = (nx, ⟨0, scL s⟩) :: (nx + 1, ⟨0, netC (net0 s nx (i + 1))⟩) :: (tapB F (nx + 2) (s.tapes.take i) ++ [(nx + 2 + i, ⟨0, F s.tapes[i]⟩)]) := by
 unfold netM
 rw [List.take_succ_eq_append_getElem hi, tapB_app, List.length_take, Nat.min_eq_left (by omega)]
open Classical in
set_option maxRecDepth 100000 in
theorem new13 (s : Scn) (hd : s.devs.length ≤ 1000) (ht : s.tapes.length ≤ 1000) (hr : ∀ r ∈ s.tapes, r.l.length ≤ 1000) (hs : ScnS s) (hpm : ∀ r ∈ s.tapes, r.pm = true) : AnsB 1111 Tryd.prog H14 32 [scV s] (fun nx => .tup [.bptr (nx + 1) 0, .int .i64 0]) (fun nx => netM (fun w => tapeC w 0) s nx s.tapes.length) (2 + s.tapes.length) := by
 refine AnsB.gen (fn := Tryd.f32) (by rfl) Tryd.func32 rfl (by rfl) (fun nx => ⟨nx + 1, by simp [ptrs, ptrsL], by omega⟩) fun k hk nx => ?_
 have c35 := scen35 (lentS s) hd (by simpa [lentS] using ht) (lentS_r hr) k (by omega)
 rw [decide_eq_true ((scnS_lent s).2 hs)] at c35
 simp only [scV, scL, lentS, List.length_map] at c35
 have hN : s.n = (s.tapes.length : Int) := hs.2.1.symm
 have hb1 : (s.tapes.length : Int) ≤ 140737488355328 := by omega
 have hb2 : (s.tapes.length : Int) * 24 ≤ 140737488355328 := by omega
 have hz : ¬ (s.tapes.length = 0 ∧ 0 < s.tapes.length) := by omega
 rw [hN] at c35
 simp [-reach, entryS, scV, scL, hN, hb1, hb2, hz, c35, reach_none]
 obtain ⟨I, hI⟩ : ∃ I : Nat → St → Prop, I = fun q D => ∃ i : Nat, q = s.tapes.length - i ∧ i ≤ s.tapes.length ∧ D.s 4 = .bptr (nx + 1) 0 ∧ D.s 18 = .im s.tpm s.tA s.tcap s.tapes.length (rsV s.tapes) ∧ D.s 19 = .int .i64 (s.tapes.length : Int) ∧ D.s 20 = .int .i64 (i : Int) ∧ D.m = netM (fun w => tapeC w 0) s nx i ∧ D.nx = nx + 2 + i := ⟨_, rfl⟩
 refine EvP.loop I (n := s.tapes.length) (by rw [hI]; exact ⟨0, by simp [netM, net0, netC, scL, hN, tapB, rep_views, bpL]⟩) (by omega) fun q D hD => ?_
 rw [hI] at hD
 obtain ⟨i, rfl, hi, d4, d18, d19, d20, dm, dx⟩ := hD
 by_cases hil : i < s.tapes.length
 ·have e3 := wrap_succ (q := i) (by omega)
  have hp := hpm _ (List.getElem_mem hil)
  have c36 := tape36 s.tapes[i] k (by omega)
  simp only [rV, hp] at c36
  have q2 : ¬ (nx + 2 + i ≤ nx + 1) := by omega
  have q3 : (i + 1) * 8 ≤ 140737488355328 := by omega
  have q4 : i ≤ 140737488355327 := by omega
  have q5 : i + 1 ≤ 140737488355328 := by omega
  simp [-reach, d4, d18, d19, d20, dm, dx, hil, hp, e3, netM, c36, filt_tt, reach_none, q2, q3, q4, q5]
  subst hI
  refine ⟨s.tapes.length - (i + 1), by omega, i + 1, rfl, by omega, by simp [d4], by simp [d18], by simp [d19], by simp, ?_, by simp; omega⟩
  rw [netM_succ _ _ _ _ hil, ← net0_succ]
 ·have hil' : i = s.tapes.length := by omega
  subst hil'
  simp [d4, d18, d19, d20, dm, dx]
  omega
def tapeR (w : RD) : List V := [.own .nil 0 w.l.length (uL w.l), .int .i64 0]
open Classical in
set_option maxRecDepth 100000 in
theorem new14 (s : Scn) (hd : s.devs.length ≤ 1000) (ht : s.tapes.length ≤ 1000) (hr : ∀ r ∈ s.tapes, r.l.length ≤ 1000) (hs : ScnS s) : AnsB 1111 Tryd.prog H14 24 [scV s] (fun nx => .tup [.bptr (nx + 1) 0, .int .i64 0]) (fun nx => netM (tapeR) s nx s.tapes.length) (2 + s.tapes.length) := by
 refine AnsB.gen (fn := Tryd.f24) (by rfl) Tryd.func24 rfl (by rfl) (fun nx => ⟨nx + 1, by simp [ptrs, ptrsL], by omega⟩) fun k hk nx => ?_
 have c37 := scen37 (lentS s) hd (by simpa [lentS] using ht) (lentS_r hr) k (by omega)
 rw [decide_eq_true ((scnS_lent s).2 hs)] at c37
 simp only [scV, scL, lentS, List.length_map] at c37
 have hN : s.n = (s.tapes.length : Int) := hs.2.1.symm
 have hb1 : (s.tapes.length : Int) ≤ 140737488355328 := by omega
 have hb2 : (s.tapes.length : Int) * 24 ≤ 140737488355328 := by omega
 have hz : ¬ (s.tapes.length = 0 ∧ 0 < s.tapes.length) := by omega
 rw [hN] at c37
 simp [-reach, entryS, scV, scL, hN, hb1, hb2, hz, c37, reach_none]
 obtain ⟨I, hI⟩ : ∃ I : Nat → St → Prop, I = fun q D => ∃ i : Nat, q = s.tapes.length - i ∧ i ≤ s.tapes.length ∧ D.s 4 = .bptr (nx + 1) 0 ∧ D.s 1 = .bptr nx 0 ∧ D.s 5 = .int .i64 (i : Int) ∧ D.m = netM (tapeR) s nx i ∧ D.nx = nx + 2 + i := ⟨_, rfl⟩
 refine EvP.loop I (n := s.tapes.length) (by rw [hI]; exact ⟨0, by simp [netM, net0, netC, scL, hN, tapB, rep_views, bpL]⟩) (by omega) fun q D hD => ?_
 rw [hI] at hD
 obtain ⟨i, rfl, hi, d4, d1, d5, dm, dx⟩ := hD
 by_cases hil : i < s.tapes.length
 ·have e3 := wrap_succ (q := i) (by omega)
  have c38 := tape38 (lent s.tapes[i]) (show (s.tapes[i]'hil).l.length ≤ 1000 from hr _ (List.getElem_mem hil)) k (by omega)
  simp only [rV, lent] at c38
  have q2 : ¬ (nx + 2 + i ≤ nx + 1) := by omega
  have q3 : (i + 1) * 8 ≤ 140737488355328 := by omega
  have q4 : i ≤ 140737488355327 := by omega
  have q5 : i + 1 ≤ 140737488355328 := by omega
  simp [-reach, d4, d1, d5, dm, dx, hil, e3, netM, scL, hN, c38, filt_tt, reach_none, q2, q3, q4, q5]
  subst hI
  refine ⟨s.tapes.length - (i + 1), by omega, i + 1, rfl, by omega, by simp [d4], by simp [d1], by simp, ?_, by simp; omega⟩
  rw [netM_succ _ _ _ _ hil, ← net0_succ]
  simp [scL, hN, tapeR, lent]
 ·have hil' : i = s.tapes.length := by omega
  subst hil'
  simp [d4, d1, d5, dm, dx, netM, scL, hN]
  omega
theorem AnsP.le {P : Program} {H : Hint} {N M f : Nat} {xs : List V} {Q : V → Prop} (h : AnsP N P H f xs Q) (hm : N ≤ M) : AnsP M P H f xs Q := fun n hn => h n (by omega)
theorem ex_bound {Q : Nat → Nat → Prop} (mono : ∀ N M i, Q N i → N ≤ M → Q M i) (h : ∀ i, ∃ N, Q N i) : ∀ R, ∃ N, ∀ i, i < R → Q N i
 | 0 => ⟨0, fun i hi => by omega⟩
 | R + 1 => by
   obtain ⟨N, hN⟩ := ex_bound mono h R
   obtain ⟨M, hM⟩ := h R
   refine ⟨max N M, fun i hi => ?_⟩
   by_cases hiR : i = R
   ·subst hiR; exact mono _ _ _ hM (by omega)
   ·exact mono _ _ _ (hN i (by omega)) (by omega)
structure SendN (s : Scn) (N : Nat) : Prop where
 m41 : ∀ rd : Nat, rd < 1000 → ∀ (pm : Bool) (A : Option Addr) (cap : Nat) (ms : List MD), (ms.length : Int) = s.n → s.n ≤ 13 → MsOk s.p ms.length (mls ms) → AnsP N Tryd.prog H14 86 [scV s, .int .i64 (rd : Int), .im pm A cap ms.length (msV ms)] (fun v => ∃ cs, v = .own .nil 0 ms.length cs ∧ Rows2 cs (msgS s.p s.corrupt rd ms.length (mls ms) s.devs))
 m63 : ∀ rd : Nat, rd < 1000 → ∀ (pm : Bool) (A : Option Addr) (cap : Nat) (ms : List MD), (ms.length : Int) = s.n → s.n ≤ 13 → MsOk s.p ms.length (mls ms) → AnsP N Tryd.prog H14 80 [scV s, .int .i64 (rd : Int), .im pm A cap ms.length (msV ms)] (fun v => ∃ cs, v = .own .nil 0 ms.length cs ∧ Rows2 cs (msgS s.p s.corrupt rd ms.length (mls ms) s.devs))
 b40 : ∀ rd : Nat, rd < 1000 → ∀ (pm : Bool) (A : Option Addr) (cap : Nat) (rs : List RD), (rs.length : Int) = s.n → s.n ≤ 13 → LsOk s.p (rs.map (·.l)) → AnsP N Tryd.prog H14 62 [scV s, .int .i64 (rd : Int), .im pm A cap rs.length (rsV rs)] (fun v => ∃ cs, v = .own .nil 0 rs.length cs ∧ Rows cs (broadS s.p s.corrupt rd (rs.map (·.l)) s.devs))
theorem sendN_ex (s : Scn) (hs : ScnOk s) {q : Nat} (hq : (s.p, q) ∈ pq7) (hd : ∀ x ∈ s.devs, DevP s.n x) (hk64 : ∀ x ∈ s.devs, x.k < 18446744073709551616) : ∃ N, SendN s N := by
 obtain ⟨N1, h1⟩ := ex_bound (fun N M i h hm pm A cap ms a b c => (h pm A cap ms a b c).le hm) (fun i : Nat => msgs16 s hs hq hd hk64 (i : Int)) 1000
 obtain ⟨N2, h2⟩ := ex_bound (fun N M i h hm pm A cap ms a b c => (h pm A cap ms a b c).le hm) (fun i : Nat => msgs17 s hs hq hd hk64 (i : Int)) 1000
 obtain ⟨N3, h3⟩ := ex_bound (fun N M i h hm pm A cap ms a b c => (h pm A cap ms a b c).le hm) (fun i : Nat => broad13 s hs hq hd hk64 (i : Int)) 1000
 exact ⟨max (max N1 N2) N3, fun rd hr pm A cap ms a b c => (h1 rd hr pm A cap ms a b c).le (by omega), fun rd hr pm A cap ms a b c => (h2 rd hr pm A cap ms a b c).le (by omega), fun rd hr pm A cap ms a b c => (h3 rd hr pm A cap ms a b c).le (by omega)⟩
structure NetI (N b : Nat) (σ : NetS) (tb : List (Nat × Box)) : Prop where
 hT : TB b σ.tp tb
 hl : 1 ≤ tb.length
 hN : SendN (lentS σ.scn) N
 hp : ∃ q, (σ.scn.p, q) ∈ pq7
 h13 : σ.scn.n ≤ 13
 hv : (σ.views.length : Int) = σ.scn.n
 hB : VB (σ.round.toNat * 169) σ
 hr : 0 ≤ σ.round
section
variable {N b g n : Nat} {σ : NetS} {tb : List (Nat × Box)}
theorem NetI.VB (I : NetI N b σ tb) (hr : σ.round < 1000) : VB 999000 σ := I.hB.le (by omega)
theorem NetI.sent (I : NetI N b σ tb) (cp : List Nat → RD) (S : List (List (List Nat))) (hn : (n : Int) = σ.scn.n) : NetI N b (sentS cp S n σ) tb := by
 obtain ⟨h1, h2, h3, h4⟩ := like_sentS cp S n σ
 have hr := I.hr
 have h13 := I.h13
 refine ⟨by rw [h2]; exact I.hT, I.hl, by rw [h1]; exact I.hN, by rw [h1]; exact I.hp, by rw [h1]; exact I.h13, by rw [h3, h1]; exact I.hv, ?_, by rw [h4]; omega⟩
 rw [h4, show (σ.round + 1).toNat * 169 = σ.round.toNat * 169 + 169 by omega]
 have hnn : n * n ≤ 13 * 13 := Nat.mul_le_mul (by omega) (by omega)
 exact (vb_hearAll I.hB _ n).le (by omega)
def netSaid (σ : NetS) (n : Nat) (out : List (List (List Nat))) : List (List (List Nat)) := msgS σ.scn.p σ.scn.corrupt σ.round n out σ.scn.devs
theorem NetI.send18 (I : NetI N b σ tb) (hr : σ.round < 1000) (pm : Bool) (A : Option Addr) (cap : Nat) (ms : List MD) (hml : (ms.length : Int) = σ.scn.n) (hmo : MsOk σ.scn.p ms.length (mls ms)) :
 AnsM (max N 100 + 1) Tryd.prog H14 63 [.bptr b 0, .im pm A cap ms.length (msV ms)] ((b, ⟨g, netC σ⟩) :: tb) (inV (netSaid σ ms.length (mls ms)) ms.length) ((b, ⟨g, netC (sentS cpW (netSaid σ ms.length (mls ms)) ms.length σ)⟩) :: tb) := by
 obtain ⟨q, hq⟩ := I.hp
 have hr0 := I.hr
 have h := I.hN.m41 σ.round.toNat (by omega)
 rw [show ((σ.round.toNat : Nat) : Int) = σ.round by omega] at h
 exact Go.Abs.send18 b g σ tb I.hT I.hl hq I.h13 I.hv (I.VB hr) ⟨hr0, by omega⟩ h pm A cap ms hml hmo
theorem NetI.send44 (I : NetI N b σ tb) (hr : σ.round < 1000) (pm : Bool) (A : Option Addr) (cap : Nat) (ms : List MD) (hml : (ms.length : Int) = σ.scn.n) (hmo : MsOk σ.scn.p ms.length (mls ms)) :
 AnsM (max N 100 + 1) Tryd.prog H14 59 [.bptr b 0, .im pm A cap ms.length (msV ms)] ((b, ⟨g, netC σ⟩) :: tb) (inV (netSaid σ ms.length (mls ms)) ms.length) ((b, ⟨g, netC (sentS lnW (netSaid σ ms.length (mls ms)) ms.length σ)⟩) :: tb) := by
 obtain ⟨q, hq⟩ := I.hp
 have hr0 := I.hr
 have h := I.hN.m63 σ.round.toNat (by omega)
 rw [show ((σ.round.toNat : Nat) : Int) = σ.round by omega] at h
 exact Go.Abs.send44 b g σ tb I.hT I.hl hq I.h13 I.hv (I.VB hr) ⟨hr0, by omega⟩ h pm A cap ms hml hmo
end
theorem net0_TB (F : RD → List V) (hF : ∀ w, ptrsL (F w) = []) (s : Scn) (nx : Nat) : TB (nx + 1) (net0 s nx s.tapes.length).tp (tapB F (nx + 2) s.tapes) := by
 have e : (net0 s nx s.tapes.length).tp = (List.range s.tapes.length).map (nx + 2 + ·) := rfl
 refine ⟨.of_eq (by rw [tapB_ids]; rfl), ?_, ?_, ?_⟩
 ·have key : ∀ (l : List RD) (n : Nat), ∀ e ∈ tapB F n l, ptrsL e.2.cs = [] := by
   intro l
   induction l with
   | nil => intro n e he; cases he
   | cons w l ih =>
     intro n e he
     rcases List.mem_cons.1 he with rfl | he
     ·exact hF w
     ·exact ih _ e he
  exact key _ _
 ·rw [e, List.mem_map]
  rintro ⟨i, _, h⟩
  omega
 ·rw [e]
  exact List.Pairwise.map _ (fun a b h => by omega) List.nodup_range
theorem tapB_length (F : RD → List V) : ∀ (l : List RD) (n : Nat), (tapB F n l).length = l.length
 | [], _ => rfl
 | w :: l, n => by show (tapB F (n + 1) l).length + 1 = _; rw [tapB_length F l]; rfl
theorem net0_I {N : Nat} (F : RD → List V) (hF : ∀ w, ptrsL (F w) = []) (s : Scn) (nx : Nat) (hs : ScnS s) (hN : SendN (lentS s) N) (hp : ∃ q, (s.p, q) ∈ pq7) (h13 : s.n ≤ 13) (h1 : 1 ≤ s.tapes.length) : NetI N (nx + 1) (net0 s nx s.tapes.length) (tapB F (nx + 2) s.tapes) := by
 have hn : (s.tapes.length : Int) = s.n := hs.2.1
 refine ⟨net0_TB F hF s nx, by rw [tapB_length]; exact h1, hN, hp, h13, ?_, ?_, Int.le_refl _⟩
 ·show ((List.replicate s.n.toNat ([] : List Ev)).length : Int) = s.n
  rw [List.length_replicate]; omega
 ·intro v hv
  have : v = [] := (List.mem_replicate.1 (show v ∈ List.replicate s.n.toNat [] from hv)).2
  subst this; simp
theorem scnS_pq {s : Scn} (h : ScnS s) : ∃ q, (s.p, q) ∈ pq7 := by
 have := h.1.1.P.1
 simp only [primes7, List.mem_cons, List.not_mem_nil, or_false] at this
 rcases this with e | e | e | e | e | e | e
 ·rw [e]; exact ⟨5, by decide⟩
 ·rw [e]; exact ⟨7, by decide⟩
 ·rw [e]; exact ⟨13, by decide⟩
 ·rw [e]; exact ⟨17, by decide⟩
 ·rw [e]; exact ⟨19, by decide⟩
 ·rw [e]; exact ⟨31, by decide⟩
 ·rw [e]; exact ⟨61, by decide⟩
theorem scnS_n {s : Scn} (h : ScnS s) : 4 ≤ s.n ∧ s.n ≤ 13 := ⟨h.1.1.2.1, h.1.1.2.2.1⟩
theorem new_ex (s : Scn) (hs : ScnS s) (hc : s.corrupt.length ≤ 1000) (hd : s.devs.length ≤ 1000) (hr : ∀ r ∈ s.tapes, r.l.length ≤ 1000) (hk : ∀ x ∈ s.devs, x.k < 18446744073709551616) : ∃ N, SendN (lentS s) N := by
 have hml : maxLen = 9223372036854775807 := rfl
 have hn := scnS_n hs
 have ht : (s.tapes.length : Int) = s.n := hs.2.1
 obtain ⟨q, hq⟩ := scnS_pq hs
 exact sendN_ex (lentS s) (lentS_ok ⟨by omega, by omega, by omega, fun x hx => by have := hr x hx; omega⟩) hq hs.P.devs hk
theorem tapB_ge (F : RD → List V) : ∀ (l : List RD) (n : Nat), ∀ e ∈ tapB F n l, n ≤ e.1
 | w :: l, n, e, he => by
   rcases List.mem_cons.1 he with rfl | he
   ·exact Nat.le_refl _
   ·have := tapB_ge F l (n + 1) e he; omega
theorem tapB_lt (F : RD → List V) : ∀ (l : List RD) (n : Nat), ∀ e ∈ tapB F n l, e.1 < n + l.length
 | w :: l, n, e, he => by
   rw [List.length_cons]
   rcases List.mem_cons.1 he with rfl | he
   ·show n < _; omega
   ·have := tapB_lt F l (n + 1) e he; omega
theorem netM_ge (F : RD → List V) (s : Scn) (nx : Nat) : ∀ e ∈ netM F s nx s.tapes.length, nx ≤ e.1 ∧ e.1 < nx + (2 + s.tapes.length) := fun e he => by
 unfold netM at he
 rw [List.take_length] at he
 rcases List.mem_cons.1 he with rfl | he
 ·exact ⟨Nat.le_refl _, by show nx < _; omega⟩
 rcases List.mem_cons.1 he with rfl | he
 ·exact ⟨by show nx ≤ nx + 1; omega, by show nx + 1 < _; omega⟩
 ·have h1 := tapB_ge F _ _ e he
  have h2 := tapB_lt F _ _ e he
  exact ⟨by omega, by omega⟩
theorem ptrsL_scV (s : Scn) : ptrsL [scV s] = [] := by simp [scV, scL, ptrsL, ptrs]
section
variable (s : Scn)
theorem call13 (st : Nat → V) (m : List (Nat × Box)) (nx : Nat) (dst : Option Nat) (hd : s.devs.length ≤ 1000) (ht : s.tapes.length ≤ 1000) (hr : ∀ r ∈ s.tapes, r.l.length ≤ 1000) (hs : ScnS s) (hpm : ∀ r ∈ s.tapes, r.pm = true) {k : Nat} (hk : 1111 ≤ k) :
 doCallB H14 (evCall Tryd.prog H14 k) 32 false [scV s] ⟨st, m, nx⟩ dst = some ((St.mk (fun i => killB [] nx (st i)) (m ++ netM (fun w => tapeC w 0) s nx s.tapes.length) (nx + (2 + s.tapes.length))).lay dst (.tup [.bptr (nx + 1) 0, .int .i64 0])) :=
 callNew (H := H14) (ptrsL_scV s) rfl (by omega) (new13 s hd ht hr hs hpm k hk nx) (fun e he => (netM_ge _ s nx e he).1) dst
theorem call14 (st : Nat → V) (m : List (Nat × Box)) (nx : Nat) (dst : Option Nat) (hd : s.devs.length ≤ 1000) (ht : s.tapes.length ≤ 1000) (hr : ∀ r ∈ s.tapes, r.l.length ≤ 1000) (hs : ScnS s) {k : Nat} (hk : 1111 ≤ k) :
 doCallB H14 (evCall Tryd.prog H14 k) 24 false [scV s] ⟨st, m, nx⟩ dst = some ((St.mk (fun i => killB [] nx (st i)) (m ++ netM tapeR s nx s.tapes.length) (nx + (2 + s.tapes.length))).lay dst (.tup [.bptr (nx + 1) 0, .int .i64 0])) :=
 callNew (H := H14) (ptrsL_scV s) rfl (by omega) (new14 s hd ht hr hs k hk nx) (fun e he => (netM_ge _ s nx e he).1) dst
end
def rz (l : List Nat) : RD := ⟨false, none, 0, l⟩
end Go.Abs
end
noncomputable section
namespace Go.Abs
open Go Go.Proofs
set_option maxRecDepth 100000
theorem flat_iL (l : List Int) : iL l = l.flatMap fun x => [V.int .i64 x] := by
 unfold iL; induction l with
 | nil => rfl
 | cons x l ih => rw [List.map_cons, ih]; rfl
theorem flat_rsV (l : List RD) : rsV l = l.flatMap fun x => [rV x] := by
 unfold rsV; induction l with
 | nil => rfl
 | cons x l ih => rw [List.map_cons, ih]; rfl
structure RSp where
 cast : Bool
 A : Option Addr
 cap : Nat
 ms : List MD
def rspC (r : RSp) : List V := [.bool r.cast, .im false r.A r.cap r.ms.length (msV r.ms)]
def rspsV (l : List RSp) : List V := l.flatMap rspC
end Go.Abs
end
