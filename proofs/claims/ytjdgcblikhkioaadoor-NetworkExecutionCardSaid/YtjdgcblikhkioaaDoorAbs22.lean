/- Joined: AbsNXF AbsNXG AbsNXO AbsNXP AbsNYA. -/
import Derived.Test.YtjdgcblikhkioaaDoorAbs7
import Derived.Test.YtjdgcblikhkioaaDoorAbs17
import Derived.Test.YtjdgcblikhkioaaDoorAbs18
import Derived.Test.YtjdgcblikhkioaaDoorAbs21
set_option linter.all false
/- The seat of privitylaw14: a network is built. -/
set_option linter.unusedVariables false
noncomputable section
namespace Go.Abs
open Go Go.Proofs
/-- The boxes of new tapes. -/
def tapB (F : RD → List V) : Nat → List RD → List (Nat × Box)
  | _, [] => []
  | n, w :: l => (n, ⟨0, F w⟩) :: tapB F (n + 1) l
theorem tapB_app (F : RD → List V) (w : RD) : ∀ (l : List RD) (n : Nat), tapB F n (l ++ [w]) = tapB F n l ++ [(n + l.length, ⟨0, F w⟩)]
  | [], n => rfl
  | v :: l, n => by
    show (n, _) :: tapB F (n + 1) (l ++ [w]) = ((n, _) :: tapB F (n + 1) l) ++ _
    rw [tapB_app F w l (n + 1), List.cons_append, List.length_cons, show n + 1 + l.length = n + (l.length + 1) by omega]
theorem tapB_ids (F : RD → List V) : ∀ (l : List RD) (n : Nat), (tapB F n l).map (·.1) = (List.range l.length).map (n + ·)
  | [], n => rfl
  | v :: l, n => by
    show n :: (tapB F (n + 1) l).map (·.1) = _
    rw [tapB_ids F l (n + 1), List.length_cons, List.range_succ_eq_map, List.map_cons, List.map_map]
    have : List.map (fun x => n + 1 + x) (List.range l.length) = List.map ((fun x => n + x) ∘ Nat.succ) (List.range l.length) := List.map_congr_left fun i _ => by
      show n + 1 + i = n + (i + 1)
      omega
    rw [← this]; rfl
/-- A new network. -/
def net0 (s : Scn) (nx i : Nat) : NetS := ⟨s, 0, List.replicate s.n.toNat [], (List.range i).map (nx + 2 + ·)⟩
@[simp] theorem net0_tpl (s : Scn) (nx i : Nat) : (net0 s nx i).tp.length = i := by
  show ((List.range i).map (nx + 2 + ·)).length = i
  rw [List.length_map, List.length_range]
/-- A new network's boxes. -/
def netM (F : RD → List V) (s : Scn) (nx i : Nat) : List (Nat × Box) := (nx, ⟨0, scL s⟩) :: (nx + 1, ⟨0, netC (net0 s nx i)⟩) :: tapB F (nx + 2) (s.tapes.take i)
theorem scnS_lent (s : Scn) : ScnS (lentS s) ↔ ScnS s := by
  rw [scnS_iff, scnS_iff]
  show CoalS s.p s.n s.t s.corrupt ∧ ((s.tapes.map lent).length : Int) = s.n ∧ (¬ ∃ r ∈ s.devs, DB s.n r) ∧ (¬ ∃ r ∈ s.tapes.map lent, RB s.p r) ↔ _
  rw [rb_lent, List.length_map]
theorem lentS_r {s : Scn} (hr : ∀ r ∈ s.tapes, r.l.length ≤ 1000) : ∀ r ∈ (lentS s).tapes, r.l.length ≤ 1000 := fun r h => by
  obtain ⟨x, hx, rfl⟩ := List.mem_map.1 (show r ∈ s.tapes.map lent from h)
  exact hr x hx
theorem rep_views : ∀ n : Nat, rep n [V.own .nil 0 0 []] = viewsC (List.replicate n [])
  | 0 => rfl
  | n + 1 => by
    show [V.own .nil 0 0 []] ++ rep n [V.own .nil 0 0 []] = viewsC (List.replicate (n + 1) [])
    rw [rep_views n, List.replicate_succ]
    rfl
theorem filt_tt {α : Type} (l : List α) : l.filter (fun _ => true) = l := by induction l <;> simp_all
theorem net0_succ (s : Scn) (nx i : Nat) : (netC (net0 s nx i)).set 8 (.own .nil 0 (i + 1) (bpL (net0 s nx i).tp ++ [.bptr (nx + 2 + i) 0])) = netC (net0 s nx (i + 1)) := by
  have e : (List.range (i + 1)).map (nx + 2 + ·) = (List.range i).map (nx + 2 + ·) ++ [nx + 2 + i] := by rw [List.range_succ, List.map_append]; rfl
  have e2 : (net0 s nx (i + 1)) = { net0 s nx i with tp := (net0 s nx i).tp ++ [nx + 2 + i] } := by
    unfold net0
    rw [e]
  rw [e2]
  have e3 : bpL ((net0 s nx i).tp ++ [nx + 2 + i]) = bpL (net0 s nx i).tp ++ [.bptr (nx + 2 + i) 0] := List.map_append
  show _ = [_, _, _, _, _, _, _, _, V.own .nil 0 ((net0 s nx i).tp ++ [nx + 2 + i]).length (bpL ((net0 s nx i).tp ++ [nx + 2 + i]))]
  rw [e3, List.length_append, net0_tpl]
  rfl
theorem netM_succ (F : RD → List V) (s : Scn) (nx i : Nat) (hi : i < s.tapes.length) : netM F s nx (i + 1) = (nx, ⟨0, scL s⟩) :: (nx + 1, ⟨0, netC (net0 s nx (i + 1))⟩) :: (tapB F (nx + 2) (s.tapes.take i) ++ [(nx + 2 + i, ⟨0, F s.tapes[i]⟩)]) := by
  unfold netM
  rw [List.take_succ_eq_append_getElem hi, tapB_app, List.length_take, Nat.min_eq_left (by omega)]
theorem viewsC_rep (n : Nat) : viewsC (List.replicate n []) = List.replicate n (.own .nil 0 0 []) := by
  simp [viewsC, viewV, evsC]
open Classical in
set_option maxHeartbeats 4000000 in
set_option maxRecDepth 100000 in
theorem new13a (s : Scn) (hd : s.devs.length ≤ 1000) (ht : s.tapes.length ≤ 1000) (hr : ∀ r ∈ s.tapes, r.l.length ≤ 1000) (hs : ¬ ScnS s) : AnsN 1111 Tryd.prog H14 13 [scV s] (.tup [.nilp, .int .i64 1]) := by
  refine AnsN.gen (fn := Tryd.f13) (by rfl) Tryd.func13 rfl (by rfl) rfl fun k hk nx => ?_
  have c35 := scen35 (lentS s) hd (by simpa [lentS] using ht) (lentS_r hr) k (by omega)
  rw [decide_eq_false (fun h => hs ((scnS_lent s).1 h))] at c35
  simp only [scV, scL, lentS, List.length_map] at c35
  simp [-reach, entryS, scV, scL, c35, reach_none]
open Classical in
set_option maxHeartbeats 4000000 in
set_option maxRecDepth 100000 in
theorem new13 (s : Scn) (hd : s.devs.length ≤ 1000) (ht : s.tapes.length ≤ 1000) (hr : ∀ r ∈ s.tapes, r.l.length ≤ 1000) (hs : ScnS s) : AnsB 1111 Tryd.prog H14 13 [scV s] (fun nx => .tup [.bptr (nx + 1) 0, .int .i64 0]) (fun nx => netM (fun w => tapeC (lent w) 0) s nx s.tapes.length) (2 + s.tapes.length) := by
  refine AnsB.gen (fn := Tryd.f13) (by rfl) Tryd.func13 rfl (by rfl) (fun nx => ⟨nx + 1, by simp [ptrs, ptrsL], by omega⟩) fun k hk nx => ?_
  have c35 := scen35 (lentS s) hd (by simpa [lentS] using ht) (lentS_r hr) k (by omega)
  rw [decide_eq_true ((scnS_lent s).2 hs)] at c35
  simp only [scV, scL, lentS, List.length_map] at c35
  have hN : s.n = (s.tapes.length : Int) := hs.2.1.symm
  have hb1 : (s.tapes.length : Int) ≤ 140737488355328 := by omega
  have hb2 : (s.tapes.length : Int) * 24 ≤ 140737488355328 := by omega
  have hz : ¬ (s.tapes.length = 0 ∧ 0 < s.tapes.length) := by omega
  rw [hN] at c35
  simp [-reach, entryS, scV, scL, hN, hb1, hb2, hz, c35, reach_none]
  obtain ⟨I, hI⟩ : ∃ I : Nat → St → Prop, I = fun q D => ∃ i : Nat, q = s.tapes.length - i ∧ i ≤ s.tapes.length ∧ D.s 4 = .bptr (nx + 1) 0 ∧ D.s 18 = .im s.tpm s.tA s.tcap s.tapes.length (rsV s.tapes) ∧ D.s 19 = .int .i64 (s.tapes.length : Int) ∧ D.s 20 = .int .i64 (i : Int) ∧ D.m = netM (fun w => tapeC (lent w) 0) s nx i ∧ D.nx = nx + 2 + i := ⟨_, rfl⟩
  refine EvP.loop I (n := s.tapes.length) (by rw [hI]; exact ⟨0, by simp [netM, net0, netC, scL, hN, tapB, rep_views, bpL]⟩) (by omega) fun q D hD => ?_
  rw [hI] at hD
  obtain ⟨i, rfl, hi, d4, d18, d19, d20, dm, dx⟩ := hD
  by_cases hil : i < s.tapes.length
  · have e3 := wrap_succ (q := i) (by omega)
    have c36 := tape36 (lent s.tapes[i]) k (by omega)
    simp only [rV, lent] at c36
    have q2 : ¬ (nx + 2 + i ≤ nx + 1) := by omega
    have q3 : (i + 1) * 8 ≤ 140737488355328 := by omega
    have q4 : i ≤ 140737488355327 := by omega
    have q5 : i + 1 ≤ 140737488355328 := by omega
    simp [-reach, d4, d18, d19, d20, dm, dx, hil, e3, netM, c36, filt_tt, reach_none, q2, q3, q4, q5]
    subst hI
    refine ⟨s.tapes.length - (i + 1), by omega, i + 1, rfl, by omega, by simp [d4], by simp [d18], by simp [d19], by simp, ?_, by simp; omega⟩
    rw [netM_succ _ _ _ _ hil, ← net0_succ]
    rfl
  · have hil' : i = s.tapes.length := by omega
    subst hil'
    simp [d4, d18, d19, d20, dm, dx]
    omega
end Go.Abs
end
/- The seat of privitylaw14: the other writer's network is built. -/
set_option linter.unusedVariables false
noncomputable section
namespace Go.Abs
open Go Go.Proofs
def tapeR (w : RD) : List V := [.own .nil 0 w.l.length (uL w.l), .int .i64 0]
open Classical in
set_option maxHeartbeats 4000000 in
set_option maxRecDepth 100000 in
theorem new14a (s : Scn) (hd : s.devs.length ≤ 1000) (ht : s.tapes.length ≤ 1000) (hr : ∀ r ∈ s.tapes, r.l.length ≤ 1000) (hs : ¬ ScnS s) : AnsN 1111 Tryd.prog H14 14 [scV s] (.tup [.nilp, .int .i64 1]) := by
  refine AnsN.gen (fn := Tryd.f14) (by rfl) Tryd.func14 rfl (by rfl) rfl fun k hk nx => ?_
  have c37 := scen37 (lentS s) hd (by simpa [lentS] using ht) (lentS_r hr) k (by omega)
  rw [decide_eq_false (fun h => hs ((scnS_lent s).1 h))] at c37
  simp only [scV, scL, lentS, List.length_map] at c37
  simp [-reach, entryS, scV, scL, c37, reach_none]
open Classical in
set_option maxHeartbeats 4000000 in
set_option maxRecDepth 100000 in
theorem new14 (s : Scn) (hd : s.devs.length ≤ 1000) (ht : s.tapes.length ≤ 1000) (hr : ∀ r ∈ s.tapes, r.l.length ≤ 1000) (hs : ScnS s) : AnsB 1111 Tryd.prog H14 14 [scV s] (fun nx => .tup [.bptr (nx + 1) 0, .int .i64 0]) (fun nx => netM (tapeR) s nx s.tapes.length) (2 + s.tapes.length) := by
  refine AnsB.gen (fn := Tryd.f14) (by rfl) Tryd.func14 rfl (by rfl) (fun nx => ⟨nx + 1, by simp [ptrs, ptrsL], by omega⟩) fun k hk nx => ?_
  have c37 := scen37 (lentS s) hd (by simpa [lentS] using ht) (lentS_r hr) k (by omega)
  rw [decide_eq_true ((scnS_lent s).2 hs)] at c37
  simp only [scV, scL, lentS, List.length_map] at c37
  have hN : s.n = (s.tapes.length : Int) := hs.2.1.symm
  have hb1 : (s.tapes.length : Int) ≤ 140737488355328 := by omega
  have hb2 : (s.tapes.length : Int) * 24 ≤ 140737488355328 := by omega
  have hz : ¬ (s.tapes.length = 0 ∧ 0 < s.tapes.length) := by omega
  rw [hN] at c37
  simp [-reach, entryS, scV, scL, hN, hb1, hb2, hz, c37, reach_none]
  obtain ⟨I, hI⟩ : ∃ I : Nat → St → Prop, I = fun q D => ∃ i : Nat, q = s.tapes.length - i ∧ i ≤ s.tapes.length ∧ D.s 4 = .bptr (nx + 1) 0 ∧ D.s 1 = .bptr nx 0 ∧ D.s 5 = .int .i64 (i : Int) ∧ D.m = netM (tapeR) s nx i ∧ D.nx = nx + 2 + i := ⟨_, rfl⟩
  refine EvP.loop I (n := s.tapes.length) (by rw [hI]; exact ⟨0, by simp [netM, net0, netC, scL, hN, tapB, rep_views, bpL]⟩) (by omega) fun q D hD => ?_
  rw [hI] at hD
  obtain ⟨i, rfl, hi, d4, d1, d5, dm, dx⟩ := hD
  by_cases hil : i < s.tapes.length
  · have e3 := wrap_succ (q := i) (by omega)
    have c38 := tape38 (lent s.tapes[i]) (show (s.tapes[i]'hil).l.length ≤ 1000 from hr _ (List.getElem_mem hil)) k (by omega)
    simp only [rV, lent] at c38
    have q2 : ¬ (nx + 2 + i ≤ nx + 1) := by omega
    have q3 : (i + 1) * 8 ≤ 140737488355328 := by omega
    have q4 : i ≤ 140737488355327 := by omega
    have q5 : i + 1 ≤ 140737488355328 := by omega
    simp [-reach, d4, d1, d5, dm, dx, hil, e3, netM, scL, hN, c38, filt_tt, reach_none, q2, q3, q4, q5]
    subst hI
    refine ⟨s.tapes.length - (i + 1), by omega, i + 1, rfl, by omega, by simp [d4], by simp [d1], by simp, ?_, by simp; omega⟩
    rw [netM_succ _ _ _ _ hil, ← net0_succ]
    simp [scL, hN, tapeR, lent]
  · have hil' : i = s.tapes.length := by omega
    subst hil'
    simp [d4, d1, d5, dm, dx, netM, scL, hN]
    omega
end Go.Abs
end
/- The seat of privitylaw14: a network and what its rounds need. -/
set_option linter.unusedVariables false
noncomputable section
namespace Go.Abs
open Go Go.Proofs
theorem AnsP.le {P : Program} {H : Hint} {N M f : Nat} {xs : List V} {Q : V → Prop} (h : AnsP N P H f xs Q) (hm : N ≤ M) : AnsP M P H f xs Q := fun n hn => h n (by omega)
theorem AnsM.le {P : Program} {H : Hint} {N M f : Nat} {xs : List V} {m m2 : List (Nat × Box)} {r : V} (h : AnsM N P H f xs m r m2) (hm : N ≤ M) : AnsM M P H f xs m r m2 := fun n hn => h n (by omega)
theorem ex_bound {Q : Nat → Nat → Prop} (mono : ∀ N M i, Q N i → N ≤ M → Q M i) (h : ∀ i, ∃ N, Q N i) : ∀ R, ∃ N, ∀ i, i < R → Q N i
  | 0 => ⟨0, fun i hi => by omega⟩
  | R + 1 => by
    obtain ⟨N, hN⟩ := ex_bound mono h R
    obtain ⟨M, hM⟩ := h R
    refine ⟨max N M, fun i hi => ?_⟩
    by_cases hiR : i = R
    · subst hiR; exact mono _ _ _ hM (by omega)
    · exact mono _ _ _ (hN i (by omega)) (by omega)
/-- Rounds enough for all that a round calls. -/
structure SendN (s : Scn) (N : Nat) : Prop where
  m41 : ∀ rd : Nat, rd < 1000 → ∀ (pm : Bool) (A : Option Addr) (cap : Nat) (ms : List MD), (ms.length : Int) = s.n → s.n ≤ 13 → MsOk s.p ms.length (mls ms) → AnsP N Tryd.prog H14 41 [scV s, .int .i64 (rd : Int), .im pm A cap ms.length (msV ms)] (fun v => ∃ cs, v = .own .nil 0 ms.length cs ∧ Rows2 cs (msgS s.p s.corrupt rd ms.length (mls ms) s.devs))
  m63 : ∀ rd : Nat, rd < 1000 → ∀ (pm : Bool) (A : Option Addr) (cap : Nat) (ms : List MD), (ms.length : Int) = s.n → s.n ≤ 13 → MsOk s.p ms.length (mls ms) → AnsP N Tryd.prog H14 63 [scV s, .int .i64 (rd : Int), .im pm A cap ms.length (msV ms)] (fun v => ∃ cs, v = .own .nil 0 ms.length cs ∧ Rows2 cs (msgS s.p s.corrupt rd ms.length (mls ms) s.devs))
  b40 : ∀ rd : Nat, rd < 1000 → ∀ (pm : Bool) (A : Option Addr) (cap : Nat) (rs : List RD), (rs.length : Int) = s.n → s.n ≤ 13 → LsOk s.p (rs.map (·.l)) → AnsP N Tryd.prog H14 40 [scV s, .int .i64 (rd : Int), .im pm A cap rs.length (rsV rs)] (fun v => ∃ cs, v = .own .nil 0 rs.length cs ∧ Rows cs (broadS s.p s.corrupt rd (rs.map (·.l)) s.devs))
  b61 : ∀ rd : Nat, rd < 1000 → ∀ (pm : Bool) (A : Option Addr) (cap : Nat) (rs : List RD), (rs.length : Int) = s.n → s.n ≤ 13 → LsOk s.p (rs.map (·.l)) → AnsP N Tryd.prog H14 61 [scV s, .int .i64 (rd : Int), .im pm A cap rs.length (rsV rs)] (fun v => ∃ cs, v = .own .nil 0 rs.length cs ∧ Rows cs (broadS s.p s.corrupt rd (rs.map (·.l)) s.devs))
theorem sendN_ex (s : Scn) (hs : ScnOk s) {q : Nat} (hq : (s.p, q) ∈ pq7) (hd : ∀ x ∈ s.devs, DevP s.n x) (hk64 : ∀ x ∈ s.devs, x.k < 18446744073709551616) : ∃ N, SendN s N := by
  obtain ⟨N1, h1⟩ := ex_bound (fun N M i h hm pm A cap ms a b c => (h pm A cap ms a b c).le hm) (fun i : Nat => msgs16 s hs hq hd hk64 (i : Int)) 1000
  obtain ⟨N2, h2⟩ := ex_bound (fun N M i h hm pm A cap ms a b c => (h pm A cap ms a b c).le hm) (fun i : Nat => msgs17 s hs hq hd hk64 (i : Int)) 1000
  obtain ⟨N3, h3⟩ := ex_bound (fun N M i h hm pm A cap ms a b c => (h pm A cap ms a b c).le hm) (fun i : Nat => broad13 s hs hq hd hk64 (i : Int)) 1000
  obtain ⟨N4, h4⟩ := ex_bound (fun N M i h hm pm A cap ms a b c => (h pm A cap ms a b c).le hm) (fun i : Nat => broad14 s hs hq hd hk64 (i : Int)) 1000
  exact ⟨max (max N1 N2) (max N3 N4), fun rd hr pm A cap ms a b c => (h1 rd hr pm A cap ms a b c).le (by omega), fun rd hr pm A cap ms a b c => (h2 rd hr pm A cap ms a b c).le (by omega), fun rd hr pm A cap ms a b c => (h3 rd hr pm A cap ms a b c).le (by omega), fun rd hr pm A cap ms a b c => (h4 rd hr pm A cap ms a b c).le (by omega)⟩
/-- A network in order. -/
structure NetI (N b : Nat) (σ : NetS) (tb : List (Nat × Box)) : Prop where
  hT : TB b σ.tp tb
  hl : 1 ≤ tb.length
  hN : SendN (lentS σ.scn) N
  hp : ∃ q, (σ.scn.p, q) ∈ pq7
  h13 : σ.scn.n ≤ 13
  hv : (σ.views.length : Int) = σ.scn.n
  hB : VB (σ.round.toNat * 169) σ
  hr : 0 ≤ σ.round
section
variable {N b g n : Nat} {σ : NetS} {tb : List (Nat × Box)}
theorem NetI.VB (I : NetI N b σ tb) (hr : σ.round < 1000) : VB 999000 σ := I.hB.le (by omega)
theorem NetI.sent (I : NetI N b σ tb) (cp : List Nat → RD) (S : List (List (List Nat))) (hn : (n : Int) = σ.scn.n) : NetI N b (sentS cp S n σ) tb := by
  obtain ⟨h1, h2, h3, h4⟩ := like_sentS cp S n σ
  have hr := I.hr
  have h13 := I.h13
  refine ⟨by rw [h2]; exact I.hT, I.hl, by rw [h1]; exact I.hN, by rw [h1]; exact I.hp, by rw [h1]; exact I.h13, by rw [h3, h1]; exact I.hv, ?_, by rw [h4]; omega⟩
  rw [h4, show (σ.round + 1).toNat * 169 = σ.round.toNat * 169 + 169 by omega]
  have hnn : n * n ≤ 13 * 13 := Nat.mul_le_mul (by omega) (by omega)
  exact (vb_hearAll I.hB _ n).le (by omega)
theorem NetI.cast (I : NetI N b σ tb) (cp : List Nat → RD) (L : List (List Nat)) (hn : (n : Int) = σ.scn.n) : NetI N b (castS cp L n σ) tb := by
  obtain ⟨h1, h2, h3, h4⟩ := like_castS cp L n σ
  have hr := I.hr
  have h13 := I.h13
  refine ⟨by rw [h2]; exact I.hT, I.hl, by rw [h1]; exact I.hN, by rw [h1]; exact I.hp, by rw [h1]; exact I.h13, by rw [h3, h1]; exact I.hv, ?_, by rw [h4]; omega⟩
  rw [h4, show (σ.round + 1).toNat * 169 = σ.round.toNat * 169 + 169 by omega]
  have hnn : n * n ≤ 13 * 13 := Nat.mul_le_mul (by omega) (by omega)
  exact (vb_hearB I.hB _ n).le (by omega)
/-- What a round of messages makes of them. -/
def netSaid (σ : NetS) (n : Nat) (out : List (List (List Nat))) : List (List (List Nat)) := msgS σ.scn.p σ.scn.corrupt σ.round n out σ.scn.devs
def netTold (σ : NetS) (out : List (List Nat)) : List (List Nat) := broadS σ.scn.p σ.scn.corrupt σ.round out σ.scn.devs
theorem NetI.send18 (I : NetI N b σ tb) (hr : σ.round < 1000) (pm : Bool) (A : Option Addr) (cap : Nat) (ms : List MD) (hml : (ms.length : Int) = σ.scn.n) (hmo : MsOk σ.scn.p ms.length (mls ms)) :
    AnsM (max N 100 + 1) Tryd.prog H14 18 [.bptr b 0, .im pm A cap ms.length (msV ms)] ((b, ⟨g, netC σ⟩) :: tb) (inV (netSaid σ ms.length (mls ms)) ms.length) ((b, ⟨g, netC (sentS cpW (netSaid σ ms.length (mls ms)) ms.length σ)⟩) :: tb) := by
  obtain ⟨q, hq⟩ := I.hp
  have hr0 := I.hr
  have h := I.hN.m41 σ.round.toNat (by omega)
  rw [show ((σ.round.toNat : Nat) : Int) = σ.round by omega] at h
  exact Go.Abs.send18 b g σ tb I.hT I.hl hq I.h13 I.hv (I.VB hr) ⟨hr0, by omega⟩ h pm A cap ms hml hmo
theorem NetI.send44 (I : NetI N b σ tb) (hr : σ.round < 1000) (pm : Bool) (A : Option Addr) (cap : Nat) (ms : List MD) (hml : (ms.length : Int) = σ.scn.n) (hmo : MsOk σ.scn.p ms.length (mls ms)) :
    AnsM (max N 100 + 1) Tryd.prog H14 44 [.bptr b 0, .im pm A cap ms.length (msV ms)] ((b, ⟨g, netC σ⟩) :: tb) (inV (netSaid σ ms.length (mls ms)) ms.length) ((b, ⟨g, netC (sentS lnW (netSaid σ ms.length (mls ms)) ms.length σ)⟩) :: tb) := by
  obtain ⟨q, hq⟩ := I.hp
  have hr0 := I.hr
  have h := I.hN.m63 σ.round.toNat (by omega)
  rw [show ((σ.round.toNat : Nat) : Int) = σ.round by omega] at h
  exact Go.Abs.send44 b g σ tb I.hT I.hl hq I.h13 I.hv (I.VB hr) ⟨hr0, by omega⟩ h pm A cap ms hml hmo
theorem NetI.cast16 (I : NetI N b σ tb) (hr : σ.round < 1000) (pm : Bool) (A : Option Addr) (cap : Nat) (rs : List RD) (hml : (rs.length : Int) = σ.scn.n) (hmo : LsOk σ.scn.p (rs.map (·.l))) :
    AnsM (max N 100 + 1) Tryd.prog H14 16 [.bptr b 0, .im pm A cap rs.length (rsV rs)] ((b, ⟨g, netC σ⟩) :: tb) (.own .nil 0 rs.length ((netTold σ (rs.map (·.l))).map bcV)) ((b, ⟨g, netC (castS cpW (netTold σ (rs.map (·.l))) rs.length σ)⟩) :: tb) := by
  obtain ⟨q, hq⟩ := I.hp
  have hr0 := I.hr
  have h := I.hN.b40 σ.round.toNat (by omega)
  rw [show ((σ.round.toNat : Nat) : Int) = σ.round by omega] at h
  exact Go.Abs.cast16 b g σ tb I.hT I.hl hq I.h13 I.hv (I.VB hr) ⟨hr0, by omega⟩ h pm A cap rs hml hmo
theorem NetI.cast43 (I : NetI N b σ tb) (hr : σ.round < 1000) (pm : Bool) (A : Option Addr) (cap : Nat) (rs : List RD) (hml : (rs.length : Int) = σ.scn.n) (hmo : LsOk σ.scn.p (rs.map (·.l))) :
    AnsM (max N 100 + 1) Tryd.prog H14 43 [.bptr b 0, .im pm A cap rs.length (rsV rs)] ((b, ⟨g, netC σ⟩) :: tb) (.own .nil 0 rs.length ((netTold σ (rs.map (·.l))).map cpV)) ((b, ⟨g, netC (castS lnW (netTold σ (rs.map (·.l))) rs.length σ)⟩) :: tb) := by
  obtain ⟨q, hq⟩ := I.hp
  have hr0 := I.hr
  have h := I.hN.b61 σ.round.toNat (by omega)
  rw [show ((σ.round.toNat : Nat) : Int) = σ.round by omega] at h
  exact Go.Abs.cast43 b g σ tb I.hT I.hl hq I.h13 I.hv (I.VB hr) ⟨hr0, by omega⟩ h pm A cap rs hml hmo
end
theorem net0_TB (F : RD → List V) (hF : ∀ w, ptrsL (F w) = []) (s : Scn) (nx : Nat) : TB (nx + 1) (net0 s nx s.tapes.length).tp (tapB F (nx + 2) s.tapes) := by
  have e : (net0 s nx s.tapes.length).tp = (List.range s.tapes.length).map (nx + 2 + ·) := rfl
  refine ⟨.of_eq (by rw [tapB_ids]; rfl), ?_, ?_, ?_⟩
  · have key : ∀ (l : List RD) (n : Nat), ∀ e ∈ tapB F n l, ptrsL e.2.cs = [] := by
      intro l
      induction l with
      | nil => intro n e he; cases he
      | cons w l ih =>
        intro n e he
        rcases List.mem_cons.1 he with rfl | he
        · exact hF w
        · exact ih _ e he
    exact key _ _
  · rw [e, List.mem_map]
    rintro ⟨i, _, h⟩
    omega
  · rw [e]
    exact List.Pairwise.map _ (fun a b h => by omega) List.nodup_range
theorem tapB_length (F : RD → List V) : ∀ (l : List RD) (n : Nat), (tapB F n l).length = l.length
  | [], _ => rfl
  | w :: l, n => by show (tapB F (n + 1) l).length + 1 = _; rw [tapB_length F l]; rfl
theorem net0_I {N : Nat} (F : RD → List V) (hF : ∀ w, ptrsL (F w) = []) (s : Scn) (nx : Nat) (hs : ScnS s) (hN : SendN (lentS s) N) (hp : ∃ q, (s.p, q) ∈ pq7) (h13 : s.n ≤ 13) (h1 : 1 ≤ s.tapes.length) : NetI N (nx + 1) (net0 s nx s.tapes.length) (tapB F (nx + 2) s.tapes) := by
  have hn : (s.tapes.length : Int) = s.n := hs.2.1
  refine ⟨net0_TB F hF s nx, by rw [tapB_length]; exact h1, hN, hp, h13, ?_, ?_, Int.le_refl _⟩
  · show ((List.replicate s.n.toNat ([] : List Ev)).length : Int) = s.n
    rw [List.length_replicate]; omega
  · intro v hv
    have : v = [] := (List.mem_replicate.1 (show v ∈ List.replicate s.n.toNat [] from hv)).2
    subst this; simp
theorem scnS_pq {s : Scn} (h : ScnS s) : ∃ q, (s.p, q) ∈ pq7 := by
  have := h.1.1.P.1
  simp only [primes7, List.mem_cons, List.not_mem_nil, or_false] at this
  rcases this with e | e | e | e | e | e | e
  · rw [e]; exact ⟨5, by decide⟩
  · rw [e]; exact ⟨7, by decide⟩
  · rw [e]; exact ⟨13, by decide⟩
  · rw [e]; exact ⟨17, by decide⟩
  · rw [e]; exact ⟨19, by decide⟩
  · rw [e]; exact ⟨31, by decide⟩
  · rw [e]; exact ⟨61, by decide⟩
theorem scnS_n {s : Scn} (h : ScnS s) : 4 ≤ s.n ∧ s.n ≤ 13 := ⟨h.1.1.2.1, h.1.1.2.2.1⟩
/-- All that a new network of a valid scenario needs. -/
theorem new_ex (s : Scn) (hs : ScnS s) (hc : s.corrupt.length ≤ 1000) (hd : s.devs.length ≤ 1000) (hr : ∀ r ∈ s.tapes, r.l.length ≤ 1000) (hk : ∀ x ∈ s.devs, x.k < 18446744073709551616) : ∃ N, SendN (lentS s) N := by
  have hml : maxLen = 9223372036854775807 := rfl
  have hn := scnS_n hs
  have ht : (s.tapes.length : Int) = s.n := hs.2.1
  obtain ⟨q, hq⟩ := scnS_pq hs
  exact sendN_ex (lentS s) (lentS_ok ⟨by omega, by omega, by omega, fun x hx => by have := hr x hx; omega⟩) hq hs.P.devs hk
theorem tapB_ge (F : RD → List V) : ∀ (l : List RD) (n : Nat), ∀ e ∈ tapB F n l, n ≤ e.1
  | w :: l, n, e, he => by
    rcases List.mem_cons.1 he with rfl | he
    · exact Nat.le_refl _
    · have := tapB_ge F l (n + 1) e he; omega
theorem tapB_lt (F : RD → List V) : ∀ (l : List RD) (n : Nat), ∀ e ∈ tapB F n l, e.1 < n + l.length
  | w :: l, n, e, he => by
    rw [List.length_cons]
    rcases List.mem_cons.1 he with rfl | he
    · show n < _; omega
    · have := tapB_lt F l (n + 1) e he; omega
theorem netM_ge (F : RD → List V) (s : Scn) (nx : Nat) : ∀ e ∈ netM F s nx s.tapes.length, nx ≤ e.1 ∧ e.1 < nx + (2 + s.tapes.length) := fun e he => by
  unfold netM at he
  rw [List.take_length] at he
  rcases List.mem_cons.1 he with rfl | he
  · exact ⟨Nat.le_refl _, by show nx < _; omega⟩
  rcases List.mem_cons.1 he with rfl | he
  · exact ⟨by show nx ≤ nx + 1; omega, by show nx + 1 < _; omega⟩
  · have h1 := tapB_ge F _ _ e he
    have h2 := tapB_lt F _ _ e he
    exact ⟨by omega, by omega⟩
theorem ptrsL_scV (s : Scn) : ptrsL [scV s] = [] := by simp [scV, scL, ptrsL, ptrs]
section
variable (s : Scn)
theorem call13 (st : Nat → V) (m : List (Nat × Box)) (nx : Nat) (dst : Option Nat) (hd : s.devs.length ≤ 1000) (ht : s.tapes.length ≤ 1000) (hr : ∀ r ∈ s.tapes, r.l.length ≤ 1000) (hs : ScnS s) {k : Nat} (hk : 1111 ≤ k) :
    doCallB H14 (evCall Tryd.prog H14 k) 13 false [scV s] ⟨st, m, nx⟩ dst = some ((St.mk (fun i => killB [] nx (st i)) (m ++ netM (fun w => tapeC (lent w) 0) s nx s.tapes.length) (nx + (2 + s.tapes.length))).lay dst (.tup [.bptr (nx + 1) 0, .int .i64 0])) :=
  callNew (H := H14) (ptrsL_scV s) rfl (by omega) (new13 s hd ht hr hs k hk nx) (fun e he => (netM_ge _ s nx e he).1) dst
theorem call14 (st : Nat → V) (m : List (Nat × Box)) (nx : Nat) (dst : Option Nat) (hd : s.devs.length ≤ 1000) (ht : s.tapes.length ≤ 1000) (hr : ∀ r ∈ s.tapes, r.l.length ≤ 1000) (hs : ScnS s) {k : Nat} (hk : 1111 ≤ k) :
    doCallB H14 (evCall Tryd.prog H14 k) 14 false [scV s] ⟨st, m, nx⟩ dst = some ((St.mk (fun i => killB [] nx (st i)) (m ++ netM tapeR s nx s.tapes.length) (nx + (2 + s.tapes.length))).lay dst (.tup [.bptr (nx + 1) 0, .int .i64 0])) :=
  callNew (H := H14) (ptrsL_scV s) rfl (by omega) (new14 s hd ht hr hs k hk nx) (fun e he => (netM_ge _ s nx e he).1) dst
end
end Go.Abs
end
/- The seat of privitylaw14: the examples. -/
set_option linter.unusedVariables false
noncomputable section
namespace Go.Abs
open Go Go.Proofs
def rz (l : List Nat) : RD := ⟨false, none, 0, l⟩
/-- The example's scenario. -/
def exS : Scn := ⟨31, 4, 1, false, none, 0, [], false, none, 0, [], false, none, 0, [rz [5, 6], rz [], rz [], rz []]⟩
def noS : Scn := ⟨0, 0, 0, false, none, 0, [], false, none, 0, [], false, none, 0, []⟩
def exOut : List (List (List Nat)) := [[[], [], [], []], [[], [], [7], []], [[], [], [], []], [[], [], [], []]]
def exCast : List (List Nat) := [[1], [], [], [2, 3]]
def rzM (ls : List (List Nat)) : MD := ⟨false, none, 0, ls.map rz⟩
def exN0 (nx : Nat) : NetS := net0 exS nx exS.tapes.length
def exN1 (nx : Nat) : NetS := sentS cpW exOut 4 (exN0 nx)
def exN2 (nx : Nat) : NetS := castS cpW exCast 4 (exN1 nx)
def exTb (nx : Nat) : List (Nat × Box) := tapB (fun w => tapeC (lent w) 0) (nx + 2) exS.tapes
def exIn : V := .own .nil 0 4 [.own .nil 0 4 [.own .nil 0 0 [], .own .nil 0 0 [], .own .nil 0 0 [], .own .nil 0 0 []], .own .nil 0 4 [.own .nil 0 0 [], .own .nil 0 0 [], .own .nil 0 0 [], .own .nil 0 0 []],
  .own .nil 0 4 [.own .nil 0 0 [], .im true none 0 1 [.int .u64 7], .own .nil 0 0 [], .own .nil 0 0 []], .own .nil 0 4 [.own .nil 0 0 [], .own .nil 0 0 [], .own .nil 0 0 [], .own .nil 0 0 []]]
theorem exIn_eq : inV exOut 4 = exIn := by rfl
theorem exOut_mls : mls (exOut.map rzM) = exOut := by rfl
theorem exOut_ok : MsOk 31 4 exOut := by
  refine ⟨rfl, fun l hl => ?_⟩
  have key : ∀ l ∈ exOut, l.length = 4 ∧ ∀ r ∈ l, r.length ≤ 1000 ∧ ∀ y ∈ r, y < 31 := by decide
  exact key l hl
theorem exCast_ok : LsOk 31 exCast := by
  have key : ∀ r ∈ exCast, r.length ≤ 1000 ∧ ∀ y ∈ r, y < 31 := by decide
  exact key
theorem exS_ok : ScnS exS := by
  refine ⟨⟨by decide, by decide, fun i hi => by simp [exS] at hi⟩, by decide, fun x hx => by simp [exS] at hx, by decide⟩
theorem noS_bad : ¬ ScnS noS := fun h => by
  have := (scnS_n h).1
  simp [noS] at this
set_option maxHeartbeats 4000000 in
set_option maxRecDepth 100000 in
theorem awake12 : ∃ N, AnsN N Tryd.prog H14 12 [] (.bool true) := by
  obtain ⟨N, hN⟩ := new_ex exS exS_ok (by decide) (by decide) (by decide) (fun x hx => by simp [exS] at hx)
  refine ⟨max N 100200 + 2, ?_⟩
  refine AnsN.of (fn := Tryd.f12) (t := 0) (by rfl) Tryd.func12 rfl rfl (by rfl) (by rfl) fun k hk nx => ?_
  have c33 := callP (k := k) example33 (by omega) (by simp [ptrsL]) rfl
  have c13 := fun st nx dst => call13 exS st [] nx dst (by decide) (by decide) (by decide) exS_ok (k := k) (by omega)
  have c13a := callP (k := k) (new13a noS (by decide) (by decide) (by decide) noS_bad) (by omega) (by simp [ptrsL, scV, scL, noS]) rfl
  have c34 := callP (k := k) none34 (by omega) (by simp [ptrsL]) rfl
  have e1 : scV exS = .agg [.int .u64 31, .int .i64 4, .int .i64 1, .im false none 0 0 [], .im false none 0 0 [], .im false none 0 4 [.im false none 0 2 (uL [5, 6]), .im false none 0 0 [], .im false none 0 0 [], .im false none 0 0 []]] := rfl
  have e2 : scV noS = .agg [.int .u64 0, .int .i64 0, .int .i64 0, .im false none 0 0 [], .im false none 0 0 [], .im false none 0 0 []] := rfl
  have e3 : netM (fun w => tapeC (lent w) 0) exS nx exS.tapes.length = [(nx, ⟨0, scL exS⟩)] ++ (nx + 1, ⟨0, netC (net0 exS nx exS.tapes.length)⟩) :: tapB (fun w => tapeC (lent w) 0) (nx + 2) exS.tapes := rfl
  replace c13 := fun st dst => c13 st nx dst
  simp only [e1, e2, List.nil_append, e3] at c13 c13a
  have I0 : NetI N (nx + 1) (exN0 nx) (exTb nx) := net0_I (fun w => tapeC (lent w) 0) (fun w => ptrsL_tapeC _ _) exS nx exS_ok hN (scnS_pq exS_ok) (by decide) (by decide)
  have I1 : NetI N (nx + 1) (exN1 nx) (exTb nx) := I0.sent cpW exOut (n := 4) rfl
  have I2 : NetI N (nx + 1) (exN2 nx) (exTb nx) := I1.cast cpW exCast (n := 4) rfl
  have lt : ∀ σ : NetS, ∀ e ∈ (nx + 1, (⟨0, netC σ⟩ : Box)) :: exTb nx, e.1 < nx + (2 + exS.tapes.length) := fun σ e he => by
    rcases List.mem_cons.1 he with rfl | he
    · show nx + 1 < _; omega
    · have := tapB_lt _ _ _ e he; omega
  have dj : ∀ σ : NetS, σ.tp = (exN0 nx).tp → ∀ e ∈ [(nx, (⟨0, scL exS⟩ : Box))] ++ [], e.1 ∉ (nx + 1) :: σ.tp := fun σ hσ e he => by
    rw [List.append_nil, List.mem_singleton] at he
    subst he
    rw [hσ, List.mem_cons, not_or]
    refine ⟨by show ¬ nx = nx + 1; omega, ?_⟩
    show nx ∉ (List.range exS.tapes.length).map (nx + 2 + ·)
    rw [List.mem_map]
    rintro ⟨i, _, h⟩
    omega
  have t1 : (exN1 nx).tp = (exN0 nx).tp := (like_sentS _ _ _ _).2.1
  have t2 : (exN2 nx).tp = (exN1 nx).tp := (like_castS _ _ _ _).2.1
  have c18 := fun st dst => netCall (O1 := [(nx, ⟨0, scL exS⟩)]) (O2 := []) (g := 0) I0.hT I0.hl (dj _ rfl) t1 (I0.send18 (g := 0) (show (0 : Int) < 1000 by decide) false none 0 (exOut.map rzM) rfl exOut_ok) (k := k) (by omega) (by simp [ptrs, ptrsL]) rfl (lt _) st dst
  have c16 := fun st dst => netCall (O1 := [(nx, ⟨0, scL exS⟩)]) (O2 := []) (g := 0) I1.hT I1.hl (dj _ t1) t2 (I1.cast16 (g := 0) (show (0 : Int) + 1 < 1000 by decide) false none 0 (exCast.map rz) rfl exCast_ok) (k := k) (by omega) (by simp [ptrs, ptrsL]) rfl (lt _) st dst
  have s18 : inV (netSaid (exN0 nx) (exOut.map rzM).length (mls (exOut.map rzM))) (exOut.map rzM).length = exIn := exIn_eq
  rw [s18] at c18
  have v18 : msV (exOut.map rzM) = [.im false none 0 4 [.im false none 0 0 [], .im false none 0 0 [], .im false none 0 0 [], .im false none 0 0 []], .im false none 0 4 [.im false none 0 0 [], .im false none 0 0 [], .im false none 0 1 [.int .u64 7], .im false none 0 0 []], .im false none 0 4 [.im false none 0 0 [], .im false none 0 0 [], .im false none 0 0 [], .im false none 0 0 []], .im false none 0 4 [.im false none 0 0 [], .im false none 0 0 [], .im false none 0 0 [], .im false none 0 0 []]] := rfl
  have v16 : rsV (exCast.map rz) = [.im false none 0 1 [.int .u64 1], .im false none 0 0 [], .im false none 0 0 [], .im false none 0 2 [.int .u64 2, .int .u64 3]] := rfl
  have s16 : (netTold (exN1 nx) ((exCast.map rz).map (·.l))).map bcV = [bcV [1], bcV [], bcV [], bcV [2, 3]] := rfl
  have z18 : (exOut.map rzM).length = 4 := rfl
  have z16 : (exCast.map rz).length = 4 := rfl
  simp only [v18, v16, s16, z18, z16, List.singleton_append, List.append_nil] at c18 c16
  have u0 : (exN0 nx) = net0 exS nx exS.tapes.length := rfl
  have u1 : exTb nx = tapB (fun w => tapeC (lent w) 0) (nx + 2) exS.tapes := rfl
  rw [← u0, ← u1] at c13
  simp [-EvK_app, entryS]
  rw [EvK_app]
  simp [-EvK_app, -reach, -doCall, doCall_eq, c33, c13]
  refine EvK_cut (fun D => D.s 1 = .bptr (nx + 1) 0 ∧ D.s 2 = .int .i64 0 ∧ D.m = (nx, ⟨0, scL exS⟩) :: (nx + 1, ⟨0, netC (exN0 nx)⟩) :: exTb nx ∧ D.nx = nx + (2 + exS.tapes.length)) (by simp) fun D ⟨d1, d2, dm, dx⟩ => ?_
  simp [-EvK_app, -reach, -doCall, doCall_eq, c13a, d1, d2, dm, dx]
  refine EvK_cut (fun D => D.s 1 = .bptr (nx + 1) 0 ∧ D.s 2 = .int .i64 0 ∧ D.s 4 = .int .i64 1 ∧ D.m = (nx, ⟨0, scL exS⟩) :: (nx + 1, ⟨0, netC (exN0 nx)⟩) :: exTb nx ∧ D.nx = nx + (2 + exS.tapes.length)) (by simp [d1, d2]) fun D ⟨d1, d2, d4, dm, dx⟩ => ?_
  simp [-EvK_app, d1, d2, d4, dm, dx]
  rw [EvK_app]
  simp [-EvK_app, d1, d2, d4, dm, dx]
  refine EvK_cut (fun D => D.s 1 = .bptr (nx + 1) 0 ∧ D.m = (nx, ⟨0, scL exS⟩) :: (nx + 1, ⟨0, netC (exN0 nx)⟩) :: exTb nx ∧ D.nx = nx + (2 + exS.tapes.length)) (by simp [d1]) fun D ⟨d1, dm, dx⟩ => ?_
  simp [-EvK_app, -reach, -doCall, doCall_eq, c34, d1, dm, dx]
  refine EvK_cut (fun D => D.s 1 = .bptr (nx + 1) 0 ∧ D.s 5 = .own .nil 0 4 [.own .nil 0 4 [.own .nil 0 0 [], .own .nil 0 0 [], .own .nil 0 0 [], .own .nil 0 0 []], .own .nil 0 4 [.own .nil 0 0 [], .own .nil 0 0 [], .own .nil 0 0 [], .own .nil 0 0 []], .own .nil 0 4 [.own .nil 0 0 [], .own .nil 0 0 [], .own .nil 0 0 [], .own .nil 0 0 []], .own .nil 0 4 [.own .nil 0 0 [], .own .nil 0 0 [], .own .nil 0 0 [], .own .nil 0 0 []]] ∧ D.m = (nx, ⟨0, scL exS⟩) :: (nx + 1, ⟨0, netC (exN0 nx)⟩) :: exTb nx ∧ D.nx = nx + (2 + exS.tapes.length)) (by simp [d1]) fun D ⟨d1, d5, dm, dx⟩ => ?_
  simp [-EvK_app, d1, d5, dm, dx]
  refine EvK_cut (fun D => D.s 1 = .bptr (nx + 1) 0 ∧ D.s 5 = .own .nil 0 4 [.own .nil 0 4 [.own .nil 0 0 [], .own .nil 0 0 [], .own .nil 0 0 [], .own .nil 0 0 []], .own .nil 0 4 [.own .nil 0 0 [], .own .nil 0 0 [], .own .nil 0 1 [.int .u64 7], .own .nil 0 0 []], .own .nil 0 4 [.own .nil 0 0 [], .own .nil 0 0 [], .own .nil 0 0 [], .own .nil 0 0 []], .own .nil 0 4 [.own .nil 0 0 [], .own .nil 0 0 [], .own .nil 0 0 [], .own .nil 0 0 []]] ∧ D.m = (nx, ⟨0, scL exS⟩) :: (nx + 1, ⟨0, netC (exN0 nx)⟩) :: exTb nx ∧ D.nx = nx + (2 + exS.tapes.length)) (by simp [d1]) fun D ⟨d1, d5, dm, dx⟩ => ?_
  simp [-EvK_app, -reach, -doCall, doCall_eq, d1, d5, dm, dx, c18, exIn]
  refine EvK_cut (fun D => D.s 1 = .bptr (nx + 1) 0 ∧ D.s 6 = exIn ∧ D.m = (nx, ⟨0, scL exS⟩) :: (nx + 1, ⟨0, netC (exN1 nx)⟩) :: exTb nx ∧ D.nx = nx + (2 + exS.tapes.length)) (by simp [d1, exIn]) fun D ⟨d1, d6, dm, dx⟩ => ?_
  simp [-EvK_app, -reach, -doCall, doCall_eq, d1, d6, dm, dx, c16, exIn]
  refine EvK_cut (fun D => D.s 1 = .bptr (nx + 1) 0 ∧ D.s 6 = exIn ∧ D.s 7 = .own .nil 0 4 [bcV [1], bcV [], bcV [], bcV [2, 3]] ∧ D.m = (nx, ⟨0, scL exS⟩) :: (nx + 1, ⟨0, netC (exN2 nx)⟩) :: exTb nx ∧ D.nx = nx + (2 + exS.tapes.length)) (by simp [d1, d6, exIn]) fun D ⟨d1, d6, d7, dm, dx⟩ => ?_
  simp [-EvK_app, d1, d6, d7, dm, dx, exIn]
  rw [EvK_app]
  simp [-EvK_app, d1, d6, d7, dm, dx]
  refine EvK_cut (fun D => D.s 1 = .bptr (nx + 1) 0 ∧ D.s 6 = exIn ∧ D.s 7 = .own .nil 0 4 [bcV [1], bcV [], bcV [], bcV [2, 3]] ∧ D.m = (nx, ⟨0, scL exS⟩) :: (nx + 1, ⟨0, netC (exN2 nx)⟩) :: exTb nx ∧ D.nx = nx + (2 + exS.tapes.length)) (by simp [d1, d6, d7, exIn]) fun D ⟨d1, d6, d7, dm, dx⟩ => ?_
  have w7 : uL [7] = [.int .u64 7] := rfl
  have w23 : uL [2, 3] = [.int .u64 2, .int .u64 3] := rfl
  have w12 : uL [1, 2] = [.int .u64 1, .int .u64 2] := rfl
  have w100 : uL [1, 0, 0] = [.int .u64 1, .int .u64 0, .int .u64 0] := rfl
  have w1 : uL [1] = [.int .u64 1] := rfl
  have w123 : uL [1, 2, 3] = [.int .u64 1, .int .u64 2, .int .u64 3] := rfl
  have c20 := fun l hl => callP (k := k) (words20 false false none none 0 0 l l hl) (by omega) (by simp) rfl
  have c20a := c20 [7] (by decide)
  have c20b := c20 [2, 3] (by decide)
  have c20c := c20 [1, 2] (by decide)
  have c20d := c20 [1, 0, 0] (by decide)
  have c24a := callP (k := k) (resize24 false none 0 [1, 2, 3] 2 (by decide)) (by omega) (by simp) rfl
  have c24b := callP (k := k) (resize24 false none 0 [1] 3 (by decide)) (by omega) (by simp) rfl
  have x1 : uL (resizeS [1, 2, 3] 2) = [.int .u64 1, .int .u64 2] := rfl
  have x2 : uL (resizeS [1] 3) = [.int .u64 1, .int .u64 0, .int .u64 0] := rfl
  simp only [w7, w23, w12, w100, w1, w123, x1, x2, List.length_cons, List.length_nil, decide_true, Nat.zero_add, Nat.reduceAdd] at c20a c20b c20c c20d c24a c24b
  have n2 : ((2 : Nat) : Int) = 2 := rfl
  have n3 : ((3 : Nat) : Int) = 3 := rfl
  have n21 : ((2 : Nat) : Int) + 1 = 3 := rfl
  have n01 : ((0 : Nat) : Int) + 1 = 1 := rfl
  simp only [n2, n3] at c24a c24b
  have t02 : (exN2 nx).tp = (exN0 nx).tp := t2.trans t1
  have c26 := fun st dst => netCall (O1 := [(nx, ⟨0, scL exS⟩)]) (O2 := []) (g := 0) I2.hT I2.hl (dj _ t02) rfl (rounds26 (nx + 1) 0 (exN2 nx) (exTb nx) I2.hT) (k := k) (by omega) (by simp [ptrs, ptrsL]) rfl (lt _) st dst
  have c23 := fun i hi hn st dst => netCall (O1 := [(nx, ⟨0, scL exS⟩)]) (O2 := []) (g := 0) I2.hT I2.hl (dj _ t02) rfl (view23 (nx + 1) 0 (exN2 nx) (exTb nx) I2.hT i hi (show 4 ≤ 1000 by decide) hn) (k := k) (by omega) (by simp [ptrs, ptrsL]) rfl (lt _) st dst
  have c23a := c23 2 (show 2 < 4 by decide) (show 3 ≤ 1000000 by decide)
  have c23b := c23 0 (show 0 < 4 by decide) (show 1 ≤ 1000000 by decide)
  have y1 : viewV ((exN2 nx).views[2]'(show 2 < 4 by decide)) = .own .nil 0 3 [.int .i64 0, .int .i64 2, .im true none 0 1 [.int .u64 7], .int .i64 1, .int .i64 1, .im true none 0 1 [.int .u64 1], .int .i64 1, .int .i64 4, .im true none 0 2 [.int .u64 2, .int .u64 3]] := rfl
  have y2 : viewV ((exN2 nx).views[0]'(show 0 < 4 by decide)) = .own .nil 0 1 [.int .i64 1, .int .i64 4, .im true none 0 2 [.int .u64 2, .int .u64 3]] := rfl
  have y3 : (exN2 nx).round = 2 := rfl
  rw [y1] at c23a
  rw [y2] at c23b
  rw [y3] at c26
  have c22a := callP (k := k) (views22 false false none none 0 0 [⟨0, 2, rz [7]⟩, ⟨1, 1, rz [1]⟩, ⟨1, 4, rz [2, 3]⟩] [⟨0, 2, rz [7]⟩, ⟨1, 1, rz [1]⟩, ⟨1, 4, rz [2, 3]⟩] (by decide) (by decide)) (by omega) (by simp) rfl
  have c22b := callP (k := k) (views22 false false none none 0 0 [⟨1, 4, rz [2, 3]⟩] [⟨1, 4, rz [2, 3]⟩] (by decide) (by decide)) (by omega) (by simp) rfl
  have y4 : evsC [⟨0, 2, rz [7]⟩, ⟨1, 1, rz [1]⟩, ⟨1, 4, rz [2, 3]⟩] = [.int .i64 0, .int .i64 2, .im false none 0 1 [.int .u64 7], .int .i64 1, .int .i64 1, .im false none 0 1 [.int .u64 1], .int .i64 1, .int .i64 4, .im false none 0 2 [.int .u64 2, .int .u64 3]] := rfl
  have y5 : evsC [⟨1, 4, rz [2, 3]⟩] = [.int .i64 1, .int .i64 4, .im false none 0 2 [.int .u64 2, .int .u64 3]] := rfl
  simp only [y4, y5, List.length_cons, List.length_nil, decide_true, Nat.zero_add, Nat.reduceAdd] at c22a c22b
  simp only [List.singleton_append, List.append_nil, n21, n01] at c26 c23a c23b
  simp [-reach, -doCall, doCall_eq, d1, d6, d7, dm, dx, exIn, bcV, w1, w23, c20a, c20b, c20c, c20d, c24a, c24b, c26, c23a, c23b, c22a, c22b]
  rintro a b (⟨rfl, -⟩ | ⟨rfl, -⟩ | h)
  · exact Nat.le_refl _
  · omega
  · have := tapB_ge _ _ _ _ h; omega
end Go.Abs
end
/- The seat of privitylaw14: what a law's arguments can be. -/
set_option linter.unusedVariables false
noncomputable section
namespace Go.Abs
open Go Go.Proofs
set_option maxRecDepth 100000
theorem flat_iL (l : List Int) : iL l = l.flatMap fun x => [V.int .i64 x] := by
  unfold iL; induction l with
  | nil => rfl
  | cons x l ih => rw [List.map_cons, ih]; rfl
theorem flat_rsV (l : List RD) : rsV l = l.flatMap fun x => [rV x] := by
  unfold rsV; induction l with
  | nil => rfl
  | cons x l ih => rw [List.map_cons, ih]; rfl
theorem flat_msV (l : List MD) : msV l = l.flatMap fun x => [mV x] := by
  unfold msV; induction l with
  | nil => rfl
  | cons x l ih => rw [List.map_cons, ih]; rfl
/-- Words that a caller lends. -/
def RdOk (r : RD) : Prop := r.pm = false ∧ r.l.length ≤ maxLen ∧ ∀ x ∈ r.l, x < 18446744073709551616
def MdOk (m : MD) : Prop := m.pm = false ∧ m.l.length ≤ maxLen ∧ ∀ r ∈ m.l, RdOk r
theorem rd_words {k : Nat} {vs : List V} (h : Sh Tryd.prog (k + 1 + 1) 31 vs) : ∃ r : RD, RdOk r ∧ vs = [rV r] := by
  obtain ⟨A, cap, l, h1, h2, rfl⟩ := sh_words Tryd.underlying31 Tryd.underlying22 ce22 h
  exact ⟨⟨false, A, cap, l⟩, ⟨rfl, h1, h2⟩, rfl⟩
theorem rd_ints {k : Nat} {vs : List V} (h : Sh Tryd.prog (k + 1 + 1) 25 vs) : ∃ A cap l, l.length ≤ maxLen ∧ vs = [.im false A cap l.length (iL l)] := by
  obtain ⟨A, cap, l, h1, h2, h3⟩ := sh_slice (fun x : Int => [V.int .i64 x]) (fun _ => True) Tryd.underlying25 ce3 (fun c h => by
    obtain ⟨x, _, he⟩ := sh_i64 Tryd.underlying3 h
    exact ⟨x, trivial, he⟩) h
  rw [← flat_iL] at h3
  exact ⟨A, cap, l, h1, h3⟩
theorem rd_rows {k : Nat} {vs : List V} (h : Sh Tryd.prog (k + 1 + 1 + 1) 27 vs) : ∃ A cap, ∃ l : List RD, l.length ≤ maxLen ∧ (∀ r ∈ l, RdOk r) ∧ vs = [.im false A cap l.length (rsV l)] := by
  obtain ⟨A, cap, l, h1, h2, h3⟩ := sh_slice (fun x : RD => [rV x]) RdOk Tryd.underlying27 ce31 (fun c h => rd_words h) h
  rw [← flat_rsV] at h3
  exact ⟨A, cap, l, h1, h2, h3⟩
theorem rd_msgs {k : Nat} {vs : List V} (h : Sh Tryd.prog (k + 1 + 1 + 1 + 1) 44 vs) : ∃ A cap, ∃ l : List MD, l.length ≤ maxLen ∧ (∀ m ∈ l, MdOk m) ∧ vs = [.im false A cap l.length (msV l)] := by
  obtain ⟨A, cap, l, h1, h2, h3⟩ := sh_slice (fun x : MD => [mV x]) MdOk Tryd.underlying44 ce27 (fun c h => by
    obtain ⟨A, cap, l, a1, a2, rfl⟩ := rd_rows h
    exact ⟨⟨false, A, cap, l⟩, ⟨rfl, a1, a2⟩, rfl⟩) h
  rw [← flat_msV] at h3
  exact ⟨A, cap, l, h1, h2, h3⟩
theorem rd_params {k : Nat} {vs : List V} (h : Sh Tryd.prog (k + 1 + 1) 24 vs) : ∃ (p : Nat) (n t : Int), p < 18446744073709551616 ∧ vs = [.int .u64 (p : Int), .int .i64 n, .int .i64 t] := by
  unfold Sh at h
  rw [Tryd.underlying24] at h
  obtain ⟨hl, hf⟩ := h
  rw [ce24] at hl
  match vs, hl with
  | [a, b, c], _ =>
    simp [ce22, ce3] at hf
    obtain ⟨h0, h1, h2⟩ := hf
    obtain ⟨p, hp, e0⟩ := sh_u64 Tryd.underlying22 h0
    obtain ⟨n, _, e1⟩ := sh_i64 Tryd.underlying3 h1
    obtain ⟨t, _, e2⟩ := sh_i64 Tryd.underlying3 h2
    simp at e0 e1 e2
    exact ⟨p, n, t, hp, by simp [e0, e1, e2]⟩
theorem rd_dev {k : Nat} {vs : List V} (h : Sh Tryd.prog (k + 1 + 1) 55 vs) : ∃ x : Dev, x.k < 18446744073709551616 ∧ vs = devL x := by
  unfold Sh at h
  rw [Tryd.underlying55] at h
  obtain ⟨hl, hf⟩ := h
  rw [ce55] at hl
  match vs, hl with
  | [a, b, c, d, e, f, g, i], _ =>
    simp [ce22, ce3] at hf
    obtain ⟨h0, h1, h2, h3, h4, h5, h6, h7⟩ := hf
    obtain ⟨x0, _, e0⟩ := sh_i64 Tryd.underlying3 h0
    obtain ⟨x1, _, e1⟩ := sh_i64 Tryd.underlying3 h1
    obtain ⟨x2, _, e2⟩ := sh_i64 Tryd.underlying3 h2
    obtain ⟨x3, _, e3⟩ := sh_i64 Tryd.underlying3 h3
    obtain ⟨x4, _, e4⟩ := sh_i64 Tryd.underlying3 h4
    obtain ⟨x5, hk, e5⟩ := sh_u64 Tryd.underlying22 h5
    obtain ⟨x6, _, e6⟩ := sh_i64 Tryd.underlying3 h6
    obtain ⟨x7, _, e7⟩ := sh_i64 Tryd.underlying3 h7
    simp at e0 e1 e2 e3 e4 e5 e6 e7
    exact ⟨⟨x0, x1, x2, x3, x4, x5, x6, x7⟩, hk, by simp [devL, e0, e1, e2, e3, e4, e5, e6, e7]⟩
theorem rd_devs {k : Nat} {vs : List V} (h : Sh Tryd.prog (k + 1 + 1 + 1) 26 vs) : ∃ A cap, ∃ l : List Dev, l.length ≤ maxLen ∧ (∀ x ∈ l, x.k < 18446744073709551616) ∧ vs = [.im false A cap l.length (devsV l)] := by
  obtain ⟨A, cap, l, h1, h2, h3⟩ := sh_slice devL (fun x : Dev => x.k < 18446744073709551616) Tryd.underlying26 ce55 (fun c h => rd_dev h) h
  exact ⟨A, cap, l, h1, h2, h3⟩
/-- A scenario that a caller lends. -/
structure ScnA (s : Scn) : Prop where
  k : ∀ x ∈ s.devs, x.k < 18446744073709551616
  c : s.corrupt.length ≤ maxLen
  d : s.devs.length ≤ maxLen
  t : s.tapes.length ≤ maxLen
  r : ∀ x ∈ s.tapes, RdOk x
  e1 : s.cpm = false
  e2 : s.dpm = false
  e3 : s.tpm = false
theorem lent_ok {r : RD} (h : RdOk r) : lent r = r := by
  obtain ⟨pm, A, cap, l⟩ := r
  obtain ⟨h1, _⟩ := h
  simp only at h1
  subst h1; rfl
theorem lents_ok {l : List RD} (h : ∀ r ∈ l, RdOk r) : l.map lent = l := by
  induction l with
  | nil => rfl
  | cons r l ih => rw [List.map_cons, lent_ok (h r List.mem_cons_self), ih fun x hx => h x (List.mem_cons_of_mem _ hx)]
theorem ScnA.lent {s : Scn} (h : ScnA s) : lentS s = s := by
  obtain ⟨p, n, t, cpm, cA, ccap, corrupt, dpm, dA, dcap, devs, tpm, tA, tcap, tapes⟩ := s
  obtain ⟨_, _, _, _, h5, h6, h7, h8⟩ := h
  simp only at h5 h6 h7 h8
  subst h6 h7 h8
  show Scn.mk _ _ _ _ _ _ _ _ _ _ _ _ _ _ (tapes.map Abs.lent) = _
  rw [lents_ok h5]
theorem rd_scn {k : Nat} {vs : List V} (h : Sh Tryd.prog (k + 1 + 1 + 1 + 1) 29 vs) : ∃ s : Scn, ScnA s ∧ vs = scL s := by
  unfold Sh at h
  rw [Tryd.underlying29] at h
  obtain ⟨hl, hf⟩ := h
  rw [ce29] at hl
  match vs, hl with
  | [a, b, c, d, e, f], _ =>
    simp [ce24, ce25, ce26, ce27] at hf
    obtain ⟨h0, h1, h2, h3⟩ := hf
    obtain ⟨p, n, t, hp, e0⟩ := rd_params h0
    obtain ⟨A1, cap1, l1, b1, e1⟩ := rd_ints h1
    obtain ⟨A2, cap2, l2, b2, c2, e2⟩ := rd_devs h2
    obtain ⟨A3, cap3, l3, b3, c3, e3⟩ := rd_rows h3
    simp at e0 e1 e2 e3
    exact ⟨⟨p, n, t, false, A1, cap1, l1, false, A2, cap2, l2, false, A3, cap3, l3⟩, ⟨c2, b1, b2, b3, c3, rfl, rfl, rfl⟩, by simp [scL, e0, e1, e2, e3]⟩
theorem arg_scn {m : Nat} {x : V} (h : ArgSh Tryd.prog (m + 1 + 1 + 1 + 1) 29 x) : ∃ s : Scn, ScnA s ∧ x = scV s := by
  unfold ArgSh at h
  rw [Tryd.underlying29] at h
  obtain ⟨vs, rfl, h⟩ := h
  obtain ⟨s, hs, rfl⟩ := rd_scn h
  exact ⟨s, hs, rfl⟩
/-- One round of an execution. -/
structure RSp where
  cast : Bool
  A : Option Addr
  cap : Nat
  ms : List MD
def rspC (r : RSp) : List V := [.bool r.cast, .im false r.A r.cap r.ms.length (msV r.ms)]
def rspsV (l : List RSp) : List V := l.flatMap rspC
structure Exe where
  w : Scn
  A : Option Addr
  cap : Nat
  l : List RSp
def exeL (p : Exe) : List V := [.int .u64 (p.w.p : Int), .int .i64 p.w.n, .int .i64 p.w.t, .im p.w.cpm p.w.cA p.w.ccap p.w.corrupt.length (iL p.w.corrupt), .im p.w.dpm p.w.dA p.w.dcap p.w.devs.length (devsV p.w.devs), .im p.w.tpm p.w.tA p.w.tcap p.w.tapes.length (rsV p.w.tapes), .im false p.A p.cap p.l.length (rspsV p.l)]
def exeV (p : Exe) : V := .agg (exeL p)
structure ExeA (p : Exe) : Prop where
  w : ScnA p.w
  l : p.l.length ≤ maxLen
  m : ∀ r ∈ p.l, r.ms.length ≤ maxLen ∧ ∀ m ∈ r.ms, MdOk m
theorem rd_rsp {k : Nat} {vs : List V} (h : Sh Tryd.prog (k + 1 + 1 + 1 + 1 + 1) 46 vs) : ∃ r : RSp, (r.ms.length ≤ maxLen ∧ ∀ m ∈ r.ms, MdOk m) ∧ vs = rspC r := by
  unfold Sh at h
  rw [Tryd.underlying46] at h
  obtain ⟨hl, hf⟩ := h
  rw [ce46] at hl
  match vs, hl with
  | [a, b], _ =>
    simp [ce4, ce44] at hf
    obtain ⟨h0, h1⟩ := hf
    obtain ⟨c, e0⟩ := sh_bool Tryd.underlying4 h0
    obtain ⟨A2, cap2, l2, b2, c2, e2⟩ := rd_msgs h1
    simp at e0 e2
    exact ⟨⟨c, A2, cap2, l2⟩, ⟨b2, c2⟩, by simp [rspC, e0, e2]⟩
theorem arg_exe {m : Nat} {x : V} (h : ArgSh Tryd.prog (m + 1 + 1 + 1 + 1 + 1 + 1 + 1) 42 x) : ∃ p : Exe, ExeA p ∧ x = exeV p := by
  unfold ArgSh at h
  rw [Tryd.underlying42] at h
  obtain ⟨vs, rfl, h⟩ := h
  unfold Sh at h
  rw [Tryd.underlying42] at h
  obtain ⟨hl, hf⟩ := h
  rw [ce42] at hl
  match vs, hl with
  | [a, b, c, d, e, f, g], _ =>
    simp [ce29, ce40] at hf
    obtain ⟨h0, h1⟩ := hf
    obtain ⟨s, hs, e0⟩ := rd_scn h0
    obtain ⟨A, cap, l, b1, b2, e1⟩ := sh_slice rspC (fun r => r.ms.length ≤ maxLen ∧ ∀ m ∈ r.ms, MdOk m) Tryd.underlying40 ce46 (fun c h => rd_rsp h) h1
    simp [scL] at e0 e1
    exact ⟨⟨s, A, cap, l⟩, ⟨hs, b1, b2⟩, by simp [exeV, exeL, e0, e1, rspsV]⟩
end Go.Abs
end
