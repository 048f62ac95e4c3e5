/- Joined: AbsUI AbsUJ. -/
import Derived.Test.YtdfnadckkcdldaaAbs13
set_option linter.all false
/- The seat of privitylaw13: AdversaryHonestUnchanged, a round of its loop. -/
set_option linter.unusedVariables false
noncomputable section
namespace Go.Abs
open Go Go.Proofs

/-- A region of a function. -/
def regOf : Code → Nat → Option (Array Oper)
  | .region id ops _, i => bif id == i then some ops else none
  | .seq a b, i => match regOf a i with | some o => some o | none => regOf b i
  | .cond _ a b, i => match regOf a i with | some o => some o | none => regOf b i
  | .block _ c, i => regOf c i
  | .loop c, i => regOf c i
  | _, _ => none
def opsOf (fn : Func) (i : Nat) : Array Oper := match fn.body with | some c => (regOf c i).getD #[] | none => #[]
theorem Rows2.get {cs : List V} {ls : List (List (List Nat))} (h : Rows2 cs ls) {i : Nat} (hi : i < ls.length) : ∃ rc, cs[i]? = some (.own .nil 0 (ls[i]).length rc) ∧ Rows rc ls[i] := by
  have hc : i < cs.length := by rw [h.1]; exact hi
  obtain ⟨rc, h1, h2⟩ := h.2 i cs[i] ls[i] (by simp) (by simp)
  exact ⟨rc, by rw [← h1]; simp, h2⟩
theorem rsV_cut {rs : List RD} {i : Nat} (h : i < rs.length) : ((rsV rs).drop i).take 1 = rsV [rs[i]] := by
  unfold rsV
  rw [← List.map_drop, ← List.map_take, List.drop_eq_getElem_cons h]; rfl
def Kb5 (z : Ask) (n nx i : Nat) (P4 : V → Prop) (CS : List V) (D : St) : Prop := D.s 1 = .bptr nx 0 ∧ D.s 3 = .own .nil 0 n CS ∧ P4 (D.s 4) ∧ D.s 5 = .int .i64 (i : Int) ∧ D.m = [(nx, ⟨0, askL z⟩)] ∧ D.nx = nx + 1
set_option maxHeartbeats 2000000 in
set_option maxRecDepth 100000 in
theorem r5_9 (z : Ask) (n nx k i : Nat) (hnz : z.ms.length = n) (hla : z.al.length = n) (hnn : z.w.n = (n : Int)) (hn : n ≤ 13) (hlt : i < n) (CS rc : List V) (fb : Bool) (hfb : fb = noBorL rc) (rs : List RD) (qf : frzL fb rc = rsV rs) (hrsl : rs.length = n) (hCl : CS.length = n)
    (hil0 : i < CS.length) (hil : CS[i] = .own .nil 0 n rc) (hrl : rc.length = n) (hiz : i < z.ms.length) (hMd : z.ms[i].l.length = n) (P4 : V → Prop) (p4s : ∀ v, P4 v → ∀ r p x, sub r p x v = v) (hir : i < rs.length) (him : i < z.ms[i].l.length) (hii : rs[i].l = z.ms[i].l[i].l) (hb1 : rs[i].l.length ≤ 1000) (hk : 2003 ≤ k)
    (D : St) (hK : Kb5 z n nx i P4 CS D) : EvP Try.prog H13 (evCall Try.prog H13 k) 5 k (.region 9 (opsOf Try.f5 9) true) D (fun e D => e = .norm ∧ Kb5 z n nx i P4 (CS.set i (.im fb none 0 n (rsV rs))) D ∧ D.s 78 = .bool false) := by
  have hml : maxLen = 9223372036854775807 := rfl
  obtain ⟨d1, d3, d4, d5, dm, dx⟩ := hK
  unfold askL at dm
  simp only [hnn, hnz, hla] at dm
  simp only [opsOf, Try.f5, regOf, Nat.reduceBEq, cond_true, cond_false, Option.getD_some]
  have hw1 : IntKind.i64.wrap ((i : Int) + 1) = ((i + 1 : Nat) : Int) := wrap_succ (by omega)
  have hfl : (frzL fb rc).length = n := by rw [qf]; simp [hrsl]
  have hcut := rsV_cut hir
  have hcut2 := rsV_cut him
  have e1 : (((i + 1 : Nat) : Int)).toNat - i = 1 := by omega
  have e2 : (i : Int) ≤ (i : Int) + 1 := by omega
  have e3 : (i : Int) + 1 ≤ (n : Int) := by omega
  have hne : (((n : Nat) : Int) != (n : Int)) = false := by simp
  refine EvP.drawCut [0, 1, 2, 3, 4, 5, 6, 7, 8, 9, 10] [11, 12, 13, 14, 15, 16, 17, 18, 19, 20, 21, 22, 23, 24, 25, 26, 27, 28, 29, 30] (by rfl) (fun D => Kb5 z n nx i P4 CS D ∧ D.s 58 = .bool false) ?_ ?_
  · simp [d1, d3, d4, d5, dm, dx, hlt, hCl, hil, hne, askL, hnz, hla, hnn, Kb5]
  rintro D ⟨⟨d1, d3, d4, d5, dm, dx⟩, d58⟩
  unfold askL at dm
  simp only [hnn, hnz, hla] at dm
  refine draw_cut [11, 12, 13, 14, 15, 16, 17, 18] [19, 20, 21, 22, 23, 24, 25, 26, 27, 28, 29, 30] (fun D => Kb5 z n nx i P4 (CS.set i (.im fb none 0 n (rsV rs))) D ∧ D.s 58 = .bool false ∧ D.s 66 = .im fb none 0 1 (rsV [rs[i]])) ?_ ?_
  · simp [d1, d3, d4, d5, dm, dx, d58, hlt, hCl, hil, hne, askL, hnz, hla, hnn, Kb5, ← hfb, qf, hfl, hw1, e1, e2, e3, hcut, hrsl, p4s _ d4]
    by_cases h0i : 0 = i <;> simp [h0i]
  rintro D ⟨⟨d1, d3, d4, d5, dm, dx⟩, d58, d66⟩
  unfold askL at dm
  simp only [hnn, hnz, hla] at dm
  refine draw_cut [19, 20, 21, 22, 23, 24, 25, 26, 27] [28, 29, 30] (fun D => Kb5 z n nx i P4 (CS.set i (.im fb none 0 n (rsV rs))) D ∧ D.s 58 = .bool false ∧ D.s 66 = .im fb none 0 1 (rsV [rs[i]]) ∧ ∃ pm A cap, D.s 75 = .im pm A cap 1 (rsV [z.ms[i].l[i]])) ?_ ?_
  · simp [d1, d3, d4, d5, dm, dx, d58, d66, hlt, hCl, hne, askL, hnz, hla, hnn, Kb5, hw1, e1, e2, e3, hcut2, hMd]
  rintro D ⟨⟨d1, d3, d4, d5, dm, dx⟩, d58, d66, pm1, A1, cap1, d75⟩
  unfold askL at dm
  simp only [hnn, hnz, hla] at dm
  have c12 := same12N false false none A1 0 cap1 [lent rs[i]] [lent z.ms[i].l[i]] (by simp) (by intro r hr; simp at hr; subst hr; exact show rs[i].l.length ≤ 1000 from hb1) (by intro r hr; simp at hr; subst hr; exact show z.ms[i].l[i].l.length ≤ maxLen by rw [← hii]; omega) k (by omega) (nx + 1)
  simp [hii] at c12
  simp [d1, d3, d4, d5, dm, dx, d58, d66, d75, c12, askL, hnz, hla, hnn, Kb5]
set_option maxHeartbeats 2000000 in
set_option maxRecDepth 100000 in
theorem r5_11a (z : Ask) (n nx k i : Nat) (hnz : z.ms.length = n) (hla : z.al.length = n) (hnn : z.w.n = (n : Int)) (hn : n ≤ 13) (hlt : i < n) (CS2 : List V) (P4 : V → Prop) (hb : Bool)
    (cc : evCall Try.prog H13 k 18 [scV (lentS { z.w with n := (n : Int) }), .int .i64 ((i : Int) + 1)] [] (nx + 1) = some (.bool hb, [], nx + 1)) (D : St) (hK : Kb5 z n nx i P4 CS2 D) : 
    optE (evDraw Try.prog H13 (evCall Try.prog H13 k) (opsOf Try.f5 11) (H13.fz 5 11) (muOf H13 5 11 (opsOf Try.f5 11)) [0, 1, 2, 3, 4, 5, 6] D) (fun D => Kb5 z n nx i P4 CS2 D ∧ D.s 85 = .bool (!hb)) := by
  obtain ⟨d1, d3, d4, d5, dm, dx⟩ := hK
  unfold askL at dm
  simp only [hnn, hnz, hla] at dm
  simp only [opsOf, Try.f5, regOf, Nat.reduceBEq, cond_true, cond_false, Option.getD_some]
  have hw1 : IntKind.i64.wrap ((i : Int) + 1) = (i : Int) + 1 := by rw [wrap_succ (by omega)]; simp
  simp only [scV, scL, lentS, List.length_map] at cc
  simp [d1, d3, d4, d5, dm, dx, cc, hw1, askL, hnz, hla, hnn, Kb5]
set_option maxHeartbeats 2000000 in
set_option maxRecDepth 100000 in
theorem r5_11c (z : Ask) (n nx k i : Nat) (hnz : z.ms.length = n) (hla : z.al.length = n) (hnn : z.w.n = (n : Int)) (CS2 : List V) (P4 : V → Prop) (D : St) (hK : Kb5 z n nx i P4 CS2 D) (d85 : D.s 85 = .bool false) : 
    optE (evDraw Try.prog H13 (evCall Try.prog H13 k) (opsOf Try.f5 11) (H13.fz 5 11) (muOf H13 5 11 (opsOf Try.f5 11)) [7, 8, 9, 10, 11, 12, 13, 14, 15, 16, 17, 18, 19, 20, 21, 22, 23, 24, 25, 26, 27, 28, 29, 30, 31, 32, 33] D) (fun D => Kb5 z n nx i P4 CS2 D ∧ D.s 112 = .bool false) := by
  obtain ⟨d1, d3, d4, d5, dm, dx⟩ := hK
  unfold askL at dm
  simp only [hnn, hnz, hla] at dm
  simp only [opsOf, Try.f5, regOf, Nat.reduceBEq, cond_true, cond_false, Option.getD_some]
  simp [d1, d3, d4, d5, dm, dx, d85, askL, hnz, hla, hnn, Kb5]
set_option maxHeartbeats 2000000 in
set_option maxRecDepth 100000 in
theorem r5_11h1 (z : Ask) (n nx k i : Nat) (hnz : z.ms.length = n) (hla : z.al.length = n) (hnn : z.w.n = (n : Int)) (hn : n ≤ 13) (hlt : i < n) (CS2 : List V) (fb : Bool) (rs : List RD) (hrsl : rs.length = n) (hCl2 : CS2.length = n)
    (hil2 : i < CS2.length) (hile2 : CS2[i] = .im fb none 0 n (rsV rs)) (hiz : i < z.ms.length) (hMd : z.ms[i].l.length = n) (P4 : V → Prop) (hEq : rs.map (·.l) = z.ms[i].l.map (·.l)) (hb1 : ∀ r ∈ rs, r.l.length ≤ 1000) (hb2 : ∀ r ∈ z.ms[i].l, r.l.length ≤ maxLen) (hk : 2003 ≤ k)
    (D : St) (hK : Kb5 z n nx i P4 CS2 D) (d85 : D.s 85 = .bool true) :
    optE (evDraw Try.prog H13 (evCall Try.prog H13 k) (opsOf Try.f5 11) (H13.fz 5 11) (muOf H13 5 11 (opsOf Try.f5 11)) [7, 8, 9, 10, 11, 12, 13, 14, 15, 16, 17, 18] D) (fun D => Kb5 z n nx i P4 CS2 D ∧ D.s 85 = .bool true ∧ D.s 97 = .bool false) := by
  have hml : maxLen = 9223372036854775807 := rfl
  obtain ⟨d1, d3, d4, d5, dm, dx⟩ := hK
  unfold askL at dm
  simp only [hnn, hnz, hla] at dm
  simp only [opsOf, Try.f5, regOf, Nat.reduceBEq, cond_true, cond_false, Option.getD_some]
  have c12b := same12N false false none z.ms[i].A 0 z.ms[i].cap (rs.map lent) (z.ms[i].l.map lent) (by simp [hrsl]; omega) (by
    intro r hr
    obtain ⟨r', hr', rfl⟩ := List.mem_map.1 hr
    exact show r'.l.length ≤ 1000 from hb1 _ hr') (by
    intro r hr
    obtain ⟨r', hr', rfl⟩ := List.mem_map.1 hr
    exact show r'.l.length ≤ maxLen from hb2 _ hr') k (by omega) (nx + 1)
  have hmm : ∀ l : List RD, (l.map lent).map (·.l) = l.map (·.l) := fun l => by simp
  simp only [hmm, hEq, decide_true, List.length_map, hrsl, hMd] at c12b
  refine draw_cut [7, 8, 9, 10, 11, 12, 13, 14, 15] [16, 17, 18] (fun D => Kb5 z n nx i P4 CS2 D ∧ D.s 85 = .bool true ∧ D.s 89 = .im fb none 0 n (rsV rs) ∧ D.s 94 = .im z.ms[i].pm z.ms[i].A z.ms[i].cap n (rsV z.ms[i].l)) ?_ ?_
  · simp [d1, d3, d4, d5, dm, dx, d85, hlt, hCl2, hile2, askL, hnz, hla, hnn, Kb5, hMd]
  rintro D ⟨⟨d1, d3, d4, d5, dm, dx⟩, d85, d89, d94⟩
  unfold askL at dm
  simp only [hnn, hnz, hla] at dm
  simp [d1, d3, d4, d5, dm, dx, d85, d89, d94, c12b, askL, hnz, hla, hnn, Kb5]
def P5 (n : Nat) (cs3 : List V) (v : V) : Prop := v = .own .nil 0 n cs3 ∨ ∃ b, v = .im b none 0 n (frzL b cs3)
theorem P5_sub {n : Nat} {cs3 : List V} : ∀ v, P5 n cs3 v → ∀ r p x, sub r p x v = v := fun v hv r p x => by
  rcases hv with rfl | ⟨b, rfl⟩ <;> rfl
set_option maxHeartbeats 2000000 in
set_option maxRecDepth 100000 in
theorem r5_11h2 (z : Ask) (n nx k i : Nat) (hnz : z.ms.length = n) (hla : z.al.length = n) (hnn : z.w.n = (n : Int)) (hn : n ≤ 13) (hlt : i < n) (CS2 cs3 : List V) (B : List (List Nat)) (hBl : B.length = n) (frzd : ∀ b, ∃ rb, frzL b cs3 = rsV rb ∧ rb.map (·.l) = B)
    (D : St) (hK : Kb5 z n nx i (P5 n cs3) CS2 D) (d85 : D.s 85 = .bool true) (d97 : D.s 97 = .bool false) :
    optE (evDraw Try.prog H13 (evCall Try.prog H13 k) (opsOf Try.f5 11) (H13.fz 5 11) (muOf H13 5 11 (opsOf Try.f5 11)) [19, 20, 21, 22, 23] D) (fun D => Kb5 z n nx i (P5 n cs3) CS2 D ∧ D.s 85 = .bool true ∧ D.s 97 = .bool false ∧ ∃ b r, B[i]? = some r.l ∧ D.s 102 = .im b none 0 1 (rsV [r])) := by
  obtain ⟨d1, d3, d4, d5, dm, dx⟩ := hK
  unfold askL at dm
  simp only [hnn, hnz, hla] at dm
  simp only [opsOf, Try.f5, regOf, Nat.reduceBEq, cond_true, cond_false, Option.getD_some]
  have hw1 : IntKind.i64.wrap ((i : Int) + 1) = (i : Int) + 1 := by rw [wrap_succ (by omega)]; simp
  have e1 : ((i : Int) + 1).toNat - i = 1 := by omega
  have e2 : (i : Int) ≤ (i : Int) + 1 := by omega
  have e3 : (i : Int) + 1 ≤ (n : Int) := by omega
  have key : ∀ b0, ∃ rb : List RD, frzL b0 cs3 = rsV rb ∧ rb.length = n ∧ ∃ h : i < rb.length, B[i]? = some rb[i].l := fun b0 => by
    obtain ⟨rb, qb, lb⟩ := frzd b0
    have hrbl : rb.length = n := by rw [← hBl, ← lb, List.length_map]
    refine ⟨rb, qb, hrbl, by omega, ?_⟩
    have hh : B[i]? = (rb.map (·.l))[i]? := by rw [lb]
    rw [hh]; simp [hrbl, hlt]
  rcases d4 with d4' | ⟨b, d4'⟩
  · obtain ⟨rb, qb, hrbl, hrbi, hBi⟩ := key (noBorL cs3)
    have p4b : P5 n cs3 (.im (noBorL cs3) none 0 n (rsV rb)) := .inr ⟨_, by rw [qb]⟩
    have hcutb := rsV_cut hrbi
    simp [d1, d3, d4', d5, dm, dx, d85, d97, hlt, askL, hnz, hla, hnn, Kb5, qb, hw1, e1, e2, e3, hcutb, hrbl, p4b]
    have hif : (if 0 = i then (none : Option Addr) else none) = none := by by_cases h0i : 0 = i <;> simp [h0i]
    cases hnb : noBorL cs3 with
    | false => exact .inl ⟨rb[i], hBi, rfl, hif, rfl⟩
    | true => exact .inr ⟨rb[i], hBi, rfl, hif, rfl⟩
  · obtain ⟨rb, qb, hrbl, hrbi, hBi⟩ := key b
    rw [qb] at d4'
    have p4b : P5 n cs3 (.im b none 0 n (rsV rb)) := .inr ⟨_, by rw [qb]⟩
    have hcutb := rsV_cut hrbi
    simp [d1, d3, d4', d5, dm, dx, d85, d97, hlt, askL, hnz, hla, hnn, Kb5, hw1, e1, e2, e3, hcutb, hrbl, p4b]
    have hif : (if 0 = i then (none : Option Addr) else none) = none := by by_cases h0i : 0 = i <;> simp [h0i]
    cases b with
    | false => exact .inl ⟨rb[i], hBi, rfl, hif, rfl⟩
    | true => exact .inr ⟨rb[i], hBi, rfl, hif, rfl⟩
set_option maxHeartbeats 2000000 in
set_option maxRecDepth 100000 in
theorem r5_11h3 (z : Ask) (n nx k i : Nat) (hnz : z.ms.length = n) (hla : z.al.length = n) (hnn : z.w.n = (n : Int)) (hn : n ≤ 13) (hlt : i < n) (CS2 : List V) (P4 : V → Prop) (hali : i < z.al.length) (r4 : RD) (b4 : Bool) (hr4l : r4.l = z.al[i].l) (hbz : z.al[i].l.length ≤ 20) (hk : 2003 ≤ k)
    (D : St) (hK : Kb5 z n nx i P4 CS2 D) (d85 : D.s 85 = .bool true) (d97 : D.s 97 = .bool false) (d102 : D.s 102 = .im b4 none 0 1 (rsV [r4])) :
    optE (evDraw Try.prog H13 (evCall Try.prog H13 k) (opsOf Try.f5 11) (H13.fz 5 11) (muOf H13 5 11 (opsOf Try.f5 11)) [24, 25, 26, 27, 28, 29, 30, 31, 32, 33] D) (fun D => Kb5 z n nx i P4 CS2 D ∧ D.s 112 = .bool false) := by
  have hml : maxLen = 9223372036854775807 := rfl
  obtain ⟨d1, d3, d4, d5, dm, dx⟩ := hK
  unfold askL at dm
  simp only [hnn, hnz, hla] at dm
  simp only [opsOf, Try.f5, regOf, Nat.reduceBEq, cond_true, cond_false, Option.getD_some]
  have hw1 : IntKind.i64.wrap ((i : Int) + 1) = (i : Int) + 1 := by rw [wrap_succ (by omega)]; simp
  have e1 : ((i : Int) + 1).toNat - i = 1 := by omega
  have e2 : (i : Int) ≤ (i : Int) + 1 := by omega
  have e3 : (i : Int) + 1 ≤ (n : Int) := by omega
  have hcuta := rsV_cut hali
  refine draw_cut [24, 25, 26, 27, 28, 29] [30, 31, 32, 33] (fun D => Kb5 z n nx i P4 CS2 D ∧ D.s 85 = .bool true ∧ D.s 97 = .bool false ∧ D.s 102 = .im b4 none 0 1 (rsV [r4]) ∧ ∃ pm A cap, D.s 108 = .im pm A cap 1 (rsV [z.al[i]])) ?_ ?_
  · simp [d1, d3, d4, d5, dm, dx, d85, d97, d102, hlt, askL, hnz, hla, hnn, Kb5, hw1, e1, e2, e3, hcuta]
  rintro D ⟨⟨d1, d3, d4, d5, dm, dx⟩, d85, d97, d102, pm2, A2, cap2, d108⟩
  unfold askL at dm
  simp only [hnn, hnz, hla] at dm
  have c12c := same12N false false none A2 0 cap2 [lent r4] [lent z.al[i]] (by simp) (by intro r hr; simp at hr; subst hr; exact show r4.l.length ≤ 1000 by rw [hr4l]; omega) (by intro r hr; simp at hr; subst hr; exact show z.al[i].l.length ≤ maxLen by omega) k (by omega) (nx + 1)
  simp [hr4l] at c12c
  simp [d1, d3, d4, d5, dm, dx, d85, d97, d102, d108, c12c, askL, hnz, hla, hnn, Kb5]
end Go.Abs
end
/- The seat of privitylaw13: AdversaryHonestUnchanged. -/
set_option linter.unusedVariables false
noncomputable section
namespace Go.Abs
open Go Go.Proofs

set_option maxHeartbeats 2000000 in
set_option maxRecDepth 100000 in
theorem law5 (z : Ask) (hz : AskOk z) (hk64 : ∀ x ∈ z.w.devs, x.k < 18446744073709551616) : Ans Try.prog H13 5 [askV z] (.bool true) := by
  have hml : maxLen = 9223372036854775807 := rfl
  obtain ⟨b, ⟨N0, h0⟩, hb⟩ := may10 (lentA z) (lentA_ok hz)
  obtain ⟨N1, h1⟩ := awake11
  simp only [askV, askL, lentA, lentS, List.length_map] at h0
  cases b with
  | false =>
    refine Ans.of (fn := Try.f5) (t := 2) (by rfl) Try.func5 rfl rfl (by rfl) (by rfl) ⟨N0 + N1, fun k hk nx => ?_⟩
    have c0 := h0 k (by omega)
    have c1 := h1 k (by omega)
    refine EvP.seq (EvP.region ?_)
    simp [entryS, askV, askL]
    refine EvP.seq (EvP.seq (EvP.region ?_))
    simp [c0]
    refine EvP.cond (t := true) (by simp) (fun _ => ?_) (fun h => by cases h)
    refine EvP.seq (EvP.region ?_)
    simp [c1]
    refine EvP.ret ?_
    simp
  | true =>
    have hA := hb rfl
    obtain ⟨q, hq⟩ := prime_pq hA.w.par.1
    obtain ⟨N2, h2⟩ := msgs16 (lentS z.w) (lentS_ok hz.w) hq hA.w.devs hk64 z.rd
    obtain ⟨N3, h3⟩ := broad13 (lentS z.w) (lentS_ok hz.w) hq hA.w.devs hk64 z.rd
    have h18 := fun v => corrupt18 (lentS z.w) (lentS_ok hz.w) v
    have hn13 : (lentS z.w).n ≤ 13 := hA.w.par.2.2.1
    have hms : ((z.ms.map lentM).length : Int) = (lentS z.w).n := hA.n
    have hmok : MsOk (lentS z.w).p (z.ms.map lentM).length (mls (z.ms.map lentM)) := hA.msOk
    have hal : ((z.al.map lent).length : Int) = (lentS z.w).n := hA.al.1
    have hlok : LsOk (lentS z.w).p ((z.al.map lent).map (·.l)) := words_ok hA.al
    obtain ⟨hp1, hq1, hq2⟩ := pq_facts hq
    have hp0 : 0 < (lentS z.w).p := by
      have : 2 ^ 5 ≤ 2 ^ q := Nat.pow_le_pow_right (by omega) hq1
      have hp1 : (lentS z.w).p + 1 = 2 ^ q := hp1
      omega
    have hcl : z.w.corrupt.length ≤ 1000 := by
      have q1 := hA.w.coal.1
      have q2 := hA.w.par.2
      simp [lentA, lentS] at q1 q2
      omega
    refine Ans.of (fn := Try.f5) (t := 2) (by rfl) Try.func5 rfl rfl (by rfl) (by rfl) ⟨N0 + N1 + N2 + N3 + z.w.corrupt.length + 3004, fun k hk nx => ?_⟩
    have c0 := h0 k (by omega)
    have c1 := h1 k (by omega)
    obtain ⟨r2, c2, cs2, rfl, hR2⟩ := h2 false z.mA z.mcap (z.ms.map lentM) hms hn13 hmok k (by omega) (nx + 1)
    obtain ⟨r3, c3, cs3, rfl, hR3⟩ := h3 false z.aA z.acap (z.al.map lent) hal hn13 hlok k (by omega) (nx + 1)
    have c18 := fun v => h18 v k (by simp [lentS]; omega) (nx + 1)
    have hmok2 : MsOk (lentS z.w).p (z.ms.map lentM).length (msgS (lentS z.w).p (lentS z.w).corrupt z.rd (z.ms.map lentM).length (mls (z.ms.map lentM)) (lentS z.w).devs) := msg_ok hp0 hmok
    have hcell := fun i j hj hi => msg_honest (p := (lentS z.w).p) (n := (z.ms.map lentM).length) (c := (lentS z.w).corrupt) (rd := z.rd) (out := mls (z.ms.map lentM)) (devs := (lentS z.w).devs) (by intro x hx; rw [show (((z.ms.map lentM).length : Nat) : Int) = (lentA z).w.n from hA.n]; exact hA.w.devs x hx) (i := i) (j := j) hj hi
    have hbc := fun i hi => broad_honest (p := (lentS z.w).p) (c := (lentS z.w).corrupt) (rd := z.rd) (out := (z.al.map lent).map (·.l)) (devs := (lentS z.w).devs) hA.w.devs (i := i) hi
    obtain ⟨hfok, hflen⟩ := fold_ok (c := (lentS z.w).corrupt) (rd := z.rd) (out := (z.al.map lent).map (·.l)) (devs := (lentS z.w).devs) hp0 hlok
    generalize hM : msgS (lentS z.w).p (lentS z.w).corrupt z.rd (z.ms.map lentM).length (mls (z.ms.map lentM)) (lentS z.w).devs = M at *
    have hBf : (lentS z.w).devs.foldl (stepB (lentS z.w).p (lentS z.w).corrupt z.rd ((z.al.map lent).map (·.l))) ((z.al.map lent).map (·.l)) = broadS (lentS z.w).p (lentS z.w).corrupt z.rd ((z.al.map lent).map (·.l)) (lentS z.w).devs := rfl
    rw [hBf] at hfok hflen
    generalize hB : broadS (lentS z.w).p (lentS z.w).corrupt z.rd ((z.al.map lent).map (·.l)) (lentS z.w).devs = B at *
    obtain ⟨n, hn⟩ : ∃ n : Nat, (z.ms.map lentM).length = n := ⟨_, rfl⟩
    have hnz : z.ms.length = n := by simpa using hn
    have hnn : z.w.n = (n : Int) := by have := hA.n; simp [lentA, lentS] at this; omega
    have hla : z.al.length = n := by have := hA.al.1; simp [lentA, lentS] at this; omega
    have hn1000 : n ≤ 13 := by have : z.w.n ≤ 13 := hn13; omega
    simp only [scV, scL, lentS, List.length_map, hnz, hla, hnn] at c2 c3 c18
    simp only [List.length_map] at hcell hmok2
    rw [hnz] at hcell hmok2
    have hne : (((n : Nat) : Int) != (n : Int)) = false := by simp
    refine EvP.seqG (fun D => D.s 1 = .bptr nx 0 ∧ D.m = [(nx, ⟨0, askL z⟩)] ∧ D.nx = nx + 1) (EvP.region ?_) ?_
    · simp [entryS, askV, askL]
    rintro D ⟨d1, dm, dx⟩
    unfold askL at dm
    refine EvP.seqG (fun D => D.s 1 = .bptr nx 0 ∧ D.m = [(nx, ⟨0, askL z⟩)] ∧ D.nx = nx + 1) (EvP.seq (EvP.region ?_)) ?_
    · simp [d1, dm, dx, c0]
      refine EvP.cond (t := false) (by simp) (fun h => by cases h) (fun _ => EvP.skip ?_)
      simp [d1, dm, dx, askL]
    rintro D ⟨d1, dm, dx⟩
    unfold askL at dm
    simp only [hnn, hnz, hla] at dm
    refine EvP.seqG (fun D => D.s 1 = .bptr nx 0 ∧ D.s 3 = .own .nil 0 n cs2 ∧ D.s 4 = .own .nil 0 n cs3 ∧ D.m = [(nx, ⟨0, askL z⟩)] ∧ D.nx = nx + 1) (EvP.draw ?_) ?_
    · simp [d1, dm, dx, c2, c3, askL, hnz, hla, hnn]
    rintro D ⟨d1, d3, d4, dm, dx⟩
    unfold askL at dm
    simp only [hnn, hnz, hla] at dm
    refine EvP.seqG (fun D => D.s 1 = .bptr nx 0 ∧ D.s 3 = .own .nil 0 n cs2 ∧ D.s 4 = .own .nil 0 n cs3 ∧ D.m = [(nx, ⟨0, askL z⟩)] ∧ D.nx = nx + 1) (EvP.seq (EvP.region ?_)) ?_
    · simp [d1, d3, d4, dm, dx, hne]
      refine EvP.cond (t := false) (by simp) (fun h => by cases h) (fun _ => EvP.skip ?_)
      simp [d1, d3, d4, dm, dx, askL, hnz, hla, hnn]
    rintro D ⟨d1, d3, d4, dm, dx⟩
    unfold askL at dm
    simp only [hnn, hnz, hla] at dm
    have p4 : P5 n cs3 (.own .nil 0 n cs3) := .inl rfl
    refine EvP.seqG (fun D => D.s 1 = .bptr nx 0 ∧ D.m = [(nx, ⟨0, askL z⟩)] ∧ D.nx = nx + 1) (EvP.seq (EvP.region ?_)) ?_
    · have hcl2 : cs2.length = n := by rw [hR2.1]; exact hmok2.1
      simp [d1, d3, d4]
      refine EvP.block (EvP.loop (fun q D => ∃ (i : Nat) (CS : List V), q = n - i ∧ i ≤ n ∧ (CS.length = n ∧ ∀ j, i ≤ j → CS[j]? = cs2[j]?) ∧ D.s 1 = .bptr nx 0 ∧ D.s 3 = .own .nil 0 n CS ∧ P5 n cs3 (D.s 4) ∧ D.s 5 = .int .i64 (i : Int) ∧ D.m = [(nx, ⟨0, askL z⟩)] ∧ D.nx = nx + 1) (n := n) ⟨0, cs2, by simp [d1, d3, d4, dm, dx, askL, hnz, hla, hnn, hcl2, p4]⟩ (by omega) ?_)
      rintro q D ⟨i, CS, hqn, hi, ⟨hCl, hCS⟩, d1, d3, d4, d5, dm, dx⟩
      unfold askL at dm
      simp only [hnn, hnz, hla] at dm
      simp only [liveOf13, clear_none]
      refine EvP.seq (EvP.seq (EvP.region ?_))
      simp [d1, d5, dm]
      refine EvP.cond (t := decide (i < n)) (by simp) (fun h => EvP.skip ?_) (fun h => EvP.exit ?_)
      · have hlt : i < n := by simpa using h
        simp only [thenE_norm]
        have hMl : M.length = n := hmok2.1
        obtain ⟨rc, hrc, hRrc⟩ := hR2.get (i := i) (by omega)
        have hMi : (M[i]'(by omega)).length = n := (hmok2.2 _ (List.getElem_mem _)).1
        rw [hMi] at hrc
        have hCi : CS[i]? = some (.own .nil 0 n rc) := by rw [hCS i (by omega)]; exact hrc
        obtain ⟨rs, qf, lf⟩ := hRrc.frz (noBorL rc)
        have hrl : rc.length = n := by rw [hRrc.1, hMi]
        obtain ⟨hil0, hil⟩ := List.getElem?_eq_some_iff.1 hCi
        have hiz : i < z.ms.length := by omega
        have hMd : z.ms[i].l.length = n := by
          have := hA.ms (lentM z.ms[i]) (List.mem_map_of_mem (List.getElem_mem _))
          have := this.1
          simp [lentA, lentS, lentM] at this; omega
        have hw1 : IntKind.i64.wrap ((i : Int) + 1) = ((i + 1 : Nat) : Int) := wrap_succ (by omega)
        have hrsl : rs.length = n := by rw [← hMi, ← lf, List.length_map]
        have hir : i < rs.length := by omega
        have him : i < z.ms[i].l.length := by omega
        have hwi : M[i]? = some M[i] := List.getElem?_eq_getElem (by omega)
        have hM1 : ∀ j (hj : j < n), at2 M i j = some (rs[j]'(by omega)).l := fun j hj => by
          unfold at2
          rw [hwi, Option.getD_some, ← lf]
          simp [hj, hrsl]
        have hM2 : ∀ j (hj : j < n), at2 (mls (z.ms.map lentM)) i j = some (z.ms[i].l[j]'(by omega)).l := fun j hj => by
          unfold at2
          simp [mls, hnz, hlt, hMd, hj, lentM]
        have hii : rs[i].l = z.ms[i].l[i].l := by
          have := hcell i i hlt (.inr rfl)
          rw [hM1 i hlt, hM2 i hlt] at this
          exact Option.some.inj this
        have hb1 : ∀ r ∈ rs, r.l.length ≤ 1000 := fun r hr => by
          have := (hmok2.2 M[i] (List.getElem_mem _)).2 r.l (by rw [← lf]; exact List.mem_map_of_mem hr)
          exact this.1
        have hb2 : ∀ r ∈ z.ms[i].l, r.l.length ≤ maxLen := fun r hr => by
          have := (hA.ms (lentM z.ms[i]) (List.mem_map_of_mem (List.getElem_mem _))).2 (lent r) (by simp [lentM]; exact ⟨r, hr, rfl⟩)
          have := this.1
          simp at this; omega
        have s9 := fun D hK0 => r5_9 z n nx k i hnz hla hnn hn1000 hlt CS rc _ rfl rs qf hrsl hCl hil0 hil hrl hiz hMd (P5 n cs3) P5_sub hir him hii (hb1 _ (List.getElem_mem _)) (by omega) D hK0
        simp only [opsOf, Try.f5, regOf, Nat.reduceBEq, cond_true, cond_false, Option.getD_some] at s9
        refine EvP.seq (EvP.block (EvP.seq (EvP.seq (EvP.mono (s9 _ ?_) ?_))))
        · simp [Kb5, d1, d3, d4, d5, dx, askL, hnz, hla, hnn]
        rintro e D ⟨rfl, hK, d78⟩
        obtain ⟨CS2, hCS2⟩ : ∃ CS2, CS2 = CS.set i (.im (noBorL rc) none 0 n (rsV rs)) := ⟨_, rfl⟩
        rw [← hCS2] at hK
        have hCl2 : CS2.length = n := by rw [hCS2]; simp [hCl]
        have hn2 : ∀ j, i + 1 ≤ j → CS2[j]? = cs2[j]? := fun j hj => by rw [hCS2, List.getElem?_set_ne (by omega)]; exact hCS j (by omega)
        have hil2 : i < CS2.length := by omega
        have hile2 : CS2[i] = .im (noBorL rc) none 0 n (rsV rs) := by simp [hCS2]
        refine EvP.cond (t := false) (by simp [d78]) (fun h => by cases h) (fun _ => EvP.skip ?_)
        simp only [thenE_norm]
        obtain ⟨hb, hhb⟩ : ∃ hb : Bool, hb = decide ((i : Int) + 1 ∈ z.w.corrupt) := ⟨_, rfl⟩
        have cc := c18 ((i : Int) + 1)
        rw [← hhb] at cc
        have s11a := r5_11a z n nx k i hnz hla hnn hn1000 hlt CS2 (P5 n cs3) hb (by simpa only [scV, scL, lentS, List.length_map] using cc) D hK
        simp only [opsOf, Try.f5, regOf, Nat.reduceBEq, cond_true, cond_false, Option.getD_some] at s11a
        refine EvP.seq (EvP.drawCut [0, 1, 2, 3, 4, 5, 6] [7, 8, 9, 10, 11, 12, 13, 14, 15, 16, 17, 18, 19, 20, 21, 22, 23, 24, 25, 26, 27, 28, 29, 30, 31, 32, 33] (by rfl) _ s11a ?_)
        rintro D ⟨hK, d85⟩
        refine optE_mono (fun D => Kb5 z n nx i (P5 n cs3) CS2 D ∧ D.s 112 = .bool false) ?_ ?_
        · cases hb with
          | true =>
            have s := r5_11c z n nx k i hnz hla hnn CS2 (P5 n cs3) D hK d85
            simp only [opsOf, Try.f5, regOf, Nat.reduceBEq, cond_true, cond_false, Option.getD_some] at s
            exact s
          | false =>
            have hnc : ¬ ((i : Int) + 1 ∈ (lentS z.w).corrupt) := by
              have : ¬ ((i : Int) + 1 ∈ z.w.corrupt) := by simpa using hhb
              exact this
            have hEq : rs.map (·.l) = z.ms[i].l.map (·.l) := by
              refine List.ext_getElem (by simp [hrsl, hMd]) fun j h1 h2 => ?_
              have hj : j < n := by simpa [hrsl] using h1
              have := hcell i j hj (.inl hnc)
              rw [hM1 j hj, hM2 j hj] at this
              simpa using Option.some.inj this
            have s1 := r5_11h1 z n nx k i hnz hla hnn hn1000 hlt CS2 _ rs hrsl hCl2 hil2 hile2 hiz hMd (P5 n cs3) hEq hb1 hb2 (by omega) D hK d85
            simp only [opsOf, Try.f5, regOf, Nat.reduceBEq, cond_true, cond_false, Option.getD_some] at s1
            refine draw_cut [7, 8, 9, 10, 11, 12, 13, 14, 15, 16, 17, 18] [19, 20, 21, 22, 23, 24, 25, 26, 27, 28, 29, 30, 31, 32, 33] _ s1 ?_
            rintro D ⟨hK, d85, d97⟩
            have hBl : B.length = n := by rw [hflen]; simp [hla]
            have s2 := r5_11h2 z n nx k i hnz hla hnn hn1000 hlt CS2 cs3 B hBl (fun b => hR3.frz b) D hK d85 d97
            simp only [opsOf, Try.f5, regOf, Nat.reduceBEq, cond_true, cond_false, Option.getD_some] at s2
            refine draw_cut [19, 20, 21, 22, 23] [24, 25, 26, 27, 28, 29, 30, 31, 32, 33] _ s2 ?_
            rintro D ⟨hK, d85, d97, b4, r4, hr4, d102⟩
            have hali : i < z.al.length := by omega
            have hbi := hbc i hnc
            rw [hr4] at hbi
            have hr4l : r4.l = z.al[i].l := by
              simp [hali] at hbi; exact hbi
            have hbz : z.al[i].l.length ≤ 20 := (hA.al.2 (lent z.al[i]) (List.mem_map_of_mem (List.getElem_mem _))).1
            have s3 := r5_11h3 z n nx k i hnz hla hnn hn1000 hlt CS2 (P5 n cs3) hali r4 b4 hr4l hbz (by omega) D hK d85 d97 d102
            simp only [opsOf, Try.f5, regOf, Nat.reduceBEq, cond_true, cond_false, Option.getD_some] at s3
            exact s3
        rintro D ⟨⟨d1, d3, d4, d5, dm, dx⟩, d112⟩
        unfold askL at dm
        simp only [hnn, hnz, hla] at dm
        refine EvP.cond (t := false) (by simp [d112]) (fun h => by cases h) (fun _ => EvP.skip ?_)
        simp
        refine EvP.region ?_
        simp [d1, d3, d4, d5, dm, dx, askL, hnz, hla, hnn]
        exact ⟨_, by omega, i + 1, rfl, by omega, CS2, ⟨hCl2, hn2⟩, rfl, hw1⟩
      · have hlt : ¬ i < n := by simpa using h
        simp [d1, dm, dx, askL, hnz, hla, hnn]
    rintro D ⟨d1, dm, dx⟩
    refine EvP.seq (EvP.region ?_)
    simp [c1, dm, dx]
    refine EvP.ret ?_
    simp [dm]
end Go.Abs
end
