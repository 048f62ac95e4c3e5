/- Joined: AbsQLR AbsQLS AbsQL. -/
import Derived.Test.YtbkhamjlfadfoaaDoorAbs334
set_option linter.all false
set_option maxHeartbeats 16000000
noncomputable section
namespace Go.Abs
open Go Go.Proofs
set_option maxRecDepth 100000
def regAt (id : Nat) : Code → Option (Array Oper)
 | .region i ops _ => if i = id then some ops else none
 | .seq a b => match regAt id a with | some r => some r | none => regAt id b
 | .cond _ a b => match regAt id a with | some r => some r | none => regAt id b
 | .block _ c => regAt id c
 | .loop c => regAt id c
 | _ => none
def regF (F : Func) (id : Nat) : Array Oper := ((F.body.bind (regAt id)).getD #[])
theorem reg34 {C : Callee} {k b n : Nat} {Al : Option Addr} {cl i j kk nx : Nat} {iv RS TK RR : List V} {vs l : List Nat} {x : Nat} {M : List (Nat × Box)} {D : St}
 (d0 : D.s 0 = .bptr b 0) (d2 : D.s 2 = .im false Al cl n iv) (d7 : D.s 7 = .int .i64 (n : Int)) (d13 : D.s 13 = .own .nil 0 n RS) (d14 : D.s 14 = .own .nil 0 n TK) (d16 : D.s 16 = .int .i64 (i : Int)) (d17 : D.s 17 = .int .i64 (kk : Int)) (d20 : D.s 20 = .own .nil 0 n (uL vs)) (d21 : D.s 21 = .int .i64 (j : Int)) (dm : D.m = M) (dx : D.nx = nx)
 (hin : i < n) (hjn : j < n) (hT? : TK[j]? = some (.own .nil 0 n RR)) (hTl : TK.length = n) (hR? : RR[i]? = some (.own .nil 0 l.length (uL l))) (hRl : RR.length = n) (hu? : (uL vs)[j]? = some (.int .u64 (x : Int))) (hju : j < (uL vs).length) (hvl : vs.length = n) (f1 : (l.length + 1) * 8 ≤ 140737488355328) (f2 : l.length ≤ 140737488355327) :
 EvP Tryd.prog H14 C 39 k (.region 34 (regF Tryd.f39 34) true) D (thenE (fun D => D.s 0 = .bptr b 0 ∧ D.s 2 = .im false Al cl n iv ∧ D.s 7 = .int .i64 (n : Int) ∧ D.s 13 = .own .nil 0 n RS ∧ D.s 14 = .own .nil 0 n (TK.set j (.own .nil 0 n (RR.set i (.own .nil 0 (l.length + 1) (uL l ++ [.int .u64 (x : Int)]))))) ∧ D.s 16 = .int .i64 (i : Int) ∧ D.s 17 = .int .i64 (kk : Int) ∧ D.s 20 = .own .nil 0 n (uL vs) ∧ D.s 21 = .int .i64 (j : Int) ∧ D.m = M ∧ D.nx = nx) fun _ _ => False) := by
 have hjT : j < TK.length := by omega
 have hiR : i < RR.length := by omega
 have hTe : TK[j] = .own .nil 0 n RR := by
  have := List.getElem?_eq_getElem hjT
  rw [hT?] at this
  exact (Option.some.inj this).symm
 have hRe : RR[i] = .own .nil 0 l.length (uL l) := by
  have := List.getElem?_eq_getElem hiR
  rw [hR?] at this
  exact (Option.some.inj this).symm
 have hue : (uL vs)[j] = .int .u64 (x : Int) := by
  have := List.getElem?_eq_getElem hju
  rw [hu?] at this
  exact (Option.some.inj this).symm
 obtain ⟨ul, hul⟩ : ∃ ul, uL vs = ul := ⟨_, rfl⟩
 have hull : ul.length = n := by rw [← hul]; simp [uL, hvl]
 rw [hul] at d20 hu?
 simp only [hul] at hju hue ⊢
 obtain ⟨ul2, hul2⟩ : ∃ ul, uL l = ul := ⟨_, rfl⟩
 have hull2 : ul2.length = l.length := by rw [← hul2]; simp [uL]
 rw [hul2] at hR? hRe ⊢
 obtain ⟨ln, hln⟩ : ∃ ln, l.length = ln := ⟨_, rfl⟩
 rw [hln] at hR? hRe hull2 f1 f2 ⊢
 obtain ⟨o, ho⟩ : ∃ o, o = regF Tryd.f39 34 := ⟨_, rfl⟩
 rw [← ho]
 simp [regF, regAt, Tryd.f39] at ho
 subst ho
 refine EvP.drawT rfl ?_
 apply drawT_ex
 apply Exists.intro
 apply Exists.intro
 apply Exists.intro
 apply And.intro
 ·intro P hP
  simp only [paths, List.map_cons, List.map_nil, List.cons_append, List.nil_append, List.mem_cons, List.not_mem_nil, or_false] at hP
  rcases hP with rfl | hP
  ·simp [-reach, -doCall, doCall_eq, d0, d2, d7, d13, d14, d16, d17, d20, d21, dm, dx, hjn, hT?, hTe, hjT, hTl, hin, hR?, hRe, hiR, hRl, hu?, hue, hju, hull, hull2, f1, f2]
   exact ⟨fun jj => rfl, rfl, rfl⟩
  ·repeat' (rcases hP with rfl | hP)
   all_goals try subst hP
   all_goals as_aux_lemma =>
    simp [-reach, -doCall, doCall_eq, d0, d2, d7, d13, d14, d16, d17, d20, d21, dm, dx, hjn, hT?, hTe, hjT, hTl, hin, hR?, hRe, hiR, hRl, hu?, hue, hju, hull, hull2, f1, f2]
    refine ⟨fun jj => ?_, rfl, rfl⟩
    rcases Decidable.em (jj = 14) with rfl | a14
    ·simp
    rcases Decidable.em (jj = 112) with rfl | a112
    ·simp
    rcases Decidable.em (jj = 113) with rfl | a113
    ·simp
    rcases Decidable.em (jj = 114) with rfl | a114
    ·simp
    rcases Decidable.em (jj = 115) with rfl | a115
    ·simp
    rcases Decidable.em (jj = 116) with rfl | a116
    ·simp
    rcases Decidable.em (jj = 117) with rfl | a117
    ·simp
    rcases Decidable.em (jj = 118) with rfl | a118
    ·simp
    rcases Decidable.em (jj = 119) with rfl | a119
    ·simp
    rcases Decidable.em (jj = 120) with rfl | a120
    ·simp
    rcases Decidable.em (jj = 121) with rfl | a121
    ·simp
    rcases Decidable.em (jj = 122) with rfl | a122
    ·simp
    rcases Decidable.em (jj = 123) with rfl | a123
    ·simp
    rcases Decidable.em (jj = 124) with rfl | a124
    ·simp
    rcases Decidable.em (jj = 125) with rfl | a125
    ·simp
    rcases Decidable.em (jj = 126) with rfl | a126
    ·simp
    rcases Decidable.em (jj = 127) with rfl | a127
    ·simp
    rcases Decidable.em (jj = 128) with rfl | a128
    ·simp
    rcases Decidable.em (jj = 129) with rfl | a129
    ·simp
    rcases Decidable.em (jj = 130) with rfl | a130
    ·simp
    simp [a14, a112, a113, a114, a115, a116, a117, a118, a119, a120, a121, a122, a123, a124, a125, a126, a127, a128, a129, a130, kill_comm]
 ·simp [d0, d2, d7, d13, d16, d17, d20, d21]
theorem EvP_name {P : Program} {H : Hint} {C : Callee} {f k : Nat} {c : Code} {Φ : Ex → St → Prop} {D : St} (K : St → Prop) (h : K D) (h2 : ∀ D1, K D1 → EvP P H C f k c D1 Φ) : EvP P H C f k c D Φ := h2 D h
def blkAt (id : Nat) : Code → Option Code
 | .block i c => if i = id then some (.block i c) else blkAt id c
 | .seq a b => match blkAt id a with | some r => some r | none => blkAt id b
 | .cond _ a b => match blkAt id a with | some r => some r | none => blkAt id b
 | .loop c => blkAt id c
 | _ => none
def blkF (F : Func) (id : Nat) : Code := ((F.body.bind (blkAt id)).getD .skip)
def HeardR (S : List (List (List Nat))) (n : Nat) (RS : List V) : Prop := RS.length = n ∧ ∀ j, j < n → ∃ RR, RS[j]? = some (.own .nil 0 n RR) ∧ RR.length = n ∧ ∀ i, i < n → ∃ v, RR[i]? = some v ∧ IsC v (hS S j i)
theorem blk12 {C : Callee} {k b n : Nat} {Al : Option Addr} {cl i kk nx : Nat} {iv RS : List V} {vs : List Nat} {tk : Nat → Nat → List Nat} {M : List (Nat × Box)} {D : St} (hk : n < k)
 (h13 : n ≤ 13) (hin : i < n) (hvl : vs.length = n) (hlen : ∀ j, (tk j i).length ≤ 1000)
 (d0 : D.s 0 = .bptr b 0) (d2 : D.s 2 = .im false Al cl n iv) (d7 : D.s 7 = .int .i64 (n : Int)) (d13 : D.s 13 = .own .nil 0 n RS) (d14 : D.s 14 = .own .nil 0 n (tkC tk n)) (d16 : D.s 16 = .int .i64 (i : Int)) (d17 : D.s 17 = .int .i64 (kk : Int)) (d20 : D.s 20 = .own .nil 0 n (uL vs)) (d21 : D.s 21 = .int .i64 0) (dm : D.m = M) (dx : D.nx = nx) :
 EvP Tryd.prog H14 C 39 k (blkF Tryd.f39 12) D (thenE (fun D => D.s 0 = .bptr b 0 ∧ D.s 2 = .im false Al cl n iv ∧ D.s 7 = .int .i64 (n : Int) ∧ D.s 13 = .own .nil 0 n RS ∧ D.s 14 = .own .nil 0 n (tkC (fun w => addT (tk w) i (vF vs w)) n) ∧ D.s 16 = .int .i64 (i : Int) ∧ D.s 17 = .int .i64 (kk : Int) ∧ D.m = M ∧ D.nx = nx) fun _ _ => False) := by
 obtain ⟨o, ho⟩ : ∃ o, o = blkF Tryd.f39 12 := ⟨_, rfl⟩
 rw [← ho]
 simp [blkF, blkAt, Tryd.f39] at ho
 subst ho
 obtain ⟨J6, hJ6⟩ : ∃ J : Nat → St → Prop, J = fun q D => ∃ (j : Nat) (TK : List V), q = n - j ∧ j ≤ n ∧ TK = mix (fun w => V.own .nil 0 n (tkRow (addT (tk w) i (vF vs w)) n)) (fun w => V.own .nil 0 n (tkRow (tk w) n)) n j ∧ D.s 0 = .bptr b 0 ∧ D.s 2 = .im false Al cl n iv ∧ D.s 7 = .int .i64 (n : Int) ∧ D.s 13 = .own .nil 0 n RS ∧ D.s 14 = .own .nil 0 n TK ∧ D.s 16 = .int .i64 (i : Int) ∧ D.s 17 = .int .i64 (kk : Int) ∧ D.s 20 = .own .nil 0 n (uL vs) ∧ D.s 21 = .int .i64 (j : Int) ∧ D.m = M ∧ D.nx = nx := ⟨_, rfl⟩
 simp [-reach, -doCall, doCall_eq, d0, d2, d7, d13, d14, d16, d17, d20, d21, dm, dx]
 refine EvP.loop J6 (n := n) (by rw [hJ6]; exact ⟨0, tkC tk n, by simp, by simp, by rw [mix_zero]; rfl, by simp [d0, d2, d7, d13, d14, d16, d17, d20, d21, dm, dx]⟩) (by omega) fun q D hD => ?_
 rw [hJ6] at hD
 obtain ⟨j, TK, rfl, hj, hTK, d0, d2, d7, d13, d14, d16, d17, d20, d21, dm, dx⟩ := hD
 have hTl : TK.length = n := by rw [hTK]; simp
 by_cases hjn : j < n
 ·skip
  have e8 := wrap_succ (q := j) (by omega)
  have hjT : j < TK.length := by omega
  have hjr : j < vs.length := by omega
  have hu? : (uL vs)[j]? = some (.int .u64 (vF vs j : Int)) := uL_vF hjr
  have hue := uL_get2 hjr
  have hju : j < (uL vs).length := by simp [uL]; exact hjr
  have hT? : TK[j]? = some (.own .nil 0 n (tkRow (tk j) n)) := by rw [hTK, mix_get _ _ _ _ hjn]
  obtain ⟨RR, hRR⟩ : ∃ RR, tkRow (tk j) n = RR := ⟨_, rfl⟩
  rw [hRR] at hT?
  have hTe : TK[j] = .own .nil 0 n RR := by
   have := List.getElem?_eq_getElem hjT
   rw [hT?] at this
   exact (Option.some.inj this).symm
  have hRl : RR.length = n := by rw [← hRR]; simp
  have hiR : i < RR.length := by omega
  obtain ⟨l, hle⟩ : ∃ l, tk j i = l := ⟨_, rfl⟩
  have hll2 : l.length ≤ 1000 := by rw [← hle]; exact hlen j
  have hR? : RR[i]? = some (.own .nil 0 l.length (uL l)) := by rw [← hRR, tkRow_get _ hin, hle]; rfl
  have hRe : RR[i] = .own .nil 0 l.length (uL l) := by
   have := List.getElem?_eq_getElem hiR
   rw [hR?] at this
   exact (Option.some.inj this).symm
  obtain ⟨x, hx⟩ : ∃ x, vF vs j = x := ⟨_, rfl⟩
  rw [hx] at hu? hue
  have f1 : (l.length + 1) * 8 ≤ 140737488355328 := by omega
  have f2 : l.length ≤ 140737488355327 := by omega
  have hfin : TK.set j (.own .nil 0 n (RR.set i (.own .nil 0 (l.length + 1) (uL l ++ [.int .u64 (x : Int)])))) = mix (fun w => V.own .nil 0 n (tkRow (addT (tk w) i (vF vs w)) n)) (fun w => V.own .nil 0 n (tkRow (tk w) n)) n (j + 1) := by
   rw [← mix_set _ _ _ _ hjn, ← hTK]
   have : V.own .nil 0 (l.length + 1) (uL l ++ [.int .u64 (x : Int)]) = ownR (tk j i ++ [x]) := by
    rw [hle]; simp [ownR, uL]
   rw [this, ← hRR, tkRow_set _ hin, hx]
  simp [-reach, -doCall, doCall_eq, d0, d2, d7, d13, d14, d16, d17, d20, d21, dm, dx, hjn]
  refine EvP_name (fun D => D.s 0 = .bptr b 0 ∧ D.s 2 = .im false Al cl n iv ∧ D.s 7 = .int .i64 (n : Int) ∧ D.s 13 = .own .nil 0 n RS ∧ D.s 14 = .own .nil 0 n TK ∧ D.s 16 = .int .i64 (i : Int) ∧ D.s 17 = .int .i64 (kk : Int) ∧ D.s 20 = .own .nil 0 n (uL vs) ∧ D.s 21 = .int .i64 (j : Int) ∧ D.m = M ∧ D.nx = nx) (by simp [d0, d2, d7, d13, d14, d16, d17, d20, d21]) fun D ⟨d0, d2, d7, d13, d14, d16, d17, d20, d21, dm, dx⟩ => ?_
  have hq := reg34 (C := C) (k := k) d0 d2 d7 d13 d14 d16 d17 d20 d21 dm dx hin hjn hT? hTl hR? hRl hu? hju hvl f1 f2
  obtain ⟨og, hog⟩ : ∃ o, o = regF Tryd.f39 34 := ⟨_, rfl⟩
  rw [← hog] at hq
  simp [regF, regAt, Tryd.f39] at hog
  subst hog
  refine EvP.cutN (fun D => D.s 0 = .bptr b 0 ∧ D.s 2 = .im false Al cl n iv ∧ D.s 7 = .int .i64 (n : Int) ∧ D.s 13 = .own .nil 0 n RS ∧ D.s 14 = .own .nil 0 n (TK.set j (.own .nil 0 n (RR.set i (.own .nil 0 (l.length + 1) (uL l ++ [.int .u64 (x : Int)]))))) ∧ D.s 16 = .int .i64 (i : Int) ∧ D.s 17 = .int .i64 (kk : Int) ∧ D.s 20 = .own .nil 0 n (uL vs) ∧ D.s 21 = .int .i64 (j : Int) ∧ D.m = M ∧ D.nx = nx) hq fun D ⟨d0, d2, d7, d13, d14, d16, d17, d20, d21, dm, dx⟩ => ?_
  simp [-reach, -doCall, doCall_eq, d0, d2, d7, d13, d14, d16, d17, d20, d21, dm, dx, e8]
  subst hJ6
  exact ⟨n - (j + 1), by omega, j + 1, _, rfl, by omega, hfin, by simp [d0], by simp [d2], by simp [d7], by simp [d13], by simp [d14], by simp [d16], by simp [d17], by simp [d20], by simp, by simp [dm], by simp [dx]⟩
 ·have hje : j = n := by omega
  rw [hje, mix_full] at hTK
  have hTK2 : TK = tkC (fun w => addT (tk w) i (vF vs w)) n := by rw [hTK]; rfl
  rw [hTK2] at d14
  simp [-reach, -doCall, doCall_eq, d0, d2, d7, d13, d14, d16, d17, d20, d21, dm, dx, hjn]
theorem blk10 {k b n : Nat} {Al : Option Addr} {cl i kk nx : Nat} {iv RS TK : List V} {ls : List Int} {S : List (List (List Nat))} {hd : Nat → Nat → List Nat} {M : List (Nat × Box)} {D : St} (hk : 1200 < k)
 (h13 : n ≤ 13) (hin : i < n) (hHS : HeardR S n RS) (hdl : ∀ j i, (hd j i).length = lnF ls i) (hde : ∀ j i, hd j i = resizeS (hS S j i) (lnF ls i)) (hL1 : lnF ls i ≤ 1000) (hivl : iv.length = n) (hii : i < iv.length) (hie : iv[i] = .int .i64 (lnF ls i : Int)) (hkl : kk < lnF ls i) {WL : List Nat} (hWL : (List.range n).map (fun j => vF (hd j i) kk) = WL)
 (d0 : D.s 0 = .bptr b 0) (d2 : D.s 2 = .im false Al cl n iv) (d7 : D.s 7 = .int .i64 (n : Int)) (d13 : D.s 13 = .own .nil 0 n RS) (d14 : D.s 14 = .own .nil 0 n TK) (d16 : D.s 16 = .int .i64 (i : Int)) (d17 : D.s 17 = .int .i64 (kk : Int)) (d18 : D.s 18 = .own .nil 0 0 []) (d19 : D.s 19 = .int .i64 0) (dm : D.m = M) (dx : D.nx = nx) :
 EvP Tryd.prog H14 (evCall Tryd.prog H14 k) 39 k (blkF Tryd.f39 10) D (thenE (fun D => ∃ RS, HeardR S n RS ∧ D.s 0 = .bptr b 0 ∧ D.s 2 = .im false Al cl n iv ∧ D.s 7 = .int .i64 (n : Int) ∧ D.s 13 = .own .nil 0 n RS ∧ D.s 14 = .own .nil 0 n TK ∧ D.s 16 = .int .i64 (i : Int) ∧ D.s 17 = .int .i64 (kk : Int) ∧ D.s 18 = .own .nil 0 n (uL WL) ∧ D.m = M ∧ D.nx = nx) fun _ _ => False) := by
 obtain ⟨o, ho⟩ : ∃ o, o = blkF Tryd.f39 10 := ⟨_, rfl⟩
 rw [← ho]
 simp [blkF, blkAt, Tryd.f39] at ho
 subst ho
 obtain ⟨J5, hJ5⟩ : ∃ J : Nat → St → Prop, J = fun q D => ∃ (j : Nat) (ws : List Nat) (RS : List V), q = n - j ∧ j ≤ n ∧ ws = (List.range j).map (fun j => vF (hd j i) kk) ∧ HeardR S n RS ∧ D.s 0 = .bptr b 0 ∧ D.s 2 = .im false Al cl n iv ∧ D.s 7 = .int .i64 (n : Int) ∧ D.s 13 = .own .nil 0 n RS ∧ D.s 14 = .own .nil 0 n TK ∧ D.s 16 = .int .i64 (i : Int) ∧ D.s 17 = .int .i64 (kk : Int) ∧ D.s 18 = .own .nil 0 j (uL ws) ∧ D.s 19 = .int .i64 (j : Int) ∧ D.m = M ∧ D.nx = nx := ⟨_, rfl⟩
 have unl : uL [] = [] := rfl
 simp [-reach, -doCall, doCall_eq, d0, d2, d7, d13, d14, d16, d17, d18, d19, dm, dx]
 refine EvP.loop J5 (n := n) (by rw [hJ5]; exact ⟨0, [], RS, by simp, by simp, rfl, hHS, by simp [d0, d2, d7, d13, d14, d16, d17, d18, d19, dm, dx, unl]⟩) (by omega) fun q D hD => ?_
 rw [hJ5] at hD
 obtain ⟨j, ws, RS, rfl, hj, hws, hHS, d0, d2, d7, d13, d14, d16, d17, d18, d19, dm, dx⟩ := hD
 have hwl : ws.length = j := by rw [hws, map_len]
 by_cases hjn : j < n
 ·skip
  have e7 := wrap_succ (q := j) (by omega)
  have hHS' := hHS
  unfold HeardR at hHS'
  obtain ⟨hSl, hSj⟩ := hHS'
  obtain ⟨RR, hR?, hRl, hRi⟩ := hSj j hjn
  obtain ⟨v, hv?, hvC⟩ := hRi i hin
  have hjR : j < RS.length := by omega
  have hRe : RS[j] = .own .nil 0 n RR := by
   have := List.getElem?_eq_getElem hjR
   rw [hR?] at this
   exact (Option.some.inj this).symm
  have hiR : i < RR.length := by omega
  obtain ⟨w, hw⟩ : ∃ w, hS S j i = w := ⟨_, rfl⟩
  rw [hw] at hvC
  obtain ⟨u, hu⟩ : ∃ u, hd j i = u := ⟨_, rfl⟩
  have hul : u.length = lnF ls i := by rw [← hu]; exact hdl j i
  have hru : resizeS w (lnF ls i) = u := by rw [← hu, hde, hw]
  have c37 := callP (resize25 false none 0 w (lnF ls i) hL1) (k := k) (by omega) (by simp [ptrsL, ptrs, nil_uL]) rfl
  rw [hru] at c37
  have hku : kk < u.length := by omega
  have hu? : (uL u)[kk]? = some (.int .u64 (vF u kk : Int)) := uL_vF hku
  have hue := uL_get2 hku
  have hkul : kk < (uL u).length := by simp [uL]; exact hku
  have f1 : (j + 1) * 8 ≤ 140737488355328 := by omega
  have f2 : j ≤ 140737488355327 := by omega
  have hwn : (List.range (j + 1)).map (fun j => vF (hd j i) kk) = ws ++ [vF u kk] := by rw [range_snoc, hws, hu]
  have keep : HeardR S n RS := hHS
  rcases hvC with hvC | ⟨hw0, hvC⟩
  ·rcases w with _ | ⟨y1, w1⟩
   ·have hvC : v = .own .nil 0 0 [] := hvC
    subst hvC
    have hve : RR[i] = .own .nil 0 0 [] := by
     have := List.getElem?_eq_getElem hiR
     rw [hv?] at this
     exact (Option.some.inj this).symm
    have z0' : uL [] = [] := rfl
    simp only [z0', List.length_nil] at c37
    simp [-reach, -doCall, doCall_eq, d0, d2, d7, d13, d14, d16, d17, d18, d19, dm, dx, hjn, hSl, hR?, hRe, hjR, hin, hv?, hve, hiR, hRl, hii, hivl, hie, c37, hkl, hu?, hue, hkul, hul, hwl, f1, f2, e7]
    subst hJ5
    refine ⟨n - (j + 1), by omega, j + 1, ws ++ [vF u kk], RS.set j (.own .nil 0 n (RR.set i (.im true none 0 0 []))), rfl, by omega, hwn.symm, ?_, by simp [d0], by simp [d2], by simp [d7], by simp, by simp [d14], by simp [d16], by simp [d17], by simp [uL], by simp, by simp, by simp⟩
    unfold HeardR
    refine ⟨by simp [hSl], fun j' hj' => ?_⟩
    by_cases hjj : j' = j
    ·subst hjj
     refine ⟨RR.set i (.im true none 0 0 []), by rw [List.getElem?_set_self hjR], by simp [hRl], fun i' hi' => ?_⟩
     by_cases hi2 : i' = i
     ·subst hi2
      exact ⟨_, by rw [List.getElem?_set_self hiR], .inr ⟨hw, rfl⟩⟩
     ·obtain ⟨v', h1, h2⟩ := hRi i' hi'
      exact ⟨v', by rw [List.getElem?_set_ne (fun e => hi2 e.symm)]; exact h1, h2⟩
    ·obtain ⟨RR', h1, h2, h4⟩ := hSj j' hj'
     exact ⟨RR', by rw [List.getElem?_set_ne (fun e => hjj e.symm)]; exact h1, h2, h4⟩
   ·rw [cpV_cons] at hvC
    subst hvC
    have hve : RR[i] = .im true none 0 (w1.length + 1) (.int .u64 (y1 : Int) :: uL w1) := by
     have := List.getElem?_eq_getElem hiR
     rw [hv?] at this
     exact (Option.some.inj this).symm
    simp only [uL_cons, List.length_cons] at c37
    simp [-reach, -doCall, doCall_eq, d0, d2, d7, d13, d14, d16, d17, d18, d19, dm, dx, hjn, hSl, hR?, hRe, hjR, hin, hv?, hve, hiR, hRl, hii, hivl, hie, c37, hkl, hu?, hue, hkul, hul, hwl, f1, f2, e7]
    subst hJ5
    exact ⟨n - (j + 1), by omega, j + 1, ws ++ [vF u kk], RS, rfl, by omega, hwn.symm, keep, by simp [d0], by simp [d2], by simp [d7], by simp [d13], by simp [d14], by simp [d16], by simp [d17], by simp [uL], by simp, by simp, by simp⟩
  ·subst hw0
   subst hvC
   have hve : RR[i] = .im true none 0 0 [] := by
    have := List.getElem?_eq_getElem hiR
    rw [hv?] at this
    exact (Option.some.inj this).symm
   have z0' : uL [] = [] := rfl
   simp only [z0', List.length_nil] at c37
   simp [-reach, -doCall, doCall_eq, d0, d2, d7, d13, d14, d16, d17, d18, d19, dm, dx, hjn, hSl, hR?, hRe, hjR, hin, hv?, hve, hiR, hRl, hii, hivl, hie, c37, hkl, hu?, hue, hkul, hul, hwl, f1, f2, e7]
   subst hJ5
   exact ⟨n - (j + 1), by omega, j + 1, ws ++ [vF u kk], RS, rfl, by omega, hwn.symm, keep, by simp [d0], by simp [d2], by simp [d7], by simp [d13], by simp [d14], by simp [d16], by simp [d17], by simp [uL], by simp, by simp, by simp⟩
 ·have hje : j = n := by omega
  rw [hje] at hws
  rw [hWL] at hws
  rw [hje, hws] at d18
  simp [-reach, -doCall, doCall_eq, d0, d2, d7, d13, d14, d16, d17, d18, d19, dm, dx, hjn]
  exact hHS
theorem refBroadcast39 {N b g : Nat} {σ : NetS} {tb : List (Nat × Box)} (I : NetI N b σ tb) (A Al : Option Addr) (cap cl : Nat) (rs : List RD) (ls : List Int) (n t : Nat) (hl : rs.length = n) (hll : ls.length = n) (hn : σ.scn.n = (n : Int)) (ht : σ.scn.t = (t : Int)) (h3 : 3 * t < n) (hls : ∀ x ∈ ls, 0 ≤ x ∧ x ≤ 1000) (hok : ∀ r ∈ rs, ∀ x ∈ r.l, x < σ.scn.p) (hr : σ.round + 1 + 3 * ((t + 1 : Nat) : Int) * (sumL (lnF ls) n : Int) < 1000) :
 AnsM (max N 1200 + 5) Tryd.prog H14 39 [.bptr b 0, .im false A cap n (rsV rs), .im false Al cl n (iL ls)] ((b, ⟨g, netC σ⟩) :: tb) (.own .nil 0 n (tkC (rEnd n t σ rs ls).tk n)) ((b, ⟨g, netC (rEnd n t σ rs ls).σ⟩) :: tb) := by
 have h13 : n ≤ 13 := by have := I.h13; omega
 have hp0 : 0 < σ.scn.p := I.p0
 have hr0 := I.hr
 have hprod : (0 : Int) ≤ 3 * ((t + 1 : Nat) : Int) * (sumL (lnF ls) n : Int) := Int.mul_nonneg (by omega) (by omega)
 have hO0 : NetQ N b tb σ.scn σ.tp σ := ⟨I, rfl, rfl⟩
 obtain ⟨L, hLd⟩ : ∃ L, sayL n rs ls = L := ⟨_, rfl⟩
 have hLl : L.length = n := by rw [← hLd]; simp
 have hLok := sayL_ok (n := n) hp0 hls hok
 rw [hLd] at hLok
 obtain ⟨S, hS1⟩ : ∃ S, saidE σ n L = S := ⟨_, rfl⟩
 have hSO : SOk σ.scn.p S := by rw [← hS1]; exact sOk_of (hO0.said hn hLl hLok)
 obtain ⟨hO1, hr1⟩ := hO0.sent hn L
 obtain ⟨z0, hz0⟩ : ∃ z0 : BS, (⟨rsent σ n L, fun _ _ => []⟩ : BS) = z0 := ⟨_, rfl⟩
 have hz0σ : z0.σ = rsent σ n L := by rw [← hz0]
 have hz0t : z0.tk = fun _ _ => [] := by rw [← hz0]
 rw [← hz0σ] at hO1 hr1
 obtain ⟨hd, hhd⟩ : ∃ hd, hrd S ls = hd := ⟨_, rfl⟩
 have hdp : ∀ j i, ∀ x ∈ hd j i, x < σ.scn.p := fun j i => by rw [← hhd]; exact hrd_lt hp0 hSO ls j i
 have hdl : ∀ j i, (hd j i).length = lnF ls i := fun j i => by rw [← hhd]; exact resizeS_pos
 have hde : ∀ j i, hd j i = resizeS (hS S j i) (lnF ls i) := fun j i => by rw [← hhd]; rfl
 have hE : rEnd n t σ rs ls = rAll n t hd (lnF ls) z0 n := by unfold rEnd; rw [hLd, hS1, hhd, hz0]
 rw [hE]
 have hA := fun i => rAll_ok (ln := lnF ls) hO1 hn (show t < n by omega) hdp i
 have hli : ∀ i (h : i < ls.length), ls[i] = (lnF ls i : Int) ∧ lnF ls i ≤ 1000 := fun i h => by
  have h1 := hls _ (List.getElem_mem h)
  have h2 : lnF ls i = (ls[i]).toNat := by unfold lnF; rw [List.getElem?_eq_getElem h]; rfl
  omega
 have hrw : ∀ i (h : i < rs.length), rwF rs i = (rs[i]).l := fun i h => by unfold rwF; rw [List.getElem?_eq_getElem h]; rfl
 refine AnsM.gen (fn := Tryd.f39) (by rfl) Tryd.func39 rfl (by rfl) (fun nx h c hc => ?_) fun k hk nx h => ?_
 ·simp only [ptrs, ptrsL_tkC, List.nil_append] at hc
  exact net_ptrs (σ := (rAll n t hd (lnF ls) z0 n).σ) (hA n).1.I.hT (fun e he => by
   rcases List.mem_cons.1 he with rfl | he
   ·exact h (b, ⟨g, netC σ⟩) List.mem_cons_self
   ·exact h _ (List.mem_cons_of_mem _ he)) hc
 have hb : b < nx := h (b, ⟨g, netC σ⟩) List.mem_cons_self
 have hnet : ∀ τ : NetS, ∀ e ∈ (b, (⟨g, netC τ⟩ : Box)) :: tb, e.1 < nx := fun τ e he => by
  rcases List.mem_cons.1 he with rfl | he
  ·exact hb
  ·exact h _ (List.mem_cons_of_mem _ he)
 obtain ⟨Mf, hMf⟩ : ∃ Mf : NetS → List (Nat × Box), Mf = fun τ => (b, (⟨g, netC τ⟩ : Box)) :: tb := ⟨_, rfl⟩
 have hM : ∀ τ, (b, (⟨g, netC τ⟩ : Box)) :: tb = Mf τ := fun τ => by rw [hMf]
 have hff : ∀ τ, (Mf τ).filter (fun e => decide (e.1 < nx)) = Mf τ := fun τ => by rw [← hM]; exact filt_lt (hnet τ)
 have c51 := fun s dst => netCall0 (s := s) (dst := dst) (g := g) I.hT I.hl rfl (scen51 b g σ tb I.hT) (k := k) (by omega) (by simp [ptrsL, ptrs]) rfl (hnet σ)
 rw [hM] at c51
 simp only [scV, scL, hn, ht] at c51
 have hML : (eachM n (L.map rz)).length = n := by simp [eachM, hLl]
 have hmo : MsOk σ.scn.p n (mls (eachM n (L.map rz))) := by rw [mls_each, rz_l]; exact eachL_ok hLl hLok
 have a59 := I.send44 (g := g) (by omega) false none 0 (eachM n (L.map rz)) (by rw [hML, hn]) (by rw [hML]; exact hmo)
 rw [hML, mls_each, rz_l] at a59
 have hSn : netSaid σ n (eachL n L) = S := hS1
 have hzn : sentS lnW (netSaid σ n (eachL n L)) n σ = z0.σ := by rw [hz0σ]; rfl
 rw [hzn, hSn] at a59
 have c59 := fun s dst => netCall0 (s := s) (dst := dst) (g := g) I.hT I.hl hO1.tp a59 (k := k) (by omega) (by simp [ptrsL, ptrs]) rfl (hnet σ)
 have hfull : ∀ bb, frzL false (frzL bb (L.map fun l => sayR n l n)) = msV (eachM n (L.map rz)) := fun bb => by rw [← sayC_map hLl]; exact sayC_full hLl bb
 simp only [hM, inV] at c59
 rw [hM, hM]
 have b1 : (n : Int) ≤ 140737488355328 := by omega
 have b2 : (n : Int) * 24 ≤ 140737488355328 := by omega
 have hz : ¬ (n = 0 ∧ 0 < n) := by omega
 obtain ⟨rv, hrv⟩ : ∃ rv, rsV rs = rv := ⟨_, rfl⟩
 obtain ⟨iv, hiv⟩ : ∃ iv, iL ls = iv := ⟨_, rfl⟩
 have hrvl : rv.length = n := by rw [← hrv]; simp [rsV, hl]
 have hivl : iv.length = n := by rw [← hiv]; simp [iL, hll]
 have hiL : ∀ i (h : i < iv.length), iv[i] = .int .i64 (lnF ls i : Int) := fun i h => by
  subst hiv
  have : i < ls.length := by omega
  simp [iL, (hli i this).1]
 rw [hrv, hiv]
 obtain ⟨J, hJ⟩ : ∃ J : Nat → St → Prop, J = fun q D => ∃ (i : Nat) (L8 : List V), q = n - i ∧ i ≤ n ∧ L8 = (L.take i).map (fun l => sayR n l n) ∧ D.s 0 = .bptr b 0 ∧ D.s 1 = .im false A cap n rv ∧ D.s 2 = .im false Al cl n iv ∧ D.s 7 = .int .i64 (n : Int) ∧ D.s 8 = .own .nil 0 i L8 ∧ D.s 9 = .int .i64 (i : Int) ∧ D.m = Mf σ ∧ D.nx = nx := ⟨_, rfl⟩
 simp [-reach, -doCall, doCall_eq, entryS, c51]
 refine EvP.loop J (n := n) (by rw [hJ]; exact ⟨0, [], by simp, by simp, by simp, by simp⟩) (by omega) fun q D hD => ?_
 rw [hJ] at hD
 obtain ⟨i, L8, rfl, hi, hL8, d0, d1, d2, d7, d8, d9, dm, dx⟩ := hD
 have h8l : L8.length = i := by rw [hL8, List.length_map, List.length_take, hLl]; omega
 by_cases hil : i < n
 ·as_aux_lemma =>
  have e3 := wrap_succ (q := i) (by omega)
  have hir : i < rs.length := by omega
  have hic : i < rv.length := by omega
  have hii : i < iv.length := by omega
  have hils : i < ls.length := by omega
  obtain ⟨r, hr00⟩ : ∃ r, rs[i] = r := ⟨_, rfl⟩
  have hri : rv[i] = rV r := by subst hrv; rw [rs_get rs i hir, hr00]
  have hie := hiL i hii
  obtain ⟨u, hu⟩ : ∃ u, resizeS r.l (lnF ls i) = u := ⟨_, rfl⟩
  have hul : u.length = lnF ls i := by rw [← hu]; exact resizeS_pos
  have hLe : L[i]'(by omega) = u := by
   have h1 : L[i]? = some (resizeS (rwF rs i) (lnF ls i)) := by rw [← hLd]; unfold sayL; rw [List.getElem?_map, List.getElem?_range hil]; rfl
   rw [List.getElem?_eq_getElem (by omega), hrw i hir, hr00, hu] at h1
   exact Option.some.inj h1
  have c37 := callP (resize25 false r.A r.cap r.l (lnF ls i) (hli i hils).2) (k := k) (by omega) (by simp [ptrsL, ptrs, nil_uL]) rfl
  rw [hu] at c37
  simp only [rV] at hri
  have f1 : (i + 1) * 24 ≤ 140737488355328 := by omega
  have f2 : i ≤ 140737488355327 := by omega
  have hnext : (L.take (i + 1)).map (fun l => sayR n l n) = L8 ++ [sayR n u n] := by
   rw [List.take_succ_eq_append_getElem (by omega), List.map_append, ← hL8, hLe]; rfl
  obtain ⟨J1, hJ1⟩ : ∃ J : Nat → St → Prop, J = fun q D => ∃ (j : Nat) (R : List V), q = n - j ∧ j ≤ n ∧ R = List.replicate j (cpV u) ∧ D.s 0 = .bptr b 0 ∧ D.s 1 = .im false A cap n rv ∧ D.s 2 = .im false Al cl n iv ∧ D.s 7 = .int .i64 (n : Int) ∧ D.s 8 = .own .nil 0 i L8 ∧ D.s 9 = .int .i64 (i : Int) ∧ (D.s 10 = .own .nil 0 (lnF ls i) (uL u) ∨ u ≠ [] ∧ D.s 10 = .im true none 0 (lnF ls i) (uL u)) ∧ D.s 11 = .own .nil 0 j R ∧ D.s 12 = .int .i64 (j : Int) ∧ D.m = Mf σ ∧ D.nx = nx := ⟨_, rfl⟩
  simp [-reach, -doCall, doCall_eq, d0, d1, d2, d7, d8, d9, dm, dx, hil, hic, hrvl, hri, hii, hivl, hie, c37]
  refine EvP.loop J1 (n := n) (by rw [hJ1]; exact ⟨0, [], by simp, by simp, rfl, by simp [d0], by simp [d1], by simp [d2], by simp [d7], by simp [d8], by simp [d9], by simp, by simp, by simp, by simp, by simp⟩) (by omega) fun q D hD => ?_
  rw [hJ1] at hD
  obtain ⟨j, R, rfl, hj, hR, d0, d1, d2, d7, d8, d9, d10, d11, d12, dm, dx⟩ := hD
  have hRl : R.length = j := by rw [hR, List.length_replicate]
  by_cases hjl : j < n
  ·have e4 := wrap_succ (q := j) (by omega)
   have g1 : (j + 1) * 24 ≤ 140737488355328 := by omega
   have g2 : j ≤ 140737488355327 := by omega
   have hnx : List.replicate (j + 1) (cpV u) = R ++ [cpV u] := by rw [List.replicate_succ', hR]
   rw [← hul] at d10
   rcases u with _ | ⟨y, u⟩
   ·rcases d10 with d10 | ⟨hne, _⟩
    ·have z0 : uL [] = [] := rfl
     rw [z0, List.length_nil] at d10
     simp [-reach, -doCall, doCall_eq, d0, d1, d2, d7, d8, d9, d10, d11, d12, dm, dx, hjl, hRl, g1, g2, e4]
     subst hJ1
     exact ⟨n - (j + 1), by omega, j + 1, R ++ [cpV []], rfl, by omega, hnx.symm, by simp [d0], by simp [d1], by simp [d2], by simp [d7], by simp [d8], by simp [d9], .inl (by rw [← hul]; simp [d10, z0]), by simp [cpV_nil], by simp, by simp, by simp⟩
    ·exact absurd rfl hne
   ·simp only [uL_cons, List.length_cons] at d10
    rcases d10 with d10 | ⟨_, d10⟩
    ·simp [-reach, -doCall, doCall_eq, d0, d1, d2, d7, d8, d9, d10, d11, d12, dm, dx, hjl, hRl, g1, g2, e4]
     subst hJ1
     exact ⟨n - (j + 1), by omega, j + 1, R ++ [cpV (y :: u)], rfl, by omega, hnx.symm, by simp [d0], by simp [d1], by simp [d2], by simp [d7], by simp [d8], by simp [d9], .inr ⟨by simp, by rw [← hul]; simp [uL_cons]⟩, by simp [cpV_cons], by simp, by simp, by simp⟩
    ·simp [-reach, -doCall, doCall_eq, d0, d1, d2, d7, d8, d9, d10, d11, d12, dm, dx, hjl, hRl, g1, g2, e4]
     subst hJ1
     exact ⟨n - (j + 1), by omega, j + 1, R ++ [cpV (y :: u)], rfl, by omega, hnx.symm, by simp [d0], by simp [d1], by simp [d2], by simp [d7], by simp [d8], by simp [d9], .inr ⟨by simp, by rw [← hul]; simp [d10, uL_cons]⟩, by simp [cpV_cons], by simp, by simp, by simp⟩
  ·have hje : j = n := by omega
   rw [hje] at hR d11
   simp [-reach, -doCall, doCall_eq, d0, d1, d2, d7, d8, d9, d11, d12, dm, dx, hjl, h8l, f1, f2, e3]
   subst hJ
   exact ⟨n - (i + 1), by omega, i + 1, _, rfl, by omega, hnext.symm, by simp [d0], by simp [d1], by simp [d2], by simp [d7], by simp [sayR, hR], by simp, by simp, by simp⟩
 ·as_aux_lemma =>
  have hin : i = n := by omega
  rw [hin, ← hLl, List.take_length, hLl] at hL8
  rw [hin] at d8 d9
  rw [hL8] at d8
  obtain ⟨L9, hL9⟩ : ∃ L9, L.map (fun l => sayR n l n) = L9 := ⟨_, rfl⟩
  rw [hL9] at d8 hfull
  have hnl : ¬ i < n := by omega
  have hrep : List.replicate n (V.own .nil 0 0 []) = mix (fun _ => V.own .nil 0 n (List.replicate n (.own .nil 0 0 []))) (fun _ => V.own .nil 0 0 []) n 0 := by
   rw [mix_zero, start9, List.map_map]; rfl
  obtain ⟨RS0, hRS0⟩ : ∃ RS0, rowsC (outL S n n) = RS0 := ⟨_, rfl⟩
  have hRS0l : RS0.length = n := by rw [← hRS0]; simp
  rw [hRS0] at c59
  obtain ⟨HR, hHR⟩ : ∃ HR : List V → Prop, HR = HeardR S n := ⟨_, rfl⟩
  have hR0 : HR RS0 := by
   rw [hHR]
   unfold HeardR
   refine ⟨hRS0l, fun j hj => ⟨(colS S j n).map cpV, ?_, by rw [List.length_map, colS_length], fun i hi => ⟨cpV (hS S j i), ?_, .inl rfl⟩⟩⟩
   ·rw [← hRS0, rowsC_get (outL_get _ _ _ _ hj), if_pos hj, colS_length]
   ·rw [List.getElem?_map]; unfold colS; rw [List.getElem?_map, List.getElem?_range hi]; rfl
  obtain ⟨J2, hJ2⟩ : ∃ J : Nat → St → Prop, J = fun q D => ∃ (j : Nat) (TK : List V), q = n - j ∧ j ≤ n ∧ TK = mix (fun _ => V.own .nil 0 n (List.replicate n (.own .nil 0 0 []))) (fun _ => V.own .nil 0 0 []) n j ∧ D.s 0 = .bptr b 0 ∧ D.s 2 = .im false Al cl n iv ∧ D.s 7 = .int .i64 (n : Int) ∧ D.s 13 = .own .nil 0 n RS0 ∧ D.s 14 = .own .nil 0 n TK ∧ D.s 15 = .int .i64 (j : Int) ∧ D.m = Mf z0.σ ∧ D.nx = nx := ⟨_, rfl⟩
  simp [-reach, -doCall, doCall_eq, d0, d1, d2, d7, d8, d9, dm, dx, hnl, hfull, c59, b1, b2, hz, rep_rep]
  refine EvP.loop J2 (n := n) (by rw [hJ2]; exact ⟨0, List.replicate n (.own .nil 0 0 []), by simp, by simp, hrep, by simp [d0, d2, d7]⟩) (by omega) fun q D hD => ?_
  rw [hJ2] at hD
  obtain ⟨j, TK, rfl, hj, hTK, d0, d2, d7, d13, d14, d15, dm, dx⟩ := hD
  have hTl : TK.length = n := by rw [hTK]; simp
  by_cases hjn : j < n
  ·as_aux_lemma =>
   have e4 := wrap_succ (q := j) (by omega)
   have hjT : j < TK.length := by omega
   have hT? : TK[j]? = some (.own .nil 0 0 []) := by rw [hTK, mix_get _ _ _ _ hjn]
   have hTe : TK[j] = .own .nil 0 0 [] := by
    have := List.getElem?_eq_getElem hjT
    rw [hT?] at this
    exact (Option.some.inj this).symm
   simp [-reach, -doCall, doCall_eq, d0, d2, d7, d13, d14, d15, dm, dx, hjn, hT?, hTe, hjT, hTl, b1, b2, hz, rep_rep, e4]
   subst hJ2
   exact ⟨n - (j + 1), by omega, j + 1, TK.set j (.own .nil 0 n (List.replicate n (.own .nil 0 0 []))), rfl, by omega, by rw [hTK]; exact mix_set (fun _ => V.own .nil 0 n (List.replicate n (.own .nil 0 0 []))) _ _ _ hjn, by simp [d0], by simp [d2], by simp [d7], by simp [d13], by simp, by simp, by simp, by simp⟩
  ·have hje : j = n := by omega
   rw [hje, mix_full] at hTK
   have hTK2 : TK = tkC z0.tk n := by
    rw [hTK, hz0t]
    unfold tkC tkRow
    refine List.map_congr_left fun _ _ => ?_
    rw [start9, List.map_map]; rfl
   rw [hje] at d15
   rw [hTK2] at d14
   obtain ⟨U, hU⟩ : ∃ U : Nat → St → Prop, U = fun q D => ∃ (i : Nat) (z : BS) (RS : List V), q = n - i ∧ i ≤ n ∧ z = rAll n t hd (lnF ls) z0 i ∧ HR RS ∧ D.s 0 = .bptr b 0 ∧ D.s 2 = .im false Al cl n iv ∧ D.s 7 = .int .i64 (n : Int) ∧ D.s 13 = .own .nil 0 n RS ∧ D.s 14 = .own .nil 0 n (tkC z.tk n) ∧ D.s 16 = .int .i64 (i : Int) ∧ D.m = Mf z.σ ∧ D.nx = nx := ⟨_, rfl⟩
   simp [-reach, -doCall, doCall_eq, d0, d2, d7, d13, d14, d15, dm, dx, hjn]
   refine EvP.loop U (n := n) (by rw [hU]; exact ⟨0, z0, RS0, by simp, by simp, rfl, hR0, by simp [d0, d2, d7, d13, d14]⟩) (by omega) fun q D hD => ?_
   rw [hU] at hD
   obtain ⟨i, z, RS, rfl, hi, hzi, hHS, d0, d2, d7, d13, d14, d16, dm, dx⟩ := hD
   obtain ⟨hAo, hAr, hAk⟩ := hA i
   rw [← hzi] at hAo hAr hAk
   by_cases hin : i < n
   ·as_aux_lemma =>
    have e5 := wrap_succ (q := i) (by omega)
    have hii : i < iv.length := by omega
    have hie := hiL i hii
    have hL1 := (hli i (by omega)).2
    obtain ⟨V0, hV0⟩ : ∃ V0 : Nat → St → Prop, V0 = fun q D => ∃ (kk : Nat) (y : BS) (RS : List V), q = lnF ls i - kk ∧ kk ≤ lnF ls i ∧ y = rRow n t hd i z kk ∧ HR RS ∧ D.s 0 = .bptr b 0 ∧ D.s 2 = .im false Al cl n iv ∧ D.s 7 = .int .i64 (n : Int) ∧ D.s 13 = .own .nil 0 n RS ∧ D.s 14 = .own .nil 0 n (tkC y.tk n) ∧ D.s 16 = .int .i64 (i : Int) ∧ D.s 17 = .int .i64 (kk : Int) ∧ D.m = Mf y.σ ∧ D.nx = nx := ⟨_, rfl⟩
    simp [-reach, -doCall, doCall_eq, d0, d2, d7, d13, d14, d16, dm, dx, hin]
    refine EvP.loop V0 (n := lnF ls i) (by rw [hV0]; exact ⟨0, z, RS, by simp, by simp, rfl, hHS, by simp [d0, d2, d7, d13, d14, d16]⟩) (by omega) fun q D hD => ?_
    rw [hV0] at hD
    obtain ⟨kk, y, RS, rfl, hkk, hyk, hHS, d0, d2, d7, d13, d14, d16, d17, dm, dx⟩ := hD
    obtain ⟨hRo, hRr, hRk⟩ := rRow_ok hAo hn (show t < n by omega) hdp i kk
    rw [← hyk] at hRo hRr hRk
    by_cases hkl : kk < lnF ls i
    ·as_aux_lemma =>
     have e6 := wrap_succ (q := kk) (by omega)
     have hsum : sumL (lnF ls) i + lnF ls i ≤ sumL (lnF ls) n := sumL_mono (ln := lnF ls) (i := i + 1) (j := n) (by omega)
     have hround : y.σ.round + 3 * (t + 1) < 1000 := by
      have h1 : y.σ.round = z0.σ.round + 3 * ((t + 1 : Nat) : Int) * ((sumL (lnF ls) i + kk : Nat) : Int) := by
       rw [hRr, hAr, Int.add_assoc, ← Int.mul_add]; push_cast; rfl
      have h2 : 3 * ((t + 1 : Nat) : Int) * ((sumL (lnF ls) i + kk : Nat) : Int) + 3 * ((t + 1 : Nat) : Int) ≤ 3 * ((t + 1 : Nat) : Int) * (sumL (lnF ls) n : Int) := by
       have h3 : ((sumL (lnF ls) i + kk : Nat) : Int) + 1 ≤ (sumL (lnF ls) n : Int) := by omega
       have h4 := Int.mul_le_mul_of_nonneg_left h3 (show (0 : Int) ≤ 3 * ((t + 1 : Nat) : Int) by omega)
       rwa [Int.mul_add, Int.mul_one] at h4
      rw [h1, hr1]; push_cast at h2 hr ⊢; omega
     obtain ⟨hRun, hRunr⟩ := rRun_ok hRo hn (show t < n by omega) hdp i kk
     obtain ⟨r, hrr⟩ : ∃ r, rRun n t hd i kk y = r := ⟨_, rfl⟩
     rw [hrr] at hRun hRunr
     have p0' := hRo.I.p0
     have a25 := fun A cap => refAgree25 (g := g) hRo.I false A cap ((List.range n).map fun j => vF (hd j i) kk) n t (map_len _ _) (by rw [hRo.s, hn]) (by rw [hRo.s, ht]) (by omega) (fun x hx => by
      obtain ⟨j, _, rfl⟩ := List.mem_map.1 hx
      rw [hRo.s]
      exact vF_lt hp0 (hdp j i) kk) hround
     have hre : phasesR n t ⟨y.σ, (List.range n).map fun j => vF (hd j i) kk⟩ (t + 1) = r := hrr
     simp only [hre] at a25
     obtain ⟨WL, hWL⟩ : ∃ WL, (List.range n).map (fun j => vF (hd j i) kk) = WL := ⟨_, rfl⟩
     rw [hWL] at a25
     have c25 := fun A cap s dst => netCall0 (s := s) (dst := dst) (g := g) hRo.I.hT hRo.I.hl (hRun.o.tp.trans hRo.tp.symm) (a25 A cap) (k := k) (by omega) (by simp [ptrsL, ptrs, nil_uL]) rfl (hnet y.σ)
     simp only [hM] at c25
     have unl : uL [] = [] := rfl
     simp [-reach, -doCall, doCall_eq, -EvK_app, d0, d2, d7, d13, d14, d16, d17, dm, dx, hii, hivl, hin, hie, hkl]
     rw [EvK_app]
     simp [-reach, -doCall, doCall_eq, -EvK_app]
     refine EvK_cut (fun D => D.s 0 = .bptr b 0 ∧ D.s 2 = .im false Al cl n iv ∧ D.s 7 = .int .i64 (n : Int) ∧ D.s 13 = .own .nil 0 n RS ∧ D.s 14 = .own .nil 0 n (tkC y.tk n) ∧ D.s 16 = .int .i64 (i : Int) ∧ D.s 17 = .int .i64 (kk : Int) ∧ D.m = Mf y.σ ∧ D.nx = nx) (by simp [d0, d2, d7, d13, d14, d16, d17]) fun D ⟨d0, d2, d7, d13, d14, d16, d17, dm, dx⟩ => ?_
     rw [ev_seq, ev_block, ev_seq]
     simp [-reach, -doCall, doCall_eq, -EvK_app, d0, d2, d7, d13, d14, d16, d17, dm, dx]
     rw [EvK_app, ev_seq, ev_seq]
     simp [-reach, -doCall, doCall_eq, -EvK_app, d0, d2, d7, d13, d14, d16, d17, dm, dx]
     rw [EvK_app]
     refine EvP_name (fun D => D.s 0 = .bptr b 0 ∧ D.s 2 = .im false Al cl n iv ∧ D.s 7 = .int .i64 (n : Int) ∧ D.s 13 = .own .nil 0 n RS ∧ D.s 14 = .own .nil 0 n (tkC y.tk n) ∧ D.s 16 = .int .i64 (i : Int) ∧ D.s 17 = .int .i64 (kk : Int) ∧ D.s 18 = .own .nil 0 0 [] ∧ D.s 19 = .int .i64 0 ∧ D.m = Mf y.σ ∧ D.nx = nx) (by simp [d0, d2, d7, d13, d14, d16, d17]) fun D ⟨d0, d2, d7, d13, d14, d16, d17, d18, d19, dm, dx⟩ => ?_
     have hq := blk10 (k := k) (by omega) h13 hin (hHR ▸ hHS) hdl hde hL1 hivl hii hie hkl hWL d0 d2 d7 d13 d14 d16 d17 d18 d19 dm dx
     obtain ⟨og, hog⟩ : ∃ o, o = blkF Tryd.f39 10 := ⟨_, rfl⟩
     rw [← hog] at hq
     simp [blkF, blkAt, Tryd.f39] at hog
     subst hog
     refine EvP.cutN _ hq fun D hD => ?_
     obtain ⟨RS, hHS, d0, d2, d7, d13, d14, d16, d17, d18, dm, dx⟩ := hD
     have hHS : HR RS := hHR ▸ hHS
     simp only [thenE]
     rw [EvK_app, ev_seq]
     simp [-reach, -doCall, doCall_eq, -EvK_app, d0, d2, d7, d13, d14, d16, d17, d18, dm, dx, c25]
     rw [EvK_app, ev_seq]
     simp [-reach, -doCall, doCall_eq, -EvK_app]
     have hvl : r.vs.length = n := hRun.l
     rw [EvK_app]
     refine EvP_name (fun D => D.s 0 = .bptr b 0 ∧ D.s 2 = .im false Al cl n iv ∧ D.s 7 = .int .i64 (n : Int) ∧ D.s 13 = .own .nil 0 n RS ∧ D.s 14 = .own .nil 0 n (tkC y.tk n) ∧ D.s 16 = .int .i64 (i : Int) ∧ D.s 17 = .int .i64 (kk : Int) ∧ D.s 20 = .own .nil 0 n (uL r.vs) ∧ D.s 21 = .int .i64 0 ∧ D.m = Mf r.σ ∧ D.nx = nx) (by simp [d0, d2, d7, d13, d14, d16, d17]) fun D ⟨d0, d2, d7, d13, d14, d16, d17, d20, d21, dm, dx⟩ => ?_
     have hll2 : ∀ j, (y.tk j i).length ≤ 1000 := fun j => by rw [hRk j, hAk i (Nat.le_refl _) j, hz0t]; simp; omega
     have hq := blk12 (C := evCall Tryd.prog H14 k) (k := k) (by omega) h13 hin hvl hll2 d0 d2 d7 d13 d14 d16 d17 d20 d21 dm dx
     obtain ⟨og, hog⟩ : ∃ o, o = blkF Tryd.f39 12 := ⟨_, rfl⟩
     rw [← hog] at hq
     simp [blkF, blkAt, Tryd.f39] at hog
     subst hog
     refine EvP.cutN _ hq fun D hD => ?_
     obtain ⟨d0, d2, d7, d13, d14, d16, d17, dm, dx⟩ := hD
     have hst : (fun w => addT (y.tk w) i (vF r.vs w)) = (rStep n t hd i kk y).tk := by unfold rStep; rw [hrr]
     rw [hst] at d14
     simp [-reach, -doCall, doCall_eq, d0, d2, d7, d13, d14, d16, d17, dm, dx, e6]
     subst hV0
     exact ⟨lnF ls i - (kk + 1), by omega, kk + 1, rStep n t hd i kk y, RS, rfl, by omega, by rw [hyk]; rfl, hHS, by simp [d0], by simp [d2], by simp [d7], by simp [d13], by simp [d14], by simp [d16], by simp, by unfold rStep; rw [hrr], by simp⟩
    ·have hke : kk = lnF ls i := by omega
     simp [-reach, -doCall, doCall_eq, d0, d2, d7, d13, d14, d16, d17, dm, dx, hii, hivl, hin, hie, hkl, e5]
     subst hU
     exact ⟨n - (i + 1), by omega, i + 1, y, RS, rfl, by omega, by rw [hyk, hke, hzi]; rfl, hHS, by simp [d0], by simp [d2], by simp [d7], by simp [d13], by simp [d14], by simp, by simp, by simp⟩
   ·have hie : i = n := by omega
    rw [hie] at hzi d16
    have hff := hff z.σ
    simp [-reach, -doCall, doCall_eq, d0, d2, d7, d13, d14, d16, dm, dx, hff, ← hzi]
end Go.Abs
end
