/- Joined: AbsUM AbsUN AbsUO. -/
import Derived.Test.YtdfnadckkcdldaaAbs16
set_option linter.all false
/- The seat of privitylaw13: AdversaryInverse. -/
set_option linter.unusedVariables false
noncomputable section
namespace Go.Abs
open Go Go.Proofs

theorem kill_ref_comm (r r' : Root) (p p' : List Nat) (a : Root) (q : List Nat) : kill r p (kill r' p' (.ref a q)) = kill r' p' (kill r p (.ref a q)) := by
  show kill r p (if hitRef r' p' a q then .dead else .ref a q) = kill r' p' (if hitRef r p a q then .dead else .ref a q)
  cases h1 : hitRef r p a q <;> cases h2 : hitRef r' p' a q <;> simp only [if_true, if_false, kill, h1, h2, Bool.false_eq_true]
theorem kill_loc_comm (r r' : Root) (p p' : List Nat) (a : Root) (q : List Nat) : kill r p (kill r' p' (.loc a q)) = kill r' p' (kill r p (.loc a q)) := by
  show kill r p (if hitLoc r' p' a q then .dead else .loc a q) = kill r' p' (if hitLoc r p a q then .dead else .loc a q)
  cases h1 : hitLoc r p a q <;> cases h2 : hitLoc r' p' a q <;> simp only [if_true, if_false, kill, h1, h2, Bool.false_eq_true]
mutual
theorem kill_comm (r r' : Root) (p p' : List Nat) : ∀ v : V, kill r p (kill r' p' v) = kill r' p' (kill r p v)
  | .ref a q => kill_ref_comm r r' p p' a q
  | .loc a q => kill_loc_comm r r' p p' a q
  | .agg cs => by simp only [kill]; rw [killL_comm r r' p p' cs]
  | .tup cs => by simp only [kill]; rw [killL_comm r r' p p' cs]
  | .fn f a b => by simp only [kill]; rw [killL_comm r r' p p' a, killL_comm r r' p p' b]
  | .int _ _ | .bool _ | .nilp | .nilf | .bptr _ _ | .ip _ _ _ | .im _ _ _ _ _ | .own _ _ _ _ | .dead => rfl
theorem killL_comm (r r' : Root) (p p' : List Nat) : ∀ l : List V, killL r p (killL r' p' l) = killL r' p' (killL r p l)
  | [] => rfl
  | v :: l => by simp only [killL]; rw [kill_comm r r' p p' v, killL_comm r r' p p' l]
end
theorem both_eq {D1 D2 : St} (h : SmS D1 D2) : bothO (some D1) (some D2) = some D1 := by
  unfold bothO
  simp only [if_pos h]
section
variable {P : Program} {H : Hint} {C : Callee} {ops : Array Oper} {fz mu : Nat → Bool}
theorem evDraw_step (i : Nat) (l : List Nat) (D : St) : evDraw P H C ops fz mu (i :: l) D = (stepT P H C ops fz mu i D).bind (evDraw P H C ops fz mu l) := by
  unfold stepT
  rw [evDraw]
  split
  · split
    · split
      · split <;> rename_i hq <;> rw [hq] <;> rfl
      · rfl
    · rfl
    · rfl
  · rfl
def onesT : List Nat → Pl → Pl
  | [], T => T
  | i :: l, T => .one i (onesT l T)
theorem onesT_ev (T : Pl) : ∀ (l : List Nat) (D : St), evDrawT P H C ops fz mu (onesT l T) D = (evDraw P H C ops fz mu l D).bind (evDrawT P H C ops fz mu T)
  | [], D => rfl
  | i :: l, D => by
    rw [evDraw_step]
    show (stepT P H C ops fz mu i D).bind (fun D1 => evDrawT P H C ops fz mu (onesT l T) D1) = _
    cases stepT P H C ops fz mu i D with
    | none => rfl
    | some D1 => exact onesT_ev T l D1
theorem tree_ones {l : List Nat} {T : Pl} {D : St} (K : St → Prop) {Q : St → Prop} (h1 : optE (evDraw P H C ops fz mu l D) K) (h2 : ∀ D1, K D1 → optE (evDrawT P H C ops fz mu T D1) Q) : optE (evDrawT P H C ops fz mu (onesT l T) D) Q := by
  rw [onesT_ev]
  cases hq : evDraw P H C ops fz mu l D with
  | none => rw [hq] at h1; exact h1
  | some D1 => rw [hq] at h1; exact h2 D1 h1
/-- Three ways to the same. -/
theorem tree_three {i j k : Nat} {l : List Nat} {D : St} (F : St → Prop) (hF : ∀ D1 D2, F D1 → F D2 → SmS D1 D2) (h1 : optE (evDraw P H C ops fz mu (i :: j :: k :: l) D) F) (h2 : optE (evDraw P H C ops fz mu (i :: k :: j :: l) D) F) (h3 : optE (evDraw P H C ops fz mu (k :: i :: j :: l) D) F) :
    optE (evDrawT P H C ops fz mu (.two i (.two j (.one k (onesT l .fin)) k (.one j (onesT l .fin))) k (.one i (.one j (onesT l .fin)))) D) F := by
  have fin : ∀ (l : List Nat) (D : St), evDrawT P H C ops fz mu (onesT l .fin) D = evDraw P H C ops fz mu l D := fun l D => by
    rw [onesT_ev]
    cases evDraw P H C ops fz mu l D <;> rfl
  have one : ∀ (i : Nat) (T : Pl) (D : St), evDrawT P H C ops fz mu (.one i T) D = (stepT P H C ops fz mu i D).bind (fun D1 => evDrawT P H C ops fz mu T D1) := fun i T D => rfl
  have two : ∀ (i j : Nat) (A B : Pl) (D : St), evDrawT P H C ops fz mu (.two i A j B) D = bothO ((stepT P H C ops fz mu i D).bind (fun D1 => evDrawT P H C ops fz mu A D1)) ((stepT P H C ops fz mu j D).bind (fun D1 => evDrawT P H C ops fz mu B D1)) := fun i j A B D => rfl
  rw [evDraw_step] at h1 h2
  rw [two]
  have e3 : ((stepT P H C ops fz mu k D).bind (fun D1 => evDrawT P H C ops fz mu (.one i (.one j (onesT l .fin))) D1)) = evDraw P H C ops fz mu (k :: i :: j :: l) D := by
    rw [evDraw_step]; congr 1; funext D1
    rw [one, evDraw_step]; congr 1; funext D2
    rw [one, evDraw_step]; congr 1; funext D3
    exact fin l D3
  rw [e3]
  obtain ⟨S3, h3e, f3⟩ := optE_elim h3
  rw [h3e]
  cases hs : stepT P H C ops fz mu i D with
  | none => rw [hs] at h1; exact h1.elim
  | some D1 =>
    rw [hs] at h1 h2
    simp only [Option.bind_some] at h1 h2 ⊢
    rw [two]
    have e1 : ((stepT P H C ops fz mu j D1).bind (fun D1 => evDrawT P H C ops fz mu (.one k (onesT l .fin)) D1)) = evDraw P H C ops fz mu (j :: k :: l) D1 := by
      rw [evDraw_step]; congr 1; funext D2
      rw [one, evDraw_step]; congr 1; funext D3
      exact fin l D3
    have e2 : ((stepT P H C ops fz mu k D1).bind (fun D1 => evDrawT P H C ops fz mu (.one j (onesT l .fin)) D1)) = evDraw P H C ops fz mu (k :: j :: l) D1 := by
      rw [evDraw_step]; congr 1; funext D2
      rw [one, evDraw_step]; congr 1; funext D3
      exact fin l D3
    rw [e1, e2]
    obtain ⟨S1, h1e, f1⟩ := optE_elim h1
    obtain ⟨S2, h2e, f2⟩ := optE_elim h2
    rw [h1e, h2e, both_eq (hF _ _ f1 f2), both_eq (hF _ _ f1 f3)]
    exact f1
end
theorem optE_both {D1 D2 : St} {Q : St → Prop} (h : SmS D1 D2) (hq : Q D1) : optE (bothO (some D1) (some D2)) Q := by
  have : bothO (some D1) (some D2) = some D1 := by
    unfold bothO
    simp only [if_pos h]
  rw [this]; exact hq
/-- What the deviations x, y do together: nothing. -/
theorem broad_back {p : Nat} (hp : 0 < p) {c : List Int} {rd : Int} {out : List (List Nat)} {devs : List Dev} {x y : Dev} (hx : x.kind = 2) (hy : y.kind = 2) (hr : y.round = x.round) (hf : y.from_ = x.from_) (hat : y.at_ = x.at_) (h0 : 0 ≤ x.at_) (hk : (x.k % p + y.k % p) % p = 0) (ho : LsOk p out) :
    broadS p c rd out (devs ++ [x, y]) = broadS p c rd out devs := by
  have hok := (fold_ok (c := c) (rd := rd) (out := out) (devs := devs) hp ho).1
  have hok : LsOk p (broadS p c rd out devs) := hok
  refine List.ext_getElem? fun i => ?_
  have e : broadS p c rd out (devs ++ [x, y]) = [x, y].foldl (stepB p c rd out) (broadS p c rd out devs) := by unfold broadS; rw [List.foldl_append]
  rw [e, foldB_get]
  generalize broadS p c rd out devs = B at hok ⊢
  cases hB : B[i]? with
  | none => rfl
  | some w =>
    have hw := (hok w (List.mem_of_getElem? hB)).2
    simp only [Option.map_some, List.foldl_cons, List.foldl_nil]
    congr 1
    unfold cellB
    rw [hr, hf]
    by_cases h : x.round = rd ∧ x.from_ ∈ c ∧ (x.from_ - 1).toNat = i
    · rw [if_pos h, if_pos h]; exact upon_back hp hx hy hat h0 hk hw
    · rw [if_neg h, if_neg h]
theorem msg_back {p n : Nat} (hp : 0 < p) {c : List Int} {rd : Int} {out : List (List (List Nat))} {devs : List Dev} {x y : Dev} (hx : x.kind = 2) (hy : y.kind = 2) (hr : y.round = x.round) (hf : y.from_ = x.from_) (ht : y.to = x.to) (hat : y.at_ = x.at_) (h0 : 0 ≤ x.at_) (hk : (x.k % p + y.k % p) % p = 0) (ho : MsOk p n out) :
    msgS p c rd n out (devs ++ [x, y]) = msgS p c rd n out devs := by
  have hok : MsOk p n (msgS p c rd n out devs) := msg_ok hp ho
  refine ms_ext (msg_ok hp ho) hok fun i j hi hj => ?_
  have e : msgS p c rd n out (devs ++ [x, y]) = [x, y].foldl (stepM p c rd n out) (msgS p c rd n out devs) := by unfold msgS; rw [List.foldl_append]
  rw [e, foldM_get hj]
  generalize msgS p c rd n out devs = B at hok ⊢
  cases hB : at2 B i j with
  | none => rfl
  | some w =>
    have hiB : i < B.length := by rw [hok.1]; exact hi
    have hw : ∀ v ∈ w, v < p := by
      unfold at2 at hB
      rw [List.getElem?_eq_getElem hiB, Option.getD_some] at hB
      exact ((hok.2 _ (List.getElem_mem hiB)).2 w (List.mem_of_getElem? hB)).2
    simp only [Option.map_some, List.foldl_cons, List.foldl_nil]
    congr 1
    unfold cellM
    have hiff : (y.round = rd ∧ y.from_ ∈ c ∧ (y.from_ - 1).toNat = i ∧ onJ y j) ↔ (x.round = rd ∧ x.from_ ∈ c ∧ (x.from_ - 1).toNat = i ∧ onJ x j) := by unfold onJ; rw [hr, hf, ht]
    by_cases h : x.round = rd ∧ x.from_ ∈ c ∧ (x.from_ - 1).toNat = i ∧ onJ x j
    · rw [if_pos (hiff.2 h), if_pos h]; exact upon_back hp hx hy hat h0 hk hw
    · rw [if_neg (fun q => h (hiff.1 q)), if_neg h]
/-- A final drop. -/
theorem broad_drop {p : Nat} {c : List Int} {rd : Int} {out : List (List Nat)} {devs : List Dev} {x : Dev} (hx : x.kind = 4) (hr : x.round = rd) (hf : x.from_ ∈ c) {i : Nat} (hi : i = (x.from_ - 1).toNat) (hl : i < out.length) : (broadS p c rd out (devs ++ [x]))[i]? = some [] := by
  have e : broadS p c rd out (devs ++ [x]) = stepB p c rd out (broadS p c rd out devs) x := by unfold broadS; rw [List.foldl_append]; rfl
  rw [e, stepB_get]
  have : (broadS p c rd out devs)[i]? = out[i]?.map (fun w => devs.foldl (cellB p c rd out i) w) := foldB_get
  rw [this, List.getElem?_eq_getElem hl]
  simp only [Option.map_some]
  unfold cellB
  rw [if_pos ⟨hr, hf, hi.symm⟩]
  unfold uponS
  rw [if_pos hx]
theorem msg_drop {p n : Nat} {c : List Int} {rd : Int} {out : List (List (List Nat))} {devs : List Dev} {x : Dev} (ho : MsOk p n out) (hx : x.kind = 4) (hr : x.round = rd) (hf : x.from_ ∈ c) (ht : x.to = 0) {i j : Nat} (hi : i = (x.from_ - 1).toNat) (hin : i < n) (hj : j < n) (hne : (j : Int) + 1 ≠ x.from_) : at2 (msgS p c rd n out (devs ++ [x])) i j = some [] := by
  have e : msgS p c rd n out (devs ++ [x]) = stepM p c rd n out (msgS p c rd n out devs) x := by unfold msgS; rw [List.foldl_append]; rfl
  rw [e, stepM_get hj, msg_cell hj]
  have hio : i < out.length := by rw [ho.1]; exact hin
  have hjo : j < out[i].length := by rw [(ho.2 _ (List.getElem_mem hio)).1]; exact hj
  have : at2 out i j = some out[i][j] := by unfold at2; simp [hio, hjo]
  rw [this]
  simp only [Option.map_some]
  unfold cellM
  rw [if_pos ⟨hr, hf, hi.symm, hne, .inl ht⟩]
  unfold uponS
  rw [if_pos hx]
@[simp] theorem cellIn_devsV (l : List Dev) : (devsV l).all cellIn = true := by
  unfold devsV; induction l with
  | nil => rfl
  | cons x l ih => rw [List.flatMap_cons, List.all_append, ih]; rfl
theorem devsV_two (l : List Dev) (x y : Dev) : devsV l ++ [V.int IntKind.i64 x.round, V.int IntKind.i64 x.from_, V.int IntKind.i64 x.to, V.int IntKind.i64 x.at_, V.int IntKind.i64 x.kind, V.int IntKind.u64 (x.k : Int), V.int IntKind.i64 x.of_, V.int IntKind.i64 x.src, V.int IntKind.i64 y.round, V.int IntKind.i64 y.from_, V.int IntKind.i64 y.to, V.int IntKind.i64 y.at_, V.int IntKind.i64 y.kind, V.int IntKind.u64 (y.k : Int), V.int IntKind.i64 y.of_, V.int IntKind.i64 y.src] = devsV (l ++ [x, y]) := by
  simp [devsV, devL]
set_option maxHeartbeats 2000000 in
set_option maxRecDepth 100000 in
theorem r8_8 (z : Ask) (nx k : Nat) (x y : Dev) (hd30 : z.w.devs.length ≤ 30) (D : St) (d3 : D.s 3 = .bptr nx 0) (d8 : D.s 8 = .bptr (nx + 1) 0) (d9 : D.s 9 = .bptr (nx + 1 + 1) 0) (d10 : D.s 10 = .bptr (nx + 1 + 1 + 1) 0)
    (dm : D.m = [(nx, ⟨0, askL z⟩), (nx + 1, ⟨0, devL x⟩), (nx + 1 + 1, ⟨0, devL y⟩), (nx + 1 + 1 + 1, ⟨0, scL z.w⟩)]) (dx : D.nx = nx + 1 + 1 + 1 + 1) :
    EvP Try.prog H13 (evCall Try.prog H13 k) 8 k (.region 8 (opsOf Try.f8 8) true) D (fun e D1 => e = .norm ∧ D1.s 3 = .bptr nx 0 ∧ D1.s 10 = .bptr (nx + 1 + 1 + 1) 0 ∧ D1.s 7 = kill (.box (nx + 1 + 1 + 1)) [4] (kill (.slot 60) [] (kill (.slot 64) [] (kill (.slot 67) [] (kill (.slot 68) [] (D.s 7))))) ∧ D1.m = [(nx, ⟨0, askL z⟩), (nx + 1, ⟨0, devL x⟩), (nx + 1 + 1, ⟨0, devL y⟩), (nx + 1 + 1 + 1, ⟨0, wL z.w (z.w.devs ++ [x, y])⟩)] ∧ D1.nx = nx + 1 + 1 + 1 + 1) := by
  have n1 : ¬ nx = nx + 1 := by omega
  have n2 : ¬ nx = nx + 1 + 1 := by omega
  have n3 : ¬ nx = nx + 1 + 1 + 1 := by omega
  have n4 : ¬ nx + 1 = nx + 1 + 1 := by omega
  have n5 : ¬ nx + 1 = nx + 1 + 1 + 1 := by omega
  have n6 : ¬ nx + 1 + 1 = nx + 1 + 1 + 1 := by omega
  have m1 : ¬ nx + 1 = nx := by omega
  have m2 : ¬ nx + 1 + 1 = nx := by omega
  have m3 : ¬ nx + 1 + 1 + 1 = nx := by omega
  have m4 : ¬ nx + 1 + 1 = nx + 1 := by omega
  have m5 : ¬ nx + 1 + 1 + 1 = nx + 1 := by omega
  have m6 : ¬ nx + 1 + 1 + 1 = nx + 1 + 1 := by omega
  unfold askL scL at dm
  simp only [opsOf, Try.f8, regOf, Nat.reduceBEq, cond_true, cond_false, Option.getD_some]
  let F : St → Prop := fun S => (∀ i, S.s i = if i = 60 then .dead else if i = 64 then .dead else if i = 68 then .dead else if i = 67 then .own .nil 0 2 (devL x ++ devL y) else if i = 69 then .bptr (nx + 1 + 1 + 1) 4 else
    if i = 61 then .bptr nx 0 else if i = 62 then .bptr nx 4 else if i = 63 then .im z.w.dpm z.w.dA z.w.dcap z.w.devs.length (devsV z.w.devs) else if i = 65 then .agg (devL x) else if i = 66 then .agg (devL y) else
    kill (.box (nx + 1 + 1 + 1)) [4] (kill (.slot 60) [] (kill (.slot 64) [] (kill (.slot 67) [] (kill (.slot 68) [] (D.s i))))))
    ∧ S.m = [(nx, ⟨0, askL z⟩), (nx + 1, ⟨0, devL x⟩), (nx + 1 + 1, ⟨0, devL y⟩), (nx + 1 + 1 + 1, ⟨0, wL z.w (z.w.devs ++ [x, y])⟩)] ∧ S.nx = nx + 1 + 1 + 1 + 1
  have hF : ∀ D1 D2, F D1 → F D2 → SmS D1 D2 := fun D1 D2 h1 h2 => ⟨fun i => by rw [h1.1 i, h2.1 i]; exact Sm.refl _, by rw [h1.2.1, h2.2.1]; exact SmM.refl _, by rw [h1.2.2, h2.2.2]⟩
  have hlen : (z.w.devs.length + 2) * 64 ≤ 140737488355328 := by omega
  have hlen2 : z.w.devs.length + 2 ≤ 140737488355328 := by omega
  have hlen3 : z.w.devs.length * 64 ≤ 140737488355328 := by omega
  have hlen4 : z.w.devs.length ≤ 140737488355328 := by omega
  refine EvP.drawT (T := onesT [1, 2, 3, 5, 6] (.two 0 (.two 4 (.one 7 (onesT [8, 9, 10] .fin)) 7 (.one 4 (onesT [8, 9, 10] .fin))) 7 (.one 0 (.one 4 (onesT [8, 9, 10] .fin))))) rfl ?_
  refine tree_ones (fun S => (∀ i, S.s i = if i = 61 then .bptr nx 0 else if i = 62 then .bptr nx 4 else if i = 63 then .im z.w.dpm z.w.dA z.w.dcap z.w.devs.length (devsV z.w.devs) else if i = 65 then .agg (devL x) else if i = 66 then .agg (devL y) else D.s i) ∧ S.m = D.m ∧ S.nx = D.nx) ?_ ?_
  · simp [d3, d8, d9, d10, dm, dx, n1, n2, n3, n4, n5, n6, m1, m2, m3, m4, m5, m6, devL]
    intro i
    by_cases e1 : i = 61
    · subst e1; simp
    by_cases e2 : i = 62
    · subst e2; simp
    by_cases e3 : i = 63
    · subst e3; simp
    by_cases e4 : i = 65
    · subst e4; simp
    by_cases e5 : i = 66
    · subst e5; simp
    simp [e1, e2, e3, e4, e5]
  rintro D1 ⟨hs, hm, hx⟩
  rw [dm] at hm
  rw [dx] at hx
  refine optE_mono F (tree_three F hF ?_ ?_ ?_) ?_
  · simp [hs, hm, hx, d10, n1, n2, n3, n4, n5, n6, m1, m2, m3, m4, m5, m6, devL, hlen, hlen2, hlen3, hlen4, F, devsV_two]
    refine ⟨fun i => ?_, by simp [askL, wL]⟩
    by_cases e1 : i = 60
    · subst e1; simp
    by_cases e2 : i = 64
    · subst e2; simp
    by_cases e3 : i = 68
    · subst e3; simp
    by_cases e4 : i = 67
    · subst e4; simp
    by_cases e5 : i = 69
    · subst e5; simp
    by_cases e6 : i = 61
    · subst e6; simp
    by_cases e7 : i = 62
    · subst e7; simp
    by_cases e8 : i = 63
    · subst e8; simp
    by_cases e9 : i = 65
    · subst e9; simp
    by_cases e10 : i = 66
    · subst e10; simp
    simp only [e1, e2, e3, e4, e5, e6, e7, e8, e9, e10, if_false]
    simp only [kill_comm]
  · simp [hs, hm, hx, d10, n1, n2, n3, n4, n5, n6, m1, m2, m3, m4, m5, m6, devL, hlen, hlen2, hlen3, hlen4, F, devsV_two]
    refine ⟨fun i => ?_, by simp [askL, wL]⟩
    by_cases e1 : i = 60
    · subst e1; simp
    by_cases e2 : i = 64
    · subst e2; simp
    by_cases e3 : i = 68
    · subst e3; simp
    by_cases e4 : i = 67
    · subst e4; simp
    by_cases e5 : i = 69
    · subst e5; simp
    by_cases e6 : i = 61
    · subst e6; simp
    by_cases e7 : i = 62
    · subst e7; simp
    by_cases e8 : i = 63
    · subst e8; simp
    by_cases e9 : i = 65
    · subst e9; simp
    by_cases e10 : i = 66
    · subst e10; simp
    simp only [e1, e2, e3, e4, e5, e6, e7, e8, e9, e10, if_false]
    simp only [kill_comm]
  · simp [hs, hm, hx, d10, n1, n2, n3, n4, n5, n6, m1, m2, m3, m4, m5, m6, devL, hlen, hlen2, hlen3, hlen4, F, devsV_two]
    refine ⟨fun i => ?_, by simp [askL, wL]⟩
    by_cases e1 : i = 60
    · subst e1; simp
    by_cases e2 : i = 64
    · subst e2; simp
    by_cases e3 : i = 68
    · subst e3; simp
    by_cases e4 : i = 67
    · subst e4; simp
    by_cases e5 : i = 69
    · subst e5; simp
    by_cases e6 : i = 61
    · subst e6; simp
    by_cases e7 : i = 62
    · subst e7; simp
    by_cases e8 : i = 63
    · subst e8; simp
    by_cases e9 : i = 65
    · subst e9; simp
    by_cases e10 : i = 66
    · subst e10; simp
    simp only [e1, e2, e3, e4, e5, e6, e7, e8, e9, e10, if_false]
    simp only [kill_comm]
  · rintro S ⟨f1, f2, f3⟩
    refine ⟨rfl, by rw [f1]; simp [d3], by rw [f1]; simp [d10], by rw [f1]; simp, f2, f3⟩
end Go.Abs
end
/- The seat of privitylaw13: AdversaryInverse, the second region with two makers. -/
set_option linter.unusedVariables false
noncomputable section
namespace Go.Abs
open Go Go.Proofs

set_option maxHeartbeats 2000000 in
set_option maxRecDepth 100000 in
theorem r8_10 (z : Ask) (nx k : Nat) (x y dr : Dev) (hc : 0 < z.w.corrupt.length) (hdr : dr = ⟨z.rd, z.w.corrupt[0], 0, 0, 4, 0, 1, 0⟩) (hd30 : z.w.devs.length ≤ 30) (D : St) (B3 : List V) (d3 : D.s 3 = .bptr nx 0) (d10 : D.s 10 = .bptr (nx + 1 + 1 + 1) 0) (d11 : D.s 11 = .bptr (nx + 1 + 1 + 1 + 1) 0)
    (dm : D.m = [(nx, ⟨0, askL z⟩), (nx + 1, ⟨0, devL x⟩), (nx + 1 + 1, ⟨0, devL y⟩), (nx + 1 + 1 + 1, ⟨0, B3⟩), (nx + 1 + 1 + 1 + 1, ⟨0, scL z.w⟩)]) (dx : D.nx = nx + 1 + 1 + 1 + 1 + 1) :
    EvP Try.prog H13 (evCall Try.prog H13 k) 8 k (.region 10 (opsOf Try.f8 10) true) D (fun e D1 => e = .norm ∧ D1.s 3 = .bptr nx 0 ∧ D1.s 10 = .bptr (nx + 1 + 1 + 1) 0 ∧ D1.s 11 = .bptr (nx + 1 + 1 + 1 + 1) 0 ∧ D1.m = [(nx, ⟨0, askL z⟩), (nx + 1, ⟨0, devL x⟩), (nx + 1 + 1, ⟨0, devL y⟩), (nx + 1 + 1 + 1, ⟨0, B3⟩), (nx + 1 + 1 + 1 + 1, ⟨0, wL z.w (z.w.devs ++ [dr])⟩)] ∧ D1.nx = nx + 1 + 1 + 1 + 1 + 1) := by
  have n1 : ¬ nx = nx + 1 := by omega
  have n2 : ¬ nx = nx + 1 + 1 := by omega
  have n3 : ¬ nx = nx + 1 + 1 + 1 := by omega
  have n4 : ¬ nx + 1 = nx + 1 + 1 := by omega
  have n5 : ¬ nx + 1 = nx + 1 + 1 + 1 := by omega
  have n6 : ¬ nx + 1 + 1 = nx + 1 + 1 + 1 := by omega
  have n7 : ¬ nx = nx + 1 + 1 + 1 + 1 := by omega
  have n8 : ¬ nx + 1 = nx + 1 + 1 + 1 + 1 := by omega
  have n9 : ¬ nx + 1 + 1 = nx + 1 + 1 + 1 + 1 := by omega
  have n10 : ¬ nx + 1 + 1 + 1 = nx + 1 + 1 + 1 + 1 := by omega
  have m1 : ¬ nx + 1 = nx := by omega
  have m2 : ¬ nx + 1 + 1 = nx := by omega
  have m3 : ¬ nx + 1 + 1 + 1 = nx := by omega
  have m4 : ¬ nx + 1 + 1 = nx + 1 := by omega
  have m5 : ¬ nx + 1 + 1 + 1 = nx + 1 := by omega
  have m6 : ¬ nx + 1 + 1 + 1 = nx + 1 + 1 := by omega
  have m7 : ¬ nx + 1 + 1 + 1 + 1 = nx := by omega
  have hc0 : 0 < (z.w.corrupt.length : Int) := by omega
  have hgc : (iL z.w.corrupt)[0]? = some (.int .i64 z.w.corrupt[0]) := by simp [iL, hc]
  have hgc2 : ∀ h, (iL z.w.corrupt)[0]'h = .int .i64 z.w.corrupt[0] := fun h => Option.some.inj (by rw [← List.getElem?_eq_getElem h]; exact hgc)
  unfold askL scL at dm
  simp only [opsOf, Try.f8, regOf, Nat.reduceBEq, cond_true, cond_false, Option.getD_some]
  refine EvP.drawT (T := onesT [1, 2, 3, 5, 6, 7, 8, 9, 10, 11, 12] (.two 0 (.two 4 (.one 13 (onesT [14, 15, 16] .fin)) 13 (.one 4 (onesT [14, 15, 16] .fin))) 13 (.one 0 (.one 4 (onesT [14, 15, 16] .fin))))) rfl ?_
  refine tree_ones (fun S => S.s 3 = .bptr nx 0 ∧ S.s 10 = .bptr (nx + 1 + 1 + 1) 0 ∧ S.s 11 = .bptr (nx + 1 + 1 + 1 + 1) 0 ∧ S.s 75 = .im z.w.dpm z.w.dA z.w.dcap z.w.devs.length (devsV z.w.devs) ∧ S.s 84 = .agg (devL dr) ∧ S.m = D.m ∧ S.nx = D.nx) ?_ ?_
  · simp [d3, d10, d11, dm, dx, n1, n2, n3, n4, n5, n6, n7, n8, n9, n10, m1, m2, m3, m4, m5, m6, m7, hc, hc0, hgc, hgc2, hdr, devL]
    done
  rintro D1 ⟨d3, d10, d11, d75, d84, hm, hx⟩
  rw [dm] at hm
  rw [dx] at hx
  let F : St → Prop := fun S => (∀ i, S.s i = if i = 72 then .dead else if i = 76 then .dead else if i = 86 then .dead else if i = 85 then .own .nil 0 1 (devL dr) else if i = 87 then .bptr (nx + 1 + 1 + 1 + 1) 4 else
    kill (.box (nx + 1 + 1 + 1 + 1)) [4] (kill (.slot 72) [] (kill (.slot 76) [] (kill (.slot 85) [] (kill (.slot 86) [] (D1.s i))))))
    ∧ S.m = [(nx, ⟨0, askL z⟩), (nx + 1, ⟨0, devL x⟩), (nx + 1 + 1, ⟨0, devL y⟩), (nx + 1 + 1 + 1, ⟨0, B3⟩), (nx + 1 + 1 + 1 + 1, ⟨0, wL z.w (z.w.devs ++ [dr])⟩)] ∧ S.nx = nx + 1 + 1 + 1 + 1 + 1
  have hF : ∀ D1 D2, F D1 → F D2 → SmS D1 D2 := fun D1 D2 h1 h2 => ⟨fun i => by rw [h1.1 i, h2.1 i]; exact Sm.refl _, by rw [h1.2.1, h2.2.1]; exact SmM.refl _, by rw [h1.2.2, h2.2.2]⟩
  have hlen : (z.w.devs.length + 1) * 64 ≤ 140737488355328 := by omega
  have hlen2 : z.w.devs.length + 1 ≤ 140737488355328 := by omega
  have hlen3 : z.w.devs.length * 64 ≤ 140737488355328 := by omega
  have hlen4 : z.w.devs.length ≤ 140737488355328 := by omega
  have hsn : devsV z.w.devs ++ [V.int IntKind.i64 dr.round, V.int IntKind.i64 dr.from_, V.int IntKind.i64 dr.to, V.int IntKind.i64 dr.at_, V.int IntKind.i64 dr.kind, V.int IntKind.u64 (dr.k : Int), V.int IntKind.i64 dr.of_, V.int IntKind.i64 dr.src] = devsV (z.w.devs ++ [dr]) := devsV_snoc _ _
  refine optE_mono F (tree_three F hF ?_ ?_ ?_) ?_
  · simp [d75, d84, d11, hm, hx, n1, n2, n3, n4, n5, n6, n7, n8, n9, n10, m1, m2, m3, m4, m5, m6, m7, devL, hlen, hlen2, hlen3, hlen4, F, hsn]
    refine ⟨fun i => ?_, by simp [askL, wL]⟩
    by_cases e1 : i = 72
    · subst e1; simp
    by_cases e2 : i = 76
    · subst e2; simp
    by_cases e3 : i = 86
    · subst e3; simp
    by_cases e4 : i = 85
    · subst e4; simp
    by_cases e5 : i = 87
    · subst e5; simp
    simp only [e1, e2, e3, e4, e5, if_false]
    simp only [kill_comm]
  · simp [d75, d84, d11, hm, hx, n1, n2, n3, n4, n5, n6, n7, n8, n9, n10, m1, m2, m3, m4, m5, m6, m7, devL, hlen, hlen2, hlen3, hlen4, F, hsn]
    refine ⟨fun i => ?_, by simp [askL, wL]⟩
    by_cases e1 : i = 72
    · subst e1; simp
    by_cases e2 : i = 76
    · subst e2; simp
    by_cases e3 : i = 86
    · subst e3; simp
    by_cases e4 : i = 85
    · subst e4; simp
    by_cases e5 : i = 87
    · subst e5; simp
    simp only [e1, e2, e3, e4, e5, if_false]
    simp only [kill_comm]
  · simp [d75, d84, d11, hm, hx, n1, n2, n3, n4, n5, n6, n7, n8, n9, n10, m1, m2, m3, m4, m5, m6, m7, devL, hlen, hlen2, hlen3, hlen4, F, hsn]
    refine ⟨fun i => ?_, by simp [askL, wL]⟩
    by_cases e1 : i = 72
    · subst e1; simp
    by_cases e2 : i = 76
    · subst e2; simp
    by_cases e3 : i = 86
    · subst e3; simp
    by_cases e4 : i = 85
    · subst e4; simp
    by_cases e5 : i = 87
    · subst e5; simp
    simp only [e1, e2, e3, e4, e5, if_false]
    simp only [kill_comm]
  · rintro S ⟨f1, f2, f3⟩
    refine ⟨rfl, by rw [f1]; simp [d3], by rw [f1]; simp [d10], by rw [f1]; simp [d11], f2, f3⟩
end Go.Abs
end
/- The seat of privitylaw13: AdversaryInverse. -/
set_option linter.unusedVariables false
noncomputable section
namespace Go.Abs
open Go Go.Proofs

set_option maxHeartbeats 4000000 in
set_option maxRecDepth 100000 in
theorem law8 (z : Ask) (hz : AskOk z) (hk64 : ∀ x ∈ z.w.devs, x.k < 18446744073709551616) (at8 k8 : Nat) (hat : at8 < 256) (hk8 : k8 < 256) : Ans Try.prog H13 8 [askV z, .int .u8 (at8 : Int), .int .u8 (k8 : Int)] (.bool true) := by
  have hml : maxLen = 9223372036854775807 := rfl
  obtain ⟨b, ⟨N0, h0⟩, hb⟩ := may10 (lentA z) (lentA_ok hz)
  obtain ⟨N1, h1⟩ := awake11
  simp only [askV, askL, lentA, lentS, List.length_map] at h0
  by_cases hgo : b = true ∧ z.w.corrupt.length ≠ 0 ∧ ¬ z.rd < 0
  case neg =>
    refine Ans.of (fn := Try.f8) (t := 6) (by rfl) Try.func8 rfl rfl (by rfl) (by rfl) ⟨N0 + N1, fun k hk nx => ?_⟩
    have c0 := h0 k (by omega)
    have c1 := h1 k (by omega)
    refine EvP.seq (EvP.region ?_)
    simp [entryS, askV, askL]
    refine EvP.seq (EvP.seq (EvP.region ?_))
    cases b with
    | false =>
      simp [c0]
      refine EvP.cond (t := true) (by simp) (fun _ => ?_) (fun h => by cases h)
      refine EvP.seq (EvP.region ?_)
      simp [c1]
      refine EvP.ret ?_
      simp
    | true =>
      by_cases hc0 : z.w.corrupt.length = 0
      · simp only [hc0] at c0 ⊢
        simp [c0]
        refine EvP.cond (t := true) (by simp) (fun _ => ?_) (fun h => by cases h)
        refine EvP.seq (EvP.region ?_)
        simp [c1]
        refine EvP.ret ?_
        simp
      · have hrd : z.rd < 0 := by
          by_cases h : z.rd < 0
          · exact h
          · exact absurd ⟨rfl, hc0, h⟩ hgo
        have hc0i : (((z.w.corrupt.length : Nat) : Int) == 0) = false := by simpa using hc0
        simp [c0, hc0i, hrd]
        refine EvP.cond (t := true) (by simp) (fun _ => ?_) (fun h => by cases h)
        refine EvP.seq (EvP.region ?_)
        simp [c1]
        refine EvP.ret ?_
        simp
  case pos =>
    obtain ⟨rfl, hc0, hrd⟩ := hgo
    have hc0i : (((z.w.corrupt.length : Nat) : Int) == 0) = false := by simpa using hc0
    have hcl : 0 < z.w.corrupt.length := by omega
    have hA := hb rfl
    have hd30 : z.w.devs.length ≤ 30 := hA.few
    obtain ⟨q, hq⟩ := prime_pq hA.w.par.1
    obtain ⟨hq0, hq1', hq2'⟩ := pq_facts hq
    have hp00 : 0 < z.w.p := by
      have : 2 ^ 5 ≤ 2 ^ q := Nat.pow_le_pow_right (by omega) hq1'
      have hp1 : z.w.p + 1 = 2 ^ q := hq0
      omega
    have hp64 : z.w.p < 18446744073709551616 := by
      have : 2 ^ q ≤ 2 ^ 63 := Nat.pow_le_pow_right (by omega) (by omega)
      have hp1 : z.w.p + 1 = 2 ^ q := hq0
      omega
    have hcg := hA.w.coal.2 0 hcl z.w.corrupt[0] (List.getElem?_eq_getElem hcl)
    have hc1 : 1 ≤ z.w.corrupt[0] := hcg.1
    have hc2 : z.w.corrupt[0] ≤ z.w.n := hcg.2.1
    obtain ⟨i0, hi0⟩ : ∃ i0, i0 = (z.w.corrupt[0] - 1).toNat := ⟨_, rfl⟩
    have hKp : k8 % z.w.p < z.w.p := Nat.mod_lt _ hp00
    have hYp : (z.w.p - k8 % z.w.p) % z.w.p < z.w.p := Nat.mod_lt _ hp00
    obtain ⟨x, hx⟩ : ∃ x : Dev, x = ⟨z.rd, z.w.corrupt[0], 0, ((at8 % 20 : Nat) : Int), 2, k8 % z.w.p, 1, 0⟩ := ⟨_, rfl⟩
    obtain ⟨y, hy⟩ : ∃ y : Dev, y = ⟨z.rd, z.w.corrupt[0], 0, ((at8 % 20 : Nat) : Int), 2, (z.w.p - k8 % z.w.p) % z.w.p, 1, 0⟩ := ⟨_, rfl⟩
    obtain ⟨dr, hdr⟩ : ∃ dr : Dev, dr = ⟨z.rd, z.w.corrupt[0], 0, 0, 4, 0, 1, 0⟩ := ⟨_, rfl⟩
    have hn4 : (4 : Int) ≤ z.w.n := hA.w.par.2.1
    have hxP : DevP z.w.n x := by rw [hx]; exact ⟨by simp; omega, by simp; omega, by simp, hc1, hc2, by simp, by simp; omega, by simp, by simp, by simp, by simp; omega, by simp⟩
    have hyP : DevP z.w.n y := by rw [hy]; exact ⟨by simp; omega, by simp; omega, by simp, hc1, hc2, by simp, by simp; omega, by simp, by simp, by simp, by simp; omega, by simp⟩
    have hdP : DevP z.w.n dr := by rw [hdr]; exact ⟨by simp; omega, by simp, by simp, hc1, hc2, by simp, by simp; omega, by simp, by simp, by simp, by simp; omega, by simp⟩
    have hxk : x.k < 18446744073709551616 := by rw [hx]; simp only; omega
    have hyk : y.k < 18446744073709551616 := by rw [hy]; simp only; omega
    have hx2 : x.kind = 2 := by rw [hx]
    have hy2 : y.kind = 2 := by rw [hy]
    have hyr : y.round = x.round := by rw [hx, hy]
    have hyf : y.from_ = x.from_ := by rw [hx, hy]
    have hyt : y.to = x.to := by rw [hx, hy]
    have hya : y.at_ = x.at_ := by rw [hx, hy]
    have hx0 : 0 ≤ x.at_ := by rw [hx]; simp only; omega
    have hxy : (x.k % z.w.p + y.k % z.w.p) % z.w.p = 0 := by
      rw [hx, hy]
      simp only [Nat.mod_mod]
      have e : (k8 % z.w.p + (z.w.p - k8 % z.w.p) % z.w.p) % z.w.p = (k8 % z.w.p + (z.w.p - k8 % z.w.p)) % z.w.p := by
        rw [Nat.add_mod_mod]
      rw [e, show k8 % z.w.p + (z.w.p - k8 % z.w.p) = z.w.p by omega, Nat.mod_self]
    have memW : ∀ u ∈ z.w.devs ++ [x, y], u ∈ z.w.devs ∨ u = x ∨ u = y := fun u hu => by simpa using hu
    have memD : ∀ u ∈ z.w.devs ++ [dr], u ∈ z.w.devs ∨ u = dr := fun u hu => by simpa using hu
    have hdk : dr.k < 18446744073709551616 := by rw [hdr]; exact (by decide : (0 : Nat) < 18446744073709551616)
    have hn13 : (lentS z.w).n ≤ 13 := hA.w.par.2.2.1
    have hms : ((z.ms.map lentM).length : Int) = (lentS z.w).n := hA.n
    have hmok : MsOk (lentS z.w).p (z.ms.map lentM).length (mls (z.ms.map lentM)) := hA.msOk
    have hal : ((z.al.map lent).length : Int) = (lentS z.w).n := hA.al.1
    have hlok : LsOk (lentS z.w).p ((z.al.map lent).map (·.l)) := words_ok hA.al
    obtain ⟨hp1, hq1, hq2⟩ := pq_facts hq
    have hp0 : 0 < (lentS z.w).p := by
      have : 2 ^ 5 ≤ 2 ^ q := Nat.pow_le_pow_right (by omega) hq1
      have hp1 : (lentS z.w).p + 1 = 2 ^ q := hp1
      omega
    obtain ⟨sF, hsF⟩ : ∃ sF : Scn, sF = { lentS z.w with dpm := false, dA := none, dcap := 0, devs := (z.w.devs ++ [x, y]) } := ⟨_, rfl⟩
    have hsFok : ScnOk sF := by rw [hsF]; exact ⟨(lentS_ok hz.w).c, by show (z.w.devs ++ [x, y]).length ≤ maxLen; simp; omega, (lentS_ok hz.w).t, (lentS_ok hz.w).r⟩
    have hFd : ∀ x ∈ sF.devs, DevP sF.n x := by rw [hsF]; exact fun u hu => (memW u hu).elim (hA.w.devs u) fun h => h.elim (fun e => e ▸ hxP) fun e => e ▸ hyP
    have hFk : ∀ x ∈ sF.devs, x.k < 18446744073709551616 := by rw [hsF]; exact fun u hu => (memW u hu).elim (hk64 u) fun h => h.elim (fun e => e ▸ hxk) fun e => e ▸ hyk
    obtain ⟨N2, h2⟩ := msgs16 (lentS z.w) (lentS_ok hz.w) hq hA.w.devs hk64 z.rd
    obtain ⟨N3, h3⟩ := msgs16 sF hsFok (q := q) (by rw [hsF]; exact hq) hFd hFk z.rd
    obtain ⟨N4, h4⟩ := broad13 (lentS z.w) (lentS_ok hz.w) hq hA.w.devs hk64 z.rd
    obtain ⟨N5, h5⟩ := broad13 sF hsFok (q := q) (by rw [hsF]; exact hq) hFd hFk z.rd
    obtain ⟨sD, hsD⟩ : ∃ sD : Scn, sD = { lentS z.w with dpm := false, dA := none, dcap := 0, devs := z.w.devs ++ [dr] } := ⟨_, rfl⟩
    have hsDok : ScnOk sD := by rw [hsD]; exact ⟨(lentS_ok hz.w).c, by show (z.w.devs ++ [dr]).length ≤ maxLen; simp; omega, (lentS_ok hz.w).t, (lentS_ok hz.w).r⟩
    have hDd : ∀ x ∈ sD.devs, DevP sD.n x := by rw [hsD]; exact fun u hu => (memD u hu).elim (hA.w.devs u) fun e => e ▸ hdP
    have hDk : ∀ x ∈ sD.devs, x.k < 18446744073709551616 := by rw [hsD]; exact fun u hu => (memD u hu).elim (hk64 u) fun e => e ▸ hdk
    obtain ⟨N6, h6⟩ := msgs16 sD hsDok (q := q) (by rw [hsD]; exact hq) hDd hDk z.rd
    obtain ⟨N7, h7⟩ := broad13 sD hsDok (q := q) (by rw [hsD]; exact hq) hDd hDk z.rd
    subst hsF hsD
    have hM : msgS (lentS z.w).p (lentS z.w).corrupt z.rd (z.ms.map lentM).length (mls (z.ms.map lentM)) ((z.w.devs ++ [x, y])) = msgS (lentS z.w).p (lentS z.w).corrupt z.rd (z.ms.map lentM).length (mls (z.ms.map lentM)) z.w.devs := msg_back hp0 hx2 hy2 hyr hyf hyt hya hx0 hxy hmok
    have hB : broadS (lentS z.w).p (lentS z.w).corrupt z.rd ((z.al.map lent).map (·.l)) ((z.w.devs ++ [x, y])) = broadS (lentS z.w).p (lentS z.w).corrupt z.rd ((z.al.map lent).map (·.l)) z.w.devs := broad_back hp0 hx2 hy2 hyr hyf hya hx0 hxy hlok
    refine Ans.of (fn := Try.f8) (t := 6) (by rfl) Try.func8 rfl rfl (by rfl) (by rfl) ⟨N0 + N1 + N2 + N3 + N4 + N5 + N6 + N7 + 3004, fun k hk nx => ?_⟩
    have c0 := h0 k (by omega)
    have c1 := h1 k (by omega)
    obtain ⟨r2, c2, cs2, rfl, hR2⟩ := h2 false z.mA z.mcap (z.ms.map lentM) hms hn13 hmok k (by omega) (nx + 1 + 1 + 1 + 1 + 1)
    obtain ⟨r3, c3, cs3, rfl, hR3⟩ := h3 false z.mA z.mcap (z.ms.map lentM) hms hn13 hmok k (by omega) (nx + 1 + 1 + 1 + 1 + 1)
    obtain ⟨r4, c4, cs4, rfl, hR4⟩ := h4 false z.aA z.acap (z.al.map lent) hal hn13 hlok k (by omega) (nx + 1 + 1 + 1 + 1 + 1)
    obtain ⟨r5, c5, cs5, rfl, hR5⟩ := h5 false z.aA z.acap (z.al.map lent) hal hn13 hlok k (by omega) (nx + 1 + 1 + 1 + 1 + 1)
    obtain ⟨r6, c8, cs6, rfl, hR6⟩ := h6 false z.mA z.mcap (z.ms.map lentM) hms hn13 hmok k (by omega) (nx + 1 + 1 + 1 + 1 + 1)
    obtain ⟨r7, c9, cs7, rfl, hR7⟩ := h7 false z.aA z.acap (z.al.map lent) hal hn13 hlok k (by omega) (nx + 1 + 1 + 1 + 1 + 1)
    have hR6 : Rows2 cs6 (msgS (lentS z.w).p (lentS z.w).corrupt z.rd (z.ms.map lentM).length (mls (z.ms.map lentM)) (z.w.devs ++ [dr])) := hR6
    have hR7 : Rows cs7 (broadS (lentS z.w).p (lentS z.w).corrupt z.rd ((z.al.map lent).map (·.l)) (z.w.devs ++ [dr])) := hR7
    have hR2 : Rows2 cs2 (msgS (lentS z.w).p (lentS z.w).corrupt z.rd (z.ms.map lentM).length (mls (z.ms.map lentM)) z.w.devs) := hR2
    have hR4 : Rows cs4 (broadS (lentS z.w).p (lentS z.w).corrupt z.rd ((z.al.map lent).map (·.l)) z.w.devs) := hR4
    have hR3 : Rows2 cs3 (msgS (lentS z.w).p (lentS z.w).corrupt z.rd (z.ms.map lentM).length (mls (z.ms.map lentM)) z.w.devs) := hM ▸ hR3
    have hR5 : Rows cs5 (broadS (lentS z.w).p (lentS z.w).corrupt z.rd ((z.al.map lent).map (·.l)) z.w.devs) := hB ▸ hR5
    have hmf : MsOk (lentS z.w).p (z.ms.map lentM).length (msgS (lentS z.w).p (lentS z.w).corrupt z.rd (z.ms.map lentM).length (mls (z.ms.map lentM)) z.w.devs) := msg_ok hp0 hmok
    obtain ⟨hbf, hbl⟩ := fold_ok (c := (lentS z.w).corrupt) (rd := z.rd) (out := (z.al.map lent).map (·.l)) (devs := z.w.devs) hp0 hlok
    have hbf' : LsOk (lentS z.w).p (broadS (lentS z.w).p (lentS z.w).corrupt z.rd ((z.al.map lent).map (·.l)) z.w.devs) := hbf
    have hbl' : (broadS (lentS z.w).p (lentS z.w).corrupt z.rd ((z.al.map lent).map (·.l)) z.w.devs).length = z.al.length := by unfold broadS; rw [hbl]; simp
    obtain ⟨rs2, q2, l2⟩ := hR2.frz false
    obtain ⟨rs3, q3, l3⟩ := hR3.frz false
    obtain ⟨rs4, q4, l4⟩ := hR4.frz false
    obtain ⟨rs5, q5, l5⟩ := hR5.frz false
    obtain ⟨n2, b2⟩ := MsOk.rows hmf l2
    obtain ⟨n3', b3⟩ := MsOk.rows hmf l3
    rw [List.length_map] at n2 n3' b2 b3
    have hms2 : (z.ms.length : Int) = (lentS z.w).n := by simpa using hms
    have hal2 : (z.al.length : Int) = (lentS z.w).n := by simpa using hal
    have c6 := sameAll15N false false none none 0 0 rs3 rs2 (by omega) (fun m hm => ⟨by have := (b3 m hm).1; omega, (b3 m hm).2⟩) (fun m hm r hr => by have := (b2 m hm).2 r hr; omega) k (by omega)
    rw [l3, l2, n3', n2] at c6
    simp only [decide_true] at c6
    have n4' : rs4.length = z.al.length := by rw [← hbl', ← l4, List.length_map]
    have n5' : rs5.length = z.al.length := by rw [← hbl', ← l5, List.length_map]
    have c7 := same12N false false none none 0 0 rs5 rs4 (by omega) (LsOk.mem hbf' l5) (fun r hr => by have := LsOk.mem hbf' l4 r hr; omega) k (by omega)
    rw [l5, l4, n5', n4'] at c7
    simp only [decide_true] at c7
    simp only [scV, scL, lentS, List.length_map, List.length_append, List.length_cons, List.length_nil, Nat.zero_add, Nat.reduceAdd] at c2 c3 c4 c5 c8 c9
    -- what the drop has left
    have hln : (lentS z.w).n = z.w.n := rfl
    rw [hln] at hms2 hal2
    have hdl : (broadS (lentS z.w).p (lentS z.w).corrupt z.rd ((z.al.map lent).map (·.l)) (z.w.devs ++ [dr]))[i0]? = some [] := broad_drop (by rw [hdr]) (by rw [hdr]) (by rw [hdr]; exact List.getElem_mem _) (by rw [hdr]; exact hi0) (by simp; omega)
    have hml2 : ∀ j, j < z.ms.length → (j : Int) + 1 ≠ z.w.corrupt[0] → at2 (msgS (lentS z.w).p (lentS z.w).corrupt z.rd (z.ms.map lentM).length (mls (z.ms.map lentM)) (z.w.devs ++ [dr])) i0 j = some [] := fun j hj hne => msg_drop hmok (by rw [hdr]) (by rw [hdr]) (by rw [hdr]; exact List.getElem_mem _) (by rw [hdr]) (by rw [hdr]; exact hi0) (by simp; omega) (by simpa using hj) (by rw [hdr]; exact hne)
    have hMok6 : MsOk (lentS z.w).p (z.ms.map lentM).length (msgS (lentS z.w).p (lentS z.w).corrupt z.rd (z.ms.map lentM).length (mls (z.ms.map lentM)) (z.w.devs ++ [dr])) := msg_ok hp0 hmok
    have hBl7 : (broadS (lentS z.w).p (lentS z.w).corrupt z.rd ((z.al.map lent).map (·.l)) (z.w.devs ++ [dr])).length = z.al.length := by
      unfold broadS; rw [(fold_ok (c := (lentS z.w).corrupt) (rd := z.rd) (out := (z.al.map lent).map (·.l)) (devs := z.w.devs ++ [dr]) hp0 hlok).2]; simp
    generalize hBD : broadS (lentS z.w).p (lentS z.w).corrupt z.rd ((z.al.map lent).map (·.l)) (z.w.devs ++ [dr]) = BD at hdl hR7 hBl7
    generalize hMD : msgS (lentS z.w).p (lentS z.w).corrupt z.rd (z.ms.map lentM).length (mls (z.ms.map lentM)) (z.w.devs ++ [dr]) = MDr at hml2 hR6 hMok6
    clear h0 h1 h2 h3 h4 h5 h6 h7 hR2 hR3 hR4 hR5 hM hB hmf hbf hbl hbf' hbl' hFd hFk hsFok hDd hDk hsDok hBD hMD
    have n1 : ¬ nx = nx + 1 := by omega
    have n2 : ¬ nx = nx + 1 + 1 := by omega
    have n3 : ¬ nx = nx + 1 + 1 + 1 := by omega
    have n4 : ¬ nx + 1 = nx + 1 + 1 := by omega
    have n5 : ¬ nx + 1 = nx + 1 + 1 + 1 := by omega
    have n6 : ¬ nx + 1 + 1 = nx + 1 + 1 + 1 := by omega
    have n7 : ¬ nx = nx + 1 + 1 + 1 + 1 := by omega
    have n8 : ¬ nx + 1 = nx + 1 + 1 + 1 + 1 := by omega
    have n9 : ¬ nx + 1 + 1 = nx + 1 + 1 + 1 + 1 := by omega
    have n10 : ¬ nx + 1 + 1 + 1 = nx + 1 + 1 + 1 + 1 := by omega
    have m1 : ¬ nx + 1 = nx := by omega
    have m2 : ¬ nx + 1 + 1 = nx := by omega
    have m3 : ¬ nx + 1 + 1 + 1 = nx := by omega
    have m4 : ¬ nx + 1 + 1 = nx + 1 := by omega
    have m5 : ¬ nx + 1 + 1 + 1 = nx + 1 := by omega
    have m6 : ¬ nx + 1 + 1 + 1 = nx + 1 + 1 := by omega
    have hrdf : decide (z.rd < 0) = false := by simpa using hrd
    have hpz : ¬ z.w.p = 0 := by omega
    have w1 : ((at8 : Int)).tmod 20 = ((at8 % 20 : Nat) : Int) := tmod_nat at8 20
    have w2 : IntKind.i64.wrap ((at8 % 20 : Nat) : Int) = ((at8 % 20 : Nat) : Int) := wrap_nat (by omega) (by omega)
    have w3 : IntKind.u64.wrap (k8 : Int) = (k8 : Int) := wrapu (by omega) (by omega)
    have w4 : ((k8 : Int)).tmod (z.w.p : Int) = ((k8 % z.w.p : Nat) : Int) := tmod_nat k8 z.w.p
    have w5 : IntKind.u64.wrap ((z.w.p : Int) - ((k8 % z.w.p : Nat) : Int)) = ((z.w.p - k8 % z.w.p : Nat) : Int) := by rw [wrapu (by omega) (by omega)]; omega
    have w6 : (((z.w.p - k8 % z.w.p : Nat) : Int)).tmod (z.w.p : Int) = (((z.w.p - k8 % z.w.p) % z.w.p : Nat) : Int) := tmod_nat _ _
    have hgc : (iL z.w.corrupt)[0]? = some (.int .i64 z.w.corrupt[0]) := by simp [iL, hcl]
    have hgc2 : ∀ h, (iL z.w.corrupt)[0]'h = .int .i64 z.w.corrupt[0] := fun h => Option.some.inj (by rw [← List.getElem?_eq_getElem h]; exact hgc)
    have hcli : 0 < (z.w.corrupt.length : Int) := by omega
    obtain ⟨kd, hkd⟩ : ∃ kd, kd = k8 % z.w.p := ⟨_, rfl⟩
    obtain ⟨yd, hyd⟩ : ∃ yd, yd = (z.w.p - k8 % z.w.p) % z.w.p := ⟨_, rfl⟩
    obtain ⟨pd, hpd⟩ : ∃ pd, pd = z.w.p - k8 % z.w.p := ⟨_, rfl⟩
    obtain ⟨ad, had⟩ : ∃ ad, ad = at8 % 20 := ⟨_, rfl⟩
    rw [← hyd] at w6
    rw [← hpd] at w5 w6
    rw [← hkd] at w4 w5
    rw [← had] at w1 w2
    rw [← had, ← hkd] at hx
    rw [← had, ← hyd] at hy
    let KA : St → Prop := fun D => D.s 3 = .bptr nx 0 ∧ D.s 1 = .int .u8 (at8 : Int) ∧ D.s 2 = .int .u8 (k8 : Int) ∧ D.m = [(nx, ⟨0, askL z⟩)] ∧ D.nx = nx + 1
    refine EvP.seqG KA (EvP.region ?_) ?_
    · simp [entryS, askV, askL, KA]
    rintro D ⟨d3, d1, d2, dm, dx⟩
    unfold askL at dm
    refine EvP.seqG KA (EvP.seq (EvP.region ?_)) ?_
    · simp [d1, d2, d3, dm, dx, c0, hc0i, hrdf]
      refine EvP.cond (t := false) (by simp [hrdf]) (fun h => by cases h) (fun _ => EvP.skip ?_)
      simp [d1, d2, d3, dm, dx, askL, KA]
    rintro D ⟨d3, d1, d2, dm, dx⟩
    unfold askL at dm
    refine EvP.seqG (fun D => KA D ∧ D.s 7 = .int .u64 (z.w.p : Int)) (EvP.region ?_) ?_
    · simp [d1, d2, d3, dm, dx, askL, KA]
    rintro D ⟨⟨d3, d1, d2, dm, dx⟩, d7⟩
    unfold askL at dm
    refine EvP.seqG (fun D => D.s 3 = .bptr nx 0 ∧ D.s 7 = .int .u64 (z.w.p : Int) ∧ D.s 8 = .bptr (nx + 1) 0 ∧ D.m = [(nx, ⟨0, askL z⟩), (nx + 1, ⟨0, devL x⟩)] ∧ D.nx = nx + 1 + 1) (EvP.draw ?_) ?_
    · simp [d1, d2, d3, d7, dm, dx, n1, m1, hcl, hcli, hgc, hgc2, w1, w2, w3, w4, hpz, askL, hx, devL]
      done
    rintro D ⟨d3, d7, d8, dm, dx⟩
    refine EvP.seqG (fun D => D.s 3 = .bptr nx 0 ∧ D.s 7 = .int .u64 (z.w.p : Int) ∧ D.s 8 = .bptr (nx + 1) 0 ∧ D.s 9 = .bptr (nx + 1 + 1) 0 ∧ D.m = [(nx, ⟨0, askL z⟩), (nx + 1, ⟨0, devL x⟩), (nx + 1 + 1, ⟨0, devL x⟩)] ∧ D.nx = nx + 1 + 1 + 1) (EvP.region ?_) ?_
    · unfold askL devL at dm
      simp [d3, d7, d8, dm, dx, n1, n2, n4, m1, m2, m4, askL, devL]
      done
    rintro D ⟨d3, d7, d8, d9, dm, dx⟩
    refine EvP.seqG (fun D => D.s 3 = .bptr nx 0 ∧ D.s 8 = .bptr (nx + 1) 0 ∧ D.s 9 = .bptr (nx + 1 + 1) 0 ∧ D.m = [(nx, ⟨0, askL z⟩), (nx + 1, ⟨0, devL x⟩), (nx + 1 + 1, ⟨0, devL y⟩)] ∧ D.nx = nx + 1 + 1 + 1) (EvP.region ?_) ?_
    · unfold askL devL at dm
      rw [hx] at dm
      simp [d3, d7, d8, d9, dm, dx, n1, n2, n4, m1, m2, m4, w5, w6, hpz, askL, devL, hx, hy]
      done
    rintro D ⟨d3, d8, d9, dm, dx⟩
    refine EvP.seqG (fun D => D.s 3 = .bptr nx 0 ∧ D.s 8 = .bptr (nx + 1) 0 ∧ D.s 9 = .bptr (nx + 1 + 1) 0 ∧ D.s 10 = .bptr (nx + 1 + 1 + 1) 0 ∧ D.m = [(nx, ⟨0, askL z⟩), (nx + 1, ⟨0, devL x⟩), (nx + 1 + 1, ⟨0, devL y⟩), (nx + 1 + 1 + 1, ⟨0, scL z.w⟩)] ∧ D.nx = nx + 1 + 1 + 1 + 1) (EvP.region ?_) ?_
    · unfold askL devL at dm
      simp [d3, d8, d9, dm, dx, n1, n2, n3, n4, n5, n6, m1, m2, m3, m4, m5, m6, askL, devL, scL]
    rintro D ⟨d3, d8, d9, d10, dm, dx⟩
    have s8 := r8_8 z nx k x y hd30 D d3 d8 d9 d10 dm dx
    simp only [opsOf, Try.f8, regOf, Nat.reduceBEq, cond_true, cond_false, Option.getD_some] at s8
    refine EvP.seq (EvP.mono s8 ?_)
    rintro e D ⟨rfl, d3, d10, _, dm, dx⟩
    simp only [thenE_norm]
    obtain ⟨B3, hB3⟩ : ∃ B3, B3 = wL z.w (z.w.devs ++ [x, y]) := ⟨_, rfl⟩
    rw [← hB3] at dm
    refine EvP.seqG (fun D => D.s 3 = .bptr nx 0 ∧ D.s 10 = .bptr (nx + 1 + 1 + 1) 0 ∧ D.s 11 = .bptr (nx + 1 + 1 + 1 + 1) 0 ∧ D.m = [(nx, ⟨0, askL z⟩), (nx + 1, ⟨0, devL x⟩), (nx + 1 + 1, ⟨0, devL y⟩), (nx + 1 + 1 + 1, ⟨0, B3⟩), (nx + 1 + 1 + 1 + 1, ⟨0, scL z.w⟩)] ∧ D.nx = nx + 1 + 1 + 1 + 1 + 1) (EvP.region ?_) ?_
    · unfold askL at dm
      simp [d3, d10, dm, dx, n1, n2, n3, n7, n8, n9, n10, m1, m2, m3, askL, scL]
      done
    rintro D ⟨d3, d10, d11, dm, dx⟩
    have s10 := r8_10 z nx k x y dr hcl hdr hd30 D B3 d3 d10 d11 dm dx
    simp only [opsOf, Try.f8, regOf, Nat.reduceBEq, cond_true, cond_false, Option.getD_some] at s10
    refine EvP.seq (EvP.mono s10 ?_)
    rintro e D ⟨rfl, d3, d10, d11, dm, dx⟩
    simp only [thenE_norm]
    obtain ⟨X1, hX1⟩ : ∃ X1, X1 = devL x := ⟨_, rfl⟩
    obtain ⟨X2, hX2⟩ : ∃ X2, X2 = devL y := ⟨_, rfl⟩
    rw [← hX1, ← hX2] at dm
    unfold askL wL at dm
    refine EvP.seqG (fun D => D.s 3 = .bptr nx 0 ∧ D.s 10 = .bptr (nx + 1 + 1 + 1) 0 ∧ D.s 12 = .own .nil 0 z.al.length cs7 ∧ D.s 13 = .own .nil 0 z.ms.length cs6 ∧ (∃ X4, D.m = [(nx, ⟨0, askL z⟩), (nx + 1, ⟨0, X1⟩), (nx + 1 + 1, ⟨0, X2⟩), (nx + 1 + 1 + 1, ⟨0, B3⟩), (nx + 1 + 1 + 1 + 1, ⟨0, X4⟩)]) ∧ D.nx = nx + 1 + 1 + 1 + 1 + 1) (EvP.draw ?_) ?_
    · simp [d3, d10, d11, dm, dx, n1, n2, n3, n7, n8, n9, n10, m1, m2, m3, c8, c9, askL]
      done
    rintro D ⟨d3, d10, d12, d13, ⟨X4, dm⟩, dx⟩
    unfold askL at dm
    have hi0n : i0 < z.al.length := by omega
    have hi0m : i0 < z.ms.length := by omega
    have wi0 : IntKind.i64.wrap (z.w.corrupt[0] - 1) = (i0 : Int) := by rw [wrap_nat (by omega) (by omega)]; omega
    have hc7l : cs7.length = z.al.length := by rw [hR7.1]; exact hBl7
    obtain ⟨vc, hvc, hvcr⟩ : ∃ vc, cs7[i0]? = some vc ∧ IsRow vc [] := by
      refine ⟨cs7[i0]'(by omega), by simp, hR7.2 i0 _ _ (by simp) hdl⟩
    obtain ⟨rcd, hrcd, hRrcd⟩ := hR6.get (i := i0) (by rw [hMok6.1]; simpa using hi0m)
    have hMl : (MDr[i0]'(by rw [hMok6.1]; simpa using hi0m)).length = z.ms.length := by
      have := (hMok6.2 _ (List.getElem_mem (by rw [hMok6.1]; simpa using hi0m : i0 < MDr.length))).1
      simpa using this
    rw [hMl] at hrcd
    have hrcl : rcd.length = z.ms.length := by rw [hRrcd.1, hMl]
    have hc6l : cs6.length = z.ms.length := by rw [hR6.1, hMok6.1]; simp
    have hrow : ∀ j (hj : j < z.ms.length), (j : Int) + 1 ≠ z.w.corrupt[0] → ∃ v, rcd[j]? = some v ∧ IsRow v [] := fun j hj hne => by
      have h1 := hml2 j hj hne
      unfold at2 at h1
      have hg : MDr[i0]? = some (MDr[i0]'(by rw [hMok6.1]; simpa using hi0m)) := List.getElem?_eq_getElem _
      rw [hg, Option.getD_some] at h1
      exact ⟨rcd[j]'(by omega), by simp, hRrcd.2 j _ _ (by simp) h1⟩
    obtain ⟨h7i, hvc2⟩ := List.getElem?_eq_some_iff.1 hvc
    obtain ⟨h6i, hrc2⟩ := List.getElem?_eq_some_iff.1 hrcd
    have hnea : (((z.al.length : Nat) : Int) != z.w.n) = false := by simp [bne]; omega
    have hnem : (((z.ms.length : Nat) : Int) != z.w.n) = false := by simp [bne]; omega
    let KC : St → Prop := fun D => D.s 3 = .bptr nx 0 ∧ D.s 10 = .bptr (nx + 1 + 1 + 1) 0 ∧ D.s 13 = .own .nil 0 z.ms.length cs6 ∧ D.m = [(nx, ⟨0, askL z⟩), (nx + 1, ⟨0, X1⟩), (nx + 1 + 1, ⟨0, X2⟩), (nx + 1 + 1 + 1, ⟨0, B3⟩), (nx + 1 + 1 + 1 + 1, ⟨0, X4⟩)] ∧ D.nx = nx + 1 + 1 + 1 + 1 + 1
    refine EvP.seqG KC (EvP.seq (EvP.drawCut [0, 1, 2, 3, 4, 5, 6, 7, 8, 9, 10, 11, 12, 13, 14, 15, 16] [17, 18, 19, 20, 21, 22, 23, 24, 25, 26, 27, 28, 29, 30, 31, 32, 33, 34, 35, 36, 37, 38, 39, 40, 41, 42, 43, 44, 45] (by rfl) (fun D => KC D ∧ D.s 12 = .own .nil 0 z.al.length cs7 ∧ D.s 116 = .bool false) ?_ ?_)) ?_
    · simp [d3, d10, d12, d13, dm, dx, hnea, hnem, KC, askL]
      done
    · rintro D ⟨⟨d3, d10, d13, dm, dx⟩, d12, d116⟩
      unfold askL at dm
      refine draw_cut [17, 18, 19, 20, 21, 22, 23, 24, 25, 26, 27, 28, 29] [30, 31, 32, 33, 34, 35, 36, 37, 38, 39, 40, 41, 42, 43, 44, 45] (fun D => KC D ∧ D.s 129 = .bool false) ?_ ?_
      · generalize hgen : ([] : List Nat) = e0 at hvcr
        cases hvcr with
        | im pm A cap l =>
          subst hgen
          simp [d3, d10, d12, d13, d116, dm, dx, hcl, hcli, hgc, hgc2, wi0, hi0n, hc7l, hvc2, KC, askL]
          done
        | own kk l =>
          subst hgen
          simp [d3, d10, d12, d13, d116, dm, dx, hcl, hcli, hgc, hgc2, wi0, hi0n, hc7l, hvc2, KC, askL]
          done
      rintro D ⟨⟨d3, d10, d13, dm, dx⟩, d129⟩
      unfold askL at dm
      refine optE_mono (fun D => KC D ∧ D.s 145 = .bool false) ?_ ?_
      · simp [d3, d10, d13, d129, dm, dx, hcl, hcli, hgc, hgc2, wi0, hi0m, hc6l, hrc2, hnem, KC, askL]
        done
      rintro D ⟨hK, d145⟩
      exact EvP.cond (t := false) (by simp [d145]) (fun h => by cases h) (fun _ => EvP.skip hK)
    rintro D ⟨d3, d10, d13, dm, dx⟩
    unfold askL at dm
    refine EvP.seqG KC (EvP.seq (EvP.region ?_)) ?_
    · simp [d3, d10, d13, dm, dx]
      refine EvP.block (EvP.loop (fun q D => ∃ j : Nat, q = z.ms.length - j ∧ j ≤ z.ms.length ∧ D.s 14 = .int .i64 (j : Int) ∧ KC D) (n := z.ms.length) ⟨0, by simp [d3, d10, d13, dm, dx, KC, askL]⟩ (by omega) ?_)
      rintro q D ⟨j, hqn, hj, d14, d3, d10, d13, dm, dx⟩
      simp only [liveOf13, clear_none]
      unfold askL at dm
      refine EvP.seq (EvP.seq (EvP.region ?_))
      simp [d3, d14, dm]
      have hdec : decide ((j : Int) < z.w.n) = decide (j < z.ms.length) := by
        by_cases h : j < z.ms.length
        · rw [decide_eq_true h, decide_eq_true (by omega)]
        · rw [decide_eq_false h, decide_eq_false (by omega)]
      refine EvP.cond (t := decide (j < z.ms.length)) (by simp [hdec]) (fun h => EvP.skip ?_) (fun h => EvP.exit ?_)
      · have hlt : j < z.ms.length := by simpa using h
        simp only [thenE_norm]
        refine EvP.seq (EvP.block (EvP.seqG (fun D => KC D ∧ D.s 14 = .int .i64 (j : Int) ∧ D.s 177 = .bool false) (EvP.region ?_) ?_))
        · by_cases hne : j = i0
          · have hnb : ((j : Int) != (i0 : Int)) = false := by simp [bne, hne]
            simp [d3, d10, d13, d14, dm, dx, hcl, hcli, hgc, hgc2, wi0, hnb, KC, askL]
            done
          · have hnb : ((j : Int) != (i0 : Int)) = true := by simp [bne]; omega
            obtain ⟨v, hv, hvr⟩ := hrow j hlt (by omega)
            obtain ⟨hji, hv2⟩ := List.getElem?_eq_some_iff.1 hv
            generalize hgen : ([] : List Nat) = e0 at hvr
            cases hvr with
            | im pm A cap l =>
              subst hgen
              simp [d3, d10, d13, d14, dm, dx, hcl, hcli, hgc, hgc2, wi0, hnb, hi0m, hc6l, hrc2, hlt, hrcl, hv2, KC, askL]
              done
            | own kk l =>
              subst hgen
              simp [d3, d10, d13, d14, dm, dx, hcl, hcli, hgc, hgc2, wi0, hnb, hi0m, hc6l, hrc2, hlt, hrcl, hv2, KC, askL]
              done
        rintro D ⟨⟨d3, d10, d13, dm, dx⟩, d14, d177⟩
        unfold askL at dm
        refine EvP.cond (t := false) (by simp [d177]) (fun h => by cases h) (fun _ => EvP.skip ?_)
        simp
        refine EvP.region ?_
        simp [d3, d10, d13, d14, dm, dx, KC, askL]
        exact ⟨_, by omega, j + 1, rfl, by omega, wrap_succ (by omega)⟩
      · simp [d3, d10, d13, d14, dm, dx, KC, askL]
    rintro D ⟨d3, d10, d13, dm, dx⟩
    unfold askL at dm
    rw [hB3] at dm
    unfold wL at dm
    refine EvP.seq (EvP.drawCut [0, 1, 2, 3, 4, 5, 6, 8, 9, 10, 11, 12, 13, 7, 14, 15, 16, 17] [18, 19, 20, 21, 22, 24, 25, 26, 27, 28, 29, 23, 30, 31, 32, 33] (by rfl) (fun D => D.s 3 = .bptr nx 0 ∧ D.s 10 = .bptr (nx + 1 + 1 + 1) 0 ∧ (∃ b, D.m = [(nx, ⟨0, askL z⟩), (nx + 1, ⟨0, X1⟩), (nx + 1 + 1, ⟨0, X2⟩), (nx + 1 + 1 + 1, ⟨0, [.int .u64 (z.w.p : Int), .int .i64 z.w.n, .int .i64 z.w.t, .im z.w.cpm z.w.cA z.w.ccap z.w.corrupt.length (iL z.w.corrupt), .im b none 0 (z.w.devs.length + 2) (devsV (z.w.devs ++ [x, y])), .im z.w.tpm z.w.tA z.w.tcap z.w.tapes.length (rsV z.w.tapes)]⟩), (nx + 1 + 1 + 1 + 1, ⟨0, X4⟩)]) ∧ D.nx = nx + 1 + 1 + 1 + 1 + 1 ∧ D.s 195 = .bool true) ?_ ?_)
    · simp [d3, d10, dm, dx, n1, n2, n3, n4, n5, n6, n7, n8, n9, n10, m1, m2, m3, m4, m5, m6, c1, c2, c3, c6, q2, q3, askL]
      done
    rintro D ⟨d3, d10, ⟨bb, dm⟩, dx, d195⟩
    unfold askL at dm
    simp [d3, d10, dm, dx, n1, n2, n3, n4, n5, n6, n7, n8, n9, n10, m1, m2, m3, m4, m5, m6, d195, c4, c5, c7, q4, q5]
    refine EvP.ret ?_
    simp [dm]
    rintro a b (⟨rfl, _⟩ | ⟨rfl, _⟩ | ⟨rfl, _⟩ | ⟨rfl, _⟩ | ⟨rfl, _⟩) <;> omega
end Go.Abs
end
