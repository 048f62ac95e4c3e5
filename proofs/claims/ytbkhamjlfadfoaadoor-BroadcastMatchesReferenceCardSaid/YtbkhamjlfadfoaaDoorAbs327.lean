/- Joined: AbsPNYJ AbsPA AbsPB AbsPBA AbsPC. -/
import Derived.Test.YtbkhamjlfadfoaaDoorAbs308
import Derived.Test.YtbkhamjlfadfoaaDoorAbs326
set_option linter.all false
set_option maxHeartbeats 16000000
noncomputable section
namespace Go.Abs
open Go Go.Proofs
set_option maxRecDepth 100000
theorem frz_cpV (b : Bool) (ls : List (List Nat)) : frzL false (frzL b (ls.map cpV)) = rsV (ls.map rz) := by
 induction ls with
 | nil => rfl
 | cons l ls ih =>
   show frz false (frz b (cpV l)) :: frzL false (frzL b (ls.map cpV)) = rV (rz l) :: rsV (ls.map rz)
   rw [ih]
   cases l with
   | nil => rfl
   | cons a l => rw [cpV_cons]; simp [frz, rV, rz, uL_cons]
theorem rz_l (ls : List (List Nat)) : (ls.map rz).map (·.l) = ls := by
 rw [List.map_map]
 induction ls with
 | nil => rfl
 | cons l ls ih => rw [List.map_cons, ih]; rfl
section
variable {P : Program} {H : Hint} {f k N : Nat} {xs : List V} {r : V}
theorem callBoxL {ids : List Nat} {s : Nat → V} {m M O M2 : List (Nat × Box)} {nx nx2 : Nat} {C : Callee} (hX : H.X f xs = none) (hr : reach m m.length (ptrsL xs).eraseDups = ids) (hf : (m.filter fun e => ids.contains e.1) = M) (ho : othersM m ids = O) (hne : ids ≠ [])
 (hc : C f xs M nx = some (r, M2, nx2)) (hall : ∀ e ∈ M2, e.1 ∈ ids ∨ nx ≤ e.1) (hb1 : noBor r = true) (hb2 : ∀ e ∈ M2, noBorL e.2.cs = true) (dst : Option Nat) : doCallL H C f true xs ⟨s, m, nx⟩ dst = some ((St.mk (fun i => killB ids nx (s i)) (O ++ M2) nx2).lay dst r) := by
 have h1 : ids.isEmpty = false := by cases ids with | nil => exact absurd rfl hne | cons _ _ => rfl
 have h2 : (M2.all fun e => ids.contains e.1 || decide (nx ≤ e.1)) = true := by
  rw [List.all_eq_true]
  intro e he
  rcases hall e he with h | h
  ·simp [h]
  ·simp [h]
 have h3 : (M2.all fun e => noBorL e.2.cs) = true := by
  rw [List.all_eq_true]
  exact hb2
 unfold doCallL
 rw [hX]
 simp only [hr, hf, hc, h1, h2, h3, hb1, ho, Bool.not_true, Bool.and_false, Bool.and_true, Bool.false_and, Bool.false_eq_true, if_false, if_true]
variable {b g nx : Nat} {σ σ' : NetS} {tb O1 O2 : List (Nat × Box)}
theorem netCallL (hT : TB b σ.tp tb) (hl : 1 ≤ tb.length) (hd : ∀ e ∈ O1 ++ O2, e.1 ∉ b :: σ.tp) (h' : σ'.tp = σ.tp) (hans : AnsM N P H f xs ((b, ⟨g, netC σ⟩) :: tb) r ((b, ⟨g, netC σ'⟩) :: tb)) (hk : N ≤ k) (hp : ptrsL xs = [b]) (hX : H.X f xs = none) (hlt : ∀ e ∈ (b, (⟨g, netC σ⟩ : Box)) :: tb, e.1 < nx) (hb1 : noBor r = true) (hb2 : noBorL (netC σ') = true) (hb3 : ∀ e ∈ tb, noBorL e.2.cs = true) (s : Nat → V) (dst : Option Nat) :
 doCallL H (evCall P H k) f true xs ⟨s, O1 ++ ((b, ⟨g, netC σ⟩) :: tb) ++ O2, nx⟩ dst = some ((St.mk (fun i => killB (b :: σ.tp) nx (s i)) (O1 ++ O2 ++ ((b, ⟨g, netC σ'⟩) :: tb)) nx).lay dst r) := by
 refine callBoxL hX (by rw [hp]; exact net_reach hT hl hd) (net_part hT hd) (net_oth hT hd) (by simp) (hans k hk nx hlt) (fun e he => .inl ?_) hb1 (fun e he => ?_) dst
 ·have := net_keys (g := g) (σ := σ') (by rw [h']; exact hT) e he
  rwa [h'] at this
 ·rcases List.mem_cons.1 he with rfl | he
  ·exact hb2
  ·exact hb3 e he
end
structure NetT (σ : NetS) : Prop where
 c : σ.scn.cpm = true
 d : σ.scn.dpm = true
 t : σ.scn.tpm = true
 r : ∀ x ∈ σ.scn.tapes, x.pm = true
 e : ∀ v ∈ σ.views, ∀ e ∈ v, e.w.pm = true
theorem noBorL_iL (l : List Int) : noBorL (iL l) = true := by
 unfold iL; induction l with
 | nil => rfl
 | cons x l ih => simp only [List.map_cons, noBorL, noBor, ih, Bool.and_self]
theorem noBorL_devs (l : List Dev) : noBorL (devsV l) = true := by
 induction l with
 | nil => rfl
 | cons x l ih =>
   show noBorL (devL x ++ devsV l) = true
   simp only [devL, List.cons_append, List.nil_append, noBorL, noBor, ih, Bool.and_self]
theorem noBorL_rs {l : List RD} (h : ∀ x ∈ l, x.pm = true) : noBorL (rsV l) = true := by
 induction l with
 | nil => rfl
 | cons x l ih =>
   show (noBor (rV x) && noBorL (rsV l)) = true
   rw [ih fun y hy => h y (List.mem_cons_of_mem _ hy)]
   simp [rV, noBor, h x List.mem_cons_self]
theorem noBorL_evs {l : List Ev} (h : ∀ e ∈ l, e.w.pm = true) : noBorL (evsC l) = true := by
 induction l with
 | nil => rfl
 | cons x l ih =>
   show noBorL (evC x ++ evsC l) = true
   have := h x List.mem_cons_self
   simp [evC, rV, noBorL, noBor, this, ih fun y hy => h y (List.mem_cons_of_mem _ hy)]
theorem noBorL_views {l : List (List Ev)} (h : ∀ v ∈ l, ∀ e ∈ v, e.w.pm = true) : noBorL (viewsC l) = true := by
 induction l with
 | nil => rfl
 | cons v l ih =>
   show (noBor (viewV v) && noBorL (viewsC l)) = true
   rw [ih fun y hy => h y (List.mem_cons_of_mem _ hy)]
   simp [viewV, noBor, noBorL_evs (h v List.mem_cons_self)]
theorem noBorL_bpL (l : List Nat) : noBorL (bpL l) = true := by
 unfold bpL; induction l with
 | nil => rfl
 | cons x l ih => simp only [List.map_cons, noBorL, noBor, ih, Bool.and_self]
theorem NetT.noBor {σ : NetS} (h : NetT σ) : noBorL (netC σ) = true := by
 simp [netC, noBorL, Abs.noBor, h.c, h.d, h.t, noBorL_iL, noBorL_devs, noBorL_rs h.r, noBorL_views h.e, noBorL_bpL]
theorem et_evOf {rd : Int} {w : Nat} {W : Nat → RD} (hW : ∀ f, (W f).pm = true) (k : Nat) : ∀ e ∈ (List.range k).flatMap (evOf rd w W), e.w.pm = true := fun e he => by
 obtain ⟨f, _, hf⟩ := List.mem_flatMap.1 he
 unfold evOf at hf
 split at hf
 ·rw [List.mem_singleton] at hf; subst hf; exact hW f
 ·cases hf
theorem NetT.sent {n : Nat} {σ : NetS} (h : NetT σ) (S : List (List (List Nat))) : NetT (sentS cpW S n σ) := by
 obtain ⟨h1, h2, h3, h4⟩ := like_sentS cpW S n σ
 refine ⟨by rw [h1]; exact h.c, by rw [h1]; exact h.d, by rw [h1]; exact h.t, by rw [h1]; exact h.r, fun v hv e he => ?_⟩
 obtain ⟨i, hi⟩ := List.getElem?_of_mem hv
 have hi2 : (hearAll (fun w f => cpW (sw S f w)) n n σ).views[i]? = some v := hi
 rw [views_hearAll] at hi2
 cases hu : σ.views[i]? with
 | none => rw [hu] at hi2; cases hi2
 | some u =>
   rw [hu, Option.map_some] at hi2
   have := Option.some.inj hi2
   subst this
   split at he
   ·rcases List.mem_append.1 he with he | he
    ·exact h.e u (List.mem_of_getElem? hu) e he
    ·exact et_evOf (fun f => rfl) n e he
   ·exact h.e u (List.mem_of_getElem? hu) e he
theorem noBor_cpV (l : List Nat) : noBor (cpV l) = true := by
 cases l with
 | nil => rfl
 | cons a l =>
   rw [cpV_cons]
   show (true && noBorL (.int .u64 (a : Int) :: uL l)) = true
   simp [noBorL, noBor]
theorem noBor_inV (S : List (List (List Nat))) (n : Nat) : noBor (inV S n) = true := by
 have h1 : ∀ ls : List (List Nat), noBorL (ls.map cpV) = true := by
  intro ls
  induction ls with
  | nil => rfl
  | cons l ls ih => simp only [List.map_cons, noBorL, noBor_cpV, ih, Bool.and_self]
 have h2 : ∀ L : List (List (List Nat)), noBorL (rowsC L) = true := by
  intro L
  induction L with
  | nil => rfl
  | cons l L ih =>
    show (noBor (rowC l) && noBorL (rowsC L)) = true
    rw [ih]
    simp [rowC, noBor, h1]
 exact h2 _
def eachM (n : Nat) (rs : List RD) : List MD := rs.map fun r => ⟨false, none, 0, List.replicate n (lent r)⟩
def eachL (n : Nat) (L : List (List Nat)) : List (List (List Nat)) := L.map (List.replicate n)
theorem mls_each (n : Nat) (rs : List RD) : mls (eachM n rs) = eachL n (rs.map (·.l)) := by
 unfold mls eachM eachL
 rw [List.map_map, List.map_map]
 refine List.map_congr_left fun r _ => ?_
 show (List.replicate n (lent r)).map (·.l) = List.replicate n r.l
 rw [List.map_replicate]
 rfl
theorem eachL_ok {p n : Nat} {L : List (List Nat)} (hl : L.length = n) (h : LsOk p L) : MsOk p n (eachL n L) := by
 refine ⟨by simp [eachL, hl], fun l hl2 => ?_⟩
 obtain ⟨x, hx, rfl⟩ := List.mem_map.1 hl2
 refine ⟨by simp, fun y hy => ?_⟩
 obtain ⟨_, rfl⟩ := List.mem_replicate.1 hy
 exact h _ hx
def eachRow (n : Nat) (r : RD) (j : Nat) : V := .own .nil 0 j (List.replicate j (rV r))
def eachC (n i : Nat) (rs : List RD) : List V := (rs.take i).map (fun r => eachRow n r n) ++ List.replicate (n - i) (.own .nil 0 0 [])
theorem rep_rep (n : Nat) (v : V) : rep n [v] = List.replicate n v := by
 induction n with
 | zero => rfl
 | succ n ih => show [v] ++ rep n [v] = _; rw [ih, List.replicate_succ]; rfl
@[simp] theorem eachC_length {n i : Nat} {rs : List RD} (hl : rs.length = n) (hi : i ≤ n) : (eachC n i rs).length = n := by
 unfold eachC
 rw [List.length_append, List.length_map, List.length_take, List.length_replicate]; omega
theorem eachC_zero (n : Nat) (rs : List RD) : eachC n 0 rs = List.replicate n (.own .nil 0 0 []) := by simp [eachC]
theorem eachC_get {n i : Nat} {rs : List RD} (hl : rs.length = n) (hi : i < n) : (eachC n i rs)[i]? = some (.own .nil 0 0 []) := by
 unfold eachC
 rw [List.getElem?_append_right (by rw [List.length_map, List.length_take]; omega), List.length_map, List.length_take, List.getElem?_replicate, if_pos (by omega)]
theorem eachC_set0 {n i : Nat} {rs : List RD} (hl : rs.length = n) (hi : i < n) (r : RD) : (eachC n i rs).set i (eachRow n r 0) = eachC n i rs := by
 have h := eachC_get hl hi
 apply List.ext_getElem?
 intro j
 rw [List.getElem?_set]
 by_cases e : i = j
 ·subst e
  rw [if_pos rfl, if_pos (by rw [eachC_length hl (by omega)]; exact hi), h]
  rfl
 ·rw [if_neg e]
theorem eachC_succ {n i : Nat} {rs : List RD} (hl : rs.length = n) (hi : i < n) : (eachC n i rs).set i (eachRow n (rs[i]'(by omega)) n) = eachC n (i + 1) rs := by
 unfold eachC
 have e1 : n - i = (n - (i + 1)) + 1 := by omega
 have e2 : ((rs.take i).map fun r => eachRow n r n).length = i := by rw [List.length_map, List.length_take]; omega
 rw [List.take_succ_eq_append_getElem (by omega), List.map_append, e1, List.set_append_right _ _ (by omega), e2, Nat.sub_self, List.append_assoc, List.replicate_succ]
 rfl
theorem eachC_full {n : Nat} {rs : List RD} (hl : rs.length = n) (b : Bool) : frzL false (frzL b (eachC n n rs)) = msV (eachM n rs) := by
 unfold eachC
 rw [Nat.sub_self, List.replicate_zero, List.append_nil, ← hl, List.take_length]
 have key : ∀ l : List RD, frzL false (frzL b (l.map fun r => eachRow rs.length r rs.length)) = msV (eachM rs.length l) := by
  intro l
  induction l with
  | nil => rfl
  | cons r l ih =>
    show frz false (frz b (eachRow rs.length r rs.length)) :: frzL false (frzL b (l.map fun r => eachRow rs.length r rs.length)) = mV ⟨false, none, 0, List.replicate rs.length (lent r)⟩ :: msV (eachM rs.length l)
    rw [ih]
    congr 1
    show V.im false none 0 rs.length (frzL false (frzL b (List.replicate rs.length (rV r)))) = _
    have e : List.replicate rs.length (rV r) = rsV (List.replicate rs.length r) := by unfold rsV; rw [List.map_replicate]
    rw [e, rsV_lent2, List.map_replicate]
    unfold mV
    simp
 exact key rs
theorem each47 {N b g : Nat} {σ : NetS} {tb : List (Nat × Box)} (I : NetI N b σ tb) (hr : σ.round < 1000) (pm : Bool) (A : Option Addr) (cap : Nat) (rs : List RD) (hl : (rs.length : Int) = σ.scn.n) (hok : LsOk σ.scn.p (rs.map (·.l))) :
 AnsM (max N 100 + 2) Tryd.prog H14 47 [.bptr b 0, .im pm A cap rs.length (rsV rs)] ((b, ⟨g, netC σ⟩) :: tb) (inV (netSaid σ rs.length (eachL rs.length (rs.map (·.l)))) rs.length) ((b, ⟨g, netC (sentS cpW (netSaid σ rs.length (eachL rs.length (rs.map (·.l)))) rs.length σ)⟩) :: tb) := by
 obtain ⟨n, hn⟩ : ∃ n, rs.length = n := ⟨_, rfl⟩
 have h13 : n ≤ 13 := by have := I.h13; omega
 have hML : (eachM n rs).length = n := by simp [eachM, hn]
 have hmo : MsOk σ.scn.p n (mls (eachM n rs)) := by rw [mls_each]; exact eachL_ok (by rw [List.length_map, hn]) hok
 rw [hn] at hl ⊢
 obtain ⟨S, hS⟩ : ∃ S, netSaid σ n (eachL n (rs.map (·.l))) = S := ⟨_, rfl⟩
 rw [hS]
 refine AnsM.gen (fn := Tryd.f47) (by rfl) Tryd.func47 rfl (by rfl) (fun nx h c hc => ?_) fun k hk nx h => ?_
 ·rw [ptrs_inV, List.nil_append] at hc
  exact net_ptrs (σ := sentS cpW S n σ) (by rw [(like_sentS _ _ _ _).2.1]; exact I.hT) (fun e he => by
   rcases List.mem_cons.1 he with rfl | he
   ·exact h (b, ⟨g, netC σ⟩) List.mem_cons_self
   ·exact h _ (List.mem_cons_of_mem _ he)) hc
 obtain ⟨hb, hfl⟩ := net_filt h
 have hb' : (sentS cpW S n σ).tp = σ.tp := (like_sentS _ _ _ _).2.1
 have c63 := fun A' cap' => netCall0 (g := g) (σ' := sentS cpW S n σ) I.hT I.hl hb' (by
  have := I.send18 (g := g) hr false A' cap' (eachM n rs) (by rw [hML]; exact hl) (by rw [hML]; exact hmo)
  rw [hML, mls_each, hS] at this
  exact this) (k := k) (by omega) (by simp [ptrsL, ptrs]) rfl h
 obtain ⟨RA, hRA⟩ : ∃ RA, rowsC (outL S n n) = RA := ⟨_, rfl⟩
 simp only [inV, hRA] at c63 ⊢
 obtain ⟨M, hM⟩ : ∃ M, (b, (⟨g, netC σ⟩ : Box)) :: tb = M := ⟨_, rfl⟩
 obtain ⟨M', hM'⟩ : ∃ M', (b, (⟨g, netC (sentS cpW S n σ)⟩ : Box)) :: tb = M' := ⟨_, rfl⟩
 have hall : ∀ e ∈ M', e.1 < nx := by
  rw [← hM']
  intro e he
  rcases List.mem_cons.1 he with rfl | he
  ·exact hb
  ·exact h _ (List.mem_cons_of_mem _ he)
 have hfM : M'.filter (fun e => decide (e.1 < nx)) = M' := filt_lt hall
 rw [hM, hM'] at c63
 rw [hM, hM']
 have b1 : (n : Int) ≤ 140737488355328 := by omega
 have b2 : (n : Int) * 24 ≤ 140737488355328 := by omega
 have hz : ¬ (n = 0 ∧ 0 < n) := by omega
 simp [-reach, entryS, b1, b2, hz, rep_rep]
 obtain ⟨cs, hcs⟩ : ∃ cs, rsV rs = cs := ⟨_, rfl⟩
 rw [hcs]
 have hcl : cs.length = n := by rw [← hcs]; simp [rsV, hn]
 obtain ⟨I, hI⟩ : ∃ I : Nat → St → Prop, I = fun q D => ∃ (i : Nat) (CS : List V), q = n - i ∧ i ≤ n ∧ CS = eachC n i rs ∧ D.s 0 = .bptr b 0 ∧ D.s 1 = .im pm A cap n cs ∧ D.s 5 = .own .nil 0 n CS ∧ D.s 11 = .im pm A cap n cs ∧ D.s 12 = .int .i64 (n : Int) ∧ D.s 13 = .int .i64 (i : Int) ∧ D.m = M ∧ D.nx = nx := ⟨_, rfl⟩
 refine EvP.loop I (n := n) (by rw [hI]; exact ⟨0, _, by simp, by simp, (eachC_zero n rs).symm, by simp⟩) (by omega) fun q D hD => ?_
 rw [hI] at hD
 obtain ⟨i, CS, rfl, hi, hCS, d0, d1, d5, d11, d12, d13, dm, dx⟩ := hD
 by_cases hil : i < n
 ·have e3 := wrap_succ (q := i) (by omega)
  have hir : i < rs.length := by omega
  have hic : i < cs.length := by omega
  have hri : cs[i] = rV rs[i] := by subst hcs; simp [rsV]
  have hri? : cs[i]? = some (rV rs[i]) := by rw [List.getElem?_eq_getElem hic, hri]
  obtain ⟨r, hr0⟩ : ∃ r, rs[i] = r := ⟨_, rfl⟩
  rw [hr0] at hri hri?
  simp [-reach, d0, d1, d5, d11, d12, d13, dm, dx, hil, hri, hri?, hic, hcl, rV]
  obtain ⟨J, hJ⟩ : ∃ J : Nat → St → Prop, J = fun q D => ∃ (j : Nat) (CS : List V), q = n - j ∧ j ≤ n ∧ CS = (eachC n i rs).set i (eachRow n r j) ∧ D.s 0 = .bptr b 0 ∧ D.s 1 = .im pm A cap n cs ∧ D.s 5 = .own .nil 0 n CS ∧ D.s 6 = .int .i64 (i : Int) ∧ D.s 7 = rV r ∧ D.s 11 = .im pm A cap n cs ∧ D.s 12 = .int .i64 (n : Int) ∧ D.s 13 = .int .i64 (i : Int) ∧ D.s 19 = .int .i64 (n : Int) ∧ D.s 20 = .int .i64 (j : Int) ∧ D.m = M ∧ D.nx = nx := ⟨_, rfl⟩
  refine EvP.loop J (n := n) (by rw [hJ]; exact ⟨0, CS, by simp, by simp, by rw [hCS]; exact (eachC_set0 hn hil r).symm, by simp [d0, d1, d5, d11, d12, d13, dm, dx, rV]⟩) (by omega) fun q D hD => ?_
  rw [hJ] at hD
  obtain ⟨j, CS, rfl, hj, hCS, d0, d1, d5, d6, d7, d11, d12, d13, d19, d20, dm, dx⟩ := hD
  have hCl : CS.length = n := by rw [hCS, List.length_set, eachC_length hn hi]
  have hiC : i < CS.length := by omega
  have hC? : CS[i]? = some (eachRow n r j) := by rw [hCS, List.getElem?_set_self (by rw [eachC_length hn hi]; exact hil)]
  have hCe : CS[i] = eachRow n r j := by
   have := List.getElem?_eq_getElem hiC
   rw [hC?] at this
   exact (Option.some.inj this).symm
  by_cases hjl : j < n
  ·have e4 := wrap_succ (q := j) (by omega)
   have f1 : (j + 1) * 24 ≤ 140737488355328 := by omega
   have f2 : j ≤ 140737488355327 := by omega
   simp only [eachRow] at hC? hCe
   simp only [rV] at d7 hC? hCe
   simp [-reach, d0, d1, d5, d6, d7, d11, d12, d13, d19, d20, dm, dx, hil, hjl, hCl, hC?, hCe, hiC, f1, f2, e4]
   subst hJ
   refine ⟨n - (j + 1), by omega, j + 1, CS.set i (eachRow n r (j + 1)), rfl, by omega, by rw [hCS, List.set_set], by simp [d0], by simp [d1], ?_, by simp [d6], by simp [d7, rV], by simp [d11], by simp [d12], by simp [d13], by simp [d19], by simp, rfl, rfl⟩
   simp only [eachRow, List.replicate_succ', rV]
   simp
  ·have hjn : j = n := by omega
   rw [hjn] at hCS d20
   rw [← hr0] at hCS
   rw [eachC_succ hn hil] at hCS
   simp [-reach, d0, d1, d5, d6, d7, d11, d12, d13, d19, d20, dm, dx, e3]
   subst hI
   exact ⟨n - (i + 1), by omega, i + 1, CS, rfl, by omega, hCS, by simp [d0], by simp [d1], by simp [d5], by simp [d11], by simp [d12], by simp, rfl, rfl⟩
 ·have hin : i = n := by omega
  rw [hin] at hCS d13
  rw [hCS] at d5
  have hfull := fun bb => eachC_full (n := n) (rs := rs) hn bb
  simp [-reach, -doCall, doCall_eq, d0, d1, d5, d11, d12, d13, dm, dx, hfull, c63]
  exact fun a b hab => hall _ hab
def hS (S : List (List (List Nat))) (w f : Nat) : List Nat := sw S f w
theorem colS_heads (S : List (List (List Nat))) (w n : Nat) : (colS S w n).map List.head? = (List.range n).map fun f => (hS S w f).head? := by
 unfold colS; rw [List.map_map]; rfl
theorem votesL_eq (S : List (List (List Nat))) (w n x : Nat) : votesL ((colS S w n).map List.head?) x = votes n (hS S w) x := by
 rw [colS_heads]
 unfold votesL votes
 rw [← List.countP_eq_length_filter, List.countP_map]
 rfl
theorem mostOf_eq (S : List (List (List Nat))) (w n m : Nat) : mostOf ((colS S w n).map List.head?) (m : Int) = match leastS n (hS S w) m with | some x => (x, votes n (hS S w) x) | none => (0, 0) := by
 unfold mostOf leastS
 have e : (((colS S w n).map List.head?).filterMap id).filter (fun x => decide ((m : Int) ≤ (votesL ((colS S w n).map List.head?) x : Int))) = ((List.range n).filterMap fun f => (hS S w f).head?).filter fun x => decide (m ≤ votes n (hS S w) x) := by
  have h1 : ((colS S w n).map List.head?).filterMap id = (List.range n).filterMap fun f => (hS S w f).head? := by
   rw [colS_heads, List.filterMap_map]; rfl
  rw [h1]
  refine List.filter_congr fun x _ => ?_
  rw [votesL_eq]
  simp
 rw [e]
 cases (((List.range n).filterMap fun f => (hS S w f).head?).filter fun x => decide (m ≤ votes n (hS S w) x)).min? with
 | none => rfl
 | some x => simp only [votesL_eq]
theorem headV_rz {l : List Nat} (hb : ∀ y ∈ l, y < 18446744073709551616) : headV (rV (rz l)) = some l.head? := by
 cases l with
 | nil => rfl
 | cons a l =>
   have := hb a List.mem_cons_self
   have h2 : (0 : Int) ≤ (a : Int) ∧ (a : Int) < 18446744073709551616 := by omega
   show (if 0 ≤ (a : Int) ∧ (a : Int) < 18446744073709551616 then some (some (a : Int).toNat) else none) = _
   rw [if_pos h2]; rfl
theorem headsV_rz {ls : List (List Nat)} (hb : ∀ l ∈ ls, ∀ y ∈ l, y < 18446744073709551616) : headsV (rsV (ls.map rz)) = some (ls.map List.head?) := by
 induction ls with
 | nil => rfl
 | cons l ls ih =>
   have ih := ih fun l hl => hb l (List.mem_cons_of_mem _ hl)
   have e : rsV ((l :: ls).map rz) = rV (rz l) :: rsV (ls.map rz) := rfl
   rw [e, headsV, ih, headV_rz (hb l List.mem_cons_self)]
   rfl
def mostP (n : Nat) (h : Nat → List Nat) (m : Nat) : Nat × Nat := match leastS n h m with | some x => (x, votes n h x) | none => (0, 0)
theorem mostX_row {S : List (List (List Nat))} {w n : Nat} (hb : ∀ l ∈ colS S w n, ∀ y ∈ l, y < 18446744073709551616) (h13 : n < 4611686018427387904) (m : Nat) : mostX [.im false none 0 n (rsV ((colS S w n).map rz)), .int .i64 (m : Int)] = some (.tup [.int .u64 ((mostP n (hS S w) m).1 : Int), .int .i64 ((mostP n (hS S w) m).2 : Int)]) := by
 simp only [mostX]
 rw [headsV_rz hb, if_pos (by simp [rsV, colS_length, h13])]
 simp only
 rw [mostOf_eq]
 rfl
def saidE (σ : NetS) (n : Nat) (L : List (List Nat)) : List (List (List Nat)) := netSaid σ n (eachL n L)
def sentE (σ : NetS) (n : Nat) (L : List (List Nat)) : NetS := sentS cpW (saidE σ n L) n σ
def one1 (vs : List Nat) : List (List Nat) := vs.map fun x => [x]
def vF (vs : List Nat) (f : Nat) : Nat := (vs[f]?).getD 0
def prL (n t : Nat) (S : List (List (List Nat))) : List (List Nat) := (List.range n).map (prop1 n t (hS S))
def vaL (n t : Nat) (S : List (List (List Nat))) (vs : List Nat) : List Nat := (List.range n).map (val2 n t (vF vs) (hS S))
def loL (n t : Nat) (S : List (List (List Nat))) : List Bool := (List.range n).map (lock2 n t (hS S))
def kiL (n k x : Nat) : List (List Nat) := (List.range n).map fun f => if f = k then [x] else []
def ouL (n t k : Nat) (S2 S3 : List (List (List Nat))) (vs : List Nat) : List Nat := (List.range n).map (out3 n t k (vF vs) (hS S2) (hS S3))
structure Ph where
 σ : NetS
 vs : List Nat
section
variable (n t k : Nat) (a : Ph)
def phA : List (List (List Nat)) := saidE a.σ n (one1 a.vs)
def phσ1 : NetS := sentE a.σ n (one1 a.vs)
def phB : List (List (List Nat)) := saidE (phσ1 n a) n (prL n t (phA n a))
def phσ2 : NetS := sentE (phσ1 n a) n (prL n t (phA n a))
def phV : List Nat := vaL n t (phB n t a) a.vs
def phC : List (List (List Nat)) := saidE (phσ2 n t a) n (kiL n k (vF (phV n t a) k))
def phσ3 : NetS := sentE (phσ2 n t a) n (kiL n k (vF (phV n t a) k))
def phO : List Nat := ouL n t k (phB n t a) (phC n t k a) a.vs
def phase : Ph := ⟨phσ3 n t k a, phO n t k a⟩
end
def phases (n t : Nat) (a : Ph) : Nat → Ph
 | 0 => a
 | k + 1 => phase n t k (phases n t a k)
theorem one1_ok {p : Nat} {vs : List Nat} (h : ∀ x ∈ vs, x < p) : LsOk p (one1 vs) := by
 intro l hl
 obtain ⟨x, hx, rfl⟩ := List.mem_map.1 hl
 exact ⟨by simp, fun y hy => by rw [List.mem_singleton] at hy; subst hy; exact h _ hx⟩
def SOk (p : Nat) (S : List (List (List Nat))) : Prop := ∀ l ∈ S, LsOk p l
theorem hS_ok {p : Nat} (hp : 0 < p) {S : List (List (List Nat))} (h : SOk p S) (w f : Nat) : ∀ y ∈ hS S w f, y < p := by
 intro y hy
 unfold hS sw at hy
 cases e : S[f]? with
 | none => rw [e] at hy; simp at hy
 | some l =>
   rw [e] at hy
   simp only [Option.getD_some] at hy
   cases e2 : l[w]? with
   | none => rw [e2] at hy; simp at hy
   | some u => rw [e2] at hy; exact (h l (List.mem_of_getElem? e) u (List.mem_of_getElem? e2)).2 y hy
theorem leastS_lt {p n m : Nat} {h : Nat → List Nat} (hm : 0 < m) (hh : ∀ f, ∀ y ∈ h f, y < p) {x : Nat} (e : leastS n h m = some x) : x < p := by
 have := ((leastS_some hm).1 e).1
 obtain ⟨f, _, hf⟩ := votes_pos.1 (Nat.lt_of_lt_of_le hm this)
 exact hh f x (List.mem_of_mem_head? hf)
theorem sOk_of {p n : Nat} {S : List (List (List Nat))} (h : MsOk p n S) : SOk p S := fun l hl => (h.2 l hl).2
theorem prop1_ok {p n t : Nat} (htn : t < n) {h : Nat → List Nat} {hh : Nat → Nat → List Nat} (hp : ∀ w f, ∀ y ∈ hh w f, y < p) (w : Nat) : (prop1 n t hh w).length ≤ 1 ∧ ∀ y ∈ prop1 n t hh w, y < p := by
 unfold prop1
 cases e : leastS n (hh w) (n - t) with
 | none => simp
 | some x =>
   refine ⟨by simp, fun y hy => ?_⟩
   rw [List.mem_singleton] at hy
   subst hy
   exact leastS_lt (by omega) (hp w) e
theorem prL_ok {p n t : Nat} (hp0 : 0 < p) (htn : t < n) {S : List (List (List Nat))} (h : SOk p S) : LsOk p (prL n t S) := by
 intro l hl
 obtain ⟨w, _, rfl⟩ := List.mem_map.1 hl
 obtain ⟨h1, h2⟩ := prop1_ok (h := fun _ => []) htn (hS_ok hp0 h) w
 exact ⟨by omega, h2⟩
theorem vF_lt {p : Nat} (hp0 : 0 < p) {vs : List Nat} (h : ∀ x ∈ vs, x < p) (f : Nat) : vF vs f < p := by
 unfold vF
 cases e : vs[f]? with
 | none => exact hp0
 | some x => exact h x (List.mem_of_getElem? e)
theorem val2_lt {p n t : Nat} (hp0 : 0 < p) {S : List (List (List Nat))} (h : SOk p S) {v : Nat → Nat} (hv : ∀ f, v f < p) (w : Nat) : val2 n t v (hS S) w < p := by
 unfold val2
 cases e : leastS n (hS S w) (t + 1) with
 | none => exact hv w
 | some x => exact leastS_lt (by omega) (hS_ok hp0 h w) e
theorem out3_lt {p n t k : Nat} (hp0 : 0 < p) {S2 S3 : List (List (List Nat))} (h2 : SOk p S2) (h3 : SOk p S3) {v : Nat → Nat} (hv : ∀ f, v f < p) (w : Nat) : out3 n t k v (hS S2) (hS S3) w < p := by
 unfold out3
 split
 ·exact val2_lt hp0 h2 hv w
 ·cases e : hS S3 w k with
  | nil => exact hp0
  | cons a l => exact hS_ok hp0 h3 w k a (by rw [e]; exact List.mem_cons_self)
theorem kiL_ok {p n k x : Nat} (hx : x < p) : LsOk p (kiL n k x) := by
 intro l hl
 obtain ⟨f, _, rfl⟩ := List.mem_map.1 hl
 split
 ·exact ⟨by simp, fun y hy => by rw [List.mem_singleton] at hy; subst hy; exact hx⟩
 ·exact ⟨by simp, fun y hy => by cases hy⟩
@[simp] theorem one1_length (vs : List Nat) : (one1 vs).length = vs.length := by simp [one1]
@[simp] theorem prL_length (n t : Nat) (S : List (List (List Nat))) : (prL n t S).length = n := by unfold prL; rw [List.length_map, List.length_range]
@[simp] theorem vaL_length (n t : Nat) (S : List (List (List Nat))) (vs : List Nat) : (vaL n t S vs).length = n := by unfold vaL; rw [List.length_map, List.length_range]
@[simp] theorem loL_length (n t : Nat) (S : List (List (List Nat))) : (loL n t S).length = n := by unfold loL; rw [List.length_map, List.length_range]
@[simp] theorem kiL_length (n k x : Nat) : (kiL n k x).length = n := by unfold kiL; rw [List.length_map, List.length_range]
@[simp] theorem ouL_length (n t k : Nat) (S2 S3 : List (List (List Nat))) (vs : List Nat) : (ouL n t k S2 S3 vs).length = n := by unfold ouL; rw [List.length_map, List.length_range]
structure NetO (N b : Nat) (tb : List (Nat × Box)) (s : Scn) (tp : List Nat) (σ : NetS) : Prop where
 I : NetI N b σ tb
 T : NetT σ
 s : σ.scn = s
 tp : σ.tp = tp
theorem NetI.p0 {N b : Nat} {σ : NetS} {tb : List (Nat × Box)} (I : NetI N b σ tb) : 0 < σ.scn.p := by
 obtain ⟨q, hq⟩ := I.hp
 obtain ⟨hp1, hq1, hq2⟩ := pq_facts hq
 have : 2 ^ 5 ≤ 2 ^ q := Nat.pow_le_pow_right (by omega) hq1
 omega
section
variable {N b n t : Nat} {tb : List (Nat × Box)} {s : Scn} {tp : List Nat} {σ : NetS}
theorem NetO.sent (h : NetO N b tb s tp σ) (hn : s.n = (n : Int)) (L : List (List Nat)) : NetO N b tb s tp (sentE σ n L) ∧ (sentE σ n L).round = σ.round + 1 := by
 obtain ⟨h1, h2, h3, h4⟩ := like_sentS cpW (saidE σ n L) n σ
 exact ⟨⟨h.I.sent _ _ (by rw [h.s, hn]), h.T.sent _, h1.trans h.s, h2.trans h.tp⟩, h4⟩
theorem NetO.said (h : NetO N b tb s tp σ) (hn : s.n = (n : Int)) {L : List (List Nat)} (hL : L.length = n) (hok : LsOk s.p L) : MsOk s.p n (saidE σ n L) := by
 have := h.I.said_ok (n := n) (out := eachL n L) (eachL_ok hL (by rw [h.s]; exact hok))
 rwa [h.s] at this
structure PhO (N b n t : Nat) (tb : List (Nat × Box)) (s : Scn) (tp : List Nat) (a : Ph) : Prop where
 o : NetO N b tb s tp a.σ
 l : a.vs.length = n
 v : ∀ x ∈ a.vs, x < s.p
structure PhF (N b n t k : Nat) (tb : List (Nat × Box)) (s : Scn) (tp : List Nat) (a : Ph) : Prop where
 p0 : 0 < s.p
 A : MsOk s.p n (phA n a)
 o1 : NetO N b tb s tp (phσ1 n a)
 r1 : (phσ1 n a).round = a.σ.round + 1
 L2 : LsOk s.p (prL n t (phA n a))
 B : MsOk s.p n (phB n t a)
 o2 : NetO N b tb s tp (phσ2 n t a)
 r2 : (phσ2 n t a).round = a.σ.round + 2
 V : ∀ x ∈ phV n t a, x < s.p
 L3 : LsOk s.p (kiL n k (vF (phV n t a) k))
 C : MsOk s.p n (phC n t k a)
 o3 : NetO N b tb s tp (phσ3 n t k a)
 r3 : (phσ3 n t k a).round = a.σ.round + 3
 O : ∀ x ∈ phO n t k a, x < s.p
theorem PhO.facts {a : Ph} (h : PhO N b n t tb s tp a) (hn : s.n = (n : Int)) (htn : t < n) (k : Nat) : PhF N b n t k tb s tp a := by
 have p0 : 0 < s.p := by have := h.o.I.p0; rwa [h.o.s] at this
 have A := h.o.said hn (L := one1 a.vs) (by simp [h.l]) (one1_ok h.v)
 obtain ⟨o1, r1⟩ := h.o.sent hn (one1 a.vs)
 have L2 := prL_ok (t := t) p0 htn (sOk_of A)
 have B := o1.said hn (by simp) L2
 obtain ⟨o2, r2⟩ := o1.sent hn (prL n t (phA n a))
 have V : ∀ x ∈ phV n t a, x < s.p := fun x hx => by
  obtain ⟨w, _, rfl⟩ := List.mem_map.1 hx
  exact val2_lt p0 (sOk_of B) (vF_lt p0 h.v) w
 have L3 := kiL_ok (n := n) (k := k) (vF_lt p0 V k)
 have C := o2.said hn (by simp) L3
 obtain ⟨o3, r3⟩ := o2.sent hn (kiL n k (vF (phV n t a) k))
 have q2 : (phσ2 n t a).round = a.σ.round + 2 := by
  have e1 : (phσ1 n a).round = a.σ.round + 1 := r1
  have e2 : (phσ2 n t a).round = (phσ1 n a).round + 1 := r2
  omega
 have q3 : (phσ3 n t k a).round = a.σ.round + 3 := by
  have e3 : (phσ3 n t k a).round = (phσ2 n t a).round + 1 := r3
  omega
 exact ⟨p0, A, o1, r1, L2, B, o2, q2, V, L3, C, o3, q3, fun x hx => by
  obtain ⟨w, _, rfl⟩ := List.mem_map.1 hx
  exact out3_lt p0 (sOk_of B) (sOk_of C) (vF_lt p0 h.v) w⟩
theorem PhO.phase {a : Ph} (h : PhO N b n t tb s tp a) (hn : s.n = (n : Int)) (htn : t < n) (k : Nat) : PhO N b n t tb s tp (phase n t k a) ∧ (Go.Abs.phase n t k a).σ.round = a.σ.round + 3 := by
 have f := h.facts hn htn k
 exact ⟨⟨f.o3, by show (ouL _ _ _ _ _ _).length = n; simp, f.O⟩, f.r3⟩
theorem PhO.phases {a : Ph} (h : PhO N b n t tb s tp a) (hn : s.n = (n : Int)) (htn : t < n) : ∀ k, PhO N b n t tb s tp (phases n t a k) ∧ (Go.Abs.phases n t a k).σ.round = a.σ.round + 3 * k
 | 0 => ⟨h, by simp [Go.Abs.phases]⟩
 | k + 1 => by
   obtain ⟨h1, h2⟩ := PhO.phases h hn htn k
   obtain ⟨h3, h4⟩ := h1.phase hn htn k
   exact ⟨h3, by show (Go.Abs.phase _ _ _ _).σ.round = _; rw [h4, h2]; push_cast; omega⟩
end
def ownR (l : List Nat) : V := .own .nil 0 l.length (uL l)
theorem frz_ownR (b : Bool) (ls : List (List Nat)) : frzL false (frzL b (ls.map ownR)) = rsV (ls.map rz) := by
 induction ls with
 | nil => rfl
 | cons l ls ih =>
   show frz false (frz b (ownR l)) :: frzL false (frzL b (ls.map ownR)) = rV (rz l) :: rsV (ls.map rz)
   rw [ih]
   simp [ownR, frz, rV, rz]
def mix {α : Type} (f g : Nat → α) (n i : Nat) : List α := (List.range n).map fun w => if w < i then f w else g w
section
variable {α β : Type} (f g : Nat → α) (n i : Nat)
@[simp] theorem mix_length : (mix f g n i).length = n := by unfold mix; rw [List.length_map, List.length_range]
theorem mix_zero : mix f g n 0 = (List.range n).map g := by
 unfold mix; exact List.map_congr_left fun w _ => by rw [if_neg (Nat.not_lt_zero w)]
theorem mix_full : mix f g n n = (List.range n).map f := by
 unfold mix; exact List.map_congr_left fun w hw => by rw [if_pos (List.mem_range.1 hw)]
theorem mix_at (w : Nat) (h : w < n) : (mix f g n i)[w]? = some (if w < i then f w else g w) := by
 unfold mix; rw [List.getElem?_map, List.getElem?_range h]; rfl
theorem mix_get (h : i < n) : (mix f g n i)[i]? = some (g i) := by rw [mix_at f g n i i h, if_neg (Nat.lt_irrefl i)]
theorem mix_set (h : i < n) : (mix f g n i).set i (f i) = mix f g n (i + 1) := by
 apply List.ext_getElem?
 intro w
 rw [List.getElem?_set, mix_length]
 by_cases hw : w < n
 ·rw [mix_at f g n (i + 1) w hw, mix_at f g n i w hw]
  by_cases e : i = w
  ·subst e; simp [h]
  ·rw [if_neg e]
   by_cases h2 : w < i
   ·rw [if_pos h2, if_pos (by omega)]
   ·rw [if_neg h2, if_neg (by omega)]
 ·have h1 : (mix f g n (i + 1))[w]? = none := List.getElem?_eq_none (by rw [mix_length]; omega)
  have h2 : (mix f g n i)[w]? = none := List.getElem?_eq_none (by rw [mix_length]; omega)
  rw [if_neg (by omega), h1, h2]
end
theorem mix_set0 {α : Type} (f g : Nat → α) (n i : Nat) (h : i < n) : (mix f g n i).set i (g i) = mix f g n i := by
 apply List.ext_getElem?
 intro w
 rw [List.getElem?_set]
 by_cases e : i = w
 ·subst e; rw [if_pos rfl, mix_length, if_pos h, mix_get _ _ _ _ h]
 ·rw [if_neg e]
theorem ki_set {n j : Nat} (hj : j < n) (x : Nat) : (List.replicate n (V.own .nil 0 0 [])).set j (.own .nil 0 1 [.int .u64 (x : Int)]) = (kiL n j x).map ownR := by
 unfold kiL
 apply List.ext_getElem?
 intro w
 rw [List.getElem?_set, List.length_replicate, List.getElem?_replicate, List.getElem?_map, List.getElem?_map]
 by_cases hw : w < n
 ·rw [List.getElem?_range hw]
  by_cases e : j = w
  ·subst e; simp [hj, ownR, uL]
  ·have e2 : ¬ w = j := fun h => e h.symm
   simp [e, e2, hw, ownR, uL]
 ·have e : ¬ j = w := by omega
  rw [List.getElem?_eq_none (by rw [List.length_range]; omega), if_neg e, if_neg hw]; rfl
theorem map_vF {vs : List Nat} {n : Nat} (h : vs.length = n) : (List.range n).map (vF vs) = vs := by
 apply List.ext_getElem?
 intro w
 rw [List.getElem?_map]
 by_cases hw : w < n
 ·rw [List.getElem?_range hw]
  have hw2 : w < vs.length := by omega
  simp [vF, List.getElem?_eq_getElem hw2]
 ·rw [List.getElem?_eq_none (by rw [List.length_range]; omega), List.getElem?_eq_none (by omega)]; rfl
theorem start9 (n : Nat) : List.replicate n (V.own .nil 0 0 []) = ((List.range n).map fun _ => ([] : List Nat)).map ownR := by
 rw [List.map_map]
 have : (ownR ∘ fun _ : Nat => ([] : List Nat)) = fun _ => V.own .nil 0 0 [] := rfl
 rw [this]
 apply List.ext_getElem?
 intro i
 rw [List.getElem?_map, List.getElem?_replicate]
 by_cases h : i < n
 ·rw [if_pos h, List.getElem?_range h]; rfl
 ·rw [if_neg h, List.getElem?_eq_none (by rw [List.length_range]; omega)]; rfl
theorem map_lsF {ls : List Bool} {n : Nat} (h : ls.length = n) : (List.range n).map (fun w => (ls[w]?).getD false) = ls := by
 apply List.ext_getElem?
 intro w
 rw [List.getElem?_map]
 by_cases hw : w < n
 ·rw [List.getElem?_range hw]
  have hw2 : w < ls.length := by omega
  simp [List.getElem?_eq_getElem hw2]
 ·rw [List.getElem?_eq_none (by rw [List.length_range]; omega), List.getElem?_eq_none (by omega)]; rfl
theorem uL_vF {vs : List Nat} {i : Nat} (h : i < vs.length) : (uL vs)[i]? = some (.int .u64 (vF vs i : Int)) := by
 unfold uL vF; rw [List.getElem?_map, List.getElem?_eq_getElem h]; rfl
theorem frz1_ownR (ls : List (List Nat)) : frzL false (ls.map ownR) = rsV (ls.map rz) := by
 induction ls with
 | nil => rfl
 | cons l ls ih =>
   show frz false (ownR l) :: frzL false (ls.map ownR) = rV (rz l) :: rsV (ls.map rz)
   rw [ih]
   simp [ownR, frz, rV, rz]
theorem one1_map {vs : List Nat} {n : Nat} (h : vs.length = n) : (List.range n).map (fun w => [vF vs w]) = one1 vs := by
 unfold one1
 conv => rhs; rw [← map_vF h]
 rw [List.map_map]; rfl
section
variable {N b g nx k n : Nat} {σ : NetS} {tb O1 O2 : List (Nat × Box)} {bx : Box}
theorem call47 (I : NetI N b σ tb) (T : NetT σ) (hTb : ∀ e ∈ tb, noBorL e.2.cs = true) (hr : σ.round < 1000) (hn : σ.scn.n = (n : Int)) {L : List (List Nat)} (hL : L.length = n) (hok : LsOk σ.scn.p L) (hO : O1 ++ O2 = [(nx, bx)]) (h : ∀ e ∈ (b, (⟨g, netC σ⟩ : Box)) :: tb, e.1 < nx) (hk : max N 100 + 2 ≤ k) (s : Nat → V) (dst : Option Nat) :
 doCallL H14 (evCall Tryd.prog H14 k) 47 true [.bptr b 0, .im false none 0 n (rsV (L.map rz))] ⟨s, O1 ++ ((b, ⟨g, netC σ⟩) :: tb) ++ O2, nx + 1⟩ dst = some ((St.mk (fun i => killB (b :: σ.tp) (nx + 1) (s i)) ([(nx, bx)] ++ ((b, ⟨g, netC (sentE σ n L)⟩) :: tb)) (nx + 1)).lay dst (inV (saidE σ n L) n)) := by
 have e := each47 (g := g) I hr false none 0 (L.map rz) (by rw [List.length_map, hL, hn]) (by rw [rz_l]; exact hok)
 rw [rz_l, List.length_map, hL] at e
 have hm : ∀ t ∈ b :: σ.tp, t < nx := fun t ht => by
  rcases List.mem_cons.1 ht with rfl | ht
  ·exact h _ List.mem_cons_self
  ·obtain ⟨e, he, rfl⟩ := List.mem_map.1 (I.hT.ids.mem_iff.2 ht)
   exact h e (List.mem_cons_of_mem _ he)
 have hd : ∀ e ∈ O1 ++ O2, e.1 ∉ b :: σ.tp := fun e he hc => by
  rw [hO, List.mem_singleton] at he
  subst he
  exact Nat.lt_irrefl _ (hm _ hc)
 have hpr : ptrsL (rsV (L.map rz)) = [] := by
  induction L with
  | nil => rfl
  | cons l L ih =>
    show ptrs (rV (rz l)) ++ ptrsL (rsV (L.map rz)) = []
    have : ∀ L : List (List Nat), ptrsL (rsV (L.map rz)) = [] := by
     intro L
     induction L with
     | nil => rfl
     | cons l L ih =>
       show ptrs (rV (rz l)) ++ ptrsL (rsV (L.map rz)) = []
       rw [ih]; simp [rV, rz, ptrs, nil_uL]
    rw [this]; simp [rV, rz, ptrs, nil_uL]
 have c := netCallL (σ' := sentE σ n L) (O1 := O1) (O2 := O2) (k := k) I.hT I.hl hd (like_sentS _ _ _ _).2.1 e hk (by simp [ptrsL, ptrs, hpr]) rfl (nx := nx + 1) (fun e he => Nat.lt_succ_of_lt (h e he)) (noBor_inV _ _) (T.sent _).noBor hTb s dst
 rw [hO] at c
 exact c
end
theorem callXr {H : Hint} {C : Callee} {f : Nat} {xs : List V} {r : V} (hX : H.X f xs = some r) (D : St) (dst : Option Nat) : doCallB H C f false xs D dst = some (D.lay dst r) := by
 unfold doCallB; rw [hX]; rfl
theorem most_call {S : List (List (List Nat))} {p n w m : Nat} (hp : p ≤ 18446744073709551616) (hs : SOk p S) (hp0 : 0 < p) (h13 : n ≤ 13) (bb : Bool) (C : Callee) (D : St) (dst : Option Nat) :
 doCallB H14 C 48 false [.im false none 0 n (frzL false (frzL bb ((colS S w n).map cpV))), .int .i64 (m : Int)] D dst = some (D.lay dst (.tup [.int .u64 ((mostP n (hS S w) m).1 : Int), .int .i64 ((mostP n (hS S w) m).2 : Int)])) := by
 refine callXr ?_ D dst
 rw [frz_cpV]
 exact mostX_row (fun l hl y hy => by
  unfold colS at hl
  obtain ⟨f, _, rfl⟩ := List.mem_map.1 hl
  have := hS_ok hp0 hs w f y hy
  omega) (by omega) m
theorem prop1_most {n t : Nat} (htn : t < n) (hh : Nat → Nat → List Nat) (w : Nat) : prop1 n t hh w = if 0 < (mostP n (hh w) (n - t)).2 then [(mostP n (hh w) (n - t)).1] else [] := by
 unfold prop1 mostP
 cases e : leastS n (hh w) (n - t) with
 | none => simp
 | some x =>
   have := (leastS_some (by omega)).1 e
   have h0 : 0 < votes n (hh w) x := by omega
   simp [h0]
theorem val2_most (n t : Nat) (v : Nat → Nat) (hh : Nat → Nat → List Nat) (w : Nat) : val2 n t v hh w = if 0 < (mostP n (hh w) (t + 1)).2 then (mostP n (hh w) (t + 1)).1 else v w := by
 unfold val2 mostP
 cases e : leastS n (hh w) (t + 1) with
 | none => simp
 | some x =>
   have := (leastS_some (by omega)).1 e
   have h0 : 0 < votes n (hh w) x := by omega
   simp [h0]
theorem lock2_most {n t : Nat} (htn : t < n) (hh : Nat → Nat → List Nat) (w : Nat) : lock2 n t hh w = decide (0 < (mostP n (hh w) (n - t)).2) := by
 unfold lock2 mostP
 cases e : leastS n (hh w) (n - t) with
 | none => simp
 | some x =>
   have := (leastS_some (by omega)).1 e
   have h0 : 0 < votes n (hh w) x := by omega
   simp [h0]
theorem agree22 {N b g : Nat} {σ : NetS} {tb : List (Nat × Box)} (I : NetI N b σ tb) (T : NetT σ) (hTb : ∀ e ∈ tb, noBorL e.2.cs = true) (pm : Bool) (A : Option Addr) (cap : Nat) (vs : List Nat) (n t : Nat) (hl : vs.length = n) (hn : σ.scn.n = (n : Int)) (ht : σ.scn.t = (t : Int)) (htn : t < n) (hvs : ∀ x ∈ vs, x < σ.scn.p) (hr : σ.round + 3 * (t + 1) < 1000) :
 AnsM (max N 100 + 3) Tryd.prog H14 22 [.bptr b 0, .im pm A cap n (uL vs)] ((b, ⟨g, netC σ⟩) :: tb) (.own .nil 0 n (uL (phases n t ⟨σ, vs⟩ (t + 1)).vs)) ((b, ⟨g, netC (phases n t ⟨σ, vs⟩ (t + 1)).σ⟩) :: tb) := by
 have h13 : n ≤ 13 := by have := I.h13; omega
 have hP0 : PhO N b n t tb σ.scn σ.tp ⟨σ, vs⟩ := ⟨⟨I, T, rfl, rfl⟩, hl, hvs⟩
 refine AnsM.gen (fn := Tryd.f22) (by rfl) Tryd.func22 rfl (by rfl) (fun nx h c hc => ?_) fun k hk nx h => ?_
 ·simp only [ptrs, nil_uL, List.nil_append] at hc
  exact net_ptrs (σ := (phases n t ⟨σ, vs⟩ (t + 1)).σ) (hP0.phases hn htn (t + 1)).1.o.I.hT (fun e he => by
   rcases List.mem_cons.1 he with rfl | he
   ·exact h (b, ⟨g, netC σ⟩) List.mem_cons_self
   ·exact h _ (List.mem_cons_of_mem _ he)) hc
 obtain ⟨hb, hfl⟩ := net_filt h
 have c46 := fun s dst => netCall0 (s := s) (dst := dst) (g := g) I.hT I.hl rfl (scen29 b g σ tb I.hT) (k := k) (by omega) (by simp [ptrsL, ptrs]) rfl h
 obtain ⟨M, hM⟩ : ∃ M, (b, (⟨g, netC σ⟩ : Box)) :: tb = M := ⟨_, rfl⟩
 rw [hM] at c46 ⊢
 have b1 : (n : Int) ≤ 140737488355328 := by omega
 have b2 : (n : Int) * 24 ≤ 140737488355328 := by omega
 have b3 : n * 8 ≤ 140737488355328 := by omega
 have hn0 : ¬ n = 0 := by omega
 have hz : ¬ (n = 0 ∧ 0 < n) := by omega
 have b5 : n ≤ 140737488355328 := by omega
 simp only [scV, scL, hn, ht] at c46
 have hMl : ∀ e ∈ M, e.1 ≠ nx := by
  rw [← hM]; intro e he
  have := h e he
  omega
 have hg1 : ∀ c, getBox (M ++ [(nx, c)]) nx = some c := fun c => by rw [getBox_skip hMl]; simp [getBox]
 have hs1 : ∀ c c', setBox (M ++ [(nx, c)]) nx c' = M ++ [(nx, c')] := fun c c' => by rw [setBox_skip hMl]; simp [setBox]
 simp [-reach, -doCall, doCall_eq, entryS, c46, b1, b2, b3, hg1, hs1, hl, rep_rep, hn0, b5]
 obtain ⟨bx, hbx⟩ : ∃ bx : Box, (⟨0, [V.int .u64 (σ.scn.p : Int), V.int .i64 (n : Int), V.int .i64 (t : Int)]⟩ : Box) = bx := ⟨_, rfl⟩
 rw [hbx]
 have hnet : ∀ τ : NetS, ∀ e ∈ (b, (⟨g, netC τ⟩ : Box)) :: tb, e.1 < nx := fun τ e he => by
  rcases List.mem_cons.1 he with rfl | he
  ·exact hb
  ·exact h _ (List.mem_cons_of_mem _ he)
 have hget : ∀ (τ : NetS) (O1 O2 : List (Nat × Box)), O1 ++ O2 = [(nx, bx)] → getBox (O1 ++ ((b, ⟨g, netC τ⟩) :: tb) ++ O2) nx = some bx := fun τ O1 O2 hO => by
  have hM : ∀ e ∈ (b, (⟨g, netC τ⟩ : Box)) :: tb, e.1 ≠ nx := fun e he => by have := hnet τ e he; omega
  rcases O1 with _ | ⟨e, O1⟩
  ·rw [List.nil_append] at hO
   rw [hO, List.nil_append, getBox_skip hM]; simp [getBox]
  ·have : e = (nx, bx) := by simpa using congrArg List.head? hO
   subst this
   simp [getBox]
 have hfil : ∀ (τ : NetS) (O1 O2 : List (Nat × Box)), O1 ++ O2 = [(nx, bx)] → (O1 ++ ((b, (⟨g, netC τ⟩ : Box)) :: tb) ++ O2).filter (fun e => decide (e.1 < nx)) = (b, ⟨g, netC τ⟩) :: tb := fun τ O1 O2 hO => by
  have hM := filt_lt (hnet τ)
  rcases O1 with _ | ⟨e, O1⟩
  ·rw [List.nil_append] at hO
   rw [hO, List.nil_append, List.filter_append, hM]; simp
  ·have h1 : e = (nx, bx) := by simpa using congrArg List.head? hO
   have h2 : O1 ++ O2 = [] := by simpa using congrArg List.tail hO
   obtain ⟨rfl, rfl⟩ := List.append_eq_nil_iff.1 h2
   subst h1
   rw [List.append_nil, List.filter_append, hM]; simp
 have hw33 : IntKind.i64.wrap ((t : Int) + 1) = ((t + 1 : Nat) : Int) := wrap_succ (q := t) (by omega)
 obtain ⟨U, hU⟩ : ∃ U : Nat → St → Prop, U = fun q D => ∃ (j : Nat) (a : Ph) (ls : List Bool) (O1 O2 : List (Nat × Box)), q = t + 1 - j ∧ j ≤ t + 1 ∧ a = phases n t ⟨σ, vs⟩ j ∧ ls.length = n ∧ O1 ++ O2 = [(nx, bx)] ∧ D.s 0 = .bptr b 0 ∧ D.s 5 = .bptr nx 0 ∧ D.s 6 = .own .nil 0 n (uL a.vs) ∧ D.s 7 = .own .nil 0 n (ls.map .bool) ∧ D.s 33 = .int .i64 ((t + 1 : Nat) : Int) ∧ D.s 34 = .int .i64 (j : Int) ∧ D.m = O1 ++ ((b, ⟨g, netC a.σ⟩) :: tb) ++ O2 ∧ D.nx = nx + 1 := ⟨_, rfl⟩
 refine EvP.loop U (n := t + 1) (by rw [hU]; exact ⟨0, _, List.replicate n false, [], [(nx, bx)], by simp, by simp, rfl, by simp, rfl, by simp [phases, hM, hw33, Int.natCast_succ]⟩) (by omega) fun q D hD => ?_
 rw [hU] at hD
 obtain ⟨j, a, ls, O1, O2, rfl, hj, ha, hls, hO, d0, d5, d6, d7, d33, d34, dm, dx⟩ := hD
 obtain ⟨hPa, hra⟩ := hP0.phases hn htn j
 rw [← ha] at hPa hra
 have gb0 := hget a.σ O1 O2 hO
 rw [← dm] at gb0
 by_cases hjt : j < t + 1
 ·have F := hPa.facts hn htn j
  have e3 := wrap_succ (q := j) (by omega)
  obtain ⟨MM, hMM⟩ : ∃ MM, D.m = MM := ⟨_, rfl⟩
  rw [hMM] at dm gb0
  have hbc : bx.cs = [V.int .u64 (σ.scn.p : Int), V.int .i64 (n : Int), V.int .i64 (t : Int)] := by rw [← hbx]
  have hjt' : (j : Int) < (t : Int) + 1 := by omega
  simp [-reach, hjt', hn, hz, d0, d5, d6, d7, d33, d34, hMM, dx, hjt, gb0, hbc, b1, b2, b5, rep_rep]
  obtain ⟨Bs, hBs⟩ : ∃ Bs : St → Prop, Bs = fun D => D.s 0 = .bptr b 0 ∧ D.s 5 = .bptr nx 0 ∧ D.s 6 = .own .nil 0 n (uL a.vs) ∧ D.s 7 = .own .nil 0 n (ls.map .bool) ∧ D.s 8 = .int .i64 (j : Int) ∧ D.s 33 = .int .i64 ((t + 1 : Nat) : Int) ∧ D.s 34 = .int .i64 (j : Int) ∧ D.m = MM ∧ D.nx = nx + 1 := ⟨_, rfl⟩
  obtain ⟨J, hJ⟩ : ∃ J : Nat → St → Prop, J = fun q D => ∃ (i : Nat) (CS : List V), q = n - i ∧ i ≤ n ∧ CS = (mix (fun w => [vF a.vs w]) (fun _ => []) n i).map ownR ∧ Bs D ∧ D.s 9 = .own .nil 0 n CS ∧ D.s 40 = .ref (.slot 6) [] ∧ D.s 41 = .int .i64 (n : Int) ∧ D.s 42 = .int .i64 (i : Int) := ⟨_, rfl⟩
  refine EvP.loop J (n := n) (by rw [hJ]; exact ⟨0, List.replicate n (V.own .nil 0 0 []), by omega, by omega, by rw [mix_zero]; exact start9 n, by simp [hBs, d0, d5, d6, d7, d33, d34, hMM, dx], by simp, by simp, by simp, by simp⟩) (by omega) fun q D hD => ?_
  rw [hJ] at hD
  obtain ⟨i, CS, rfl, hi, hCS, hB, d9, d40, d41, d42⟩ := hD
  rw [hBs] at hB
  obtain ⟨d0, d5, d6, d7, d8, d33, d34, dm', dx⟩ := hB
  have hCl : CS.length = n := by rw [hCS]; simp
  by_cases hil : i < n
  ·have e4 := wrap_succ (q := i) (by omega)
   have hiC : i < CS.length := by omega
   have hiv : i < a.vs.length := by rw [hPa.l]; exact hil
   have hv1 : (uL a.vs)[i]? = some (.int .u64 (vF a.vs i : Int)) := uL_vF hiv
   have hvl := hPa.l
   simp [-reach, d0, d5, d6, d7, d8, d9, d33, d34, d40, d41, d42, dm', dx, hil, hiC, hCl, hv1, e4, hvl]
   have hvi : vF a.vs i = a.vs[i] := by simp [vF, List.getElem?_eq_getElem hiv]
   subst hJ
   refine ⟨n - (i + 1), by omega, i + 1, CS.set i (ownR [vF a.vs i]), rfl, by omega, by rw [← mix_set _ _ _ _ hil, List.map_set, hCS], by simp [hBs, d0, d5, d6, d7, d8, d33, d34], ?_, by simp [d40], by simp [d41], by simp⟩
   rw [hvi]
   simp [ownR, uL]
  ·have hin : i = n := by omega
   rw [hin] at hCS
   rw [mix_full, one1_map hPa.l] at hCS
   have hfz : frzL false CS = rsV ((one1 a.vs).map rz) := by rw [hCS, frz1_ownR]
   obtain ⟨M1, hM1⟩ : ∃ M1, [(nx, bx)] ++ ((b, (⟨g, netC (phσ1 n a)⟩ : Box)) :: tb) = M1 := ⟨_, rfl⟩
   have c1 : ∀ (s : Nat → V) (dst : Option Nat), doCallL H14 (evCall Tryd.prog H14 k) 47 true [.bptr b 0, .im false none 0 n (rsV ((one1 a.vs).map rz))] ⟨s, MM, nx + 1⟩ dst = some ((St.mk (fun i => killB (b :: a.σ.tp) (nx + 1) (s i)) M1 (nx + 1)).lay dst (.own .nil 0 n (rowsC (outL (phA n a) n n)))) := fun s dst => by
    rw [dm, ← hM1]
    exact call47 (L := one1 a.vs) hPa.o.I hPa.o.T hTb (by rw [hra]; show σ.round + 3 * (j : Int) < 1000; omega) (by rw [hPa.o.s, hn]) (by simp [hPa.l]) (by rw [hPa.o.s]; exact one1_ok hPa.v) hO (hnet a.σ) (by omega) s dst
   simp [-reach, -doCall, doCall_eq, d0, d5, d6, d7, d8, d9, d33, d34, d40, d41, d42, dm', dx, hil, hfz, c1]
   have hmt : IntKind.i64.wrap ((n : Int) - (t : Int)) = ((n - t : Nat) : Int) := by
    rw [show (n : Int) - (t : Int) = ((n - t : Nat) : Int) by omega]
    exact wrap_nat (by omega) (by omega)
   have gb1 := hget (phσ1 n a) [(nx, bx)] [] rfl
   rw [List.append_nil, hM1] at gb1
   have hp64 : σ.scn.p ≤ 18446744073709551616 := by
    obtain ⟨q, hq⟩ := I.hp
    obtain ⟨h1, h2, h3⟩ := pq_facts hq
    have h4 : 2 ^ q ≤ 2 ^ 61 := Nat.pow_le_pow_right (by omega) h3
    have h5 : (2 : Nat) ^ 61 ≤ 18446744073709551616 := by decide
    omega
   have p48 : ∀ w bb, ptrsL (frzL false (frzL bb ((colS (phA n a) w n).map cpV))) = [] := fun w bb => by rw [frz_cpV]; exact ptrsL_rsV _
   have c48 := fun (w : Nat) bb C D dst => most_call (w := w) (m := n - t) hp64 (sOk_of F.A) F.p0 h13 bb C D dst
   obtain ⟨Bs2, hBs2⟩ : ∃ Bs : St → Prop, Bs = fun D => D.s 0 = .bptr b 0 ∧ D.s 5 = .bptr nx 0 ∧ D.s 6 = .own .nil 0 n (uL a.vs) ∧ D.s 7 = .own .nil 0 n (ls.map .bool) ∧ D.s 8 = .int .i64 (j : Int) ∧ D.s 33 = .int .i64 ((t + 1 : Nat) : Int) ∧ D.s 34 = .int .i64 (j : Int) ∧ D.m = M1 ∧ D.nx = nx + 1 := ⟨_, rfl⟩
   obtain ⟨J2, hJ2⟩ : ∃ J : Nat → St → Prop, J = fun q D => ∃ (i : Nat) (CS RS : List V), q = n - i ∧ i ≤ n ∧ CS = (mix (prop1 n t (hS (phA n a))) (fun w => [vF a.vs w]) n i).map ownR ∧ RS.length = n ∧ (∀ w, i ≤ w → w < n → RS[w]? = some (.own .nil 0 n ((colS (phA n a) w n).map cpV))) ∧ Bs2 D ∧ D.s 9 = .own .nil 0 n CS ∧ D.s 12 = .own .nil 0 n RS ∧ D.s 57 = .int .i64 (n : Int) ∧ D.s 58 = .int .i64 (i : Int) := ⟨_, rfl⟩
   refine EvP.loop J2 (n := n) (by rw [hJ2]; exact ⟨0, CS, rowsC (outL (phA n a) n n), by omega, by omega, by rw [mix_zero, one1_map hPa.l, hCS], by simp, fun w _ hw => by rw [rowsC_get (outL_get _ _ _ _ hw), if_pos hw, colS_length], by simp [hBs2, d0, d5, d6, d7, d8, d33, d34], by simp [d9], by simp, by simp, by simp⟩) (by omega) fun q D hD => ?_
   rw [hJ2] at hD
   obtain ⟨i, CS, RS, rfl, hi, hCS, hRl, hR, hB, d9, d12, d57, d58⟩ := hD
   rw [hBs2] at hB
   obtain ⟨d0, d5, d6, d7, d8, d33, d34, dm1, dx⟩ := hB
   have hCl : CS.length = n := by rw [hCS]; simp
   by_cases hil : i < n
   ·have e4 := wrap_succ (q := i) (by omega)
    have hiC : i < CS.length := by omega
    have hiR : i < RS.length := by omega
    have hRi := hR i (Nat.le_refl i) hil
    have hRe : RS[i] = .own .nil 0 n ((colS (phA n a) i n).map cpV) := by
     have := List.getElem?_eq_getElem hiR
     rw [hRi] at this
     exact (Option.some.inj this).symm
    simp [-reach, -doCall, doCall_eq, d0, d5, d6, d7, d8, d9, d12, d33, d34, d57, d58, dm1, dx, hil, hiC, hCl, hRl, hRi, hRe, hiR, e4, gb1, hbc, hmt, c48, p48]
    have hpm := prop1_most htn (hS (phA n a)) i
    subst hJ2
    by_cases hc : 0 < (mostP n (hS (phA n a) i) (n - t)).2
    ·rw [if_pos hc] at hpm ⊢
     exact ⟨n - (i + 1), by omega, i + 1, CS.set i (ownR (prop1 n t (hS (phA n a)) i)), RS.set i (V.im (noBorL ((colS (phA n a) i n).map cpV)) none 0 n (frzL (noBorL ((colS (phA n a) i n).map cpV)) ((colS (phA n a) i n).map cpV))), rfl, by omega, by rw [← mix_set _ _ _ _ hil, List.map_set, hCS], by simp [hRl], fun w hw hwn => by rw [List.getElem?_set_ne (by omega)]; exact hR w (by omega) hwn, by simp [hBs2, d0, d5, d6, d7, d8, d33, d34], by simp [hpm, ownR, uL], by simp, by simp [d57], by simp⟩
    ·rw [if_neg hc] at hpm ⊢
     exact ⟨n - (i + 1), by omega, i + 1, CS.set i (ownR (prop1 n t (hS (phA n a)) i)), RS.set i (V.im (noBorL ((colS (phA n a) i n).map cpV)) none 0 n (frzL (noBorL ((colS (phA n a) i n).map cpV)) ((colS (phA n a) i n).map cpV))), rfl, by omega, by rw [← mix_set _ _ _ _ hil, List.map_set, hCS], by simp [hRl], fun w hw hwn => by rw [List.getElem?_set_ne (by omega)]; exact hR w (by omega) hwn, by simp [hBs2, d0, d5, d6, d7, d8, d33, d34], by simp [hpm, ownR, uL], by simp, by simp [d57], by simp⟩
   ·have hin : i = n := by omega
    rw [hin] at hCS
    rw [mix_full] at hCS
    have hfz2 : frzL false CS = rsV ((prL n t (phA n a)).map rz) := by rw [hCS]; exact frz1_ownR (prL n t (phA n a))
    obtain ⟨M2, hM2⟩ : ∃ M2, [(nx, bx)] ++ ((b, (⟨g, netC (phσ2 n t a)⟩ : Box)) :: tb) = M2 := ⟨_, rfl⟩
    have c2 : ∀ (s : Nat → V) (dst : Option Nat), doCallL H14 (evCall Tryd.prog H14 k) 47 true [.bptr b 0, .im false none 0 n (rsV ((prL n t (phA n a)).map rz))] ⟨s, M1, nx + 1⟩ dst = some ((St.mk (fun i => killB (b :: (phσ1 n a).tp) (nx + 1) (s i)) M2 (nx + 1)).lay dst (.own .nil 0 n (rowsC (outL (phB n t a) n n)))) := fun s dst => by
     rw [← hM1, ← hM2]
     have := call47 (g := g) (k := k) (bx := bx) (nx := nx) (O1 := [(nx, bx)]) (O2 := []) (L := prL n t (phA n a)) F.o1.I F.o1.T hTb (by rw [F.r1, hra]; show σ.round + 3 * (j : Int) + 1 < 1000; omega) (by rw [F.o1.s, hn]) (by simp) (by rw [F.o1.s]; exact F.L2) rfl (hnet _) (by omega) s dst
     rw [List.append_nil] at this
     exact this
    have gb2 := hget (phσ2 n t a) [(nx, bx)] [] rfl
    rw [List.append_nil, hM2] at gb2
    simp [-reach, -doCall, doCall_eq, d0, d5, d6, d7, d8, d9, d12, d33, d34, d57, d58, dm1, dx, hil, hfz2, c2]
    have p48b : ∀ w bb, ptrsL (frzL false (frzL bb ((colS (phB n t a) w n).map cpV))) = [] := fun w bb => by rw [frz_cpV]; exact ptrsL_rsV _
    have c48a := fun (w : Nat) bb C D dst => most_call (w := w) (m := t + 1) hp64 (sOk_of F.B) F.p0 h13 bb C D dst
    have c48b := fun (w : Nat) bb C D dst => most_call (w := w) (m := n - t) hp64 (sOk_of F.B) F.p0 h13 bb C D dst
    obtain ⟨Bs3, hBs3⟩ : ∃ Bs : St → Prop, Bs = fun D => D.s 0 = .bptr b 0 ∧ D.s 5 = .bptr nx 0 ∧ D.s 8 = .int .i64 (j : Int) ∧ D.s 33 = .int .i64 ((t + 1 : Nat) : Int) ∧ D.s 34 = .int .i64 (j : Int) ∧ D.m = M2 ∧ D.nx = nx + 1 := ⟨_, rfl⟩
    obtain ⟨J3, hJ3⟩ : ∃ J : Nat → St → Prop, J = fun q D => ∃ (i : Nat) (VS BS RS : List V), q = n - i ∧ i ≤ n ∧ VS = uL (mix (val2 n t (vF a.vs) (hS (phB n t a))) (vF a.vs) n i) ∧ BS = (mix (lock2 n t (hS (phB n t a))) (fun w => (ls[w]?).getD false) n i).map V.bool ∧ RS.length = n ∧ (∀ w, i ≤ w → w < n → RS[w]? = some (.own .nil 0 n ((colS (phB n t a) w n).map cpV))) ∧ Bs3 D ∧ D.s 6 = .own .nil 0 n VS ∧ D.s 7 = .own .nil 0 n BS ∧ D.s 12 = .own .nil 0 n RS ∧ D.s 89 = .int .i64 (n : Int) ∧ D.s 90 = .int .i64 (i : Int) := ⟨_, rfl⟩
    refine EvP.loop J3 (n := n) (by rw [hJ3]; exact ⟨0, uL a.vs, ls.map V.bool, rowsC (outL (phB n t a) n n), by omega, by omega, by rw [mix_zero, map_vF hPa.l], by rw [mix_zero, map_lsF hls], by simp, fun w _ hw => by rw [rowsC_get (outL_get _ _ _ _ hw), if_pos hw, colS_length], by simp [hBs3, d0, d5, d8, d33, d34], by simp [d6], by simp [d7], by simp, by simp, by simp⟩) (by omega) fun q D hD => ?_
    rw [hJ3] at hD
    obtain ⟨i, VS, BS, RS, rfl, hi, hVS, hBS, hRl, hR, hB, d6, d7, d12, d89, d90⟩ := hD
    rw [hBs3] at hB
    obtain ⟨d0, d5, d8, d33, d34, dm2, dx⟩ := hB
    have hVl : VS.length = n := by rw [hVS]; simp
    have hBl : BS.length = n := by rw [hBS]; simp
    by_cases hil : i < n
    ·have e4 := wrap_succ (q := i) (by omega)
     have hiV : i < VS.length := by omega
     have hiB : i < BS.length := by omega
     have hiR : i < RS.length := by omega
     have hRi := hR i (Nat.le_refl i) hil
     have hRe : RS[i] = .own .nil 0 n ((colS (phB n t a) i n).map cpV) := by
      have := List.getElem?_eq_getElem hiR
      rw [hRi] at this
      exact (Option.some.inj this).symm
     have c48a := c48a i
     have c48b := c48b i
     simp only [Int.natCast_succ] at c48a
     simp [-reach, -doCall, doCall_eq, d0, d5, d6, d7, d8, d12, d33, d34, d89, d90, dm2, dx, hil, hiV, hiB, hVl, hBl, hRl, hRi, hRe, hiR, e4, gb2, hbc, hmt, hw33, c48a, c48b, p48b]
     have hva := val2_most n t (vF a.vs) (hS (phB n t a)) i
     have hlo := lock2_most htn (hS (phB n t a)) i
     have hVi : VS.set i (.int .u64 (vF a.vs i : Int)) = VS := by
      rw [hVS, uL_set, mix_set0 _ _ _ _ hil]
     subst hJ3
     by_cases hc : 0 < (mostP n (hS (phB n t a) i) (t + 1)).2
     ·rw [if_pos hc] at hva ⊢
      exact ⟨n - (i + 1), by omega, i + 1, VS.set i (.int .u64 (val2 n t (vF a.vs) (hS (phB n t a)) i : Nat)), BS.set i (.bool (lock2 n t (hS (phB n t a)) i)), RS.set i (V.im (noBorL ((colS (phB n t a) i n).map cpV)) none 0 n (frzL (noBorL ((colS (phB n t a) i n).map cpV)) ((colS (phB n t a) i n).map cpV))), rfl, by omega, by rw [← mix_set _ _ _ _ hil, ← uL_set, hVS], by rw [← mix_set _ _ _ _ hil, List.map_set, hBS], by simp [hRl], fun w hw hwn => by rw [List.getElem?_set_ne (by omega)]; exact hR w (by omega) hwn, by simp [hBs3, d0, d5, d8, d33, d34], by simp [hva], by simp [hlo], by simp, by simp [d89], by simp⟩
     ·rw [if_neg hc] at hva ⊢
      exact ⟨n - (i + 1), by omega, i + 1, VS.set i (.int .u64 (val2 n t (vF a.vs) (hS (phB n t a)) i : Nat)), BS.set i (.bool (lock2 n t (hS (phB n t a)) i)), RS.set i (V.im (noBorL ((colS (phB n t a) i n).map cpV)) none 0 n (frzL (noBorL ((colS (phB n t a) i n).map cpV)) ((colS (phB n t a) i n).map cpV))), rfl, by omega, by rw [← mix_set _ _ _ _ hil, ← uL_set, hVS], by rw [← mix_set _ _ _ _ hil, List.map_set, hBS], by simp [hRl], fun w hw hwn => by rw [List.getElem?_set_ne (by omega)]; exact hR w (by omega) hwn, by simp [hBs3, d0, d5, d8, d33, d34], by simp [hva, hVi, d6], by simp [hlo], by simp, by simp [d89], by simp⟩
    ·have hin : i = n := by omega
     rw [hin] at hVS hBS
     rw [mix_full] at hVS hBS
     have hjn : j < n := by omega
     have hVj : VS[j]? = some (.int .u64 (vF (phV n t a) j : Int)) := by
      rw [hVS]; exact uL_vF (by rw [List.length_map, List.length_range]; exact hjn)
     have hjV : j < VS.length := by omega
     have hVe : VS[j] = .int .u64 (vF (phV n t a) j : Int) := by
      have := List.getElem?_eq_getElem hjV
      rw [hVj] at this
      exact (Option.some.inj this).symm
     have hki : (List.replicate n (V.own .nil 0 0 [])).set j (.own .nil 0 1 [.int .u64 (vF (phV n t a) j : Int)]) = (kiL n j (vF (phV n t a) j)).map ownR := ki_set hjn _
     have hfz3 : frzL false ((List.replicate n (V.own .nil 0 0 [])).set j (.own .nil 0 1 [.int .u64 (vF (phV n t a) j : Int)])) = rsV ((kiL n j (vF (phV n t a) j)).map rz) := by rw [hki]; exact frz1_ownR _
     obtain ⟨M3, hM3⟩ : ∃ M3, [(nx, bx)] ++ ((b, (⟨g, netC (phσ3 n t j a)⟩ : Box)) :: tb) = M3 := ⟨_, rfl⟩
     have c3 : ∀ (s : Nat → V) (dst : Option Nat), doCallL H14 (evCall Tryd.prog H14 k) 47 true [.bptr b 0, .im false none 0 n (rsV ((kiL n j (vF (phV n t a) j)).map rz))] ⟨s, M2, nx + 1⟩ dst = some ((St.mk (fun i => killB (b :: (phσ2 n t a).tp) (nx + 1) (s i)) M3 (nx + 1)).lay dst (.own .nil 0 n (rowsC (outL (phC n t j a) n n)))) := fun s dst => by
      rw [← hM2, ← hM3]
      have := call47 (g := g) (k := k) (bx := bx) (nx := nx) (O1 := [(nx, bx)]) (O2 := []) (L := kiL n j (vF (phV n t a) j)) F.o2.I F.o2.T hTb (by rw [F.r2, hra]; show σ.round + 3 * (j : Int) + 2 < 1000; omega) (by rw [F.o2.s, hn]) (by simp) (by rw [F.o2.s]; exact F.L3) rfl (hnet _) (by omega) s dst
      rw [List.append_nil] at this
      exact this
     have gb3 := hget (phσ3 n t j a) [(nx, bx)] [] rfl
     rw [List.append_nil, hM3] at gb3
     simp [-reach, -doCall, doCall_eq, d0, d5, d6, d7, d8, d12, d33, d34, d89, d90, dm2, dx, hil, hVj, hVe, hjV, hVl, hjn, gb2, hbc, hz, b1, b2, b5, rep_rep, hfz3, c3]
     obtain ⟨Bs4, hBs4⟩ : ∃ Bs : St → Prop, Bs = fun D => D.s 0 = .bptr b 0 ∧ D.s 5 = .bptr nx 0 ∧ D.s 7 = .own .nil 0 n ((loL n t (phB n t a)).map .bool) ∧ D.s 8 = .int .i64 (j : Int) ∧ D.s 33 = .int .i64 ((t + 1 : Nat) : Int) ∧ D.s 34 = .int .i64 (j : Int) ∧ D.m = M3 ∧ D.nx = nx + 1 := ⟨_, rfl⟩
     obtain ⟨J4, hJ4⟩ : ∃ J : Nat → St → Prop, J = fun q D => ∃ (i : Nat) (VS RS : List V), q = n - i ∧ i ≤ n ∧ VS = uL (mix (out3 n t j (vF a.vs) (hS (phB n t a)) (hS (phC n t j a))) (val2 n t (vF a.vs) (hS (phB n t a))) n i) ∧ RS.length = n ∧ (∀ w, i ≤ w → w < n → RS[w]? = some (.own .nil 0 n ((colS (phC n t j a) w n).map cpV))) ∧ Bs4 D ∧ D.s 6 = .own .nil 0 n VS ∧ D.s 12 = .own .nil 0 n RS ∧ D.s 144 = .int .i64 (n : Int) ∧ D.s 145 = .int .i64 (i : Int) := ⟨_, rfl⟩
     refine EvP.loop J4 (n := n) (by rw [hJ4]; exact ⟨0, VS, rowsC (outL (phC n t j a) n n), by omega, by omega, by rw [mix_zero, hVS], by simp, fun w _ hw => by rw [rowsC_get (outL_get _ _ _ _ hw), if_pos hw, colS_length], by simp [hBs4, d0, d5, d7, d8, d33, d34, hBS, loL], by simp [d6], by simp, by simp, by simp⟩) (by omega) fun q D hD => ?_
     rw [hJ4] at hD
     obtain ⟨i, VS, RS, rfl, hi, hVS, hRl, hR, hB, d6, d12, d144, d145⟩ := hD
     rw [hBs4] at hB
     obtain ⟨d0, d5, d7, d8, d33, d34, dm3, dx⟩ := hB
     have hVl : VS.length = n := by rw [hVS]; simp
     by_cases hil : i < n
     ·have e4 := wrap_succ (q := i) (by omega)
      have hiV : i < VS.length := by omega
      obtain ⟨BS, hBS4⟩ : ∃ BS, (loL n t (phB n t a)).map V.bool = BS := ⟨_, rfl⟩
      rw [hBS4] at d7
      have hBl : BS.length = n := by rw [← hBS4]; simp
      have hiB : i < BS.length := by omega
      have hBi : BS[i]? = some (.bool (lock2 n t (hS (phB n t a)) i)) := by
       rw [← hBS4]; unfold loL; rw [List.getElem?_map, List.getElem?_map, List.getElem?_range hil]; rfl
      have hBe : BS[i] = .bool (lock2 n t (hS (phB n t a)) i) := by
       have := List.getElem?_eq_getElem hiB
       rw [hBi] at this
       exact (Option.some.inj this).symm
      have hiR : i < RS.length := by omega
      obtain ⟨rc, hrc⟩ : ∃ rc, (colS (phC n t j a) i n).map cpV = rc := ⟨_, rfl⟩
      have hRi : RS[i]? = some (.own .nil 0 n rc) := by rw [hR i (Nat.le_refl i) hil, hrc]
      have hRe : RS[i] = .own .nil 0 n rc := by
       have := List.getElem?_eq_getElem hiR
       rw [hRi] at this
       exact (Option.some.inj this).symm
      have hrl : rc.length = n := by rw [← hrc, List.length_map, colS_length]
      have hjr : j < rc.length := by omega
      obtain ⟨l, hle⟩ : ∃ l, hS (phC n t j a) i j = l := ⟨_, rfl⟩
      have hrj : rc[j]? = some (cpV l) := by
       rw [← hrc, List.getElem?_map]; unfold colS; rw [List.getElem?_map, List.getElem?_range hjn, ← hle]; rfl
      have hre : rc[j] = cpV l := by
       have := List.getElem?_eq_getElem hjr
       rw [hrj] at this
       exact (Option.some.inj this).symm
      have hou : out3 n t j (vF a.vs) (hS (phB n t a)) (hS (phC n t j a)) i = if lock2 n t (hS (phB n t a)) i = true then val2 n t (vF a.vs) (hS (phB n t a)) i else l.headD 0 := by
       unfold out3; rw [hle]
      have hset : VS.set i (.int .u64 (out3 n t j (vF a.vs) (hS (phB n t a)) (hS (phC n t j a)) i : Nat)) = uL (mix (out3 n t j (vF a.vs) (hS (phB n t a)) (hS (phC n t j a))) (val2 n t (vF a.vs) (hS (phB n t a))) n (i + 1)) := by
       rw [← mix_set _ _ _ _ hil, ← uL_set, hVS]
      by_cases hlk : lock2 n t (hS (phB n t a)) i = true
      ·rw [if_pos hlk] at hou
       rw [hlk] at hBi hBe
       have hsame : VS.set i (.int .u64 (out3 n t j (vF a.vs) (hS (phB n t a)) (hS (phC n t j a)) i : Nat)) = VS := by
        rw [hou, hVS, uL_set, mix_set0 _ _ _ _ hil]
       simp [-reach, -doCall, doCall_eq, d0, d5, d6, d7, d8, d12, d33, d34, d144, d145, dm3, dx, hil, hiB, hBl, hBi, hBe, hiV, hVl, e4]
       subst hJ4
       exact ⟨n - (i + 1), by omega, i + 1, VS, RS, rfl, by omega, by rw [← hset, hsame], hRl, fun w hw hwn => hR w (by omega) hwn, by simp [hBs4, d0, d5, d7, d8, d33, d34, hBS4], by simp [d6], by simp [d12], by simp [d144], by simp⟩
      ·rw [if_neg hlk] at hou
       have hlk' : lock2 n t (hS (phB n t a)) i = false := by simpa using hlk
       rw [hlk'] at hBi hBe
       rcases l with _ | ⟨x, l⟩
       ·simp only [cpV_nil] at hrj hre
        have hou : out3 n t j (vF a.vs) (hS (phB n t a)) (hS (phC n t j a)) i = 0 := hou
        simp [-reach, -doCall, doCall_eq, d0, d5, d6, d7, d8, d12, d33, d34, d144, d145, dm3, dx, hil, hiB, hBl, hBi, hBe, hiV, hVl, e4, hRi, hRe, hiR, hRl, hrj, hre, hjr, hrl, hjn]
        subst hJ4
        exact ⟨n - (i + 1), by omega, i + 1, _, RS.set i (.own .nil 0 n (rc.set j .dead)), rfl, by omega, hset, by simp [hRl], fun w hw hwn => by rw [List.getElem?_set_ne (by omega)]; exact hR w (by omega) hwn, by simp [hBs4, d0, d5, d7, d8, d33, d34, hBS4], by simp [d6, hou], by simp [d12], by simp [d144], by simp⟩
       ·simp only [cpV_cons] at hrj hre
        have hou : out3 n t j (vF a.vs) (hS (phB n t a)) (hS (phC n t j a)) i = x := hou
        simp [-reach, -doCall, doCall_eq, d0, d5, d6, d7, d8, d12, d33, d34, d144, d145, dm3, dx, hil, hiB, hBl, hBi, hBe, hiV, hVl, e4, hRi, hRe, hiR, hRl, hrj, hre, hjr, hrl, hjn]
        subst hJ4
        exact ⟨n - (i + 1), by omega, i + 1, _, RS, rfl, by omega, hset, hRl, fun w hw hwn => hR w (by omega) hwn, by simp [hBs4, d0, d5, d7, d8, d33, d34, hBS4], by simp [d6, hou], by simp [d12], by simp [d144], by simp⟩
     ·have hin : i = n := by omega
      rw [hin] at hVS
      rw [mix_full] at hVS
      simp [-reach, -doCall, doCall_eq, d0, d5, d6, d7, d8, d12, d33, d34, d144, d145, dm3, dx, hil, e3]
      subst hU
      exact ⟨t + 1 - (j + 1), by omega, j + 1, phase n t j a, loL n t (phB n t a), [(nx, bx)], [], rfl, by omega, by rw [ha]; rfl, by simp, rfl, by simp [d0], by simp [d5], by simp [d6, hVS]; rfl, by simp [d7], by simp [d33], by simp, by rw [← hM3]; simp; rfl, rfl⟩
 ·have hje : j = t + 1 := by omega
  rw [hje] at ha d34
  have gf := hfil a.σ O1 O2 hO
  rw [← dm] at gf
  simp [-reach, d0, d5, d6, d7, d33, d34, dx, ← ha, gf]
end Go.Abs
end
