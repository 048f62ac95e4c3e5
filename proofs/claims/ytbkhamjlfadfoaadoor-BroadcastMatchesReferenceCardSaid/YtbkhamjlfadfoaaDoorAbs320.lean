/- Joined: AbsPNWA AbsPNWB AbsPNWC AbsPNXA AbsPNXD AbsPNXE AbsPNXH. -/
import Derived.Test.YtbkhamjlfadfoaaDoorAbs314
import Derived.Test.YtbkhamjlfadfoaaDoorAbs315
set_option linter.all false
set_option maxHeartbeats 16000000
noncomputable section
namespace Go.Abs
open Go Go.Proofs
theorem set_mid {cs ys : List V} {y : V} {off : Nat} (h : off < cs.length) : (cs.set off y).take (off + 1) ++ ys ++ (cs.set off y).drop (off + 1 + ys.length) = cs.take off ++ (y :: ys) ++ cs.drop (off + (y :: ys).length) := by
 have e1 : (cs.set off y).take (off + 1) = cs.take off ++ [y] := by
  rw [List.take_succ_eq_append_getElem (by simpa using h)]
  simp [List.take_set_of_le]
 have e2 : (cs.set off y).drop (off + 1 + ys.length) = cs.drop (off + (y :: ys).length) := by
  rw [List.drop_set_of_lt (by omega)]
  congr 1
  simp; omega
 rw [e1, e2]
 simp
theorem storeAt_slot {t : Nat} {d : Dec} {r n : Nat} : ∀ (ys : List V) (off : Nat) (cs : List V) (D : St), D.s t = .own d r n cs → (∀ y ∈ ys, cellIn y = true ∧ noRow y = true) → off + ys.length ≤ cs.length →
 storeAt D (.slot t) [] off ys = some ⟨fun i => if i = t then .own d r n (cs.take off ++ ys ++ cs.drop (off + ys.length)) else D.s i, D.m, D.nx⟩
 | [], off, cs, D, h, hy, hl => by
   simp only [storeAt, List.append_nil, List.length_nil, Nat.add_zero, List.take_append_drop]
   congr 1
   obtain ⟨s, m, nx⟩ := D
   simp only at h ⊢
   congr 1
   funext i
   by_cases hi : i = t
   ·subst hi; simp [h]
   ·simp [hi]
 | y :: ys, off, cs, D, h, hy, hl => by
   have h1 := hy y List.mem_cons_self
   simp only [List.length_cons] at hl
   have hoff : off < cs.length := by omega
   have hlk : look D (.slot t) ([] ++ [off]) = some cs[off] := by simp [look, go, h, hoff]
   have hcan : canStore D (.slot t) [] = true := by simp [canStore, look, go, h]
   have hset : setAt D (.slot t) ([] ++ [off]) y = ⟨fun i => if i = t then .own d r n (cs.set off y) else D.s i, D.m, D.nx⟩ := by
    simp only [setAt, List.nil_append]
    congr 1
    funext i
    by_cases hi : i = t
    ·simp [hi, h, goSet, hoff]
    ·simp [hi]
   unfold storeAt
   rw [hlk]
   simp only [h1.1, h1.2, hcan, Bool.and_self, if_true, hset]
   rw [storeAt_slot (d := d) (r := r) (n := n) ys (off + 1) (cs.set off y) _ (by simp) (fun z hz => hy z (List.mem_cons_of_mem _ hz)) (by simp; omega)]
   congr 1
   congr 1
   funext i
   by_cases hi : i = t
   ·simp only [hi, if_true]
    rw [set_mid hoff]
   ·simp [hi]
def resizeS (l : List Nat) (n : Nat) : List Nat := l.take n ++ List.replicate (n - l.length) 0
@[simp] theorem resizeS_length (l : List Nat) (n : Nat) : (resizeS l n).length = n := by simp [resizeS]; omega
theorem rep_zero (n : Nat) : rep n [V.int .u64 0] = uL (List.replicate n 0) := by
 induction n with
 | zero => rfl
 | succ n ih => simp [rep, ih, uL, List.replicate_succ]
theorem uL_take (l : List Nat) (n : Nat) : (uL l).take n = uL (l.take n) := by simp [uL]
theorem uL_drop (l : List Nat) (n : Nat) : (uL l).drop n = uL (l.drop n) := by simp [uL]
set_option maxRecDepth 100000 in
theorem resize24 (pm : Bool) (A : Option Addr) (cap : Nat) (l : List Nat) (n : Nat) (hn : n ≤ 100000) : AnsN 1 Tryd.prog H14 79 [.im pm A cap l.length (uL l), .int .i64 (n : Int)] (.own .nil 0 n (uL (resizeS l n))) := by
 refine AnsN.of (fn := Tryd.f79) (t := 4) (by rfl) Tryd.func79 rfl rfl (by rfl) (by simp [plainV]) fun k hk nx => ?_
 have b0 : (n : Int) ≤ 140737488355328 := by omega
 have b1 : (n : Int) * 8 ≤ 140737488355328 := by omega
 have z0 : ¬ (n = 0 ∧ 0 < n) := by omega
 have e1 : (uL l).all V.scalar = true := by
  unfold uL; induction l with
  | nil => rfl
  | cons x l ih => simp [V.scalar]
 have hst : ∀ D : St, D.s 5 = .own .nil 0 n (uL (List.replicate n 0)) → storeAt D (.slot 5) [] 0 ((uL l).take (min l.length n)) = some ⟨fun i => if i = 5 then .own .nil 0 n (uL (resizeS l n)) else D.s i, D.m, D.nx⟩ := by
  intro D hD
  rw [storeAt_slot _ 0 _ D hD (fun y hy => by
   rw [uL_take] at hy
   unfold uL at hy
   obtain ⟨x, _, rfl⟩ := List.mem_map.1 hy
   exact ⟨rfl, rfl⟩) (by simp; exact Nat.min_le_right _ _)]
  congr 1
  congr 1
  funext i
  split
  ·congr 1
   simp only [uL_take, uL_drop, uL_length, List.take_zero]
   have hm : 0 + (l.take (min l.length n)).length = min l.length n := by simp
   rw [hm]
   unfold resizeS
   rw [uL_append, List.nil_append]
   congr 1
   ·congr 1
    by_cases h : l.length ≤ n
    ·rw [Nat.min_eq_left h, List.take_of_length_le (Nat.le_refl _), List.take_of_length_le h]
    ·rw [Nat.min_eq_right (by omega)]
   ·congr 1
    rw [List.drop_replicate]
    congr 1
    omega
  ·rfl
 simp [-storeAt, -List.all_eq_true, entryS, b0, b1, z0, rep_zero, e1, hst]
set_option maxRecDepth 100000 in
theorem resize25 (pm : Bool) (A : Option Addr) (cap : Nat) (l : List Nat) (n : Nat) (hn : n ≤ 1000) : AnsN 1101 Tryd.prog H14 37 [.im pm A cap l.length (uL l), .int .i64 (n : Int)] (.own .nil 0 n (uL (resizeS l n))) := by
 refine AnsN.of (fn := Tryd.f37) (t := 4) (by rfl) Tryd.func37 rfl rfl (by rfl) (by simp [plainV]) fun k hk nx => ?_
 have b0 : (n : Int) ≤ 140737488355328 := by omega
 have b1 : (n : Int) * 8 ≤ 140737488355328 := by omega
 have z0 : ¬ (n = 0 ∧ 0 < n) := by omega
 obtain ⟨I, hI⟩ : ∃ I : Nat → St → Prop, I = fun q D => ∃ i : Nat, q = n - i ∧ i ≤ n ∧ i ≤ l.length ∧ D.s 0 = .im pm A cap l.length (uL l) ∧ D.s 1 = .int .i64 (n : Int) ∧ D.s 5 = .own .nil 0 n (uL (l.take i ++ List.replicate (n - i) 0)) ∧ D.s 6 = .int .i64 (i : Int) ∧ D.m = [] := ⟨_, rfl⟩
 simp [entryS, b0, b1, z0, rep_zero]
 refine EvP.loop I (n := n) (by rw [hI]; exact ⟨0, by simp⟩) (by omega) fun q D hD => ?_
 rw [hI] at hD
 obtain ⟨i, rfl, hi, hil, d0, d1, d5, d6, dm⟩ := hD
 have fin : ∀ j, j = n ∨ j = l.length → j ≤ n → j ≤ l.length → l.take j ++ List.replicate (n - j) 0 = resizeS l n := by
  intro j h1 h2 h3
  unfold resizeS
  rcases h1 with rfl | rfl
  ·rw [Nat.sub_self, show j - l.length = 0 by omega]
  ·rw [List.take_length, List.take_of_length_le h2]
 by_cases h1 : i < n
 ·by_cases h2 : i < l.length
  ·have e3 := wrap_succ (q := i) (by omega)
   have hlen : (l.take i ++ List.replicate (n - i) 0).length = n := by simp; omega
   have us := uL_set (l.take i ++ List.replicate (n - i) 0) i l[i]
   have hset : (l.take i ++ List.replicate (n - i) 0).set i l[i] = l.take (i + 1) ++ List.replicate (n - (i + 1)) 0 := by
    have hti : (l.take i).length = i := by simp; omega
    rw [List.set_append_right _ _ (by omega), hti, Nat.sub_self, show n - i = (n - (i + 1)) + 1 by omega, List.replicate_succ, List.set_cons_zero, List.take_succ_eq_append_getElem h2, List.append_assoc]
    rfl
   rw [hset] at us
   generalize hL : l.take i ++ List.replicate (n - i) 0 = L at *
   have hiL : i < L.length := by omega
   simp [d0, d1, d5, d6, dm, h1, h2, e3, hlen, hiL, us]
   subst hI
   exact ⟨n - (i + 1), by omega, i + 1, rfl, by omega, by omega, by simp [d0], by simp [d1], by simp [us], by simp, rfl⟩
  ·have he := fin i (.inr (by omega)) hi hil
   rw [he] at d5
   simp [d0, d1, d5, d6, dm, h1, h2]
 ·have he := fin i (.inl (by omega)) hi hil
  rw [he] at d5
  simp [d0, d1, d5, d6, dm, h1]
structure Ev where
 round : Int
 frm : Int
 w : RD
def evC (e : Ev) : List V := [.int .i64 e.round, .int .i64 e.frm, rV e.w]
def evsC (es : List Ev) : List V := es.flatMap evC
@[simp] theorem evsC_length (es : List Ev) : (evsC es).length = es.length * 3 := by
 unfold evsC; induction es with
 | nil => rfl
 | cons e l ih => simp [List.flatMap_cons, ih, evC]; omega
@[simp] theorem ptrsL_evsC (es : List Ev) : ptrsL (evsC es) = [] := by
 induction es with
 | nil => rfl
 | cons e l ih =>
   show ptrsL (evC e ++ evsC l) = []
   simp [evC, rV, ih]
theorem evsC_append (a b : List Ev) : evsC (a ++ b) = evsC a ++ evsC b := by simp [evsC]
@[simp] theorem noRowL_evsC (es : List Ev) : noRowL (evsC es) = true := by
 induction es with
 | nil => rfl
 | cons e l ih =>
   show noRowL (evC e ++ evsC l) = true
   simp [evC, rV, ih]
def viewV (es : List Ev) : V := .own .nil 0 es.length (evsC es)
def viewsC (vs : List (List Ev)) : List V := vs.map viewV
@[simp] theorem viewsC_length (vs : List (List Ev)) : (viewsC vs).length = vs.length := by simp [viewsC]
@[simp] theorem viewsC_getElem (vs : List (List Ev)) (i : Nat) (h : i < (viewsC vs).length) : (viewsC vs)[i] = .own .nil 0 (vs[i]'(by simpa using h)).length (evsC (vs[i]'(by simpa using h))) := by simp [viewsC, viewV]
@[simp] theorem ptrsL_viewsC (vs : List (List Ev)) : ptrsL (viewsC vs) = [] := by
 unfold viewsC; induction vs with
 | nil => rfl
 | cons e l ih => simp only [List.map_cons, ptrsL, viewV, ptrs, ptrsL_evsC, ih, List.append_nil]
def bpL (tp : List Nat) : List V := tp.map fun b => V.bptr b 0
@[simp] theorem bpL_length (tp : List Nat) : (bpL tp).length = tp.length := by simp [bpL]
@[simp] theorem bpL_getElem (tp : List Nat) (i : Nat) (h : i < (bpL tp).length) : (bpL tp)[i] = .bptr (tp[i]'(by simpa using h)) 0 := by simp [bpL]
@[simp] theorem ptrsL_bpL (tp : List Nat) : ptrsL (bpL tp) = tp := by
 unfold bpL; induction tp with
 | nil => rfl
 | cons e l ih => simp only [List.map_cons, ptrsL, ptrs, ih, List.cons_append, List.nil_append]
structure NetS where
 scn : Scn
 round : Int
 views : List (List Ev)
 tp : List Nat
def netC (σ : NetS) : List V := [.int .u64 (σ.scn.p : Int), .int .i64 σ.scn.n, .int .i64 σ.scn.t, .im σ.scn.cpm σ.scn.cA σ.scn.ccap σ.scn.corrupt.length (iL σ.scn.corrupt), .im σ.scn.dpm σ.scn.dA σ.scn.dcap σ.scn.devs.length (devsV σ.scn.devs), .im σ.scn.tpm σ.scn.tA σ.scn.tcap σ.scn.tapes.length (rsV σ.scn.tapes),
 .int .i64 σ.round, .own .nil 0 σ.views.length (viewsC σ.views), .own .nil 0 σ.tp.length (bpL σ.tp)]
@[simp] theorem netC_length (σ : NetS) : (netC σ).length = 9 := rfl
@[simp] theorem netC_get0 (σ : NetS) : (netC σ)[0]? = some (.int .u64 (σ.scn.p : Int)) := rfl
@[simp] theorem netC_get1 (σ : NetS) : (netC σ)[1]? = some (.int .i64 σ.scn.n) := rfl
@[simp] theorem netC_get2 (σ : NetS) : (netC σ)[2]? = some (.int .i64 σ.scn.t) := rfl
@[simp] theorem netC_get3 (σ : NetS) : (netC σ)[3]? = some (.im σ.scn.cpm σ.scn.cA σ.scn.ccap σ.scn.corrupt.length (iL σ.scn.corrupt)) := rfl
@[simp] theorem netC_get4 (σ : NetS) : (netC σ)[4]? = some (.im σ.scn.dpm σ.scn.dA σ.scn.dcap σ.scn.devs.length (devsV σ.scn.devs)) := rfl
@[simp] theorem netC_get5 (σ : NetS) : (netC σ)[5]? = some (.im σ.scn.tpm σ.scn.tA σ.scn.tcap σ.scn.tapes.length (rsV σ.scn.tapes)) := rfl
@[simp] theorem netC_get6 (σ : NetS) : (netC σ)[6]? = some (.int .i64 σ.round) := rfl
@[simp] theorem netC_get7 (σ : NetS) : (netC σ)[7]? = some (.own .nil 0 σ.views.length (viewsC σ.views)) := rfl
@[simp] theorem netC_get8 (σ : NetS) : (netC σ)[8]? = some (.own .nil 0 σ.tp.length (bpL σ.tp)) := rfl
@[simp] theorem netC_set7 (σ : NetS) (vs : List (List Ev)) : (netC σ).set 7 (.own .nil 0 vs.length (viewsC vs)) = netC { σ with views := vs } := rfl
@[simp] theorem netC_set6 (σ : NetS) (r : Int) : (netC σ).set 6 (.int .i64 r) = netC { σ with round := r } := rfl
theorem ptrsL_netC (σ : NetS) : ptrsL (netC σ) = σ.tp := by simp [netC]
structure TB (b : Nat) (tp : List Nat) (tb : List (Nat × Box)) : Prop where
 ids : (tb.map (·.1)).Perm tp
 flat : ∀ e ∈ tb, ptrsL e.2.cs = []
 nb : b ∉ tp
 nd : tp.Nodup
def hearS (σ : NetS) (who frm : Nat) (w : RD) : NetS := if who ≠ frm ∧ 0 < w.l.length then { σ with views := σ.views.set who ((σ.views[who]?.getD []) ++ [⟨σ.round, (frm : Int) + 1, w⟩]) } else σ
@[simp] theorem hearS_tp (σ : NetS) (who frm : Nat) (w : RD) : (hearS σ who frm w).tp = σ.tp := by unfold hearS; split <;> rfl
@[simp] theorem hearS_scn (σ : NetS) (who frm : Nat) (w : RD) : (hearS σ who frm w).scn = σ.scn := by unfold hearS; split <;> rfl
@[simp] theorem hearS_round (σ : NetS) (who frm : Nat) (w : RD) : (hearS σ who frm w).round = σ.round := by unfold hearS; split <;> rfl
@[simp] theorem hearS_len (σ : NetS) (who frm : Nat) (w : RD) : (hearS σ who frm w).views.length = σ.views.length := by unfold hearS; split <;> simp
def cpW (l : List Nat) : RD := ⟨true, none, 0, l⟩
theorem lt_of_fst {tb : List (Nat × Box)} {tp : List Nat} (h : (tb.map (·.1)).Perm tp) {nx : Nat} (hm : ∀ e ∈ tb, e.1 < nx) {c : Nat} (hc : c ∈ tp) : c < nx := by
 obtain ⟨e, he, rfl⟩ := List.mem_map.1 (h.mem_iff.2 hc)
 exact hm e he
theorem filt_lt {tb : List (Nat × Box)} {nx : Nat} (hm : ∀ e ∈ tb, e.1 < nx) : tb.filter (fun e => decide (e.1 < nx)) = tb := by
 rw [List.filter_eq_self]; intro e he; simpa using hm e he
theorem viewsC_set (vs : List (List Ev)) (i : Nat) (es : List Ev) : (viewsC vs).set i (.own .nil 0 es.length (evsC es)) = viewsC (vs.set i es) := by
 show (vs.map viewV).set i (viewV es) = (vs.set i es).map viewV
 rw [List.map_set]
section
variable {P : Program} {H : Hint} {f : Nat}
def AnsB (N : Nat) (P : Program) (H : Hint) (f : Nat) (xs : List V) (r : Nat → V) (m2 : Nat → List (Nat × Box)) (d : Nat) : Prop := ∀ n, N ≤ n → ∀ nx, evCall P H n f xs [] nx = some (r nx, m2 nx, nx + d)
theorem AnsB.gen {N : Nat} {fn : Func} {c : Code} {xs : List V} {m2 : Nat → List (Nat × Box)} {r : Nat → V} {d : Nat} (hg : H.good f = true) (hf : P.funcs[f]? = some fn) (hb : fn.body = some c) (hfr : H.fr f = false)
 (hp : ∀ nx, ∃ b ∈ ptrs (r nx), nx ≤ b)
 (h : ∀ k, N ≤ k → ∀ nx, EvP P H (evCall P H k) f k c (entryS xs [] nx) (fun e D => (e = .norm ∨ e = .ret) ∧ optE (evRes P D fn.results.toList) fun q => packRes q.1 = r nx ∧ q.2.m = m2 nx ∧ q.2.nx = nx + d)) : AnsB (N + 1) P H f xs r m2 d := by
 intro n hn nx
 obtain ⟨k, rfl⟩ : ∃ k, n = k + 1 := ⟨n - 1, by omega⟩
 obtain ⟨e, D, h1, h2, hq⟩ := h k (by omega) nx
 obtain ⟨⟨rs, D1⟩, hres', hrs, h4, h5⟩ := optE_elim hq
 simp only at hrs h4 h5
 unfold evCall
 simp only [hg, hf, hb]
 have h1' : evCode P H (evCall P H k) f k c { s := fun i => match xs[i]? with | some v => v | none => .dead, m := [], nx := nx } = some (e, D) := h1
 rw [if_neg (by simp)]
 generalize hq : evCode P H (evCall P H k) f k c _ = q
 have : q = some (e, D) := by rw [← hq]; exact h1'
 subst this
 have hall : ∀ l, ((ptrs (r nx) ++ l).any fun b => decide (nx ≤ b)) = true := by
  intro l
  obtain ⟨b, hb, hb2⟩ := hp nx
  rw [List.any_eq_true]
  exact ⟨b, List.mem_append_left _ hb, by simpa using hb2⟩
 simp only [if_pos h2, hres', hfr, Bool.false_and, Bool.false_eq_true, if_false, hrs, h4, h5, hall, if_true]
end
theorem ed1 (b : Nat) : ([b] : List Nat).eraseDups = [b] := rfl
def tapeC (w : RD) (q : Int) : List V := [rV w, .int .i64 q]
@[simp] theorem tapeC_length (w : RD) (q : Int) : (tapeC w q).length = 2 := rfl
@[simp] theorem tapeC_get0 (w : RD) (q : Int) : (tapeC w q)[0]? = some (rV w) := rfl
@[simp] theorem tapeC_get1 (w : RD) (q : Int) : (tapeC w q)[1]? = some (.int .i64 q) := rfl
@[simp] theorem tapeC_set1 (w : RD) (q r : Int) : (tapeC w q).set 1 (.int .i64 r) = tapeC w r := rfl
theorem ptrsL_tapeC (w : RD) (q : Int) : ptrsL (tapeC w q) = [] := by simp [tapeC, rV]
theorem tape36 (w : RD) : AnsB 1 Tryd.prog H14 56 [rV w] (fun nx => .bptr nx 0) (fun nx => [(nx, ⟨0, tapeC w 0⟩)]) 1 := by
 refine AnsB.gen (fn := Tryd.f56) (by rfl) Tryd.func56 rfl (by rfl) (fun nx => ⟨nx, by simp [ptrs], Nat.le_refl _⟩) fun k hk nx => ?_
 simp [entryS, rV, tapeC]
theorem tape38 (w : RD) (hw : w.l.length ≤ 1000) : AnsB 1 Tryd.prog H14 50 [rV w] (fun nx => .bptr nx 0) (fun nx => [(nx, ⟨0, [.own .nil 0 w.l.length (uL w.l), .int .i64 0]⟩)]) 1 := by
 refine AnsB.gen (fn := Tryd.f50) (by rfl) Tryd.func50 rfl (by rfl) (fun nx => ⟨nx, by simp [ptrs], Nat.le_refl _⟩) fun k hk nx => ?_
 have hb1 : w.l.length * 8 ≤ 140737488355328 := by omega
 have hb2 : w.l.length ≤ 140737488355328 := by omega
 simp [entryS, rV, hb1, hb2]
theorem net_ptrs {b g : Nat} {σ : NetS} {tb : List (Nat × Box)} (hT : TB b σ.tp tb) {nx : Nat} (h : ∀ e ∈ (b, (⟨g, netC σ⟩ : Box)) :: tb, e.1 < nx) {c : Nat} (hc : c ∈ ((b, (⟨g, netC σ⟩ : Box)) :: tb).flatMap (fun e => ptrsL e.2.cs)) : c < nx := by
 have ht : ∀ e ∈ tb, e.1 < nx := fun e he => h e (List.mem_cons_of_mem _ he)
 simp only [List.mem_flatMap] at hc
 obtain ⟨e, he, hc⟩ := hc
 rcases List.mem_cons.1 he with rfl | he
 ·rw [ptrsL_netC] at hc
  exact lt_of_fst hT.ids ht hc
 ·rw [hT.flat e he] at hc; cases hc
theorem net_filt {b g : Nat} {σ : NetS} {tb : List (Nat × Box)} {nx : Nat} (h : ∀ e ∈ (b, (⟨g, netC σ⟩ : Box)) :: tb, e.1 < nx) : b < nx ∧ tb.filter (fun e => decide (e.1 < nx)) = tb :=
 ⟨h _ List.mem_cons_self, filt_lt fun e he => h e (List.mem_cons_of_mem _ he)⟩
theorem getBox_last {n : Nat} {c : Box} : ∀ {m : List (Nat × Box)}, (∀ e ∈ m, e.1 < n) → getBox (m ++ [(n, c)]) n = some c
 | [], _ => by simp [getBox]
 | (i, d) :: m, h => by
   have h1 : i < n := h (i, d) List.mem_cons_self
   have h2 : i ≠ n := by omega
   show getBox ((i, d) :: (m ++ [(n, c)])) n = some c
   unfold getBox
   rw [if_neg (by simpa using h2)]
   exact getBox_last fun e he => h e (List.mem_cons_of_mem _ he)
theorem setBox_last {n : Nat} {c c' : Box} : ∀ {m : List (Nat × Box)}, (∀ e ∈ m, e.1 < n) → setBox (m ++ [(n, c)]) n c' = m ++ [(n, c')]
 | [], _ => by simp [setBox]
 | (i, d) :: m, h => by
   have h1 : i < n := h (i, d) List.mem_cons_self
   have h2 : i ≠ n := by omega
   show setBox ((i, d) :: (m ++ [(n, c)])) n c' = (i, d) :: (m ++ [(n, c')])
   unfold setBox
   rw [if_neg (by simpa using h2), setBox_last fun e he => h e (List.mem_cons_of_mem _ he)]
theorem cellIn_evsC (es : List Ev) : ∀ x ∈ evsC es, cellIn x = true := by
 intro x hx
 unfold evsC at hx
 obtain ⟨e, _, hx⟩ := List.mem_flatMap.1 hx
 simp only [evC, rV, List.mem_cons, List.not_mem_nil, or_false] at hx
 rcases hx with rfl | rfl | rfl <;> rfl
theorem rounds26 (b g : Nat) (σ : NetS) (tb : List (Nat × Box)) (hT : TB b σ.tp tb) : AnsM 1 Tryd.prog H14 21 [.bptr b 0] ((b, ⟨g, netC σ⟩) :: tb) (.int .i64 σ.round) ((b, ⟨g, netC σ⟩) :: tb) := by
 refine AnsM.gen (fn := Tryd.f21) (by rfl) Tryd.func21 rfl (by rfl) (fun nx h c hc => ?_) fun k hk nx h => ?_
 ·exact net_ptrs hT h (by simpa [ptrs] using hc)
 obtain ⟨hb, hfl⟩ := net_filt h
 simp [entryS, hb, hfl]
theorem scen29 (b g : Nat) (σ : NetS) (tb : List (Nat × Box)) (hT : TB b σ.tp tb) : AnsM 1 Tryd.prog H14 46 [.bptr b 0] ((b, ⟨g, netC σ⟩) :: tb) (scV σ.scn) ((b, ⟨g, netC σ⟩) :: tb) := by
 refine AnsM.gen (fn := Tryd.f46) (by rfl) Tryd.func46 rfl (by rfl) (fun nx h c hc => ?_) fun k hk nx h => ?_
 ·exact net_ptrs hT h (by simpa [scV, scL, ptrs] using hc)
 obtain ⟨hb, hfl⟩ := net_filt h
 have hb2 : b ≠ nx := by omega
 have ht : ∀ e ∈ tb, e.1 < nx := fun e he => h e (List.mem_cons_of_mem _ he)
 have hgl : ∀ c, getBox (tb ++ [(nx, c)]) nx = some c := fun c => getBox_last ht
 have hsl : ∀ c c', setBox (tb ++ [(nx, c)]) nx c' = tb ++ [(nx, c')] := fun c c' => setBox_last ht
 simp [entryS, hb, hfl, scV, scL, netC, hb2, hgl, hsl]
theorem view23 (b g : Nat) (σ : NetS) (tb : List (Nat × Box)) (hT : TB b σ.tp tb) (i : Nat) (hi : i < σ.views.length) (hl : σ.views.length ≤ 1000) (hn : (σ.views[i]).length ≤ 1000000) : AnsM 1 Tryd.prog H14 28 [.bptr b 0, .int .i64 ((i : Int) + 1)] ((b, ⟨g, netC σ⟩) :: tb) (viewV (σ.views[i])) ((b, ⟨g, netC σ⟩) :: tb) := by
 refine AnsM.gen (fn := Tryd.f28) (by rfl) Tryd.func28 rfl (by rfl) (fun nx h c hc => ?_) fun k hk nx h => ?_
 ·exact net_ptrs hT h (by simpa [viewV, ptrs] using hc)
 obtain ⟨hb, hfl⟩ := net_filt h
 have e1 : IntKind.i64.wrap (i : Int) = (i : Int) := wrap_nat (by omega) (by omega)
 have hb1 : (σ.views[i]).length * 40 ≤ 140737488355328 := by omega
 have hb2 : (σ.views[i]).length ≤ 140737488355328 := by omega
 have hce := cellIn_evsC (σ.views[i])
 simp only [cellIn] at hce
 simp [entryS, hb, hfl, e1, hi, hb1, hb2, viewV]
 rw [if_pos hce]
 simp [entryS, hb, hfl, e1, hi, hb1, hb2, viewV]
theorem view28 (b g : Nat) (σ : NetS) (tb : List (Nat × Box)) (hT : TB b σ.tp tb) (i : Nat) (hi : i < σ.views.length) (hl : σ.views.length ≤ 1000) (hn : (σ.views[i]).length ≤ 1000000) : AnsM 1 Tryd.prog H14 29 [.bptr b 0, .int .i64 ((i : Int) + 1)] ((b, ⟨g, netC σ⟩) :: tb) (viewV (σ.views[i])) ((b, ⟨g, netC σ⟩) :: tb) := by
 refine AnsM.gen (fn := Tryd.f29) (by rfl) Tryd.func29 rfl (by rfl) (fun nx h c hc => ?_) fun k hk nx h => ?_
 ·exact net_ptrs hT h (by simpa [viewV, ptrs] using hc)
 obtain ⟨hb, hfl⟩ := net_filt h
 have e1 : IntKind.i64.wrap (i : Int) = (i : Int) := wrap_nat (by omega) (by omega)
 have hb1 : (σ.views[i]).length * 40 ≤ 140737488355328 := by omega
 have hb2 : (σ.views[i]).length ≤ 140737488355328 := by omega
 have hce := cellIn_evsC (σ.views[i])
 simp only [cellIn] at hce
 simp [entryS, hb, hfl, e1, hi, hb1, hb2, viewV]
 rw [if_pos hce]
 simp [entryS, hb, hfl, e1, hi, hb1, hb2, viewV]
def hearRow (W : Nat → RD) (w k : Nat) (σ : NetS) : NetS := (List.range k).foldl (fun σ f => hearS σ w f (W f)) σ
def hearAll (W : Nat → Nat → RD) (n k : Nat) (σ : NetS) : NetS := (List.range k).foldl (fun σ w => hearRow (W w) w n σ) σ
theorem hearRow_succ (W : Nat → RD) (w k : Nat) (σ : NetS) : hearRow W w (k + 1) σ = hearS (hearRow W w k σ) w k (W k) := by
 unfold hearRow
 rw [List.range_succ, List.foldl_append]
 rfl
theorem hearAll_succ (W : Nat → Nat → RD) (n k : Nat) (σ : NetS) : hearAll W n (k + 1) σ = hearRow (W k) k n (hearAll W n k σ) := by
 unfold hearAll
 rw [List.range_succ, List.foldl_append]
 rfl
theorem hearRow_zero (W : Nat → RD) (w : Nat) (σ : NetS) : hearRow W w 0 σ = σ := rfl
theorem hearAll_zero (W : Nat → Nat → RD) (n : Nat) (σ : NetS) : hearAll W n 0 σ = σ := rfl
structure Like (σ τ : NetS) : Prop where
 scn : τ.scn = σ.scn
 round : τ.round = σ.round
 tp : τ.tp = σ.tp
 len : τ.views.length = σ.views.length
theorem Like.refl (σ : NetS) : Like σ σ := ⟨rfl, rfl, rfl, rfl⟩
theorem Like.trans {a b c : NetS} (h : Like a b) (g : Like b c) : Like a c := ⟨g.scn.trans h.scn, g.round.trans h.round, g.tp.trans h.tp, g.len.trans h.len⟩
theorem like_hearS (σ : NetS) (w f : Nat) (r : RD) : Like σ (hearS σ w f r) := ⟨by simp, by simp, by simp, by simp⟩
theorem like_hearRow (W : Nat → RD) (w : Nat) (σ : NetS) : ∀ k, Like σ (hearRow W w k σ)
 | 0 => .refl σ
 | k + 1 => by rw [hearRow_succ]; exact (like_hearRow W w σ k).trans (like_hearS _ _ _ _)
theorem like_hearAll (W : Nat → Nat → RD) (n : Nat) (σ : NetS) : ∀ k, Like σ (hearAll W n k σ)
 | 0 => .refl σ
 | k + 1 => by rw [hearAll_succ]; exact (like_hearAll W n σ k).trans (like_hearRow _ _ _ _)
def VB (B : Nat) (σ : NetS) : Prop := ∀ v ∈ σ.views, v.length ≤ B
theorem VB.le {A B : Nat} {σ : NetS} (h : VB A σ) (hab : A ≤ B) : VB B σ := fun v hv => Nat.le_trans (h v hv) hab
theorem vb_hearS {B : Nat} {σ : NetS} (h : VB B σ) (w f : Nat) (r : RD) : VB (B + 1) (hearS σ w f r) := by
 unfold hearS
 split
 ·intro v hv
  rcases List.mem_or_eq_of_mem_set hv with hv | rfl
  ·exact Nat.le_succ_of_le (h v hv)
  ·rw [List.length_append, List.length_singleton]
   cases hq : σ.views[w]? with
   | none => simp
   | some u =>
     have := h u (List.mem_of_getElem? hq)
     simp only [Option.getD_some]; omega
 ·exact h.le (Nat.le_succ B)
theorem vb_hearRow {B : Nat} {σ : NetS} (h : VB B σ) (W : Nat → RD) (w : Nat) : ∀ k, VB (B + k) (hearRow W w k σ)
 | 0 => h
 | k + 1 => by rw [hearRow_succ]; exact vb_hearS (vb_hearRow h W w k) _ _ _
theorem vb_hearAll {B n : Nat} {σ : NetS} (h : VB B σ) (W : Nat → Nat → RD) : ∀ k, VB (B + k * n) (hearAll W n k σ)
 | 0 => by rw [Nat.zero_mul]; exact h
 | k + 1 => by
   rw [hearAll_succ, Nat.succ_mul, ← Nat.add_assoc]
   exact vb_hearRow (vb_hearAll h W k) _ _ _
def evOf (rd : Int) (w : Nat) (W : Nat → RD) (f : Nat) : List Ev := if w ≠ f ∧ 0 < (W f).l.length then [⟨rd, (f : Int) + 1, W f⟩] else []
theorem views_hearS (σ : NetS) (w f : Nat) (W : Nat → RD) (i : Nat) : (hearS σ w f (W f)).views[i]? = (σ.views[i]?).map fun v => if i = w then v ++ evOf σ.round w W f else v := by
 unfold hearS evOf
 by_cases hc : w ≠ f ∧ 0 < (W f).l.length
 ·rw [if_pos hc, if_pos hc]
  simp only [List.getElem?_set]
  by_cases hi : w = i
  ·subst hi
   rw [if_pos rfl]
   by_cases hl : w < σ.views.length
   ·simp [hl]
   ·simp [hl]
  ·rw [if_neg hi]
   have : ¬ i = w := fun h => hi h.symm
   simp [this]
 ·rw [if_neg hc, if_neg hc]
  cases σ.views[i]? with
  | none => rfl
  | some v => simp
theorem views_hearRow (W : Nat → RD) (w : Nat) (σ : NetS) (i : Nat) : ∀ k, (hearRow W w k σ).views[i]? = (σ.views[i]?).map fun v => if i = w then v ++ (List.range k).flatMap (evOf σ.round w W) else v
 | 0 => by
   rw [hearRow_zero]
   cases σ.views[i]? with
   | none => rfl
   | some v => simp
 | k + 1 => by
   rw [hearRow_succ, views_hearS, views_hearRow W w σ i k, (like_hearRow W w σ k).round, List.range_succ, List.flatMap_append]
   cases σ.views[i]? with
   | none => rfl
   | some v =>
     by_cases hi : i = w
     ·simp [hi]
     ·simp [hi]
theorem views_hearAll (W : Nat → Nat → RD) (n : Nat) (σ : NetS) (i : Nat) : ∀ k, (hearAll W n k σ).views[i]? = (σ.views[i]?).map fun v => if i < k then v ++ (List.range n).flatMap (evOf σ.round i (W i)) else v
 | 0 => by
   rw [hearAll_zero]
   cases σ.views[i]? with
   | none => rfl
   | some v => simp
 | k + 1 => by
   rw [hearAll_succ, views_hearRow, views_hearAll W n σ i k, (like_hearAll W n σ k).round]
   cases σ.views[i]? with
   | none => rfl
   | some v =>
     by_cases hi : i = k
     ·subst hi; simp
     ·by_cases hk : i < k
      ·have : i < k + 1 := by omega
       simp [hi, hk, this]
      ·have : ¬ i < k + 1 := by omega
       simp [hi, hk, this]
end Go.Abs
end
