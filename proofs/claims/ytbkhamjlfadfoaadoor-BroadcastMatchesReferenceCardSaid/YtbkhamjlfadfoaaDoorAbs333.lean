/- Joined: AbsQG AbsQH AbsQI. -/
import Derived.Test.YtbkhamjlfadfoaaDoorAbs328
import Derived.Test.YtbkhamjlfadfoaaDoorAbs332
set_option linter.all false
set_option maxHeartbeats 16000000
noncomputable section
namespace Go.Abs
open Go Go.Proofs
set_option maxRecDepth 100000
section
variable {n t : Nat} {hd : Nat → Nat → List Nat} {ln : Nat → Nat}
def bVal (n t : Nat) (hd : Nat → Nat → List Nat) (ln : Nat → Nat) (z : BS) (i k j : Nat) : Nat := vF (bRun n t hd i k (bRow n t hd i (bAll n t hd ln z i) k)).vs j
theorem bRow_tk {z : BS} (i : Nat) : ∀ k j, (bRow n t hd i z k).tk j i = z.tk j i ++ (List.range k).map fun k' => vF (bRun n t hd i k' (bRow n t hd i z k')).vs j
 | 0, j => by
   show z.tk j i = _
   rw [show (List.range 0).map (fun k' => vF (bRun n t hd i k' (bRow n t hd i z k')).vs j) = [] from rfl, List.append_nil]
 | k + 1, j => by
   show addT ((bRow n t hd i z k).tk j) i _ i = _
   unfold addT
   rw [if_pos rfl, bRow_tk i k j, range_snoc, List.append_assoc]
theorem bAll_later {z : BS} (i : Nat) : ∀ m, i < m → ∀ j, (bAll n t hd ln z m).tk j i = (bRow n t hd i (bAll n t hd ln z i) (ln i)).tk j i
 | 0, h, j => absurd h (Nat.not_lt_zero i)
 | m + 1, h, j => by
   show (bRow n t hd m (bAll n t hd ln z m) (ln m)).tk j i = _
   by_cases e : i = m
   ·subst e; rfl
   ·rw [bRow_other m i e, bAll_later i m (by omega) j]
theorem bAll_tk {z : BS} (hz : ∀ i j, z.tk j i = []) (h0 : ∀ i j, (bAll n t hd ln z i).tk j i = z.tk j i) {m i : Nat} (h : i < m) (j : Nat) : (bAll n t hd ln z m).tk j i = (List.range (ln i)).map fun k => bVal n t hd ln z i k j := by
 rw [bAll_later i m h j, bRow_tk, h0 i j, hz i j, List.nil_append]; rfl
end
section
variable {N b n t : Nat} {tb : List (Nat × Box)} {s : Scn} {tp : List Nat} {hd : Nat → Nat → List Nat} {ln : Nat → Nat} {z : BS} {H : Nat → Bool}
theorem bVal_ph (h : NetO N b tb s tp z.σ) (hn : s.n = (n : Int)) (htn : t < n) (hp : ∀ j i, ∀ x ∈ hd j i, x < s.p) (i k : Nat) : PhO N b n t tb s tp ⟨(bRow n t hd i (bAll n t hd ln z i) k).σ, (List.range n).map fun j => vF (hd j i) k⟩ := by
 obtain ⟨h1, _, _⟩ := bAll_ok (ln := ln) h hn htn hp i
 obtain ⟨h2, _, _⟩ := bRow_ok h1 hn htn hp i k
 have p0 : 0 < s.p := by have := h.I.p0; rwa [h.s] at this
 exact ⟨h2, map_len _ _, fun x hx => by
  obtain ⟨j, _, rfl⟩ := List.mem_map.1 hx
  exact vF_lt p0 (hp j i) k⟩
theorem bVal_agree (h : NetO N b tb s tp z.σ) (hn : s.n = (n : Int)) (g : Good n t H) (hh : Hears s n H) (hp : ∀ j i, ∀ x ∈ hd j i, x < s.p) (i k : Nat) : ∃ x, ∀ j, j < n → H j = true → bVal n t hd ln z i k j = x :=
 phases_agree (bVal_ph h hn (by have := g.third; omega) hp i k) hn g hh
theorem bVal_valid (h : NetO N b tb s tp z.σ) (hn : s.n = (n : Int)) (g : Good n t H) (hh : Hears s n H) (hp : ∀ j i, ∀ x ∈ hd j i, x < s.p) (i k : Nat) {x : Nat} (hx : ∀ j, j < n → H j = true → vF (hd j i) k = x) : ∀ j, j < n → H j = true → bVal n t hd ln z i k j = x :=
 phases_valid (bVal_ph h hn (by have := g.third; omega) hp i k) hn g hh (fun j hj hH => by
  show vF ((List.range n).map fun j => vF (hd j i) k) j = x
  rw [vF_map _ hj]; exact hx j hj hH)
end
theorem resize_idem (l : List Nat) (k : Nat) : resizeS (resizeS l k) k = resizeS l k := by
 have h : (resizeS l k).length = k := resizeS_pos
 show (resizeS l k).take k ++ List.replicate (k - (resizeS l k).length) 0 = _
 rw [h, Nat.sub_self, List.replicate_zero, List.append_nil]
 exact List.take_of_length_le (by omega)
theorem map_vFk (l : List Nat) : (List.range l.length).map (fun k => vF l k) = l := map_vF rfl
theorem tot_facts : ∀ (ls : List Int) (a : Int), 0 ≤ a → 0 ≤ totL ls a → totL ls a ≤ 4 → (∀ x ∈ ls, 0 ≤ x ∧ x ≤ 1000) ∧ totL ls a = a + ls.sum
 | [], a, _, _, _ => ⟨fun x hx => (by cases hx), (by simp [totL])⟩
 | x :: l, a, ha, h0, h4 => by
   have e : totL (x :: l) a = if x < 0 then -1 else if x > 1000 then 1000 else totL l (a + x) := rfl
   by_cases hx : x < 0
   ·rw [e, if_pos hx] at h0; omega
   ·by_cases hy : x > 1000
    ·rw [e, if_neg hx, if_pos hy] at h4; omega
    ·rw [e, if_neg hx, if_neg hy] at h0 h4
     obtain ⟨h1, h2⟩ := tot_facts l (a + x) (by omega) h0 h4
     refine ⟨fun y hy2 => ?_, ?_⟩
     ·rcases List.mem_cons.1 hy2 with rfl | hy2
      ·omega
      ·exact h1 y hy2
     ·rw [e, if_neg hx, if_neg hy, h2, List.sum_cons]; omega
theorem sumL_take (ls : List Int) (h : ∀ x ∈ ls, 0 ≤ x) : ∀ i, i ≤ ls.length → (sumL (lnF ls) i : Int) = (ls.take i).sum
 | 0, _ => by simp [sumL]
 | i + 1, hi => by
   have h1 : i < ls.length := by omega
   have h2 := h _ (List.getElem_mem h1)
   have h3 : (lnF ls i : Int) = ls[i] := by unfold lnF; rw [List.getElem?_eq_getElem h1]; show ((ls[i]).toNat : Int) = _; omega
   rw [List.take_succ_eq_append_getElem h1, List.sum_append]
   show ((sumL (lnF ls) i + lnF ls i : Nat) : Int) = _
   push_cast
   rw [sumL_take ls h i (by omega), h3]; simp
theorem tot_sum {ls : List Int} {n : Nat} (hl : ls.length = n) (h0 : 0 ≤ totL ls 0) (h4 : totL ls 0 ≤ 4) : (∀ x ∈ ls, 0 ≤ x ∧ x ≤ 1000) ∧ totL ls 0 = (sumL (lnF ls) n : Int) := by
 obtain ⟨h1, h2⟩ := tot_facts ls 0 (Int.le_refl _) h0 h4
 refine ⟨h1, ?_⟩
 rw [sumL_take ls (fun x hx => (h1 x hx).1) n (by omega), ← hl, List.take_length, h2]; omega
structure PlayOk (z : Play) (n t N : Nat) : Prop where
 T : ScnT z.s
 s : ScnS z.s
 d : z.s.devs.length ≤ 1000
 c : z.s.corrupt.length ≤ 1000
 r : ∀ r ∈ z.s.tapes, r.l.length ≤ 1000
 hN : SendN (lentS z.s) N
 hn : z.s.n = (n : Int)
 ht : z.s.t = (t : Int)
 h3 : 3 * t < n
 h5 : n ≤ 5
 lr : z.rs.length = n
 ll : z.ls.length = n
 ls : ∀ x ∈ z.ls, 0 ≤ x ∧ x ≤ 1000
 w : ∀ r ∈ z.rs, r.l.length ≤ 6 ∧ ∀ x ∈ r.l, x < z.s.p
 t0 : totL z.ls 0 = (sumL (lnF z.ls) n : Int)
 t4 : sumL (lnF z.ls) n ≤ 4
theorem playOk_ex {z : Play} (hB : ScnB z.s) (hm : PlayS z) : ∃ n t N, PlayOk z n t N := by
 obtain ⟨⟨f1, f2, f3, f4, hs⟩, h2, h3, h4, g0, g4⟩ := hm
 have hr : ∀ r ∈ z.s.tapes, r.l.length ≤ 1000 := fun r h => by have := f4 r h; omega
 have hv := hs.1.1
 have ht : 1 ≤ z.s.t ∧ 3 * z.s.t < z.s.n := ⟨hv.2.2.2.2.1, hv.2.2.2.2.2.2⟩
 have hc : (z.s.corrupt.length : Int) ≤ z.s.t := hs.1.2.1
 obtain ⟨N, hN⟩ := new_ex z.s hs (by omega) (by omega) hr hB.k
 obtain ⟨q1, q2⟩ := tot_sum (n := z.rs.length) (by omega) g0 g4
 exact ⟨z.rs.length, z.s.t.toNat, N, hB.T, hs, by omega, by omega, hr, hN, h2.symm, by omega, by omega, by omega, rfl, by omega, q1, h4, q2, by omega⟩
theorem rwF_lent (rs : List RD) (i : Nat) : rwF (rs.map lent) i = rwF rs i := by
 unfold rwF
 rw [List.getElem?_map]
 cases rs[i]? <;> rfl
theorem sayL_lent (n : Nat) (rs : List RD) (ls : List Int) : sayL n (rs.map lent) ls = sayL n rs ls := by
 unfold sayL
 exact List.map_congr_left fun i _ => by rw [rwF_lent]
def pEnd (z : Play) (nx n t : Nat) : BS := bEnd n t (nwO z.s nx) z.rs z.ls
def pHd (z : Play) (nx n : Nat) : Nat → Nat → List Nat := hrd (saidE (nwO z.s nx) n (sayL n z.rs z.ls)) z.ls
def pZ (z : Play) (nx n : Nat) : BS := ⟨sentE (nwO z.s nx) n (sayL n z.rs z.ls), fun _ _ => []⟩
theorem pEnd_eq (z : Play) (nx n t : Nat) : pEnd z nx n t = bAll n t (pHd z nx n) (lnF z.ls) (pZ z nx n) n := rfl
section
variable {z : Play} {n t N nx : Nat}
theorem PlayOk.net (o : PlayOk z n t N) (nx : Nat) : NetO N (nx + 2) (tbO z.s nx) z.s (nwO z.s nx).tp (nwO z.s nx) := ⟨nwO_I o.s o.hN nx, o.T.net0 _ _, rfl, rfl⟩
theorem PlayOk.p0 (o : PlayOk z n t N) : 0 < z.s.p := by have := (o.net 0).I.p0; exact this
theorem PlayOk.okr (o : PlayOk z n t N) : ∀ r ∈ z.rs, ∀ x ∈ r.l, x < z.s.p := fun r hr => (o.w r hr).2
theorem PlayOk.said (o : PlayOk z n t N) (nx : Nat) : SOk z.s.p (saidE (nwO z.s nx) n (sayL n z.rs z.ls)) := sOk_of ((o.net nx).said o.hn (by simp) (sayL_ok o.p0 o.ls o.okr))
theorem PlayOk.z1 (o : PlayOk z n t N) (nx : Nat) : NetO N (nx + 2) (tbO z.s nx) z.s (nwO z.s nx).tp (pZ z nx n).σ ∧ (pZ z nx n).σ.round = 1 := by
 obtain ⟨h1, h2⟩ := (o.net nx).sent o.hn (sayL n z.rs z.ls)
 refine ⟨h1, h2.trans ?_⟩
 rfl
theorem PlayOk.hdp (o : PlayOk z n t N) (nx : Nat) : ∀ j i, ∀ x ∈ pHd z nx n j i, x < z.s.p := fun j i => hrd_lt o.p0 (o.said nx) z.ls j i
theorem PlayOk.good (o : PlayOk z n t N) : Good n t (hon z.s) := good_of o.ht o.s.1.2.1 o.h3
theorem PlayOk.hears (o : PlayOk z n t N) : Hears z.s n (hon z.s) := hears_hon o.hn fun x hx => (o.s.2.2.1 x hx).P
theorem PlayOk.fin (o : PlayOk z n t N) (nx : Nat) : NetO N (nx + 2) (tbO z.s nx) z.s (nwO z.s nx).tp (pEnd z nx n t).σ ∧ (pEnd z nx n t).σ.round = 1 + 3 * ((t + 1 : Nat) : Int) * (sumL (lnF z.ls) n : Int) := by
 obtain ⟨h1, h2⟩ := o.z1 nx
 obtain ⟨h3, h4, _⟩ := bAll_ok (ln := lnF z.ls) h1 o.hn (show t < n by have := o.h3; omega) (o.hdp nx) n
 exact ⟨h3, by rw [pEnd_eq, h4, h2]⟩
theorem PlayOk.tk (o : PlayOk z n t N) (nx : Nat) {i : Nat} (hi : i < n) (j : Nat) : (pEnd z nx n t).tk j i = (List.range (lnF z.ls i)).map fun k => bVal n t (pHd z nx n) (lnF z.ls) (pZ z nx n) i k j := by
 obtain ⟨h1, h2⟩ := o.z1 nx
 exact bAll_tk (fun _ _ => rfl) (fun i' j' => (bAll_ok (ln := lnF z.ls) h1 o.hn (show t < n by have := o.h3; omega) (o.hdp nx) i').2.2 i' (Nat.le_refl _) j') hi j
theorem PlayOk.new (o : PlayOk z n t N) {k : Nat} (hk : 1111 ≤ k) (c : Box) (st : Nat → V) (dst : Option Nat) :
 doCallB H14 (evCall Tryd.prog H14 k) 32 false [scV z.s] ⟨st, [(nx, c)], nx + 1⟩ dst = some ((St.mk (fun i => killB [] (nx + 1) (st i)) ([(nx, c), (nx + 1, ⟨0, scL z.s⟩)] ++ (nx + 2, ⟨0, netC (nwO z.s nx)⟩) :: tbO z.s nx) (nx + (3 + z.s.tapes.length))).lay dst (.tup [.bptr (nx + 2) 0, .int .i64 0])) := by
 have hl : (z.s.tapes.length : Int) = z.s.n := o.s.2.1
 have h5 := o.h5
 have hn := o.hn
 have c13 := call13 z.s st [(nx, c)] (nx + 1) dst o.d (by omega) o.r o.s o.T.r hk
 rw [netM_at] at c13
 have e2 : nx + 1 + (2 + z.s.tapes.length) = nx + (3 + z.s.tapes.length) := by omega
 rw [e2] at c13
 exact c13
theorem PlayOk.bc (o : PlayOk z n t N) (A Al : Option Addr) (cap cl : Nat) (nx : Nat) : AnsM (max N 1200 + 5) Tryd.prog H14 33 [.bptr (nx + 2) 0, .im false A cap n (rsV (z.rs.map lent)), .im false Al cl n (iL z.ls)] ((nx + 2, ⟨0, netC (nwO z.s nx)⟩) :: tbO z.s nx) (.own .nil 0 n (tkC (pEnd z nx n t).tk n)) ((nx + 2, ⟨0, netC (pEnd z nx n t).σ⟩) :: tbO z.s nx) := by
 have hO := o.net nx
 have ht4 : 3 * ((t + 1 : Nat) : Int) * (sumL (lnF z.ls) n : Int) ≤ 60 := by
  have h1 : (sumL (lnF z.ls) n : Int) ≤ 4 := by have := o.t4; omega
  have h2 := Int.mul_le_mul_of_nonneg_left h1 (show (0 : Int) ≤ 3 * ((t + 1 : Nat) : Int) by omega)
  have := o.h3; have := o.h5; omega
 have h := bcast33 (g := 0) hO.I hO.T (o.T.tbO nx) A Al cap cl (z.rs.map lent) z.ls n t (by rw [List.length_map]; exact o.lr) o.ll o.hn o.ht o.h3 o.ls (fun r hr x hx => by
  obtain ⟨r0, hr0, rfl⟩ := List.mem_map.1 hr
  exact o.okr r0 hr0 x hx) (fun r hr => by
  obtain ⟨r0, _, rfl⟩ := List.mem_map.1 hr
  rfl) (by show (0 : Int) + 1 + _ < 1000; omega)
 have e : bEnd n t (nwO z.s nx) (z.rs.map lent) z.ls = pEnd z nx n t := by
  unfold pEnd bEnd
  rw [sayL_lent]
 rw [e] at h
 exact h
theorem PlayOk.bcall (o : PlayOk z n t N) (A Al : Option Addr) (cap cl : Nat) (nx : Nat) {k : Nat} (hk : max N 1200 + 5 ≤ k) (c c' : Box) (s : Nat → V) (dst : Option Nat) :
 doCallB H14 (evCall Tryd.prog H14 k) 33 false [.bptr (nx + 2) 0, .im false A cap n (rsV (z.rs.map lent)), .im false Al cl n (iL z.ls)] ⟨s, [(nx, c), (nx + 1, c')] ++ (nx + 2, ⟨0, netC (nwO z.s nx)⟩) :: tbO z.s nx, nx + (3 + z.s.tapes.length)⟩ dst = some ((St.mk (fun i => killB ((nx + 2) :: (nwO z.s nx).tp) (nx + (3 + z.s.tapes.length)) (s i)) ([(nx, c), (nx + 1, c')] ++ (nx + 2, ⟨0, netC (pEnd z nx n t).σ⟩) :: tbO z.s nx) (nx + (3 + z.s.tapes.length))).lay dst (.own .nil 0 n (tkC (pEnd z nx n t).tk n))) :=
 (nwO_A z.s nx c c').call (o.net nx).I.hT (o.net nx).I.hl (o.fin nx).1.tp (o.bc A Al cap cl nx) hk (by simp [ptrsL, ptrs]) rfl s dst
end
section
variable {z : Play} {n t N nx : Nat} {H : Nat → Bool}
theorem PlayOk.hd_said (o : PlayOk z n t N) (hh : Hears z.s n H) {i j : Nat} (hi : i < n) (hH : H i = true) (hj : j < n) : pHd z nx n j i = resizeS (rwF z.rs i) (lnF z.ls i) := by
 unfold pHd hrd
 rw [hS_said (s := z.s) rfl hh hj hi hH (resizeS (rwF z.rs i) (lnF z.ls i)) (by unfold sayL; rw [List.getElem?_map, List.getElem?_range hi]; rfl)]
 exact resize_idem _ _
theorem PlayOk.valid (o : PlayOk z n t N) (g : Good n t H) (hh : Hears z.s n H) {l : List Nat} {i j : Nat} (hi : i < n) (hl : l.length = lnF z.ls i) (hs : ∀ j, j < n → H j = true → pHd z nx n j i = l) (hj : j < n) (hH : H j = true) : (pEnd z nx n t).tk j i = l := by
 rw [o.tk nx hi]
 have e : (List.range (lnF z.ls i)).map (fun k => bVal n t (pHd z nx n) (lnF z.ls) (pZ z nx n) i k j) = (List.range l.length).map fun k => vF l k := by
  rw [hl]
  refine List.map_congr_left fun k _ => ?_
  exact bVal_valid (ln := lnF z.ls) (o.z1 nx).1 o.hn g hh (o.hdp nx) i k (fun j hj hH => by rw [hs j hj hH]) j hj hH
 rw [e, map_vFk]
theorem PlayOk.valid_h (o : PlayOk z n t N) (g : Good n t H) (hh : Hears z.s n H) {i j : Nat} (hi : i < n) (hHi : H i = true) (hj : j < n) (hH : H j = true) : (pEnd z nx n t).tk j i = resizeS (rwF z.rs i) (lnF z.ls i) :=
 o.valid g hh hi resizeS_pos (fun j hj _ => o.hd_said hh hi hHi hj) hj hH
end
theorem good_all {n t : Nat} (h3 : 3 * t < n) : Good n t (fun _ => true) := ⟨by
 have : cnt n (fun f => !true) = 0 := List.countP_eq_zero.2 fun f _ => by simp
 show cnt n (fun f => !true) ≤ t
 omega, h3⟩
theorem tkRow4 (tk : Nat → List Nat) : tkRow tk 4 = [ownR (tk 0), ownR (tk 1), ownR (tk 2), ownR (tk 3)] := rfl
theorem tkC4 (tk : Nat → Nat → List Nat) : tkC tk 4 = [.own .nil 0 4 (tkRow (tk 0) 4), .own .nil 0 4 (tkRow (tk 1) 4), .own .nil 0 4 (tkRow (tk 2) 4), .own .nil 0 4 (tkRow (tk 3) 4)] := rfl
def exS17 : Scn := ⟨31, 4, 1, true, none, 0, [], true, none, 0, [], true, none, 0, [rt [], rt [], rt [], rt []]⟩
def exP : Play := ⟨exS17, false, none, 0, [rz [5], rz [], rz [6], rz [7, 8]], false, none, 0, [1, 0, 0, 1]⟩
theorem exS17_ok : ScnS exS17 := by
 refine ⟨⟨by decide, by decide, fun i hi => by simp [exS17] at hi⟩, by decide, fun x hx => by simp [exS17] at hx, by decide⟩
theorem exS17_T : ScnT exS17 := ⟨rfl, rfl, rfl, fun x hx => by
 have : x = rt [] := by simpa [exS17] using hx
 subst this; rfl⟩
theorem exP_ok : ∃ N, PlayOk exP 4 1 N := by
 obtain ⟨N, hN⟩ := new_ex exS17 exS17_ok (by decide) (by decide) (by decide) (fun x hx => by simp [exS17] at hx)
 exact ⟨N, exS17_T, exS17_ok, by decide, by decide, by decide, hN, rfl, rfl, by decide, by decide, rfl, rfl, by decide, by decide, by decide, by decide⟩
theorem awake30 : ∃ N, AnsN N Tryd.prog H14 30 [] (.bool true) := by
 obtain ⟨N, o⟩ := exP_ok
 refine ⟨max (max N 1200 + 5) 1200 + 2, ?_⟩
 refine AnsN.of (fn := Tryd.f30) (t := 0) (by rfl) Tryd.func30 rfl rfl (by rfl) (by rfl) fun k hk nx => ?_
 have c32 := fun c st dst => o.new (nx := nx) (k := k) (by omega) c st dst
 have c33 := fun c c' st dst => o.bcall none none 0 0 nx (k := k) (by omega) c c' st dst
 have hv : ∀ j i, j < 4 → i < 4 → (pEnd exP nx 4 1).tk j i = resizeS (rwF exP.rs i) (lnF exP.ls i) := fun j i hj hi => o.valid_h (good_all (by decide)) (hears_all (s := exP.s) rfl 4) hi rfl hj rfl
 obtain ⟨hfin, hrd⟩ := o.fin nx
 have hs2 : sumL (lnF exP.ls) 4 = 2 := by decide
 rw [hs2] at hrd
 have hrd : (pEnd exP nx 4 1).σ.round = 13 := hrd.trans (by decide)
 have htk : tkC (pEnd exP nx 4 1).tk 4 = List.replicate 4 (.own .nil 0 4 [.own .nil 0 1 [.int .u64 5], .own .nil 0 0 [], .own .nil 0 0 [], .own .nil 0 1 [.int .u64 7]]) := by
  have hrow : ∀ j, j < 4 → tkRow ((pEnd exP nx 4 1).tk j) 4 = [.own .nil 0 1 [.int .u64 5], .own .nil 0 0 [], .own .nil 0 0 [], .own .nil 0 1 [.int .u64 7]] := fun j hj => by
   rw [tkRow4, hv j 0 hj (by decide), hv j 1 hj (by decide), hv j 2 hj (by decide), hv j 3 hj (by decide)]
   rfl
  rw [tkC4, hrow 0 (by decide), hrow 1 (by decide), hrow 2 (by decide), hrow 3 (by decide)]
  rfl
 have hrs : rsV (exP.rs.map lent) = [.im false none 0 1 [.int .u64 5], .im false none 0 0 [], .im false none 0 1 [.int .u64 6], .im false none 0 2 [.int .u64 7, .int .u64 8]] := rfl
 have hls : iL exP.ls = [.int .i64 1, .int .i64 0, .int .i64 0, .int .i64 1] := rfl
 have hsc : scV exP.s = .agg [.int .u64 31, .int .i64 4, .int .i64 1, .im true none 0 0 [], .im true none 0 0 [], .im true none 0 4 [.im true none 0 0 [], .im true none 0 0 [], .im true none 0 0 [], .im true none 0 0 []]] := rfl
 have htl : exP.s.tapes.length = 4 := rfl
 rw [htk, hrs, hls, htl] at c33
 rw [hsc, htl] at c32
 have rp : List.replicate 4 (V.own .nil 0 4 [.own .nil 0 1 [.int .u64 5], .own .nil 0 0 [], .own .nil 0 0 [], .own .nil 0 1 [.int .u64 7]]) = [.own .nil 0 4 [.own .nil 0 1 [.int .u64 5], .own .nil 0 0 [], .own .nil 0 0 [], .own .nil 0 1 [.int .u64 7]], .own .nil 0 4 [.own .nil 0 1 [.int .u64 5], .own .nil 0 0 [], .own .nil 0 0 [], .own .nil 0 1 [.int .u64 7]], .own .nil 0 4 [.own .nil 0 1 [.int .u64 5], .own .nil 0 0 [], .own .nil 0 0 [], .own .nil 0 1 [.int .u64 7]], .own .nil 0 4 [.own .nil 0 1 [.int .u64 5], .own .nil 0 0 [], .own .nil 0 0 [], .own .nil 0 1 [.int .u64 7]]] := rfl
 rw [rp] at c33
 have AO : ∀ c c', Around nx (nx + 2) (pEnd exP nx 4 1).σ.tp c [(nx, c), (nx + 1, c')] (nx + (3 + exP.s.tapes.length)) := fun c c' => by rw [hfin.tp]; exact nwO_A exP.s nx c c'
 have c21 := fun c c' st dst => (AO c c').call hfin.I.hT hfin.I.hl rfl (rounds26 (nx + 2) 0 (pEnd exP nx 4 1).σ (tbO exP.s nx) hfin.I.hT) (k := k) (by omega) (by simp [ptrsL, ptrs]) rfl st dst
 rw [hrd, htl] at c21
 have c35 := fun A A2 cap cap2 a b h1 h2 h3 => callP (sameRows35 false false A A2 cap cap2 a b h1 h2 h3) (k := k) (by omega) (by simp [ptrsL, ptrs]) rfl
 have c35a := fun A A2 cap cap2 => c35 A A2 cap cap2 [rz [5], rz [], rz [], rz [7]] [rz [5], rz [], rz [], rz [7]] (by decide) (by decide) rfl
 have r4 : rsV [rz [5], rz [], rz [], rz [7]] = [.im false none 0 1 [.int .u64 5], .im false none 0 0 [], .im false none 0 0 [], .im false none 0 1 [.int .u64 7]] := rfl
 have l4 : [rz [5], rz [], rz [], rz [7]].length = 4 := rfl
 rw [r4, l4] at c35a
 obtain ⟨T0, hT0⟩ : ∃ T0, tbO exP.s nx = T0 := ⟨_, rfl⟩
 obtain ⟨σ0, hσ0⟩ : ∃ σ0, nwO exP.s nx = σ0 := ⟨_, rfl⟩
 obtain ⟨σ1, hσ1⟩ : ∃ σ1, (pEnd exP nx 4 1).σ = σ1 := ⟨_, rfl⟩
 rw [hT0, hσ0] at c32
 rw [hT0, hσ0, hσ1] at c33
 rw [hT0, hσ1] at c21
 simp [-reach, -doCall, doCall_eq, entryS, c32, c33, -EvK_app]
 rw [EvK_app]
 simp [-reach, -doCall, doCall_eq, -EvK_app]
 refine EvK_cut (fun D => D.s 1 = .bptr nx 0 ∧ D.m = [(nx, ⟨0, [.int .u64 31, .int .i64 4, .int .i64 1, .own .nil 0 0 [], .own .nil 0 0 [], .own .nil 0 4 [.own .nil 0 0 [], .own .nil 0 0 [], .own .nil 0 0 [], .own .nil 0 0 []]]⟩)] ∧ D.nx = nx + 1) (by simp) fun D ⟨d1, dm, dx⟩ => ?_
 simp [-reach, -doCall, doCall_eq, -EvK_app, d1, dm, dx, c32]
 obtain ⟨cS, hcS⟩ : ∃ cS : Box, (⟨0, scL exP.s⟩ : Box) = cS := ⟨_, rfl⟩
 obtain ⟨cN, hcN⟩ : ∃ cN : Box, (⟨0, [.int .u64 31, .int .i64 4, .int .i64 1, .im true none 0 0 [], .im true none 0 0 [], .im true none 0 4 [.im true none 0 0 [], .im true none 0 0 [], .im true none 0 0 [], .im true none 0 0 []]]⟩ : Box) = cN := ⟨_, rfl⟩
 have c33' := c33 cN cS
 have c21' := c21 cN cS
 obtain ⟨W0, hW0⟩ : ∃ W0, [(nx, cN), (nx + 1, cS)] ++ (nx + 2, (⟨0, netC σ0⟩ : Box)) :: T0 = W0 := ⟨_, rfl⟩
 obtain ⟨W1, hW1⟩ : ∃ W1, [(nx, cN), (nx + 1, cS)] ++ (nx + 2, (⟨0, netC σ1⟩ : Box)) :: T0 = W1 := ⟨_, rfl⟩
 rw [hW0, hW1] at c33'
 rw [hW1] at c21'
 refine EvK_cut (fun D => D.s 2 = .bptr (nx + 2) 0 ∧ D.s 3 = .int .i64 0 ∧ D.m = W0 ∧ D.nx = nx + (3 + 4)) (by simp [← hW0, ← hcN, hcS]) fun D ⟨d2, d3, dm, dx⟩ => ?_
 simp [-reach, -doCall, doCall_eq, -EvK_app, d2, d3, dm, dx]
 rw [EvK_app]
 simp [-reach, -doCall, doCall_eq, -EvK_app, d2, d3, dm, dx]
 rw [EvK_app]
 simp [-reach, -doCall, doCall_eq, -EvK_app, d2, d3, dm, dx, c33']
 refine EvK_cut (fun D => D.s 2 = .bptr (nx + 2) 0 ∧ D.s 4 = .own .nil 0 4 [.own .nil 0 4 [.own .nil 0 1 [.int .u64 5], .own .nil 0 0 [], .own .nil 0 0 [], .own .nil 0 1 [.int .u64 7]], .own .nil 0 4 [.own .nil 0 1 [.int .u64 5], .own .nil 0 0 [], .own .nil 0 0 [], .own .nil 0 1 [.int .u64 7]], .own .nil 0 4 [.own .nil 0 1 [.int .u64 5], .own .nil 0 0 [], .own .nil 0 0 [], .own .nil 0 1 [.int .u64 7]], .own .nil 0 4 [.own .nil 0 1 [.int .u64 5], .own .nil 0 0 [], .own .nil 0 0 [], .own .nil 0 1 [.int .u64 7]]] ∧ D.m = W1 ∧ D.nx = nx + (3 + 4)) (by simp [d2]) fun D ⟨d2, d4, dm, dx⟩ => ?_
 refine EvP.seqG (fun D => D.s 0 = .bool true ∧ D.m = W1) ?_ fun D ⟨d0, dm⟩ => ?_
 ·refine EvP.drawT rfl ?_
  apply drawT_ex
  apply Exists.intro
  apply Exists.intro
  apply Exists.intro
  apply And.intro
  ·intro P hP
   simp only [paths, List.map_cons, List.map_nil, List.cons_append, List.nil_append, List.mem_cons, List.not_mem_nil, or_false] at hP
   rcases hP with rfl | rfl
   ·simp [-reach, -doCall, doCall_eq, d2, d4, dm, dx, c21', c35a]
    exact ⟨fun jj => rfl, rfl, rfl⟩
   ·simp [-reach, -doCall, doCall_eq, d2, d4, dm, dx, c21', c35a]
    refine ⟨fun jj => ?_, rfl, rfl⟩
    rcases Decidable.em (jj = 0) with rfl | a0
    ·simp
    rcases Decidable.em (jj = 22) with rfl | a22
    ·simp
    rcases Decidable.em (jj = 23) with rfl | a23
    ·simp
    rcases Decidable.em (jj = 24) with rfl | a24
    ·simp
    rcases Decidable.em (jj = 25) with rfl | a25
    ·simp
    rcases Decidable.em (jj = 26) with rfl | a26
    ·simp
    rcases Decidable.em (jj = 27) with rfl | a27
    ·simp
    rcases Decidable.em (jj = 28) with rfl | a28
    ·simp
    rcases Decidable.em (jj = 29) with rfl | a29
    ·simp
    rcases Decidable.em (jj = 30) with rfl | a30
    ·simp
    rcases Decidable.em (jj = 31) with rfl | a31
    ·simp
    rcases Decidable.em (jj = 32) with rfl | a32
    ·simp
    rcases Decidable.em (jj = 33) with rfl | a33
    ·simp
    rcases Decidable.em (jj = 34) with rfl | a34
    ·simp
    rcases Decidable.em (jj = 35) with rfl | a35
    ·simp
    rcases Decidable.em (jj = 36) with rfl | a36
    ·simp
    rcases Decidable.em (jj = 37) with rfl | a37
    ·simp
    rcases Decidable.em (jj = 38) with rfl | a38
    ·simp
    rcases Decidable.em (jj = 39) with rfl | a39
    ·simp
    rcases Decidable.em (jj = 40) with rfl | a40
    ·simp
    rcases Decidable.em (jj = 41) with rfl | a41
    ·simp
    rcases Decidable.em (jj = 42) with rfl | a42
    ·simp
    rcases Decidable.em (jj = 43) with rfl | a43
    ·simp
    rcases Decidable.em (jj = 44) with rfl | a44
    ·simp
    rcases Decidable.em (jj = 45) with rfl | a45
    ·simp
    rcases Decidable.em (jj = 46) with rfl | a46
    ·simp
    rcases Decidable.em (jj = 47) with rfl | a47
    ·simp
    simp [a0, a22, a23, a24, a25, a26, a27, a28, a29, a30, a31, a32, a33, a34, a35, a36, a37, a38, a39, a40, a41, a42, a43, a44, a45, a46, a47, kill_comm]
  ·simp
 ·simp [d0, dm]
  exact fun a b hab => ((AO cN cS).mem hfin.I.hT (a, b) (by rw [hσ1, hT0, hW1]; exact hab)).1
end Go.Abs
end
