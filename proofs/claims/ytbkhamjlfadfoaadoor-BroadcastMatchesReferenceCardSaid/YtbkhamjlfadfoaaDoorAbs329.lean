/- Joined: AbsQA. -/
import Derived.Test.YtbkhamjlfadfoaaDoorAbs328
set_option linter.all false
set_option maxHeartbeats 16000000
noncomputable section
namespace Go.Abs
open Go Go.Proofs
set_option maxRecDepth 100000
def lnF (ls : List Int) (i : Nat) : Nat := ((ls[i]?).getD 0).toNat
def rwF (rs : List RD) (i : Nat) : List Nat := ((rs[i]?).map (·.l)).getD []
def sayL (n : Nat) (rs : List RD) (ls : List Int) : List (List Nat) := (List.range n).map fun i => resizeS (rwF rs i) (lnF ls i)
@[simp] theorem sayL_length (n : Nat) (rs : List RD) (ls : List Int) : (sayL n rs ls).length = n := by unfold sayL; rw [map_len]
theorem resizeS_ok {p : Nat} (hp : 0 < p) {l : List Nat} (h : ∀ x ∈ l, x < p) (k : Nat) : (resizeS l k).length = k ∧ ∀ x ∈ resizeS l k, x < p := by
 unfold resizeS
 refine ⟨by rw [List.length_append, List.length_take, List.length_replicate]; omega, fun x hx => ?_⟩
 rcases List.mem_append.1 hx with hx | hx
 ·exact h x (List.mem_of_mem_take hx)
 ·rw [(List.mem_replicate.1 hx).2]; exact hp
def sayR (n : Nat) (l : List Nat) (j : Nat) : V := .own .nil 0 j (List.replicate j (cpV l))
def sayC (n i : Nat) (L : List (List Nat)) : List V := (L.take i).map (fun l => sayR n l n) ++ List.replicate (n - i) (.own .nil 0 0 [])
section
variable {n i : Nat} {L : List (List Nat)}
theorem sayC_length (hl : L.length = n) (hi : i ≤ n) : (sayC n i L).length = n := by
 unfold sayC
 rw [List.length_append, List.length_map, List.length_take, List.length_replicate]; omega
theorem sayC_zero (n : Nat) (L : List (List Nat)) : sayC n 0 L = List.replicate n (.own .nil 0 0 []) := by simp [sayC]
theorem sayC_get (hl : L.length = n) (hi : i < n) : (sayC n i L)[i]? = some (.own .nil 0 0 []) := by
 unfold sayC
 rw [List.getElem?_append_right (by rw [List.length_map, List.length_take]; omega), List.length_map, List.length_take, List.getElem?_replicate, if_pos (by omega)]
theorem sayC_set0 (hl : L.length = n) (hi : i < n) (l : List Nat) : (sayC n i L).set i (sayR n l 0) = sayC n i L := by
 have h := sayC_get hl hi
 apply List.ext_getElem?
 intro j
 rw [List.getElem?_set]
 by_cases e : i = j
 ·subst e
  rw [if_pos rfl, if_pos (by rw [sayC_length hl (by omega)]; exact hi), h]
  rfl
 ·rw [if_neg e]
theorem sayC_succ (hl : L.length = n) (hi : i < n) : (sayC n i L).set i (sayR n (L[i]'(by omega)) n) = sayC n (i + 1) L := by
 unfold sayC
 have e1 : n - i = (n - (i + 1)) + 1 := by omega
 have e2 : ((L.take i).map fun l => sayR n l n).length = i := by rw [List.length_map, List.length_take]; omega
 rw [List.take_succ_eq_append_getElem (by omega), List.map_append, e1, List.set_append_right _ _ (by omega), e2, Nat.sub_self, List.append_assoc, List.replicate_succ]
 rfl
end
theorem frz_cpV1 (b : Bool) (l : List Nat) : frz false (frz b (cpV l)) = rV (rz l) := by
 have h := frz_cpV b [l]
 exact (List.cons.inj h).1
theorem frz_repC (b : Bool) (l : List Nat) (n : Nat) : frzL false (frzL b (List.replicate n (cpV l))) = List.replicate n (rV (rz l)) := by
 induction n with
 | zero => rfl
 | succ n ih =>
   show frz false (frz b (cpV l)) :: frzL false (frzL b (List.replicate n (cpV l))) = _
   rw [ih, frz_cpV1, List.replicate_succ]
theorem sayC_full {n : Nat} {L : List (List Nat)} (hl : L.length = n) (b : Bool) : frzL false (frzL b (sayC n n L)) = msV (eachM n (L.map rz)) := by
 unfold sayC
 rw [Nat.sub_self, List.replicate_zero, List.append_nil, ← hl, List.take_length]
 have key : ∀ l : List (List Nat), frzL false (frzL b (l.map fun r => sayR L.length r L.length)) = msV (eachM L.length (l.map rz)) := by
  intro l
  induction l with
  | nil => rfl
  | cons r l ih =>
    show frz false (frz b (sayR L.length r L.length)) :: frzL false (frzL b (l.map fun r => sayR L.length r L.length)) = mV ⟨false, none, 0, List.replicate L.length (lent (rz r))⟩ :: msV (eachM L.length (l.map rz))
    rw [ih]
    congr 1
    show V.im false none 0 L.length (frzL false (frzL b (List.replicate L.length (cpV r)))) = _
    rw [frz_repC]
    unfold mV rsV
    simp only [List.map_replicate, List.length_replicate]
    rfl
 exact key L
def hrd (S : List (List (List Nat))) (ls : List Int) (j i : Nat) : List Nat := resizeS (hS S j i) (lnF ls i)
def hrRow (S : List (List (List Nat))) (ls : List Int) (n j c : Nat) : List V := mix (fun i => ownR (hrd S ls j i)) (fun i => cpV (hS S j i)) n c
def hrC (S : List (List (List Nat))) (ls : List Int) (n c : Nat) : List V := mix (fun j => .own .nil 0 n (hrRow S ls n j n)) (fun j => .own .nil 0 n (hrRow S ls n j 0)) n c
theorem hrC_zero (S : List (List (List Nat))) (ls : List Int) (n : Nat) : hrC S ls n 0 = rowsC (outL S n n) := by
 unfold hrC
 rw [mix_zero, outL_full]
 unfold rowsC
 rw [List.map_map]
 refine List.map_congr_left fun j _ => ?_
 show V.own .nil 0 n (hrRow S ls n j 0) = rowC (colS S j n)
 unfold hrRow rowC
 rw [mix_zero, colS_length]
 unfold colS
 rw [List.map_map]
 rfl
theorem resizeS_pos {l : List Nat} {k : Nat} : (resizeS l k).length = k := by
 unfold resizeS
 rw [List.length_append, List.length_take, List.length_replicate]; omega
theorem sent57 {N b g : Nat} {σ : NetS} {tb : List (Nat × Box)} (I : NetI N b σ tb) (hr : σ.round < 1000) (pm pl : Bool) (A Al : Option Addr) (cap cl : Nat) (rs : List RD) (ls : List Int) (n : Nat) (hl : rs.length = n) (hll : ls.length = n) (hn : σ.scn.n = (n : Int)) (h0 : 0 < n) (hls : ∀ x ∈ ls, 0 ≤ x ∧ x ≤ 1000) (hok : ∀ r ∈ rs, ∀ x ∈ r.l, x < σ.scn.p) :
 AnsM (max N 100 + 2) Tryd.prog H14 57 [.bptr b 0, .im pm A cap n (rsV rs), .im pl Al cl n (iL ls)] ((b, ⟨g, netC σ⟩) :: tb) (.own .nil 0 n (hrC (saidE σ n (sayL n rs ls)) ls n n)) ((b, ⟨g, netC (sentE σ n (sayL n rs ls))⟩) :: tb) := by
 have h13 : n ≤ 13 := by have := I.h13; omega
 obtain ⟨L, hL⟩ : ∃ L, sayL n rs ls = L := ⟨_, rfl⟩
 have hLl : L.length = n := by rw [← hL]; simp
 have hp0 : 0 < σ.scn.p := I.p0
 have hli : ∀ i (h : i < ls.length), ls[i] = (lnF ls i : Int) ∧ lnF ls i ≤ 1000 := fun i h => by
  have h1 := hls _ (List.getElem_mem h)
  have h2 : lnF ls i = (ls[i]).toNat := by unfold lnF; rw [List.getElem?_eq_getElem h]; rfl
  omega
 have hrw : ∀ i (h : i < rs.length), rwF rs i = (rs[i]).l := fun i h => by unfold rwF; rw [List.getElem?_eq_getElem h]; rfl
 have hLi : ∀ i, i < n → L[i]? = some (resizeS (rwF rs i) (lnF ls i)) := fun i h => by rw [← hL]; unfold sayL; rw [List.getElem?_map, List.getElem?_range h]; rfl
 have hLok : LsOk σ.scn.p L := fun l hl => by
  rw [← hL] at hl
  obtain ⟨i, hi, rfl⟩ := List.mem_map.1 hl
  have hi := List.mem_range.1 hi
  obtain ⟨h1, h2⟩ := resizeS_ok hp0 (l := rwF rs i) (by rw [hrw i (by omega)]; exact hok _ (List.getElem_mem _)) (lnF ls i)
  exact ⟨by rw [h1]; exact (hli i (by omega)).2, h2⟩
 have hML : (eachM n (L.map rz)).length = n := by simp [eachM, hLl]
 have hmo : MsOk σ.scn.p n (mls (eachM n (L.map rz))) := by rw [mls_each, rz_l]; exact eachL_ok hLl hLok
 obtain ⟨S, hSd⟩ : ∃ S, saidE σ n L = S := ⟨_, rfl⟩
 have hS' : netSaid σ n (eachL n L) = S := hSd
 have hσ : sentE σ n L = sentS cpW S n σ := by unfold sentE; rw [hSd]
 rw [hL, hSd, hσ]
 refine AnsM.gen (fn := Tryd.f57) (by rfl) Tryd.func57 rfl (by rfl) (fun nx h c hc => ?_) fun k hk nx h => ?_
 ·have hp : ptrs (V.own .nil 0 n (hrC S ls n n)) = [] := by
   have e : hrC S ls n n = ((List.range n).map fun j => V.own .nil 0 n (((List.range n).map fun i => hrd S ls j i).map ownR)) := by
    unfold hrC
    rw [mix_full]
    refine List.map_congr_left fun j _ => ?_
    unfold hrRow
    rw [mix_full, List.map_map]; rfl
   rw [e]
   have key : ∀ l : List Nat, ptrsL (l.map fun j => V.own .nil 0 n (((List.range n).map fun i => hrd S ls j i).map ownR)) = [] := by
    intro l
    induction l with
    | nil => rfl
    | cons j l ih =>
      show ptrs (V.own .nil 0 n _) ++ ptrsL (l.map _) = []
      rw [ih]
      simp only [ptrs, ptrsL_ownR, List.append_nil]
   exact key _
  rw [hp, List.nil_append] at hc
  exact net_ptrs (σ := sentS cpW S n σ) (by rw [(like_sentS _ _ _ _).2.1]; exact I.hT) (fun e he => by
   rcases List.mem_cons.1 he with rfl | he
   ·exact h (b, ⟨g, netC σ⟩) List.mem_cons_self
   ·exact h _ (List.mem_cons_of_mem _ he)) hc
 obtain ⟨hb, hfl⟩ := net_filt h
 have hb' : (sentS cpW S n σ).tp = σ.tp := (like_sentS _ _ _ _).2.1
 have c63 := fun A' cap' => netCall0 (g := g) (σ' := sentS cpW S n σ) I.hT I.hl hb' (by
  have := I.send18 (g := g) hr false A' cap' (eachM n (L.map rz)) (by rw [hML]; exact hn.symm) (by rw [hML]; exact hmo)
  rw [hML, mls_each, rz_l, hS'] at this
  exact this) (k := k) (by omega) (by simp [ptrsL, ptrs]) rfl h
 have hz0 := hrC_zero S ls n
 simp only [inV, ← hz0] at c63
 obtain ⟨M, hM⟩ : ∃ M, (b, (⟨g, netC σ⟩ : Box)) :: tb = M := ⟨_, rfl⟩
 obtain ⟨M', hM'⟩ : ∃ M', (b, (⟨g, netC (sentS cpW S n σ)⟩ : Box)) :: tb = M' := ⟨_, rfl⟩
 have hall : ∀ e ∈ M', e.1 < nx := by
  rw [← hM']
  intro e he
  rcases List.mem_cons.1 he with rfl | he
  ·exact hb
  ·exact h _ (List.mem_cons_of_mem _ he)
 have hfM : M'.filter (fun e => decide (e.1 < nx)) = M' := filt_lt hall
 rw [hM, hM'] at c63
 rw [hM, hM']
 have b1 : (n : Int) ≤ 140737488355328 := by omega
 have b2 : (n : Int) * 24 ≤ 140737488355328 := by omega
 have hz : ¬ (n = 0 ∧ 0 < n) := by omega
 obtain ⟨cs, hcs⟩ : ∃ cs, rsV rs = cs := ⟨_, rfl⟩
 have hcl : cs.length = n := by rw [← hcs]; simp [rsV, hl]
 obtain ⟨is, his⟩ : ∃ is, iL ls = is := ⟨_, rfl⟩
 have hil0 : is.length = n := by rw [← his]; simp [iL, hll]
 rw [hcs, his]
 simp [-reach, entryS, b1, b2, hz, rep_rep]
 obtain ⟨Bs, hBs⟩ : ∃ Bs : St → Prop, Bs = fun D => D.s 0 = .bptr b 0 ∧ D.s 1 = .im pm A cap n cs ∧ D.s 2 = .im pl Al cl n is ∧ D.m = M ∧ D.nx = nx := ⟨_, rfl⟩
 obtain ⟨J, hJ⟩ : ∃ J : Nat → St → Prop, J = fun q D => ∃ (i : Nat) (CS : List V), q = n - i ∧ i ≤ n ∧ CS = sayC n i L ∧ Bs D ∧ D.s 7 = .own .nil 0 n CS ∧ D.s 17 = .im pm A cap n cs ∧ D.s 18 = .int .i64 (n : Int) ∧ D.s 19 = .int .i64 (i : Int) := ⟨_, rfl⟩
 refine EvP.loop J (n := n) (by rw [hJ]; exact ⟨0, _, by simp, by simp, (sayC_zero n L).symm, by simp [hBs], by simp, by simp, by simp, by simp⟩) (by omega) fun q D hD => ?_
 rw [hJ] at hD
 obtain ⟨i, CS, rfl, hi, hCS, hB, d7, d17, d18, d19⟩ := hD
 rw [hBs] at hB
 obtain ⟨d0, d1, d2, dm, dx⟩ := hB
 by_cases hil : i < n
 ·have e3 := wrap_succ (q := i) (by omega)
  have hir : i < rs.length := by omega
  have hic : i < cs.length := by omega
  have hii : i < is.length := by omega
  have hils : i < ls.length := by omega
  obtain ⟨r, hr0⟩ : ∃ r, rs[i] = r := ⟨_, rfl⟩
  have hri : cs[i] = rV r := by subst hcs; rw [rs_get rs i hir, hr0]
  have hiL : is[i] = .int .i64 (lnF ls i : Int) := by subst his; simp [iL, (hli i hils).1]
  obtain ⟨u, hu⟩ : ∃ u, resizeS r.l (lnF ls i) = u := ⟨_, rfl⟩
  have hul : u.length = lnF ls i := by rw [← hu]; exact resizeS_pos
  have hLe : L[i]'(by omega) = u := by
   have := List.getElem?_eq_getElem (l := L) (i := i) (by omega)
   rw [hLi i hil, hrw i hir, hr0, hu] at this
   exact (Option.some.inj this).symm
  have c79 := callP (resize24 false r.A r.cap r.l (lnF ls i) (by have := (hli i hils).2; omega)) (k := k) (by omega) (by simp [ptrsL, ptrs, nil_uL]) rfl
  rw [hu] at c79
  simp only [rV] at hri
  obtain ⟨J1, hJ1⟩ : ∃ J : Nat → St → Prop, J = fun q D => ∃ (j : Nat) (CS : List V), q = n - j ∧ j ≤ n ∧ CS = (sayC n i L).set i (sayR n u j) ∧ Bs D ∧ D.s 7 = .own .nil 0 n CS ∧ D.s 8 = .int .i64 (i : Int) ∧ (D.s 10 = .own .nil 0 (lnF ls i) (uL u) ∨ u ≠ [] ∧ D.s 10 = .im true none 0 (lnF ls i) (uL u)) ∧ D.s 17 = .im pm A cap n cs ∧ D.s 18 = .int .i64 (n : Int) ∧ D.s 19 = .int .i64 (i : Int) ∧ D.s 31 = .int .i64 (n : Int) ∧ D.s 32 = .int .i64 (j : Int) := ⟨_, rfl⟩
  simp [-reach, -doCall, doCall_eq, d0, d1, d2, d7, d17, d18, d19, dm, dx, hil, hic, hcl, hri, hii, hil0, hiL, c79]
  refine EvP.loop J1 (n := n) (by rw [hJ1]; exact ⟨0, CS, by simp, by simp, by rw [hCS]; exact (sayC_set0 hLl hil u).symm, by simp [hBs, d0, d1, d2, dm, dx], by simp [d7], by simp, by simp, by simp [d17], by simp [d18], by simp [d19], by simp, by simp⟩) (by omega) fun q D hD => ?_
  rw [hJ1] at hD
  obtain ⟨j, CS, rfl, hj, hCS, hB, d7, d8, d10, d17, d18, d19, d31, d32⟩ := hD
  rw [hBs] at hB
  obtain ⟨d0, d1, d2, dm, dx⟩ := hB
  have hCl : CS.length = n := by rw [hCS, List.length_set, sayC_length hLl hi]
  have hiC : i < CS.length := by omega
  have hC? : CS[i]? = some (sayR n u j) := by rw [hCS, List.getElem?_set_self (by rw [sayC_length hLl hi]; exact hil)]
  have hCe : CS[i] = sayR n u j := by
   have := List.getElem?_eq_getElem hiC
   rw [hC?] at this
   exact (Option.some.inj this).symm
  by_cases hjl : j < n
  ·have e4 := wrap_succ (q := j) (by omega)
   have f1 : (j + 1) * 24 ≤ 140737488355328 := by omega
   have f2 : j ≤ 140737488355327 := by omega
   simp only [sayR] at hC? hCe
   have hnx : sayR n u (j + 1) = .own .nil 0 (j + 1) (List.replicate j (cpV u) ++ [cpV u]) := by unfold sayR; rw [List.replicate_succ']
   obtain ⟨RP, hRP⟩ : ∃ RP, List.replicate j (cpV u) = RP := ⟨_, rfl⟩
   have hRl : RP.length = j := by rw [← hRP, List.length_replicate]
   rw [hRP] at hC? hCe hnx
   rw [← hul] at d10
   rcases u with _ | ⟨y, u⟩
   ·rcases d10 with d10 | ⟨hne, _⟩
    ·have z0 : uL [] = [] := rfl
     rw [z0, List.length_nil] at d10
     rw [cpV_nil] at hnx
     simp [-reach, d0, d1, d2, d7, d8, d10, d17, d18, d19, d31, d32, dm, dx, hjl, hCl, hC?, hCe, hiC, hil, hRl, f1, f2, e4]
     subst hJ1
     exact ⟨n - (j + 1), by omega, j + 1, CS.set i (sayR n [] (j + 1)), rfl, by omega, by rw [hCS, List.set_set], by simp [hBs, d0, d1, d2, dm, dx], by simp [hnx], by simp [d8], .inl (by rw [← hul]; simp [d10, z0]), by simp [d17], by simp [d18], by simp [d19], by simp [d31], by simp⟩
    ·exact absurd rfl hne
   ·rw [cpV_cons] at hnx
    simp only [uL_cons, List.length_cons] at d10
    rcases d10 with d10 | ⟨_, d10⟩
    ·simp [-reach, d0, d1, d2, d7, d8, d10, d17, d18, d19, d31, d32, dm, dx, hjl, hCl, hC?, hCe, hiC, hil, hRl, f1, f2, e4]
     subst hJ1
     exact ⟨n - (j + 1), by omega, j + 1, CS.set i (sayR n (y :: u) (j + 1)), rfl, by omega, by rw [hCS, List.set_set], by simp [hBs, d0, d1, d2, dm, dx], by simp [hnx], by simp [d8], .inr ⟨by simp, by rw [← hul]; simp [uL_cons]⟩, by simp [d17], by simp [d18], by simp [d19], by simp [d31], by simp⟩
    ·simp [-reach, d0, d1, d2, d7, d8, d10, d17, d18, d19, d31, d32, dm, dx, hjl, hCl, hC?, hCe, hiC, hil, hRl, f1, f2, e4]
     subst hJ1
     exact ⟨n - (j + 1), by omega, j + 1, CS.set i (sayR n (y :: u) (j + 1)), rfl, by omega, by rw [hCS, List.set_set], by simp [hBs, d0, d1, d2, dm, dx], by simp [hnx], by simp [d8], .inr ⟨by simp, by rw [← hul]; simp [d10, uL_cons]⟩, by simp [d17], by simp [d18], by simp [d19], by simp [d31], by simp⟩
  ·have hjn : j = n := by omega
   rw [hjn] at hCS d32
   rw [← hLe, sayC_succ hLl hil] at hCS
   simp [-reach, d0, d1, d2, d7, d8, d17, d18, d19, d31, d32, dm, dx, e3]
   subst hJ
   exact ⟨n - (i + 1), by omega, i + 1, CS, rfl, by omega, hCS, by simp [hBs, d0, d1, d2, dm, dx], by simp [d7], by simp [d17], by simp [d18], by simp⟩
 ·have hin : i = n := by omega
  rw [hin] at hCS d19
  rw [hCS] at d7
  have hfull := fun bb => sayC_full (n := n) (L := L) hLl bb
  simp [-reach, -doCall, doCall_eq, d0, d1, d2, d7, d17, d18, d19, dm, dx, hfull, c63]
  have hHl : ∀ c, (hrC S ls n c).length = n := fun c => by unfold hrC; simp
  obtain ⟨Bs2, hBs2⟩ : ∃ Bs : St → Prop, Bs = fun D => D.s 2 = .im pl Al cl n is ∧ D.m = M' ∧ D.nx = nx := ⟨_, rfl⟩
  obtain ⟨J2, hJ2⟩ : ∃ J : Nat → St → Prop, J = fun q D => ∃ (c : Nat) (CS : List V), q = n - c ∧ c ≤ n ∧ CS = hrC S ls n c ∧ Bs2 D ∧ D.s 11 = .own .nil 0 n CS ∧ D.s 50 = .int .i64 (n : Int) ∧ D.s 51 = .int .i64 (c : Int) := ⟨_, rfl⟩
  refine EvP.loop J2 (n := n) (by rw [hJ2]; exact ⟨0, hrC S ls n 0, by simp, by simp, rfl, by simp [hBs2, d2], by simp, by simp, by simp⟩) (by omega) fun q D hD => ?_
  rw [hJ2] at hD
  obtain ⟨c, CS, rfl, hc, hCS, hB, d11, d50, d51⟩ := hD
  rw [hBs2] at hB
  obtain ⟨d2, dm, dx⟩ := hB
  have hCl : CS.length = n := by rw [hCS]; exact hHl c
  by_cases hcn : c < n
  ·have e3 := wrap_succ (q := c) (by omega)
   have hcC : c < CS.length := by omega
   have hC? : CS[c]? = some (.own .nil 0 n (hrRow S ls n c 0)) := by rw [hCS]; unfold hrC; rw [mix_get _ _ _ _ hcn]
   have hCe : CS[c] = .own .nil 0 n (hrRow S ls n c 0) := by
    have := List.getElem?_eq_getElem hcC
    rw [hC?] at this
    exact (Option.some.inj this).symm
   obtain ⟨J3, hJ3⟩ : ∃ J : Nat → St → Prop, J = fun q D => ∃ (i : Nat) (CS RR : List V), q = n - i ∧ i ≤ n ∧ RR = hrRow S ls n c i ∧ CS = (hrC S ls n c).set c (.own .nil 0 n RR) ∧ Bs2 D ∧ D.s 11 = .own .nil 0 n CS ∧ D.s 12 = .int .i64 (c : Int) ∧ D.s 50 = .int .i64 (n : Int) ∧ D.s 51 = .int .i64 (c : Int) ∧ D.s 58 = .int .i64 (n : Int) ∧ D.s 59 = .int .i64 (i : Int) := ⟨_, rfl⟩
   have hset0 : CS = (hrC S ls n c).set c (.own .nil 0 n (hrRow S ls n c 0)) := by
    rw [hCS]
    unfold hrC
    rw [mix_set0 _ (fun j => V.own .nil 0 n (hrRow S ls n j 0)) _ _ hcn]
   simp [-reach, -doCall, doCall_eq, d2, d11, d50, d51, dm, dx, hcn, hcC, hCl, hC?, hCe]
   refine EvP.loop J3 (n := n) (by rw [hJ3]; exact ⟨0, CS, _, by simp, by simp, rfl, hset0, by simp [hBs2, d2], by simp [d11], by simp, by simp [d50], by simp [d51], by simp, by simp⟩) (by omega) fun q D hD => ?_
   rw [hJ3] at hD
   obtain ⟨i, CS, RR, rfl, hi, hRR, hCS, hB, d11, d12, d50, d51, d58, d59⟩ := hD
   rw [hBs2] at hB
   obtain ⟨d2, dm, dx⟩ := hB
   have hCl : CS.length = n := by rw [hCS, List.length_set]; exact hHl c
   have hcC : c < CS.length := by omega
   have hC? : CS[c]? = some (.own .nil 0 n RR) := by rw [hCS, List.getElem?_set_self (by rw [hHl]; exact hcn)]
   have hCe : CS[c] = .own .nil 0 n RR := by
    have := List.getElem?_eq_getElem hcC
    rw [hC?] at this
    exact (Option.some.inj this).symm
   have hRl : RR.length = n := by rw [hRR]; unfold hrRow; simp
   by_cases hil : i < n
   ·have e4 := wrap_succ (q := i) (by omega)
    have hiR : i < RR.length := by omega
    have hii : i < is.length := by omega
    have hils : i < ls.length := by omega
    have hiL : is[i] = .int .i64 (lnF ls i : Int) := by subst his; simp [iL, (hli i hils).1]
    obtain ⟨w, hw⟩ : ∃ w, hS S c i = w := ⟨_, rfl⟩
    have hR? : RR[i]? = some (cpV w) := by rw [hRR]; unfold hrRow; rw [mix_get _ _ _ _ hil, hw]
    have hRe : RR[i] = cpV w := by
     have := List.getElem?_eq_getElem hiR
     rw [hR?] at this
     exact (Option.some.inj this).symm
    have c79 := callP (resize24 false none 0 w (lnF ls i) (by have := (hli i hils).2; omega)) (k := k) (by omega) (by simp [ptrsL, ptrs, nil_uL]) rfl
    have hnew : (hrC S ls n c).set c (.own .nil 0 n (RR.set i (.own .nil 0 (lnF ls i) (uL (resizeS w (lnF ls i)))))) = CS.set c (.own .nil 0 n (RR.set i (.own .nil 0 (lnF ls i) (uL (resizeS w (lnF ls i)))))) := by rw [hCS, List.set_set]
    have hrow : RR.set i (.own .nil 0 (lnF ls i) (uL (resizeS w (lnF ls i)))) = hrRow S ls n c (i + 1) := by
     have h1 : V.own .nil 0 (lnF ls i) (uL (resizeS w (lnF ls i))) = ownR (hrd S ls c i) := by
      unfold ownR hrd; rw [hw, resizeS_pos]
     rw [h1, hRR]
     exact mix_set _ _ _ _ hil
    rcases w with _ | ⟨y, w⟩
    ·have z0 : uL [] = [] := rfl
     simp only [cpV_nil] at hR? hRe
     simp only [z0, List.length_nil] at c79
     simp [-reach, -doCall, doCall_eq, d2, d11, d12, d50, d51, d58, d59, dm, dx, hcn, hil, hcC, hCl, hC?, hCe, hiR, hRl, hR?, hRe, hii, hil0, hiL, c79, e4]
     subst hJ3
     exact ⟨n - (i + 1), by omega, i + 1, _, _, rfl, by omega, hrow, hnew.symm, by simp [hBs2, d2], by simp, by simp [d12], by simp [d50], by simp [d51], by simp [d58], by simp⟩
    ·simp only [cpV_cons] at hR? hRe
     simp only [uL_cons, List.length_cons] at c79
     simp [-reach, -doCall, doCall_eq, d2, d11, d12, d50, d51, d58, d59, dm, dx, hcn, hil, hcC, hCl, hC?, hCe, hiR, hRl, hR?, hRe, hii, hil0, hiL, c79, e4]
     subst hJ3
     exact ⟨n - (i + 1), by omega, i + 1, _, _, rfl, by omega, hrow, hnew.symm, by simp [hBs2, d2], by simp, by simp [d12], by simp [d50], by simp [d51], by simp [d58], by simp⟩
   ·have hin : i = n := by omega
    rw [hin] at hRR d59
    simp [-reach, -doCall, doCall_eq, d2, d11, d12, d50, d51, d58, d59, dm, dx, e3]
    subst hJ2
    refine ⟨n - (c + 1), by omega, c + 1, CS, rfl, by omega, ?_, by simp [hBs2, d2], by simp [d11], by simp [d50], by simp⟩
    rw [hCS, hRR]
    exact mix_set (fun j => V.own .nil 0 n (hrRow S ls n j n)) _ _ _ hcn
  ·have hce : c = n := by omega
   rw [hce] at hCS d51
   rw [hCS] at d11
   simp [-reach, -doCall, doCall_eq, d2, d11, d50, d51, dm, dx]
   exact fun a b hab => hall _ hab
end Go.Abs
end
