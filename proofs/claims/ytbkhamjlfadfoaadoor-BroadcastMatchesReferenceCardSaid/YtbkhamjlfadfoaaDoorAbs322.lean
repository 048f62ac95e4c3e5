/- Joined: AbsPNXI AbsPNXJ AbsPNXK. -/
import Derived.Test.YtbkhamjlfadfoaaDoorAbs310
import Derived.Test.YtbkhamjlfadfoaaDoorAbs320
import Derived.Test.YtbkhamjlfadfoaaDoorAbs321
set_option linter.all false
set_option maxHeartbeats 16000000
noncomputable section
namespace Go.Abs
open Go Go.Proofs
section
variable {P : Program} {H : Hint} {f : Nat}
end
theorem getBox_of_mem {t : Nat} : ∀ {m : List (Nat × Box)}, t ∈ m.map (·.1) → ∃ c, getBox m t = some c ∧ (t, c) ∈ m
 | (i, d) :: m, h => by
   unfold getBox
   by_cases hi : i = t
   ·subst hi; exact ⟨d, by simp, List.mem_cons_self⟩
   ·rw [if_neg (by simpa using hi)]
    rw [List.map_cons, List.mem_cons] at h
    rcases h with h | h
    ·exact absurd h.symm hi
    ·obtain ⟨c, h1, h2⟩ := getBox_of_mem h
     exact ⟨c, h1, List.mem_cons_of_mem _ h2⟩
theorem nodup_ed : ∀ {l : List Nat}, l.Nodup → l.eraseDups = l
 | [], _ => rfl
 | a :: l, h => by
   rw [List.eraseDups_cons]
   have h1 := List.nodup_cons.1 h
   have h2 : l.filter (fun b => !b == a) = l := by
    rw [List.filter_eq_self]
    intro x hx
    have : x ≠ a := fun e => h1.1 (e ▸ hx)
    simp [this]
   rw [h2, nodup_ed h1.2]
theorem reach_NM {b g : Nat} {σ : NetS} {tb : List (Nat × Box)} (hT : TB b σ.tp tb) (hl : 1 ≤ tb.length) : reach ((b, (⟨g, netC σ⟩ : Box)) :: tb) (tb.length + 1) [b] = b :: σ.tp := by
 refine reach_net (c := ⟨g, netC σ⟩) (by simp [getBox]) (ptrsL_netC σ) (fun t ht => ?_) hT.nb (nodup_ed hT.nd) (by omega)
 have hne : b ≠ t := fun e => hT.nb (e ▸ ht)
 obtain ⟨c, h1, h2⟩ := getBox_of_mem (m := tb) (t := t) (hT.ids.mem_iff.2 ht)
 refine ⟨c, ?_, hT.flat _ h2⟩
 unfold getBox
 rw [if_neg (by simpa using hne)]
 exact h1
theorem filt_NM {b : Nat} {σ : NetS} {tb : List (Nat × Box)} (hT : TB b σ.tp tb) : tb.filter (fun e => decide (e.1 = b) || decide (e.1 ∈ σ.tp)) = tb := by
 rw [List.filter_eq_self]
 intro e he
 have : e.1 ∈ σ.tp := hT.ids.mem_iff.1 (List.mem_map_of_mem he)
 simp [this]
theorem oth_NM {b : Nat} {σ : NetS} {tb : List (Nat × Box)} (hT : TB b σ.tp tb) : tb.filter (fun e => !(decide (e.1 = b) || decide (e.1 ∈ σ.tp))) = [] := by
 rw [List.filter_eq_nil_iff]
 intro e he
 have : e.1 ∈ σ.tp := hT.ids.mem_iff.1 (List.mem_map_of_mem he)
 simp [this]
theorem oth_NM2 {b : Nat} {σ : NetS} {tb : List (Nat × Box)} (hT : TB b σ.tp tb) : tb.filter (fun e => !decide (e.1 = b) && !decide (e.1 ∈ σ.tp)) = [] := by
 rw [List.filter_eq_nil_iff]
 intro e he
 have : e.1 ∈ σ.tp := hT.ids.mem_iff.1 (List.mem_map_of_mem he)
 simp [this]
theorem all_NM {b nx : Nat} {σ : NetS} {tb : List (Nat × Box)} (hT : TB b σ.tp tb) : ∀ (a : Nat) (c : Box), (a, c) ∈ tb → (a = b ∨ a ∈ σ.tp) ∨ nx ≤ a := fun a c h => by
 refine .inl (.inr ?_)
 exact hT.ids.mem_iff.1 (List.mem_map_of_mem h)
theorem ite_get {α : Type} {c : Prop} {inst : Decidable c} {a b r : α} (hc : c) (h : @ite α c inst a b = r) : a = r := by rwa [if_pos hc] at h
theorem nil_uL (l : List Nat) : ptrsL (uL l) = [] := by induction l with
 | nil => rfl
 | cons a l ih => rw [show uL (a :: l) = V.int .u64 (a : Int) :: uL l from rfl]; simp [ih]
def sw (S : List (List (List Nat))) (f w : Nat) : List Nat := ((S[f]?.getD [])[w]?).getD []
def colS (S : List (List (List Nat))) (w k : Nat) : List (List Nat) := (List.range k).map fun f => sw S f w
def outL (S : List (List (List Nat))) (n k : Nat) : List (List (List Nat)) := (List.range n).map fun w => if w < k then colS S w n else []
@[simp] theorem colS_length (S : List (List (List Nat))) (w k : Nat) : (colS S w k).length = k := by
 unfold colS; rw [List.length_map, List.length_range]
@[simp] theorem outL_length (S : List (List (List Nat))) (n k : Nat) : (outL S n k).length = n := by
 unfold outL; rw [List.length_map, List.length_range]
theorem colS_succ (S : List (List (List Nat))) (w k : Nat) : colS S w (k + 1) = colS S w k ++ [sw S k w] := by
 unfold colS; rw [List.range_succ, List.map_append]; rfl
theorem outL_get (S : List (List (List Nat))) (n k w : Nat) (h : w < n) : (outL S n k)[w]? = some (if w < k then colS S w n else []) := by
 unfold outL; rw [List.getElem?_map, List.getElem?_range h]; rfl
theorem outL_succ (S : List (List (List Nat))) (n k : Nat) (h : k < n) : outL S n (k + 1) = (outL S n k).set k (colS S k n) := by
 apply List.ext_getElem?
 intro i
 rw [List.getElem?_set]
 by_cases hi : i < n
 ·rw [outL_get _ _ _ _ hi, outL_get _ _ _ _ hi, outL_length]
  by_cases hk : k = i
  ·subst hk; simp [hi]
  ·by_cases h2 : i < k
   ·have : i < k + 1 := by omega
    simp [hk, h2, this]
   ·have : ¬ i < k + 1 := by omega
    simp [hk, h2, this]
 ·have h1 : (outL S n (k + 1))[i]? = none := List.getElem?_eq_none (by simpa using hi)
  have h2 : (outL S n k)[i]? = none := List.getElem?_eq_none (by simpa using hi)
  have h3 : ¬ k = i := by omega
  rw [h1, h2, if_neg h3]
theorem outL_set0 (S : List (List (List Nat))) (n k : Nat) (h : k < n) : (outL S n k).set k (colS S k 0) = outL S n k := by
 apply List.ext_getElem?
 intro i
 rw [List.getElem?_set]
 by_cases hk : k = i
 ·subst hk
  rw [outL_get _ _ _ _ h, outL_length]
  simp [h, colS]
 ·rw [if_neg hk]
theorem outL_full (S : List (List (List Nat))) (n : Nat) : outL S n n = (List.range n).map fun w => colS S w n := by
 unfold outL
 refine List.map_congr_left fun w hw => ?_
 rw [if_pos (List.mem_range.1 hw)]
def cpV (l : List Nat) : V := if l = [] then .own .nil 0 0 [] else .im true none 0 l.length (uL l)
@[simp] theorem cpV_nil : cpV [] = .own .nil 0 0 [] := rfl
theorem cpV_cons (a : Nat) (l : List Nat) : cpV (a :: l) = .im true none 0 (l.length + 1) (.int .u64 (a : Int) :: uL l) := rfl
def rowC (ls : List (List Nat)) : V := .own .nil 0 ls.length (ls.map cpV)
def rowsC (L : List (List (List Nat))) : List V := L.map rowC
@[simp] theorem rowsC_length (L : List (List (List Nat))) : (rowsC L).length = L.length := by simp [rowsC]
theorem rowsC_get {L : List (List (List Nat))} {i : Nat} {ls : List (List Nat)} (h : L[i]? = some ls) : (rowsC L)[i]? = some (.own .nil 0 ls.length (ls.map cpV)) := by simp [rowsC, h, rowC]
theorem rowsC_set (L : List (List (List Nat))) (i : Nat) (ls : List (List Nat)) : rowsC (L.set i ls) = (rowsC L).set i (rowC ls) := by simp [rowsC, List.map_set]
theorem ptrs_cpV (l : List Nat) : ptrs (cpV l) = [] := by
 cases l with
 | nil => rfl
 | cons a l => rw [cpV_cons]; simp [ptrs, ptrsL, nil_uL]
theorem ptrsL_cpV (ls : List (List Nat)) : ptrsL (ls.map cpV) = [] := by induction ls with
 | nil => rfl
 | cons l ls ih => simp only [List.map_cons, ptrsL, ptrs_cpV, ih, List.append_nil]
theorem ptrsL_rowsC (L : List (List (List Nat))) : ptrsL (rowsC L) = [] := by induction L with
 | nil => rfl
 | cons l L ih =>
   show ptrs (rowC l) ++ ptrsL (rowsC L) = []
   rw [ih, rowC]; simp only [ptrs, ptrsL_cpV, List.append_nil]
theorem rowsC_nil (S : List (List (List Nat))) (n : Nat) : rep n [V.own .nil 0 0 []] = rowsC (outL S n 0) := by
 have e : outL S n 0 = List.replicate n [] := by
  apply List.ext_getElem?
  intro i
  by_cases hi : i < n
  ·rw [outL_get _ _ _ _ hi]; simp [hi]
  ·rw [List.getElem?_eq_none (by simpa using hi), List.getElem?_eq_none (by simpa using hi)]
 rw [e]
 induction n with
 | zero => rfl
 | succ n ih =>
   show V.own .nil 0 0 [] :: rep n [V.own .nil 0 0 []] = rowsC (List.replicate (n + 1) [])
   rw [ih, List.replicate_succ]
   ·rfl
   ·apply List.ext_getElem?
    intro i
    by_cases hi : i < n
    ·rw [outL_get _ _ _ _ hi]; simp [hi]
    ·rw [List.getElem?_eq_none (by simpa using hi), List.getElem?_eq_none (by simpa using hi)]
def inV (S : List (List (List Nat))) (n : Nat) : V := .own .nil 0 n (rowsC (outL S n n))
theorem ptrs_inV (S : List (List (List Nat))) (n : Nat) : ptrs (inV S n) = [] := by
 show ptrsL _ = []
 exact ptrsL_rowsC _
def sentS (cp : List Nat → RD) (S : List (List (List Nat))) (n : Nat) (σ : NetS) : NetS := { hearAll (fun w f => cp (sw S f w)) n n σ with round := σ.round + 1 }
theorem like_sentS (cp : List Nat → RD) (S : List (List (List Nat))) (n : Nat) (σ : NetS) : (sentS cp S n σ).scn = σ.scn ∧ (sentS cp S n σ).tp = σ.tp ∧ (sentS cp S n σ).views.length = σ.views.length ∧ (sentS cp S n σ).round = σ.round + 1 :=
 ⟨(like_hearAll _ n σ n).scn, (like_hearAll _ n σ n).tp, (like_hearAll _ n σ n).len, rfl⟩
set_option maxRecDepth 100000 in
theorem send18 (b g : Nat) (σ : NetS) (tb : List (Nat × Box)) (hT : TB b σ.tp tb) (hl : 1 ≤ tb.length) {q : Nat} (hq : (σ.scn.p, q) ∈ pq7) (h13 : σ.scn.n ≤ 13) (hv : (σ.views.length : Int) = σ.scn.n) (hB : VB 999000 σ) (hr : 0 ≤ σ.round ∧ σ.round < 1000000) {N : Nat} (hN : ∀ (pm : Bool) (A : Option Addr) (cap : Nat) (ms : List MD), (ms.length : Int) = (lentS σ.scn).n → (lentS σ.scn).n ≤ 13 → MsOk (lentS σ.scn).p ms.length (mls ms) → AnsP N Tryd.prog H14 86 [scV (lentS σ.scn), .int .i64 σ.round, .im pm A cap ms.length (msV ms)] (fun v => ∃ cs, v = .own .nil 0 ms.length cs ∧ Rows2 cs (msgS (lentS σ.scn).p (lentS σ.scn).corrupt σ.round ms.length (mls ms) (lentS σ.scn).devs))) (pm : Bool) (A : Option Addr) (cap : Nat) (ms : List MD) (hml : (ms.length : Int) = σ.scn.n) (hmo : MsOk σ.scn.p ms.length (mls ms)) :
 AnsM (max N 100 + 1) Tryd.prog H14 63 [.bptr b 0, .im pm A cap ms.length (msV ms)] ((b, ⟨g, netC σ⟩) :: tb) (inV (msgS σ.scn.p σ.scn.corrupt σ.round ms.length (mls ms) σ.scn.devs) ms.length) ((b, ⟨g, netC (sentS cpW (msgS σ.scn.p σ.scn.corrupt σ.round ms.length (mls ms) σ.scn.devs) ms.length σ)⟩) :: tb) := by
 refine AnsM.gen (fn := Tryd.f63) (by rfl) Tryd.func63 rfl (by rfl) (fun nx h c hc => ?_) fun k hk nx h => ?_
 ·rw [ptrs_inV, List.nil_append] at hc
  exact net_ptrs (σ := sentS cpW _ _ σ) (by rw [(like_sentS _ _ _ _).2.1]; exact hT) (fun e he => by
   rcases List.mem_cons.1 he with rfl | he
   ·exact h (b, ⟨g, netC σ⟩) List.mem_cons_self
   ·exact h _ (List.mem_cons_of_mem _ he)) hc
 have c41 := hN false A cap (ms.map lentM) (by rw [List.length_map]; exact hml) h13 (by rw [List.length_map, mls_lent]; exact hmo) k (by omega)
 simp only [List.length_map, mls_lent] at c41
 obtain ⟨hb, hfl⟩ := net_filt h
 obtain ⟨r41, c41, SN, rfl, hSN⟩ := c41 nx
 have hnn : σ.scn.n = (ms.length : Int) := hml.symm
 simp only [scV, scL, lentS, List.length_map, hnn] at c41
 obtain ⟨S, hS⟩ : ∃ S, msgS σ.scn.p σ.scn.corrupt σ.round ms.length (mls ms) σ.scn.devs = S := ⟨_, rfl⟩
 rw [hS]
 replace hSN : Rows2 SN S := by rw [← hS]; exact hSN
 have hp0 : 0 < σ.scn.p := by
  obtain ⟨hp1, hq1, hq2⟩ := pq_facts hq
  have : 2 ^ 5 ≤ 2 ^ q := Nat.pow_le_pow_right (by omega) hq1
  omega
 have hSok : MsOk σ.scn.p ms.length S := by rw [← hS]; exact msg_ok hp0 hmo
 have hSl : SN.length = ms.length := by rw [hSN.1, hSok.1]
 have hb1 : (ms.length : Int) ≤ 140737488355328 := by omega
 have hb2 : (ms.length : Int) * 24 ≤ 140737488355328 := by omega
 have hz : ¬ (ms = [] ∧ 0 < ms.length) := by rintro ⟨rfl, h⟩; simp at h
 have hn13 : ms.length ≤ 13 := by omega
 have hvl : σ.views.length = ms.length := by omega
 simp [-reach, entryS, hb, c41, hnn, hb1, hb2, hz, hSl]
 obtain ⟨W, hW⟩ : ∃ W : Nat → Nat → RD, W = fun w f => cpW (sw S f w) := ⟨_, rfl⟩
 obtain ⟨I, hI⟩ : ∃ I : Nat → St → Prop, I = fun q D => ∃ (w : Nat) (CS : List V), q = ms.length - w ∧ w ≤ ms.length ∧ CS = rowsC (outL S ms.length w) ∧ D.s 0 = .bptr b 0 ∧ D.s 5 = .fn (.func 61) [.bptr b 0] [] ∧ D.s 6 = .own .nil 0 ms.length SN ∧ D.s 7 = .own .nil 0 ms.length CS ∧ D.s 31 = .int .i64 (ms.length : Int) ∧ D.s 32 = .int .i64 (w : Int) ∧ D.m = (b, ⟨g, netC (hearAll W ms.length w σ)⟩) :: tb ∧ D.nx = nx := ⟨_, rfl⟩
 refine EvP.loop I (n := ms.length) (by rw [hI]; exact ⟨0, _, by simp, by simp, rowsC_nil S ms.length, by simp [hearAll_zero]⟩) (by omega) fun q D hD => ?_
 rw [hI] at hD
 obtain ⟨w, CS, rfl, hw, hCS, d0, d5, d6, d7, d31, d32, dm, dx⟩ := hD
 have hscn : (hearAll W ms.length w σ).scn = σ.scn := (like_hearAll W ms.length σ w).scn
 by_cases hwl : w < ms.length
 ·have e3 := wrap_succ (q := w) (by omega)
  simp [-reach, d0, d5, d6, d7, d31, d32, dm, dx, hwl, hscn, hnn]
  obtain ⟨J, hJ⟩ : ∃ J : Nat → St → Prop, J = fun q D => ∃ (f : Nat) (CS : List V), q = ms.length - f ∧ f ≤ ms.length ∧ CS = rowsC ((outL S ms.length w).set w (colS S w f)) ∧ D.s 0 = .bptr b 0 ∧ D.s 5 = .fn (.func 61) [.bptr b 0] [] ∧ D.s 6 = .own .nil 0 ms.length SN ∧ D.s 7 = .own .nil 0 ms.length CS ∧ D.s 8 = .int .i64 (w : Int) ∧ D.s 31 = .int .i64 (ms.length : Int) ∧ D.s 32 = .int .i64 (w : Int) ∧ D.s 40 = .int .i64 (ms.length : Int) ∧ D.s 41 = .int .i64 (f : Int) ∧ D.m = (b, ⟨g, netC (hearRow (W w) w f (hearAll W ms.length w σ))⟩) :: tb ∧ D.nx = nx := ⟨_, rfl⟩
  refine EvP.loop J (n := ms.length) (by rw [hJ]; exact ⟨0, CS, by simp, by simp, by rw [outL_set0 _ _ _ hwl]; exact hCS, by simp [hearRow_zero, d0, d5, d6, d7, d31, d32, dm, dx]⟩) (by omega) fun q D hD => ?_
  rw [hJ] at hD
  obtain ⟨f, CS, rfl, hf, hCS, d0, d5, d6, d7, d8, d31, d32, d40, d41, dm, dx⟩ := hD
  by_cases hfl : f < ms.length
  ·have e4 := wrap_succ (q := f) (by omega)
   have hfS : f < S.length := by rw [hSok.1]; exact hfl
   have hSfl : S[f].length = ms.length := (hSok.2 _ (List.getElem_mem hfS)).1
   have hfN : f < SN.length := by rw [hSl]; exact hfl
   obtain ⟨rcS, hrcS, hRcS⟩ := hSN.2 f _ _ (List.getElem?_eq_getElem hfN) (List.getElem?_eq_getElem hfS)
   have hSNe : SN[f] = .own .nil 0 ms.length rcS := by rw [hrcS, hSfl]
   have hSNf : SN[f]? = some (.own .nil 0 ms.length rcS) := by rw [List.getElem?_eq_getElem hfN, hSNe]
   have hwr : w < rcS.length := by rw [hRcS.1, hSfl]; exact hwl
   have hwS : w < S[f].length := by rw [hSfl]; exact hwl
   have hvr := hRcS.2 w _ _ (List.getElem?_eq_getElem hwr) (List.getElem?_eq_getElem hwS)
   have hsw : sw S f w = S[f][w] := by unfold sw; rw [List.getElem?_eq_getElem hfS, Option.getD_some, List.getElem?_eq_getElem hwS, Option.getD_some]
   have hl1 : (S[f][w]).length ≤ 1000 := ((hSok.2 _ (List.getElem_mem hfS)).2 _ (List.getElem_mem hwS)).1
   rw [← hsw] at hvr hl1
   obtain ⟨v, hve⟩ : ∃ v, rcS[w] = v := ⟨_, rfl⟩
   have hv? : rcS[w]? = some v := by rw [List.getElem?_eq_getElem hwr, hve]
   rw [hve] at hvr
   have hCl : CS.length = ms.length := by rw [hCS]; simp
   have hwC : w < CS.length := by omega
   have hwo : ((outL S ms.length w).set w (colS S w f))[w]? = some (colS S w f) := by simp [hwl]
   obtain ⟨rc, hRc⟩ : ∃ rc, (colS S w f).map cpV = rc := ⟨_, rfl⟩
   have hCw : CS[w]? = some (.own .nil 0 f rc) := by rw [hCS, rowsC_get hwo, colS_length, hRc]
   have hCe : CS[w] = .own .nil 0 f rc := by
    have := List.getElem?_eq_getElem hwC
    rw [hCw] at this
    exact (Option.some.inj this).symm
   have hrl : rc.length = f := by rw [← hRc, List.length_map, colS_length]
   have hrS : rcS.length = ms.length := by rw [hRcS.1, hSfl]
   obtain ⟨τ, hτ⟩ : ∃ τ, hearRow (W w) w f (hearAll W ms.length w σ) = τ := ⟨_, rfl⟩
   have hLike : Like σ τ := by rw [← hτ]; exact (like_hearAll W ms.length σ w).trans (like_hearRow _ _ _ _)
   have hTτ : TB b τ.tp tb := by rw [hLike.tp]; exact hT
   have hVτ : VB 1000000 τ := by
    rw [← hτ]
    refine (vb_hearRow (vb_hearAll hB W w) (W w) w f).le ?_
    have : w * ms.length ≤ 13 * 13 := Nat.mul_le_mul (by omega) hn13
    omega
   have hwv : w < τ.views.length := by rw [hLike.len]; omega
   have hWw : W w f = cpW (sw S f w) := by rw [hW]
   obtain ⟨l, hle⟩ : ∃ l, sw S f w = l := ⟨_, rfl⟩
   rw [hle] at hvr hl1 hWw
   have hfin : CS.set w (.own .nil 0 (f + 1) (rc ++ [cpV l])) = rowsC ((outL S ms.length w).set w (colS S w (f + 1))) := by
    rw [hCS, rowsC_set, rowsC_set, List.set_set, colS_succ, hle, rowC, List.map_append, hRc, List.length_append, colS_length]
    rfl
   have c39 := fun pm A cap => note39 b g τ tb hTτ w f pm A cap l hwv hl1 (hVτ _ (List.getElem_mem hwv)) (by omega) k (by omega) nx (fun e he => by
    rcases List.mem_cons.1 he with rfl | he
    ·exact hb
    ·exact h e (List.mem_cons_of_mem _ he))
   have hrch := reach_NM (g := g) hTτ hl
   have ho := oth_NM hTτ
   have ho2 := oth_NM2 hTτ
   have hfm := filt_NM hTτ
   have ham := all_NM (nx := nx) hTτ
   rw [hτ] at dm
   cases hvr with
   | im pm' A' cap' =>
     rcases l with _ | ⟨a, l⟩
     ·have nl : uL ([] : List Nat) = [] := rfl
      have f1 : (f + 1) * 24 ≤ 140737488355328 := by omega
      have f2 : f ≤ 140737488355327 := by omega
      simp only [List.length_nil, nl] at c39
      simp [-reach, nil_uL, ho2, ham, nl, f1, f2, d0, d5, d6, d7, d8, d31, d32, d40, d41, dm, dx, hfl, hSl, hSNf, hSNe, hfN, hrS, hv?, hve, hwr, hCl, hCw, hCe, hwC, hrl, c39, hrch, ho, hfm, ed1, hwl]
      have hcc : ∀ (m0 : List (Nat × Box)), (((reach ((b, (⟨g, netC τ⟩ : Box)) :: tb) (tb.length + 1) [b]).contains b || decide (nx ≤ b)) && tb.all fun e => (reach ((b, (⟨g, netC τ⟩ : Box)) :: tb) (tb.length + 1) [b]).contains e.1 || decide (nx ≤ e.1)) = true := fun _ => by
       simp only [hrch, Bool.and_eq_true, Bool.or_eq_true, List.all_eq_true, List.contains_eq_mem, decide_eq_true_eq, List.mem_cons]
       exact ⟨by simp, fun e he => .inl (.inr (hTτ.ids.mem_iff.1 (List.mem_map_of_mem he)))⟩
      split
      case h_2 heq => cases ite_get (hcc []) heq
      rename_i D1 heq
      cases ite_get (hcc []) heq
      simp [-reach, d0, d5, d6, d7, d8, d31, d32, d40, d41, dm, dx, e4]
      subst hJ
      refine ⟨ms.length - (f + 1), by omega, f + 1, CS.set w (.own .nil 0 (f + 1) (rc ++ [.own .nil 0 0 []])), rfl, by omega, ?_, by simp [d0], by simp [d5], by simp [d6], by simp, by simp [d8], by simp [d31], by simp [d32], by simp [d40], by simp, ?_, rfl⟩
      ·rw [← hfin]; rfl
      ·rw [hearRow_succ, hWw]
       simp only [hτ]
     ·have l1 : (l.length + 1) * 8 ≤ 140737488355328 := by simp at hl1; omega
      have l2 : l.length ≤ 140737488355327 := by simp at hl1; omega
      have f1 : (f + 1) * 24 ≤ 140737488355328 := by omega
      have f2 : f ≤ 140737488355327 := by omega
      simp only [List.length_cons, uL_cons] at c39
      simp [-reach, nil_uL, ho2, ham, uL_cons, l1, l2, f1, f2, d0, d5, d6, d7, d8, d31, d32, d40, d41, dm, dx, hfl, hSl, hSNf, hSNe, hfN, hrS, hv?, hve, hwr, hCl, hCw, hCe, hwC, hrl, c39, hrch, ho, hfm, ed1, hwl]
      have hcc : ∀ (m0 : List (Nat × Box)), (((reach ((b, (⟨g, netC τ⟩ : Box)) :: tb) (tb.length + 1) (b :: (ptrsL (uL l) ++ [])).eraseDups).contains b || decide (nx ≤ b)) && tb.all fun e => (reach ((b, (⟨g, netC τ⟩ : Box)) :: tb) (tb.length + 1) (b :: (ptrsL (uL l) ++ [])).eraseDups).contains e.1 || decide (nx ≤ e.1)) = true := fun _ => by
       simp only [nil_uL, List.append_nil, ed1, hrch, Bool.and_eq_true, Bool.or_eq_true, List.all_eq_true, List.contains_eq_mem, decide_eq_true_eq, List.mem_cons]
       exact ⟨by simp, fun e he => .inl (.inr (hTτ.ids.mem_iff.1 (List.mem_map_of_mem he)))⟩
      split
      case h_2 heq => cases ite_get (hcc []) heq
      rename_i D1 heq
      cases ite_get (hcc []) heq
      simp [-reach, d0, d5, d6, d7, d8, d31, d32, d40, d41, dm, dx, e4]
      subst hJ
      refine ⟨ms.length - (f + 1), by omega, f + 1, CS.set w (.own .nil 0 (f + 1) (rc ++ [.im true none 0 (l.length + 1) (.int .u64 (a : Int) :: uL l)])), rfl, by omega, ?_, by simp [d0], by simp [d5], by simp [d6], by simp, by simp [d8], by simp [d31], by simp [d32], by simp [d40], by simp, ?_, rfl⟩
      ·rw [← hfin]; rfl
      ·rw [hearRow_succ, hWw]
       simp only [hτ]
   | own k' =>
     rcases l with _ | ⟨a, l⟩
     ·have nl : uL ([] : List Nat) = [] := rfl
      have f1 : (f + 1) * 24 ≤ 140737488355328 := by omega
      have f2 : f ≤ 140737488355327 := by omega
      simp only [List.length_nil, nl] at c39
      simp [-reach, nil_uL, ho2, ham, nl, f1, f2, d0, d5, d6, d7, d8, d31, d32, d40, d41, dm, dx, hfl, hSl, hSNf, hSNe, hfN, hrS, hv?, hve, hwr, hCl, hCw, hCe, hwC, hrl, c39, hrch, ho, hfm, ed1, hwl]
      have hcc : ∀ (m0 : List (Nat × Box)), (((reach ((b, (⟨g, netC τ⟩ : Box)) :: tb) (tb.length + 1) [b]).contains b || decide (nx ≤ b)) && tb.all fun e => (reach ((b, (⟨g, netC τ⟩ : Box)) :: tb) (tb.length + 1) [b]).contains e.1 || decide (nx ≤ e.1)) = true := fun _ => by
       simp only [hrch, Bool.and_eq_true, Bool.or_eq_true, List.all_eq_true, List.contains_eq_mem, decide_eq_true_eq, List.mem_cons]
       exact ⟨by simp, fun e he => .inl (.inr (hTτ.ids.mem_iff.1 (List.mem_map_of_mem he)))⟩
      split
      case h_2 heq => cases ite_get (hcc []) heq
      rename_i D1 heq
      cases ite_get (hcc []) heq
      simp [-reach, d0, d5, d6, d7, d8, d31, d32, d40, d41, dm, dx, e4]
      subst hJ
      refine ⟨ms.length - (f + 1), by omega, f + 1, CS.set w (.own .nil 0 (f + 1) (rc ++ [.own .nil 0 0 []])), rfl, by omega, ?_, by simp [d0], by simp [d5], by simp [d6], by simp, by simp [d8], by simp [d31], by simp [d32], by simp [d40], by simp, ?_, rfl⟩
      ·rw [← hfin]; rfl
      ·rw [hearRow_succ, hWw]
       simp only [hτ]
     ·have l1 : (l.length + 1) * 8 ≤ 140737488355328 := by simp at hl1; omega
      have l2 : l.length ≤ 140737488355327 := by simp at hl1; omega
      have f1 : (f + 1) * 24 ≤ 140737488355328 := by omega
      have f2 : f ≤ 140737488355327 := by omega
      simp only [List.length_cons, uL_cons] at c39
      simp [-reach, nil_uL, ho2, ham, uL_cons, l1, l2, f1, f2, d0, d5, d6, d7, d8, d31, d32, d40, d41, dm, dx, hfl, hSl, hSNf, hSNe, hfN, hrS, hv?, hve, hwr, hCl, hCw, hCe, hwC, hrl, c39, hrch, ho, hfm, ed1, hwl]
      have hcc : ∀ (m0 : List (Nat × Box)), (((reach ((b, (⟨g, netC τ⟩ : Box)) :: tb) (tb.length + 1) (b :: (ptrsL (uL l) ++ [])).eraseDups).contains b || decide (nx ≤ b)) && tb.all fun e => (reach ((b, (⟨g, netC τ⟩ : Box)) :: tb) (tb.length + 1) (b :: (ptrsL (uL l) ++ [])).eraseDups).contains e.1 || decide (nx ≤ e.1)) = true := fun _ => by
       simp only [nil_uL, List.append_nil, ed1, hrch, Bool.and_eq_true, Bool.or_eq_true, List.all_eq_true, List.contains_eq_mem, decide_eq_true_eq, List.mem_cons]
       exact ⟨by simp, fun e he => .inl (.inr (hTτ.ids.mem_iff.1 (List.mem_map_of_mem he)))⟩
      split
      case h_2 heq => cases ite_get (hcc []) heq
      rename_i D1 heq
      cases ite_get (hcc []) heq
      simp [-reach, d0, d5, d6, d7, d8, d31, d32, d40, d41, dm, dx, e4]
      subst hJ
      refine ⟨ms.length - (f + 1), by omega, f + 1, CS.set w (.own .nil 0 (f + 1) (rc ++ [.im true none 0 (l.length + 1) (.int .u64 (a : Int) :: uL l)])), rfl, by omega, ?_, by simp [d0], by simp [d5], by simp [d6], by simp, by simp [d8], by simp [d31], by simp [d32], by simp [d40], by simp, ?_, rfl⟩
      ·rw [← hfin]; rfl
      ·rw [hearRow_succ, hWw]
       simp only [hτ]
  ·have hfe : f = ms.length := by omega
   subst hfe
   simp [-reach, d0, d5, d6, d7, d8, d31, d32, d40, d41, dm, dx, e3]
   subst hI
   refine ⟨ms.length - (w + 1), by omega, w + 1, CS, rfl, by omega, ?_, by simp [d0], by simp [d5], by simp [d6], by simp [d7], by simp [d31], by simp, ?_, rfl⟩
   ·rw [outL_succ _ _ _ hwl]; exact hCS
   ·rw [hearAll_succ]
 ·have hwe : w = ms.length := by omega
  subst hwe
  have er : IntKind.i64.wrap (σ.round + 1) = σ.round + 1 := wrapi (by omega) (by omega)
  simp [-reach, d0, d5, d6, d7, d31, d32, dm, dx]
  refine ⟨by rw [hCS]; rfl, ?_⟩
  rw [(like_hearAll W ms.length σ ms.length).round, er, List.filter_cons_of_pos (by simpa using hb), hfl, hW]
  rfl
def lnW (l : List Nat) : RD := ⟨false, none, 0, l⟩
set_option maxRecDepth 100000 in
theorem send44 (b g : Nat) (σ : NetS) (tb : List (Nat × Box)) (hT : TB b σ.tp tb) (hl : 1 ≤ tb.length) {q : Nat} (hq : (σ.scn.p, q) ∈ pq7) (h13 : σ.scn.n ≤ 13) (hv : (σ.views.length : Int) = σ.scn.n) (hB : VB 999000 σ) (hr : 0 ≤ σ.round ∧ σ.round < 1000000) {N : Nat} (hN : ∀ (pm : Bool) (A : Option Addr) (cap : Nat) (ms : List MD), (ms.length : Int) = (lentS σ.scn).n → (lentS σ.scn).n ≤ 13 → MsOk (lentS σ.scn).p ms.length (mls ms) → AnsP N Tryd.prog H14 80 [scV (lentS σ.scn), .int .i64 σ.round, .im pm A cap ms.length (msV ms)] (fun v => ∃ cs, v = .own .nil 0 ms.length cs ∧ Rows2 cs (msgS (lentS σ.scn).p (lentS σ.scn).corrupt σ.round ms.length (mls ms) (lentS σ.scn).devs))) (pm : Bool) (A : Option Addr) (cap : Nat) (ms : List MD) (hml : (ms.length : Int) = σ.scn.n) (hmo : MsOk σ.scn.p ms.length (mls ms)) :
 AnsM (max N 100 + 1) Tryd.prog H14 59 [.bptr b 0, .im pm A cap ms.length (msV ms)] ((b, ⟨g, netC σ⟩) :: tb) (inV (msgS σ.scn.p σ.scn.corrupt σ.round ms.length (mls ms) σ.scn.devs) ms.length) ((b, ⟨g, netC (sentS lnW (msgS σ.scn.p σ.scn.corrupt σ.round ms.length (mls ms) σ.scn.devs) ms.length σ)⟩) :: tb) := by
 refine AnsM.gen (fn := Tryd.f59) (by rfl) Tryd.func59 rfl (by rfl) (fun nx h c hc => ?_) fun k hk nx h => ?_
 ·rw [ptrs_inV, List.nil_append] at hc
  exact net_ptrs (σ := sentS lnW _ _ σ) (by rw [(like_sentS _ _ _ _).2.1]; exact hT) (fun e he => by
   rcases List.mem_cons.1 he with rfl | he
   ·exact h (b, ⟨g, netC σ⟩) List.mem_cons_self
   ·exact h _ (List.mem_cons_of_mem _ he)) hc
 have c63 := hN false A cap (ms.map lentM) (by rw [List.length_map]; exact hml) h13 (by rw [List.length_map, mls_lent]; exact hmo) k (by omega)
 simp only [List.length_map, mls_lent] at c63
 obtain ⟨hb, hfl⟩ := net_filt h
 obtain ⟨r63, c63, SN, rfl, hSN⟩ := c63 nx
 have hnn : σ.scn.n = (ms.length : Int) := hml.symm
 simp only [scV, scL, lentS, List.length_map, hnn] at c63
 obtain ⟨S, hS⟩ : ∃ S, msgS σ.scn.p σ.scn.corrupt σ.round ms.length (mls ms) σ.scn.devs = S := ⟨_, rfl⟩
 rw [hS]
 replace hSN : Rows2 SN S := by rw [← hS]; exact hSN
 have hp0 : 0 < σ.scn.p := by
  obtain ⟨hp1, hq1, hq2⟩ := pq_facts hq
  have : 2 ^ 5 ≤ 2 ^ q := Nat.pow_le_pow_right (by omega) hq1
  omega
 have hSok : MsOk σ.scn.p ms.length S := by rw [← hS]; exact msg_ok hp0 hmo
 have hSl : SN.length = ms.length := by rw [hSN.1, hSok.1]
 have hb1 : (ms.length : Int) ≤ 140737488355328 := by omega
 have hb2 : (ms.length : Int) * 24 ≤ 140737488355328 := by omega
 have hz : ¬ (ms = [] ∧ 0 < ms.length) := by rintro ⟨rfl, h⟩; simp at h
 have hn13 : ms.length ≤ 13 := by omega
 have hvl : σ.views.length = ms.length := by omega
 simp [-reach, entryS, hb, c63, hnn, hb1, hb2, hz, hSl]
 obtain ⟨W, hW⟩ : ∃ W : Nat → Nat → RD, W = fun w f => lnW (sw S f w) := ⟨_, rfl⟩
 obtain ⟨I, hI⟩ : ∃ I : Nat → St → Prop, I = fun q D => ∃ (w : Nat) (CS : List V), q = ms.length - w ∧ w ≤ ms.length ∧ CS = rowsC (outL S ms.length w) ∧ D.s 0 = .bptr b 0 ∧ D.s 5 = .own .nil 0 ms.length SN ∧ D.s 6 = .own .nil 0 ms.length CS ∧ D.s 7 = .int .i64 (w : Int) ∧ D.m = (b, ⟨g, netC (hearAll W ms.length w σ)⟩) :: tb ∧ D.nx = nx := ⟨_, rfl⟩
 refine EvP.loop I (n := ms.length) (by rw [hI]; exact ⟨0, _, by simp, by simp, rowsC_nil S ms.length, by simp [hearAll_zero]⟩) (by omega) fun q D hD => ?_
 rw [hI] at hD
 obtain ⟨w, CS, rfl, hw, hCS, d0, d5, d6, d7, dm, dx⟩ := hD
 have hscn : (hearAll W ms.length w σ).scn = σ.scn := (like_hearAll W ms.length σ w).scn
 by_cases hwl : w < ms.length
 ·have e3 := wrap_succ (q := w) (by omega)
  simp [-reach, d0, d5, d6, d7, dm, dx, hwl, hscn, hnn]
  obtain ⟨J, hJ⟩ : ∃ J : Nat → St → Prop, J = fun q D => ∃ (f : Nat) (CS : List V), q = ms.length - f ∧ f ≤ ms.length ∧ CS = rowsC ((outL S ms.length w).set w (colS S w f)) ∧ D.s 0 = .bptr b 0 ∧ D.s 5 = .own .nil 0 ms.length SN ∧ D.s 6 = .own .nil 0 ms.length CS ∧ D.s 7 = .int .i64 (w : Int) ∧ D.s 8 = .int .i64 (f : Int) ∧ D.m = (b, ⟨g, netC (hearRow (W w) w f (hearAll W ms.length w σ))⟩) :: tb ∧ D.nx = nx := ⟨_, rfl⟩
  refine EvP.loop J (n := ms.length) (by rw [hJ]; exact ⟨0, CS, by simp, by simp, by rw [outL_set0 _ _ _ hwl]; exact hCS, by simp [hearRow_zero, d0, d5, d6, d7, dm, dx]⟩) (by omega) fun q D hD => ?_
  rw [hJ] at hD
  obtain ⟨f, CS, rfl, hf, hCS, d0, d5, d6, d7, d8, dm, dx⟩ := hD
  by_cases hfl : f < ms.length
  ·have e4 := wrap_succ (q := f) (by omega)
   have hfS : f < S.length := by rw [hSok.1]; exact hfl
   have hSfl : S[f].length = ms.length := (hSok.2 _ (List.getElem_mem hfS)).1
   have hfN : f < SN.length := by rw [hSl]; exact hfl
   obtain ⟨rcS, hrcS, hRcS⟩ := hSN.2 f _ _ (List.getElem?_eq_getElem hfN) (List.getElem?_eq_getElem hfS)
   have hSNe : SN[f] = .own .nil 0 ms.length rcS := by rw [hrcS, hSfl]
   have hSNf : SN[f]? = some (.own .nil 0 ms.length rcS) := by rw [List.getElem?_eq_getElem hfN, hSNe]
   have hwr : w < rcS.length := by rw [hRcS.1, hSfl]; exact hwl
   have hwS : w < S[f].length := by rw [hSfl]; exact hwl
   have hvr := hRcS.2 w _ _ (List.getElem?_eq_getElem hwr) (List.getElem?_eq_getElem hwS)
   have hsw : sw S f w = S[f][w] := by unfold sw; rw [List.getElem?_eq_getElem hfS, Option.getD_some, List.getElem?_eq_getElem hwS, Option.getD_some]
   have hl1 : (S[f][w]).length ≤ 1000 := ((hSok.2 _ (List.getElem_mem hfS)).2 _ (List.getElem_mem hwS)).1
   rw [← hsw] at hvr hl1
   obtain ⟨v, hve⟩ : ∃ v, rcS[w] = v := ⟨_, rfl⟩
   have hv? : rcS[w]? = some v := by rw [List.getElem?_eq_getElem hwr, hve]
   rw [hve] at hvr
   have hCl : CS.length = ms.length := by rw [hCS]; simp
   have hwC : w < CS.length := by omega
   have hwo : ((outL S ms.length w).set w (colS S w f))[w]? = some (colS S w f) := by simp [hwl]
   obtain ⟨rc, hRc⟩ : ∃ rc, (colS S w f).map cpV = rc := ⟨_, rfl⟩
   have hCw : CS[w]? = some (.own .nil 0 f rc) := by rw [hCS, rowsC_get hwo, colS_length, hRc]
   have hCe : CS[w] = .own .nil 0 f rc := by
    have := List.getElem?_eq_getElem hwC
    rw [hCw] at this
    exact (Option.some.inj this).symm
   have hrl : rc.length = f := by rw [← hRc, List.length_map, colS_length]
   have hrS : rcS.length = ms.length := by rw [hRcS.1, hSfl]
   obtain ⟨τ, hτ⟩ : ∃ τ, hearRow (W w) w f (hearAll W ms.length w σ) = τ := ⟨_, rfl⟩
   have hLike : Like σ τ := by rw [← hτ]; exact (like_hearAll W ms.length σ w).trans (like_hearRow _ _ _ _)
   have hτn : τ.scn.n = (ms.length : Int) := by rw [hLike.scn, hnn]
   have hTτ : TB b τ.tp tb := by rw [hLike.tp]; exact hT
   have hVτ : VB 1000000 τ := by
    rw [← hτ]
    refine (vb_hearRow (vb_hearAll hB W w) (W w) w f).le ?_
    have : w * ms.length ≤ 13 * 13 := Nat.mul_le_mul (by omega) hn13
    omega
   have hwv : w < τ.views.length := by rw [hLike.len]; omega
   have hWw : W w f = lnW (sw S f w) := by rw [hW]
   obtain ⟨l, hle⟩ : ∃ l, sw S f w = l := ⟨_, rfl⟩
   rw [hle] at hvr hl1 hWw
   have hfin : CS.set w (.own .nil 0 (f + 1) (rc ++ [cpV l])) = rowsC ((outL S ms.length w).set w (colS S w (f + 1))) := by
    rw [hCS, rowsC_set, rowsC_set, List.set_set, colS_succ, hle, rowC, List.map_append, hRc, List.length_append, colS_length]
    rfl
   have c62 := fun pm A cap => hear62 b g τ tb hTτ w f pm A cap l hwv hl1 (hVτ _ (List.getElem_mem hwv)) (by omega) k (by omega) nx (fun e he => by
    rcases List.mem_cons.1 he with rfl | he
    ·exact hb
    ·exact h e (List.mem_cons_of_mem _ he))
   have hrch := reach_NM (g := g) hTτ hl
   have ho := oth_NM hTτ
   have ho2 := oth_NM2 hTτ
   have hfm := filt_NM hTτ
   have ham := all_NM (nx := nx) hTτ
   rw [hτ] at dm
   cases hvr with
   | im pm' A' cap' =>
     rcases l with _ | ⟨a, l⟩
     ·have nl : uL ([] : List Nat) = [] := rfl
      have f1 : (f + 1) * 24 ≤ 140737488355328 := by omega
      have f2 : f ≤ 140737488355327 := by omega
      simp only [List.length_nil, nl] at c62
      simp [-reach, hτn, nil_uL, ho2, ham, nl, f1, f2, d0, d5, d6, d7, d8, dm, dx, hfl, hSl, hSNf, hSNe, hfN, hrS, hv?, hve, hwr, hCl, hCw, hCe, hwC, hrl, c62, hrch, ho, hfm, ed1, hwl]
      have hcc : ∀ (m0 : List (Nat × Box)), (((reach ((b, (⟨g, netC τ⟩ : Box)) :: tb) (tb.length + 1) [b]).contains b || decide (nx ≤ b)) && tb.all fun e => (reach ((b, (⟨g, netC τ⟩ : Box)) :: tb) (tb.length + 1) [b]).contains e.1 || decide (nx ≤ e.1)) = true := fun _ => by
       simp only [hrch, Bool.and_eq_true, Bool.or_eq_true, List.all_eq_true, List.contains_eq_mem, decide_eq_true_eq, List.mem_cons]
       exact ⟨by simp, fun e he => .inl (.inr (hTτ.ids.mem_iff.1 (List.mem_map_of_mem he)))⟩
      split
      case h_2 heq => cases ite_get (hcc []) heq
      rename_i D1 heq
      cases ite_get (hcc []) heq
      simp [-reach, d0, d5, d6, d7, d8, dm, dx, e4]
      subst hJ
      refine ⟨ms.length - (f + 1), by omega, f + 1, CS.set w (.own .nil 0 (f + 1) (rc ++ [.own .nil 0 0 []])), rfl, by omega, ?_, by simp [d0], by simp [d5], by simp, by simp [d7], by simp, ?_, rfl⟩
      ·rw [← hfin]; rfl
      ·rw [hearRow_succ, hWw]
       simp only [hτ]
       rfl
     ·have l1 : (l.length + 1) * 8 ≤ 140737488355328 := by simp at hl1; omega
      have l2 : l.length ≤ 140737488355327 := by simp at hl1; omega
      have f1 : (f + 1) * 24 ≤ 140737488355328 := by omega
      have f2 : f ≤ 140737488355327 := by omega
      simp only [List.length_cons, uL_cons] at c62
      simp [-reach, hτn, nil_uL, ho2, ham, uL_cons, l1, l2, f1, f2, d0, d5, d6, d7, d8, dm, dx, hfl, hSl, hSNf, hSNe, hfN, hrS, hv?, hve, hwr, hCl, hCw, hCe, hwC, hrl, c62, hrch, ho, hfm, ed1, hwl]
      have hcc : ∀ (m0 : List (Nat × Box)), (((reach ((b, (⟨g, netC τ⟩ : Box)) :: tb) (tb.length + 1) (b :: (ptrsL (uL l) ++ [])).eraseDups).contains b || decide (nx ≤ b)) && tb.all fun e => (reach ((b, (⟨g, netC τ⟩ : Box)) :: tb) (tb.length + 1) (b :: (ptrsL (uL l) ++ [])).eraseDups).contains e.1 || decide (nx ≤ e.1)) = true := fun _ => by
       simp only [nil_uL, List.append_nil, ed1, hrch, Bool.and_eq_true, Bool.or_eq_true, List.all_eq_true, List.contains_eq_mem, decide_eq_true_eq, List.mem_cons]
       exact ⟨by simp, fun e he => .inl (.inr (hTτ.ids.mem_iff.1 (List.mem_map_of_mem he)))⟩
      split
      case h_2 heq => cases ite_get (hcc []) heq
      rename_i D1 heq
      cases ite_get (hcc []) heq
      simp [-reach, d0, d5, d6, d7, d8, dm, dx, e4]
      subst hJ
      refine ⟨ms.length - (f + 1), by omega, f + 1, CS.set w (.own .nil 0 (f + 1) (rc ++ [.im true none 0 (l.length + 1) (.int .u64 (a : Int) :: uL l)])), rfl, by omega, ?_, by simp [d0], by simp [d5], by simp, by simp [d7], by simp, ?_, rfl⟩
      ·rw [← hfin]; rfl
      ·rw [hearRow_succ, hWw]
       simp only [hτ]
       rfl
   | own k' =>
     rcases l with _ | ⟨a, l⟩
     ·have nl : uL ([] : List Nat) = [] := rfl
      have f1 : (f + 1) * 24 ≤ 140737488355328 := by omega
      have f2 : f ≤ 140737488355327 := by omega
      simp only [List.length_nil, nl] at c62
      simp [-reach, hτn, nil_uL, ho2, ham, nl, f1, f2, d0, d5, d6, d7, d8, dm, dx, hfl, hSl, hSNf, hSNe, hfN, hrS, hv?, hve, hwr, hCl, hCw, hCe, hwC, hrl, c62, hrch, ho, hfm, ed1, hwl]
      have hcc : ∀ (m0 : List (Nat × Box)), (((reach ((b, (⟨g, netC τ⟩ : Box)) :: tb) (tb.length + 1) [b]).contains b || decide (nx ≤ b)) && tb.all fun e => (reach ((b, (⟨g, netC τ⟩ : Box)) :: tb) (tb.length + 1) [b]).contains e.1 || decide (nx ≤ e.1)) = true := fun _ => by
       simp only [hrch, Bool.and_eq_true, Bool.or_eq_true, List.all_eq_true, List.contains_eq_mem, decide_eq_true_eq, List.mem_cons]
       exact ⟨by simp, fun e he => .inl (.inr (hTτ.ids.mem_iff.1 (List.mem_map_of_mem he)))⟩
      split
      case h_2 heq => cases ite_get (hcc []) heq
      rename_i D1 heq
      cases ite_get (hcc []) heq
      simp [-reach, d0, d5, d6, d7, d8, dm, dx, e4]
      subst hJ
      refine ⟨ms.length - (f + 1), by omega, f + 1, CS.set w (.own .nil 0 (f + 1) (rc ++ [.own .nil 0 0 []])), rfl, by omega, ?_, by simp [d0], by simp [d5], by simp, by simp [d7], by simp, ?_, rfl⟩
      ·rw [← hfin]; rfl
      ·rw [hearRow_succ, hWw]
       simp only [hτ]
       rfl
     ·have l1 : (l.length + 1) * 8 ≤ 140737488355328 := by simp at hl1; omega
      have l2 : l.length ≤ 140737488355327 := by simp at hl1; omega
      have f1 : (f + 1) * 24 ≤ 140737488355328 := by omega
      have f2 : f ≤ 140737488355327 := by omega
      simp only [List.length_cons, uL_cons] at c62
      simp [-reach, hτn, nil_uL, ho2, ham, uL_cons, l1, l2, f1, f2, d0, d5, d6, d7, d8, dm, dx, hfl, hSl, hSNf, hSNe, hfN, hrS, hv?, hve, hwr, hCl, hCw, hCe, hwC, hrl, c62, hrch, ho, hfm, ed1, hwl]
      have hcc : ∀ (m0 : List (Nat × Box)), (((reach ((b, (⟨g, netC τ⟩ : Box)) :: tb) (tb.length + 1) (b :: (ptrsL (uL l) ++ [])).eraseDups).contains b || decide (nx ≤ b)) && tb.all fun e => (reach ((b, (⟨g, netC τ⟩ : Box)) :: tb) (tb.length + 1) (b :: (ptrsL (uL l) ++ [])).eraseDups).contains e.1 || decide (nx ≤ e.1)) = true := fun _ => by
       simp only [nil_uL, List.append_nil, ed1, hrch, Bool.and_eq_true, Bool.or_eq_true, List.all_eq_true, List.contains_eq_mem, decide_eq_true_eq, List.mem_cons]
       exact ⟨by simp, fun e he => .inl (.inr (hTτ.ids.mem_iff.1 (List.mem_map_of_mem he)))⟩
      split
      case h_2 heq => cases ite_get (hcc []) heq
      rename_i D1 heq
      cases ite_get (hcc []) heq
      simp [-reach, d0, d5, d6, d7, d8, dm, dx, e4]
      subst hJ
      refine ⟨ms.length - (f + 1), by omega, f + 1, CS.set w (.own .nil 0 (f + 1) (rc ++ [.im true none 0 (l.length + 1) (.int .u64 (a : Int) :: uL l)])), rfl, by omega, ?_, by simp [d0], by simp [d5], by simp, by simp [d7], by simp, ?_, rfl⟩
      ·rw [← hfin]; rfl
      ·rw [hearRow_succ, hWw]
       simp only [hτ]
       rfl
  ·have hfe : f = ms.length := by omega
   subst hfe
   have hτn : (hearRow (W w) w ms.length (hearAll W ms.length w σ)).scn.n = (ms.length : Int) := by rw [((like_hearAll W ms.length σ w).trans (like_hearRow _ _ _ _)).scn, hnn]
   simp [-reach, hτn, d0, d5, d6, d7, d8, dm, dx, e3]
   subst hI
   refine ⟨ms.length - (w + 1), by omega, w + 1, CS, rfl, by omega, ?_, by simp [d0], by simp [d5], by simp [d6], by simp, ?_, rfl⟩
   ·rw [outL_succ _ _ _ hwl]; exact hCS
   ·rw [hearAll_succ]
 ·have hwe : w = ms.length := by omega
  subst hwe
  have er : IntKind.i64.wrap (σ.round + 1) = σ.round + 1 := wrapi (by omega) (by omega)
  simp [-reach, hscn, hnn, d0, d5, d6, d7, dm, dx]
  refine ⟨by rw [hCS]; rfl, ?_⟩
  rw [(like_hearAll W ms.length σ ms.length).round, er, List.filter_cons_of_pos (by simpa using hb), hfl, ← hscn, hW]
  rfl
theorem getBox_mid {t : Nat} {M O2 : List (Nat × Box)} {c : Box} (h : getBox M t = some c) : ∀ {O1 : List (Nat × Box)}, (∀ e ∈ O1, e.1 ≠ t) → getBox (O1 ++ M ++ O2) t = some c
 | [], _ => by
   rw [List.nil_append]
   induction M with
   | nil => cases h
   | cons e M ih =>
     obtain ⟨i, d⟩ := e
     unfold getBox at h
     show getBox ((i, d) :: (M ++ O2)) t = some c
     unfold getBox
     by_cases hi : i = t
     ·rw [if_pos hi] at h ⊢; exact h
     ·rw [if_neg hi] at h ⊢; exact ih h
 | (i, d) :: O1, ho => by
   have hi : ¬ i = t := ho (i, d) List.mem_cons_self
   show getBox ((i, d) :: (O1 ++ M ++ O2)) t = some c
   unfold getBox
   rw [if_neg hi]
   exact getBox_mid h fun e he => ho e (List.mem_cons_of_mem _ he)
theorem net_get {b g : Nat} {σ : NetS} {tb : List (Nat × Box)} (hT : TB b σ.tp tb) {t : Nat} (ht : t ∈ σ.tp) : ∃ c', getBox ((b, (⟨g, netC σ⟩ : Box)) :: tb) t = some c' ∧ ptrsL c'.cs = [] := by
 have hne : b ≠ t := fun e => hT.nb (e ▸ ht)
 obtain ⟨c, h1, h2⟩ := getBox_of_mem (m := tb) (t := t) (hT.ids.mem_iff.2 ht)
 refine ⟨c, ?_, hT.flat _ h2⟩
 unfold getBox
 rw [if_neg (by simpa using hne)]
 exact h1
section
variable {b g : Nat} {σ σ' : NetS} {tb O1 O2 : List (Nat × Box)}
theorem net_reach (hT : TB b σ.tp tb) (hl : 1 ≤ tb.length) (hd : ∀ e ∈ O1 ++ O2, e.1 ∉ b :: σ.tp) : reach (O1 ++ ((b, (⟨g, netC σ⟩ : Box)) :: tb) ++ O2) (O1 ++ ((b, (⟨g, netC σ⟩ : Box)) :: tb) ++ O2).length [b] = b :: σ.tp := by
 have hO1 : ∀ t ∈ b :: σ.tp, ∀ e ∈ O1, e.1 ≠ t := fun t ht e he h => hd e (List.mem_append_left _ he) (h ▸ ht)
 refine reach_net (c := ⟨g, netC σ⟩) (getBox_mid (by simp [getBox]) (hO1 b List.mem_cons_self)) (ptrsL_netC σ) (fun t ht => ?_) hT.nb (nodup_ed hT.nd) (by simp; omega)
 obtain ⟨c, h1, h2⟩ := net_get (g := g) hT ht
 exact ⟨c, getBox_mid h1 (hO1 t (List.mem_cons_of_mem _ ht)), h2⟩
theorem net_keys (hT : TB b σ.tp tb) : ∀ e ∈ (b, (⟨g, netC σ⟩ : Box)) :: tb, e.1 ∈ b :: σ.tp := by
 intro e he
 rcases List.mem_cons.1 he with rfl | he
 ·exact List.mem_cons_self
 ·exact List.mem_cons_of_mem _ (hT.ids.mem_iff.1 (List.mem_map_of_mem he))
theorem net_part (hT : TB b σ.tp tb) (hd : ∀ e ∈ O1 ++ O2, e.1 ∉ b :: σ.tp) : ((O1 ++ ((b, (⟨g, netC σ⟩ : Box)) :: tb) ++ O2).filter fun e => (b :: σ.tp).contains e.1) = (b, ⟨g, netC σ⟩) :: tb := by
 rw [List.filter_append, List.filter_append]
 have h1 : (O1.filter fun e => (b :: σ.tp).contains e.1) = [] := List.filter_eq_nil_iff.2 fun e he => by
  have := hd e (List.mem_append_left _ he)
  rw [List.contains_iff_mem]; exact this
 have h2 : (O2.filter fun e => (b :: σ.tp).contains e.1) = [] := List.filter_eq_nil_iff.2 fun e he => by
  have := hd e (List.mem_append_right _ he)
  rw [List.contains_iff_mem]; exact this
 have h3 : (((b, (⟨g, netC σ⟩ : Box)) :: tb).filter fun e => (b :: σ.tp).contains e.1) = (b, ⟨g, netC σ⟩) :: tb := List.filter_eq_self.2 fun e he => by
  rw [List.contains_iff_mem]; exact net_keys hT e he
 rw [h1, h2, h3, List.nil_append, List.append_nil]
theorem net_oth (hT : TB b σ.tp tb) (hd : ∀ e ∈ O1 ++ O2, e.1 ∉ b :: σ.tp) : othersM (O1 ++ ((b, (⟨g, netC σ⟩ : Box)) :: tb) ++ O2) (b :: σ.tp) = O1 ++ O2 := by
 unfold othersM
 rw [List.filter_append, List.filter_append]
 have h1 : (O1.filter fun e => !(b :: σ.tp).contains e.1) = O1 := List.filter_eq_self.2 fun e he => by
  have := hd e (List.mem_append_left _ he)
  rw [Bool.not_eq_true', ← Bool.not_eq_true, List.contains_iff_mem]; exact this
 have h2 : (O2.filter fun e => !(b :: σ.tp).contains e.1) = O2 := List.filter_eq_self.2 fun e he => by
  have := hd e (List.mem_append_right _ he)
  rw [Bool.not_eq_true', ← Bool.not_eq_true, List.contains_iff_mem]; exact this
 have h3 : (((b, (⟨g, netC σ⟩ : Box)) :: tb).filter fun e => !(b :: σ.tp).contains e.1) = [] := List.filter_eq_nil_iff.2 fun e he => by
  rw [Bool.not_eq_true', Bool.not_eq_false, List.contains_iff_mem]; exact net_keys hT e he
 rw [h1, h2, h3, List.append_nil]
variable {P : Program} {H : Hint} {f k N nx : Nat} {xs : List V} {r : V}
theorem netCall (hT : TB b σ.tp tb) (hl : 1 ≤ tb.length) (hd : ∀ e ∈ O1 ++ O2, e.1 ∉ b :: σ.tp) (h' : σ'.tp = σ.tp) (hans : AnsM N P H f xs ((b, ⟨g, netC σ⟩) :: tb) r ((b, ⟨g, netC σ'⟩) :: tb)) (hk : N ≤ k) (hp : ptrsL xs = [b]) (hX : H.X f xs = none) (hlt : ∀ e ∈ (b, (⟨g, netC σ⟩ : Box)) :: tb, e.1 < nx) (s : Nat → V) (dst : Option Nat) :
 doCallB H (evCall P H k) f false xs ⟨s, O1 ++ ((b, ⟨g, netC σ⟩) :: tb) ++ O2, nx⟩ dst = some ((St.mk (fun i => killB (b :: σ.tp) nx (s i)) (O1 ++ O2 ++ ((b, ⟨g, netC σ'⟩) :: tb)) nx).lay dst r) := by
 refine callBox hX (by rw [hp]; exact net_reach hT hl hd) (net_part hT hd) (net_oth hT hd) (by simp) (hans k hk nx hlt) (fun e he => .inl ?_) dst
 have := net_keys (g := g) (σ := σ') (by rw [h']; exact hT) e he
 rwa [h'] at this
theorem netCall0 (hT : TB b σ.tp tb) (hl : 1 ≤ tb.length) (h' : σ'.tp = σ.tp) (hans : AnsM N P H f xs ((b, ⟨g, netC σ⟩) :: tb) r ((b, ⟨g, netC σ'⟩) :: tb)) (hk : N ≤ k) (hp : ptrsL xs = [b]) (hX : H.X f xs = none) (hlt : ∀ e ∈ (b, (⟨g, netC σ⟩ : Box)) :: tb, e.1 < nx) (s : Nat → V) (dst : Option Nat) :
 doCallB H (evCall P H k) f false xs ⟨s, (b, ⟨g, netC σ⟩) :: tb, nx⟩ dst = some ((St.mk (fun i => killB (b :: σ.tp) nx (s i)) ((b, ⟨g, netC σ'⟩) :: tb) nx).lay dst r) := by
 have := netCall (O1 := []) (O2 := []) hT hl (by simp) h' hans hk hp hX hlt s dst
 simpa only [List.nil_append, List.append_nil] using this
end
end Go.Abs
end
