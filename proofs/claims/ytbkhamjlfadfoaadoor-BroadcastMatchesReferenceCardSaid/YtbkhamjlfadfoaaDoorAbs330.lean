/- Joined: AbsQB AbsQC. -/
import Derived.Test.YtbkhamjlfadfoaaDoorAbs328
import Derived.Test.YtbkhamjlfadfoaaDoorAbs329
set_option linter.all false
set_option maxHeartbeats 16000000
noncomputable section
namespace Go.Abs
open Go Go.Proofs
set_option maxRecDepth 100000
theorem getBox_mid4 {q : Nat} {N B : List (Nat × Box)} (h : ∀ e ∈ N, e.1 ≠ q) : ∀ A : List (Nat × Box), getBox (A ++ N ++ B) q = getBox (A ++ B) q
 | [] => by rw [List.nil_append, List.nil_append, getBox_skip h]
 | (a, c) :: A => by
   show (if a = q then some c else getBox (A ++ N ++ B) q) = if a = q then some c else getBox (A ++ B) q
   rw [getBox_mid4 h A]
def tkRow (tk : Nat → List Nat) (n : Nat) : List V := (List.range n).map fun i => ownR (tk i)
def tkC (tk : Nat → Nat → List Nat) (n : Nat) : List V := (List.range n).map fun j => V.own .nil 0 n (tkRow (tk j) n)
def addT (tk : Nat → List Nat) (i v : Nat) (i' : Nat) : List Nat := if i' = i then tk i' ++ [v] else tk i'
@[simp] theorem tkRow_length (tk : Nat → List Nat) (n : Nat) : (tkRow tk n).length = n := map_len _ _
@[simp] theorem tkC_length (tk : Nat → Nat → List Nat) (n : Nat) : (tkC tk n).length = n := map_len _ _
theorem tkRow_get (tk : Nat → List Nat) {n i : Nat} (h : i < n) : (tkRow tk n)[i]? = some (ownR (tk i)) := by
 unfold tkRow; rw [List.getElem?_map, List.getElem?_range h]; rfl
theorem tkRow_set (tk : Nat → List Nat) {n i : Nat} (h : i < n) (v : Nat) : (tkRow tk n).set i (ownR (tk i ++ [v])) = tkRow (addT tk i v) n := by
 apply List.ext_getElem?
 intro w
 rw [List.getElem?_set, tkRow_length]
 by_cases hw : w < n
 ·rw [tkRow_get _ hw, tkRow_get _ hw]
  by_cases e : i = w
  ·subst e; rw [if_pos rfl, if_pos h]; simp [addT]
  ·rw [if_neg e]
   have : ¬ w = i := fun x => e x.symm
   simp [addT, this]
 ·rw [List.getElem?_eq_none (l := tkRow (addT tk i v) n) (by rw [tkRow_length]; omega), if_neg (by omega), List.getElem?_eq_none (by rw [tkRow_length]; omega)]
theorem hrC_full (S : List (List (List Nat))) (ls : List Int) (n : Nat) : hrC S ls n n = (List.range n).map fun j => V.own .nil 0 n ((List.range n).map fun i => ownR (hrd S ls j i)) := by
 unfold hrC
 rw [mix_full]
 refine List.map_congr_left fun j _ => ?_
 unfold hrRow
 rw [mix_full]
theorem ptrsL_tkRow (tk : Nat → List Nat) (n : Nat) : ptrsL (tkRow tk n) = [] := by
 have : tkRow tk n = ((List.range n).map tk).map ownR := by unfold tkRow; rw [List.map_map]; rfl
 rw [this, ptrsL_ownR]
theorem ptrsL_tkC (tk : Nat → Nat → List Nat) (n : Nat) : ptrsL (tkC tk n) = [] := by
 unfold tkC
 generalize List.range n = l
 induction l with
 | nil => rfl
 | cons j l ih =>
   show ptrs (V.own .nil 0 n (tkRow (tk j) n)) ++ ptrsL (l.map fun j => V.own .nil 0 n (tkRow (tk j) n)) = []
   rw [ih, List.append_nil]
   show ptrsL (tkRow (tk j) n) = []
   exact ptrsL_tkRow _ _
theorem hrC_tk (S : List (List (List Nat))) (ls : List Int) (n : Nat) : hrC S ls n n = tkC (hrd S ls) n := hrC_full S ls n
def bxO (b n q3 q4 q7 q8 : Nat) (B4 : List V) (HC TK : List V) : List (Nat × Box) := [(q3, ⟨0, [.bptr b 0]⟩), (q4, ⟨0, B4⟩), (q7, ⟨0, [.own .nil 0 n HC]⟩), (q8, ⟨0, [.own .nil 0 n TK]⟩)]
structure BxQ (b : Nat) (tp : List Nat) (q3 q4 q7 q8 : Nat) : Prop where
 a : q3 ≠ q4 ∧ q3 ≠ q7 ∧ q3 ≠ q8 ∧ q4 ≠ q7 ∧ q4 ≠ q8 ∧ q7 ≠ q8
 d : ∀ q ∈ [q3, q4, q7, q8], q ∉ b :: tp
theorem clo58 {N b g : Nat} {σ : NetS} {tb : List (Nat × Box)} (I : NetI N b σ tb) (T : NetT σ) (hTb : ∀ e ∈ tb, noBorL e.2.cs = true) (n t : Nat) (hn : σ.scn.n = (n : Int)) (ht : σ.scn.t = (t : Int)) (htn : t < n) (hr : σ.round + 3 * (t + 1) < 1000)
 (q3 q4 q7 q8 : Nat) (hq : BxQ b σ.tp q3 q4 q7 q8) (A4 : Option Addr) (c4 : Nat) (rs : List V) (hrs : rs.length = n) (hrp : ptrsL rs = []) (hd : Nat → Nat → List Nat) (tk : Nat → Nat → List Nat) (i kk : Nat) (hi : i < n) (hkk : ∀ j, j < n → kk < (hd j i).length) (hhd : ∀ j, ∀ x ∈ hd j i, x < σ.scn.p) (hlen : ∀ j, (tk j i).length ≤ 1000)
 (O1 O2 : List (Nat × Box)) (hO : O1 ++ O2 = bxO b n q3 q4 q7 q8 [.im false A4 c4 n rs] (tkC hd n) (tkC tk n)) (r : Ph) (hrr : r = phases n t ⟨σ, (List.range n).map fun j => vF (hd j i) kk⟩ (t + 1)) :
 AnsM (max N 100 + 4) Tryd.prog H14 58 [.int .i64 (i : Int), .int .i64 (kk : Int), .bptr q4 0, .bptr q7 0, .bptr q3 0, .bptr q8 0] (O1 ++ ((b, ⟨g, netC σ⟩) :: tb) ++ O2) (.tup []) (bxO b n q3 q4 q7 q8 [.im false A4 c4 n rs] (tkC hd n) (tkC (fun j => addT (tk j) i (vF r.vs j)) n) ++ ((b, ⟨g, netC r.σ⟩) :: tb)) := by
 have h13 : n ≤ 13 := by have := I.h13; omega
 have hp0 : 0 < σ.scn.p := I.p0
 obtain ⟨ws, hws⟩ : ∃ ws, (List.range n).map (fun j => vF (hd j i) kk) = ws := ⟨_, rfl⟩
 rw [hws] at hrr
 have hwl : ws.length = n := by rw [← hws, map_len]
 have hwv : ∀ x ∈ ws, x < σ.scn.p := fun x hx => by
  rw [← hws] at hx
  obtain ⟨j, _, rfl⟩ := List.mem_map.1 hx
  exact vF_lt hp0 (hhd j) kk
 have hP0 : PhO N b n t tb σ.scn σ.tp ⟨σ, ws⟩ := ⟨⟨I, T, rfl, rfl⟩, hwl, hwv⟩
 obtain ⟨hP1, hPr⟩ := hP0.phases hn htn (t + 1)
 rw [← hrr] at hP1
 have a22 := fun pm A cap => agree22 (g := g) I T hTb pm A cap ws n t hwl hn ht htn hwv hr
 simp only [← hrr] at a22
 obtain ⟨⟨n34, n37, n38, n47, n48, n78⟩, hqd⟩ := hq
 have hk : ∀ τ : NetS, τ.tp = σ.tp → ∀ e ∈ (b, (⟨g, netC τ⟩ : Box)) :: tb, e.1 ∈ b :: σ.tp := fun τ hτ e he => by
  have := net_keys (g := g) (σ := τ) (by rw [hτ]; exact I.hT) e he
  rwa [hτ] at this
 have hsk : ∀ q ∈ [q3, q4, q7, q8], ∀ τ : NetS, τ.tp = σ.tp → ∀ e ∈ (b, (⟨g, netC τ⟩ : Box)) :: tb, e.1 ≠ q := fun q hq τ hτ e he h => hqd q hq (h ▸ hk τ hτ e he)
 have hin : ∀ e ∈ O1 ++ O2, e.1 ∈ [q3, q4, q7, q8] := fun e he => by
  rw [hO] at he
  unfold bxO at he
  simp only [List.mem_cons, List.not_mem_nil, or_false] at he ⊢
  rcases he with rfl | rfl | rfl | rfl <;> simp
 refine AnsM.gen (fn := Tryd.f58) (by rfl) Tryd.func58 rfl (by rfl) (fun nx h c hc => ?_) fun k hk nx h => ?_
 ·have hb0 : b < nx := h (b, ⟨g, netC σ⟩) (List.mem_append_left _ (List.mem_append_right _ List.mem_cons_self))
  have hnb : ∀ e ∈ (b, (⟨g, netC r.σ⟩ : Box)) :: tb, e.1 < nx := fun e he => by
   rcases List.mem_cons.1 he with rfl | he
   ·exact hb0
   ·exact h e (List.mem_append_left _ (List.mem_append_right _ (List.mem_cons_of_mem _ he)))
  rw [List.flatMap_append] at hc
  rcases List.mem_append.1 hc with hc | hc
  ·simp [ptrs, ptrsL] at hc
  rcases List.mem_append.1 hc with hc | hc
  ·simp only [bxO, List.flatMap_cons, List.flatMap_nil, ptrsL, ptrs, ptrsL_tkC, hrp, List.append_nil, List.nil_append, List.mem_singleton] at hc
   rw [hc]; exact hb0
  ·exact net_ptrs (σ := r.σ) (by rw [hP1.o.tp]; exact I.hT) hnb hc
 have hlt : ∀ e ∈ (b, (⟨g, netC σ⟩ : Box)) :: tb, e.1 < nx := fun e he => h e (List.mem_append_left _ (List.mem_append_right _ he))
 have hqlt : ∀ e ∈ O1 ++ O2, e.1 < nx := fun e he => by
  rcases List.mem_append.1 he with he | he
  ·exact h e (List.mem_append_left _ (List.mem_append_left _ he))
  ·exact h e (List.mem_append_right _ he)
 have c22 := fun A cap s dst => netCall (g := g) (k := k) (O1 := O1) (O2 := O2) I.hT I.hl (fun e he => hqd _ (hin e he)) (hP1.o.tp) (a22 false A cap) (by omega) (by simp [ptrsL, ptrs, nil_uL]) rfl hlt s dst
 obtain ⟨M0, hM0⟩ : ∃ M, O1 ++ ((b, (⟨g, netC σ⟩ : Box)) :: tb) ++ O2 = M := ⟨_, rfl⟩
 have g0 : ∀ q c, q ∈ [q3, q4, q7, q8] → getBox (O1 ++ O2) q = some c → getBox M0 q = some c := fun q c hq hc => by
  rw [← hM0, getBox_mid4 (hsk q hq σ rfl)]; exact hc
 have e43 : ¬ q4 = q3 := fun e => n34 e.symm
 have f3 : getBox M0 q3 = some ⟨0, [.bptr b 0]⟩ := g0 _ _ (by simp) (by rw [hO]; simp [bxO, getBox])
 have f4 : getBox M0 q4 = some ⟨0, [.im false A4 c4 n rs]⟩ := g0 _ _ (by simp) (by rw [hO]; simp [bxO, getBox, n34])
 have f7 : getBox M0 q7 = some ⟨0, [.own .nil 0 n (tkC hd n)]⟩ := g0 _ _ (by simp) (by rw [hO]; simp [bxO, getBox, n37, n47])
 obtain ⟨MT, hMT⟩ : ∃ MT : List V → List (Nat × Box), MT = fun TK => bxO b n q3 q4 q7 q8 [.im false A4 c4 n rs] (tkC hd n) TK ++ ((b, ⟨g, netC r.σ⟩) :: tb) := ⟨_, rfl⟩
 have gT : ∀ TK, getBox (MT TK) q8 = some ⟨0, [.own .nil 0 n TK]⟩ := fun TK => by rw [hMT]; simp [bxO, getBox, n38, n48, n78]
 have sT : ∀ TK TK', setBox (MT TK) q8 ⟨0, [.own .nil 0 n TK']⟩ = MT TK' := fun TK TK' => by rw [hMT]; simp [bxO, setBox, n38, n48, n78]
 rw [hM0, hO] at c22
 have eMT : bxO b n q3 q4 q7 q8 [.im false A4 c4 n rs] (tkC hd n) (tkC tk n) ++ ((b, ⟨g, netC r.σ⟩) :: tb) = MT (tkC tk n) := by rw [hMT]
 rw [eMT] at c22
 have eMT2 : bxO b n q3 q4 q7 q8 [.im false A4 c4 n rs] (tkC hd n) (tkC (fun j => addT (tk j) i (vF r.vs j)) n) ++ ((b, ⟨g, netC r.σ⟩) :: tb) = MT (tkC (fun j => addT (tk j) i (vF r.vs j)) n) := by rw [hMT]
 rw [hM0, eMT2]
 have hfT : ∀ TK, (MT TK).filter (fun e => decide (e.1 < nx)) = MT TK := fun TK => filt_lt fun e he => by
  rw [hMT] at he
  rcases List.mem_append.1 he with he | he
  ·have hq : ∀ c q, (q, c) ∈ O1 ++ O2 → q < nx := fun c q hc => hqlt (q, c) hc
   rw [hO] at hq
   unfold bxO at he hq
   simp only [List.mem_cons, List.not_mem_nil, or_false] at he hq
   rcases he with rfl | rfl | rfl | rfl
   ·exact hq _ _ (.inl rfl)
   ·exact hq _ _ (.inr (.inl rfl))
   ·exact hq _ _ (.inr (.inr (.inl rfl)))
   ·exact hq ⟨0, [.own .nil 0 n (tkC tk n)]⟩ _ (.inr (.inr (.inr rfl)))
  ·rcases List.mem_cons.1 he with rfl | he
   ·exact hlt (b, ⟨g, netC σ⟩) List.mem_cons_self
   ·exact hlt e (List.mem_cons_of_mem _ he)
 have b1 : (n : Int) ≤ 140737488355328 := by omega
 have b2 : (n : Int) * 8 ≤ 140737488355328 := by omega
 have hz : ¬ (n = 0 ∧ 0 < n) := by omega
 obtain ⟨HC, hHC⟩ : ∃ HC, tkC hd n = HC := ⟨_, rfl⟩
 rw [hHC] at f7
 have hHl : HC.length = n := by rw [← hHC]; simp
 have hw0 : List.replicate n (V.int .u64 0) = uL (mix (fun j => vF (hd j i) kk) (fun _ => 0) n 0) := by
  rw [mix_zero]
  unfold uL
  rw [List.map_map]
  apply List.ext_getElem?
  intro w
  rw [List.getElem?_map, List.getElem?_replicate]
  by_cases hw : w < n
  ·rw [if_pos hw, List.getElem?_range hw]; rfl
  ·rw [if_neg hw, List.getElem?_eq_none (by rw [List.length_range]; omega)]; rfl
 obtain ⟨J, hJ⟩ : ∃ J : Nat → St → Prop, J = fun q D => ∃ (j : Nat) (VS : List V), q = n - j ∧ j ≤ n ∧ VS = uL (mix (fun j => vF (hd j i) kk) (fun _ => 0) n j) ∧ D.s 0 = .int .i64 (i : Int) ∧ D.s 1 = .int .i64 (kk : Int) ∧ D.s 3 = .bptr q7 0 ∧ D.s 4 = .bptr q3 0 ∧ D.s 5 = .bptr q8 0 ∧ D.s 8 = .own .nil 0 n VS ∧ D.s 16 = .int .i64 (n : Int) ∧ D.s 17 = .int .i64 (j : Int) ∧ D.m = M0 ∧ D.nx = nx := ⟨_, rfl⟩
 simp [-reach, -doCall, doCall_eq, entryS, f4, b1, b2, hz, rep_rep]
 refine EvP.loop J (n := n) (by rw [hJ]; exact ⟨0, List.replicate n (V.int .u64 0), by simp, by simp, hw0, by simp⟩) (by omega) fun q D hD => ?_
 rw [hJ] at hD
 obtain ⟨j, VS, rfl, hj, hVS, d0, d1, d3, d4, d5, d8, d16, d17, dm, dx⟩ := hD
 have hVl : VS.length = n := by rw [hVS]; simp [uL]
 by_cases hjn : j < n
 ·have e4 := wrap_succ (q := j) (by omega)
  have hjV : j < VS.length := by omega
  have hjH : j < HC.length := by omega
  have hH? : HC[j]? = some (.own .nil 0 n (tkRow (hd j) n)) := by rw [← hHC]; unfold tkC; rw [List.getElem?_map, List.getElem?_range hjn]; rfl
  obtain ⟨RR, hRR⟩ : ∃ RR, tkRow (hd j) n = RR := ⟨_, rfl⟩
  rw [hRR] at hH?
  have hHe : HC[j] = .own .nil 0 n RR := by
   have := List.getElem?_eq_getElem hjH
   rw [hH?] at this
   exact (Option.some.inj this).symm
  have hRl : RR.length = n := by rw [← hRR]; simp
  have hiR : i < RR.length := by omega
  have hkl := hkk j hjn
  obtain ⟨l, hle⟩ : ∃ l, hd j i = l := ⟨_, rfl⟩
  rw [hle] at hkl
  have hR? : RR[i]? = some (.own .nil 0 l.length (uL l)) := by rw [← hRR, tkRow_get _ hi, hle]; rfl
  have hRe : RR[i] = .own .nil 0 l.length (uL l) := by
   have := List.getElem?_eq_getElem hiR
   rw [hR?] at this
   exact (Option.some.inj this).symm
  have hu? : (uL l)[kk]? = some (.int .u64 (vF l kk : Int)) := uL_vF hkl
  have hue := uL_get2 hkl
  have hku : kk < (uL l).length := by simp [uL]; exact hkl
  simp [-reach, -doCall, doCall_eq, d0, d1, d3, d4, d5, d8, d16, d17, dm, dx, hjn, f7, hH?, hHe, hjH, hHl, hi, hR?, hRe, hiR, hRl, hkl, hu?, hue, hku, hjV, hVl, e4]
  subst hJ
  exact ⟨n - (j + 1), by omega, j + 1, VS.set j (.int .u64 (vF l kk : Int)), rfl, by omega, by rw [← mix_set _ _ _ _ hjn, ← uL_set, ← hVS, hle], by simp [d0], by simp [d1], by simp [d3], by simp [d4], by simp [d5], by simp, by simp [d16], by simp, by simp, by simp⟩
 ·have hje : j = n := by omega
  rw [hje] at hVS d17
  rw [mix_full, hws] at hVS
  rw [hVS] at d8
  obtain ⟨J2, hJ2⟩ : ∃ J : Nat → St → Prop, J = fun q D => ∃ (j : Nat) (TK : List V), q = n - j ∧ j ≤ n ∧ TK = mix (fun w => V.own .nil 0 n (tkRow (addT (tk w) i (vF r.vs w)) n)) (fun w => V.own .nil 0 n (tkRow (tk w) n)) n j ∧ D.s 0 = .int .i64 (i : Int) ∧ D.s 5 = .bptr q8 0 ∧ D.s 36 = .own .nil 0 n (uL r.vs) ∧ D.s 37 = .int .i64 (n : Int) ∧ D.s 38 = .int .i64 (j : Int) ∧ D.m = MT TK ∧ D.nx = nx := ⟨_, rfl⟩
  simp [-reach, -doCall, doCall_eq, d0, d1, d3, d4, d5, d8, d16, d17, dm, dx, f3, c22]
  refine EvP.loop J2 (n := n) (by rw [hJ2]; exact ⟨0, tkC tk n, by simp, by simp, by rw [mix_zero]; rfl, by simp [d0], by simp [d5], by simp, by simp, by simp, by simp, by simp⟩) (by omega) fun q D hD => ?_
  rw [hJ2] at hD
  obtain ⟨j, TK, rfl, hj, hTK, d0, d5, d36, d37, d38, dm, dx⟩ := hD
  have hTl : TK.length = n := by rw [hTK]; simp
  by_cases hjn : j < n
  ·have e4 := wrap_succ (q := j) (by omega)
   have hjT : j < TK.length := by omega
   have hjr : j < r.vs.length := by rw [hP1.l]; exact hjn
   have hu? : (uL r.vs)[j]? = some (.int .u64 (vF r.vs j : Int)) := uL_vF hjr
   have hue := uL_get2 hjr
   have hju : j < (uL r.vs).length := by simp [uL]; exact hjr
   have hT? : TK[j]? = some (.own .nil 0 n (tkRow (tk j) n)) := by rw [hTK, mix_get _ _ _ _ hjn]
   obtain ⟨RR, hRR⟩ : ∃ RR, tkRow (tk j) n = RR := ⟨_, rfl⟩
   rw [hRR] at hT?
   have hTe : TK[j] = .own .nil 0 n RR := by
    have := List.getElem?_eq_getElem hjT
    rw [hT?] at this
    exact (Option.some.inj this).symm
   have hRl : RR.length = n := by rw [← hRR]; simp
   have hiR : i < RR.length := by omega
   obtain ⟨l, hle⟩ : ∃ l, tk j i = l := ⟨_, rfl⟩
   have hll : l.length ≤ 1000 := by rw [← hle]; exact hlen j
   have hR? : RR[i]? = some (.own .nil 0 l.length (uL l)) := by rw [← hRR, tkRow_get _ hi, hle]; rfl
   have hRe : RR[i] = .own .nil 0 l.length (uL l) := by
    have := List.getElem?_eq_getElem hiR
    rw [hR?] at this
    exact (Option.some.inj this).symm
   obtain ⟨y, hy⟩ : ∃ y, vF r.vs j = y := ⟨_, rfl⟩
   rw [hy] at hu? hue
   have f1 : (l.length + 1) * 8 ≤ 140737488355328 := by omega
   have f2 : l.length ≤ 140737488355327 := by omega
   have hfin : TK.set j (.own .nil 0 n (RR.set i (.own .nil 0 (l.length + 1) (uL l ++ [.int .u64 (y : Int)])))) = mix (fun w => V.own .nil 0 n (tkRow (addT (tk w) i (vF r.vs w)) n)) (fun w => V.own .nil 0 n (tkRow (tk w) n)) n (j + 1) := by
    rw [← mix_set _ _ _ _ hjn, ← hTK]
    have : V.own .nil 0 (l.length + 1) (uL l ++ [.int .u64 (y : Int)]) = ownR (tk j i ++ [y]) := by
     rw [hle]; simp [ownR, uL]
    rw [this, ← hRR, tkRow_set _ hi, hy]
   have hvl : r.vs.length = n := hP1.l
   simp [-reach, -doCall, doCall_eq, d0, d5, d36, d37, d38, dm, dx, hjn, hu?, hue, hju, hvl]
   refine EvP.cutN (fun D => D.s 0 = .int .i64 (i : Int) ∧ D.s 5 = .bptr q8 0 ∧ D.s 36 = .own .nil 0 n (uL r.vs) ∧ D.s 37 = .int .i64 (n : Int) ∧ D.s 38 = .int .i64 (j : Int) ∧ D.m = MT (TK.set j (.own .nil 0 n (RR.set i (.own .nil 0 (l.length + 1) (uL l ++ [.int .u64 (y : Int)]))))) ∧ D.nx = nx) ?_ fun D ⟨d0, d5, d36, d37, d38, dm, dx⟩ => ?_
   ·refine EvP.drawT rfl ?_
    apply drawT_ex
    apply Exists.intro
    apply Exists.intro
    apply Exists.intro
    apply And.intro
    ·intro P hP
     simp only [paths, List.map_cons, List.map_nil, List.cons_append, List.nil_append, List.mem_cons, List.not_mem_nil, or_false] at hP
     rcases hP with rfl | hP
     ·simp [-reach, -doCall, doCall_eq, d0, d5, d36, d37, d38, dm, dx, hjn, gT, sT, hT?, hTe, hjT, hTl, hi, hR?, hRe, hiR, hRl, f1, f2]
      exact ⟨fun jj => rfl, rfl, rfl⟩
     ·repeat' (rcases hP with rfl | hP)
      all_goals try subst hP
      all_goals
       simp [-reach, -doCall, doCall_eq, d0, d5, d36, d37, d38, dm, dx, hjn, gT, sT, hT?, hTe, hjT, hTl, hi, hR?, hRe, hiR, hRl, f1, f2]
       refine ⟨fun jj => ?_, rfl, rfl⟩
       rcases Decidable.em (jj = 43) with rfl | a43
       ·simp
       rcases Decidable.em (jj = 44) with rfl | a44
       ·simp
       rcases Decidable.em (jj = 45) with rfl | a45
       ·simp
       rcases Decidable.em (jj = 46) with rfl | a46
       ·simp
       rcases Decidable.em (jj = 47) with rfl | a47
       ·simp
       rcases Decidable.em (jj = 48) with rfl | a48
       ·simp
       rcases Decidable.em (jj = 49) with rfl | a49
       ·simp
       rcases Decidable.em (jj = 50) with rfl | a50
       ·simp
       rcases Decidable.em (jj = 51) with rfl | a51
       ·simp
       rcases Decidable.em (jj = 52) with rfl | a52
       ·simp
       rcases Decidable.em (jj = 53) with rfl | a53
       ·simp
       rcases Decidable.em (jj = 54) with rfl | a54
       ·simp
       rcases Decidable.em (jj = 55) with rfl | a55
       ·simp
       rcases Decidable.em (jj = 56) with rfl | a56
       ·simp
       rcases Decidable.em (jj = 57) with rfl | a57
       ·simp
       rcases Decidable.em (jj = 58) with rfl | a58
       ·simp
       simp [a43, a44, a45, a46, a47, a48, a49, a50, a51, a52, a53, a54, a55, a56, a57, a58, kill_comm]
    ·simp [d0, d5, d36, d37, d38]
   simp [d0, d5, d36, d37, d38, dm, dx, e4]
   subst hJ2
   exact ⟨n - (j + 1), by omega, j + 1, _, rfl, by omega, hfin, by simp [d0], by simp [d5], by simp [d36], by simp [d37], by simp, by simp [dm], by simp [dx]⟩
  ·have hje : j = n := by omega
   rw [hje, mix_full] at hTK
   have hTK2 : TK = tkC (fun j => addT (tk j) i (vF r.vs j)) n := hTK
   rw [hje] at d38
   simp [-reach, -doCall, doCall_eq, d0, d5, d36, d37, d38, dm, dx, hfT, hTK2]
structure BS where
 σ : NetS
 tk : Nat → Nat → List Nat
def bRun (n t : Nat) (hd : Nat → Nat → List Nat) (i k : Nat) (s : BS) : Ph := phases n t ⟨s.σ, (List.range n).map fun j => vF (hd j i) k⟩ (t + 1)
def bStep (n t : Nat) (hd : Nat → Nat → List Nat) (i k : Nat) (s : BS) : BS := ⟨(bRun n t hd i k s).σ, fun j => addT (s.tk j) i (vF (bRun n t hd i k s).vs j)⟩
def bRow (n t : Nat) (hd : Nat → Nat → List Nat) (i : Nat) (s : BS) : Nat → BS
 | 0 => s
 | k + 1 => bStep n t hd i k (bRow n t hd i s k)
def bAll (n t : Nat) (hd : Nat → Nat → List Nat) (ln : Nat → Nat) (s : BS) : Nat → BS
 | 0 => s
 | i + 1 => bRow n t hd i (bAll n t hd ln s i) (ln i)
def sumL (ln : Nat → Nat) : Nat → Nat
 | 0 => 0
 | i + 1 => sumL ln i + ln i
theorem sumL_mono {ln : Nat → Nat} {i j : Nat} (h : i ≤ j) : sumL ln i ≤ sumL ln j := by
 induction j with
 | zero => have : i = 0 := by omega
           rw [this]; exact Nat.le_refl _
 | succ j ih =>
   by_cases e : i = j + 1
   ·rw [e]; exact Nat.le_refl _
   ·have := ih (by omega)
    show _ ≤ sumL ln j + ln j
    omega
section
variable {N b n t : Nat} {tb : List (Nat × Box)} {s : Scn} {tp : List Nat} {hd : Nat → Nat → List Nat}
theorem bRun_ok {z : BS} (h : NetO N b tb s tp z.σ) (hn : s.n = (n : Int)) (htn : t < n) (hp : ∀ j i, ∀ x ∈ hd j i, x < s.p) (i k : Nat) : PhO N b n t tb s tp (bRun n t hd i k z) ∧ (bRun n t hd i k z).σ.round = z.σ.round + 3 * ((t + 1 : Nat) : Int) := by
 have p0 : 0 < s.p := by have := h.I.p0; rwa [h.s] at this
 have h0 : PhO N b n t tb s tp ⟨z.σ, (List.range n).map fun j => vF (hd j i) k⟩ := ⟨h, map_len _ _, fun x hx => by
  obtain ⟨j, _, rfl⟩ := List.mem_map.1 hx
  exact vF_lt p0 (hp j i) k⟩
 exact h0.phases hn htn (t + 1)
theorem bRow_ok {z : BS} (h : NetO N b tb s tp z.σ) (hn : s.n = (n : Int)) (htn : t < n) (hp : ∀ j i, ∀ x ∈ hd j i, x < s.p) (i : Nat) : ∀ k, NetO N b tb s tp (bRow n t hd i z k).σ ∧ (bRow n t hd i z k).σ.round = z.σ.round + 3 * ((t + 1 : Nat) : Int) * (k : Int) ∧ ∀ j, ((bRow n t hd i z k).tk j i).length = (z.tk j i).length + k
 | 0 => ⟨h, by simp [bRow], fun j => rfl⟩
 | k + 1 => by
   obtain ⟨h1, h2, h3⟩ := bRow_ok h hn htn hp i k
   obtain ⟨h4, h5⟩ := bRun_ok h1 hn htn hp i k
   refine ⟨h4.o, ?_, fun j => ?_⟩
   ·show (bRun n t hd i k (bRow n t hd i z k)).σ.round = _
    rw [h5, h2, Int.add_assoc]
    congr 1
   ·show (addT ((bRow n t hd i z k).tk j) i _ i).length = _
    unfold addT
    rw [if_pos rfl, List.length_append, h3 j]; rfl
theorem bRow_other {z : BS} (i i' : Nat) (h : i' ≠ i) : ∀ k j, (bRow n t hd i z k).tk j i' = z.tk j i'
 | 0, j => rfl
 | k + 1, j => by
   show addT ((bRow n t hd i z k).tk j) i _ i' = _
   unfold addT
   rw [if_neg h, bRow_other i i' h k j]
theorem bAll_ok {ln : Nat → Nat} {z : BS} (h : NetO N b tb s tp z.σ) (hn : s.n = (n : Int)) (htn : t < n) (hp : ∀ j i, ∀ x ∈ hd j i, x < s.p) : ∀ i, NetO N b tb s tp (bAll n t hd ln z i).σ ∧ (bAll n t hd ln z i).σ.round = z.σ.round + 3 * ((t + 1 : Nat) : Int) * (sumL ln i : Int) ∧ ∀ i', i ≤ i' → ∀ j, (bAll n t hd ln z i).tk j i' = z.tk j i'
 | 0 => ⟨h, by simp [bAll, sumL], fun i' _ j => rfl⟩
 | i + 1 => by
   obtain ⟨h1, h2, h3⟩ := bAll_ok h hn htn hp i
   obtain ⟨h4, h5, h6⟩ := bRow_ok h1 hn htn hp i (ln i)
   refine ⟨h4, ?_, fun i' hi' j => ?_⟩
   ·show (bRow n t hd i (bAll n t hd ln z i) (ln i)).σ.round = _
    rw [h5, h2, Int.add_assoc, ← Int.mul_add]
    show _ = z.σ.round + 3 * ((t + 1 : Nat) : Int) * ((sumL ln i + ln i : Nat) : Int)
    push_cast; rfl
   ·show (bRow n t hd i (bAll n t hd ln z i) (ln i)).tk j i' = _
    rw [bRow_other i i' (by omega), h3 i' (by omega)]
end
def more (m : List (Nat × Box)) (ids : List Nat) : List Nat := (ids.flatMap fun b => match getBox m b with | some c => ptrsL c.cs | none => []).filter fun b => !ids.contains b
theorem reach_succ (m : List (Nat × Box)) (k : Nat) (ids : List Nat) : reach m (k + 1) ids = if (more m ids).isEmpty then ids else reach m k (ids ++ (more m ids).eraseDups) := rfl
theorem reach_end {m : List (Nat × Box)} {ids : List Nat} (h : more m ids = []) : ∀ k, reach m k ids = ids
 | 0 => rfl
 | k + 1 => by rw [reach_succ, h]; rfl
theorem reach_two {m : List (Nat × Box)} {i0 i1 i2 : List Nat} {k : Nat} (hk : 3 ≤ k) (h1 : more m i0 = i1) (n1 : i1 ≠ []) (e1 : i1.eraseDups = i1) (h2 : more m (i0 ++ i1) = i2) (n2 : i2 ≠ []) (e2 : i2.eraseDups = i2) (h3 : more m (i0 ++ i1 ++ i2) = []) : reach m k i0 = i0 ++ i1 ++ i2 := by
 obtain ⟨k, rfl⟩ : ∃ j, k = j + 2 := ⟨k - 2, by omega⟩
 have x1 : i1.isEmpty = false := by cases i1 with | nil => exact absurd rfl n1 | cons _ _ => rfl
 have x2 : i2.isEmpty = false := by cases i2 with | nil => exact absurd rfl n2 | cons _ _ => rfl
 rw [reach_succ, h1, x1, if_neg (by simp), e1, reach_succ, h2, x2, if_neg (by simp), e2]
 exact reach_end h3 k
theorem filter_none0 {α : Type} {p : α → Bool} {l : List α} (h : ∀ x ∈ l, p x = false) : l.filter p = [] := by
 rw [List.filter_eq_nil_iff]; intro x hx; rw [h x hx]; simp
theorem filter_all0 {α : Type} {p : α → Bool} {l : List α} (h : ∀ x ∈ l, p x = true) : l.filter p = l := List.filter_eq_self.2 h
section
variable {N b g n q3 q4 q7 q8 nx : Nat} {σ : NetS} {tb O1 O2 : List (Nat × Box)} {A4 : Option Addr} {c4 : Nat} {rs HC TK : List V}
theorem clo_reach (hT : TB b σ.tp tb) (hl : 1 ≤ tb.length) (hq : BxQ b σ.tp q3 q4 q7 q8) (hrp : ptrsL rs = []) (hHp : ptrsL HC = []) (hTp : ptrsL TK = []) (hO : O1 ++ O2 = bxO b n q3 q4 q7 q8 [.im false A4 c4 n rs] HC TK) :
 reach (O1 ++ ((b, ⟨g, netC σ⟩) :: tb) ++ O2) (O1 ++ ((b, (⟨g, netC σ⟩ : Box)) :: tb) ++ O2).length [q4, q7, q3, q8] = [q4, q7, q3, q8] ++ [b] ++ σ.tp := by
 obtain ⟨⟨n34, n37, n38, n47, n48, n78⟩, hqd⟩ := hq
 have hsk : ∀ q ∈ [q3, q4, q7, q8], ∀ e ∈ (b, (⟨g, netC σ⟩ : Box)) :: tb, e.1 ≠ q := fun q hq e he h => hqd q hq (h ▸ net_keys (g := g) hT e he)
 have hin : ∀ e ∈ O1 ++ O2, e.1 ∈ [q3, q4, q7, q8] := fun e he => by
  rw [hO] at he
  unfold bxO at he
  simp only [List.mem_cons, List.not_mem_nil, or_false] at he ⊢
  rcases he with rfl | rfl | rfl | rfl <;> simp
 obtain ⟨M, hM⟩ : ∃ M, O1 ++ ((b, (⟨g, netC σ⟩ : Box)) :: tb) ++ O2 = M := ⟨_, rfl⟩
 have g0 : ∀ q c, q ∈ [q3, q4, q7, q8] → getBox (O1 ++ O2) q = some c → getBox M q = some c := fun q c hq hc => by
  rw [← hM, getBox_mid4 (hsk q hq)]; exact hc
 have f3 : getBox M q3 = some ⟨0, [.bptr b 0]⟩ := g0 _ _ (by simp) (by rw [hO]; simp [bxO, getBox])
 have f4 : getBox M q4 = some ⟨0, [.im false A4 c4 n rs]⟩ := g0 _ _ (by simp) (by rw [hO]; simp [bxO, getBox, n34])
 have f7 : getBox M q7 = some ⟨0, [.own .nil 0 n HC]⟩ := g0 _ _ (by simp) (by rw [hO]; simp [bxO, getBox, n37, n47])
 have f8 : getBox M q8 = some ⟨0, [.own .nil 0 n TK]⟩ := g0 _ _ (by simp) (by rw [hO]; simp [bxO, getBox, n38, n48, n78])
 have ob : ∀ y, y ∈ b :: σ.tp → ∀ e ∈ O1, e.1 ≠ y := fun y hy e he h => hqd _ (hin e (List.mem_append_left _ he)) (h ▸ hy)
 have fb : getBox M b = some ⟨g, netC σ⟩ := by
  rw [← hM, List.append_assoc, getBox_skip (ob b List.mem_cons_self)]
  simp [getBox]
 have ft : ∀ y ∈ σ.tp, ∃ c, getBox M y = some c ∧ ptrsL c.cs = [] := fun y hy => by
  have hy2 : y ∈ tb.map (·.1) := hT.ids.mem_iff.2 hy
  obtain ⟨c, hc1, hc2⟩ := getBox_of_mem hy2
  refine ⟨c, ?_, hT.flat _ hc2⟩
  rw [← hM, List.append_assoc, getBox_skip (ob y (List.mem_cons_of_mem _ hy))]
  have hby : ¬ b = y := fun h => hT.nb (h ▸ hy)
  have : getBox ((b, (⟨g, netC σ⟩ : Box)) :: tb) y = some c := by
   show (if b = y then _ else getBox tb y) = _
   rw [if_neg hby]; exact hc1
  exact getBox_app_old this
 have hb : ∀ q ∈ [q3, q4, q7, q8], q ≠ b := fun q hq h => hqd q hq (h ▸ List.mem_cons_self)
 have b3 := hb q3 (by simp)
 have b4 := hb q4 (by simp)
 have b7 := hb q7 (by simp)
 have b8 := hb q8 (by simp)
 have tn : σ.tp ≠ [] := fun h => by
  have := hT.ids.length_eq
  rw [h, List.length_map, List.length_nil] at this
  omega
 rw [hM]
 refine reach_two ?_ (i1 := [b]) (i2 := σ.tp) ?_ (by simp) rfl ?_ tn (nodup_ed hT.nd) ?_
 ·have h1 : (O1 ++ O2).length = 4 := by rw [hO]; rfl
  rw [← hM]
  simp only [List.length_append, List.length_cons] at h1 ⊢
  omega
 ·unfold more
  simp only [List.flatMap_cons, List.flatMap_nil, f3, f4, f7, f8, ptrsL, ptrs, hrp, hHp, hTp, List.append_nil, List.nil_append]
  have e1 : ¬ b = q3 := fun h => b3 h.symm
  have e2 : ¬ b = q4 := fun h => b4 h.symm
  have e3 : ¬ b = q7 := fun h => b7 h.symm
  have e4 : ¬ b = q8 := fun h => b8 h.symm
  simp [e1, e2, e3, e4]
 ·unfold more
  simp only [List.flatMap_cons, List.flatMap_nil, List.flatMap_append, List.cons_append, List.nil_append, f3, f4, f7, f8, fb, ptrsL, ptrs, hrp, hHp, hTp, List.append_nil, ptrsL_netC, List.filter_cons]
  rw [if_neg (by simp)]
  refine filter_all0 fun y hy => ?_
  have q : ∀ q ∈ [q3, q4, q7, q8], ¬ y = q := fun q hq h => hqd q hq (List.mem_cons_of_mem _ (h ▸ hy))
  have r3 := q q3 (by simp)
  have r4 := q q4 (by simp)
  have r7 := q q7 (by simp)
  have r8 := q q8 (by simp)
  have rb : ¬ y = b := fun h => hT.nb (h ▸ hy)
  simp [r3, r4, r7, r8, rb]
 ·unfold more
  refine filter_none0 fun y hy => ?_
  rw [List.mem_flatMap] at hy
  obtain ⟨z, hz, hy⟩ := hy
  have key : y = b ∨ y ∈ σ.tp := by
   simp only [List.mem_append, List.mem_cons, List.not_mem_nil, or_false] at hz
   rcases hz with (((rfl | rfl | rfl | rfl) | rfl) | hz)
   ·rw [f4] at hy; simp [ptrsL, ptrs, hrp] at hy
   ·rw [f7] at hy; simp [ptrsL, ptrs, hHp] at hy
   ·rw [f3] at hy; simp [ptrsL, ptrs] at hy; exact .inl hy
   ·rw [f8] at hy; simp [ptrsL, ptrs, hTp] at hy
   ·rw [fb] at hy; simp only [ptrsL_netC] at hy; exact .inr hy
   ·obtain ⟨c, hc1, hc2⟩ := ft z hz
    rw [hc1] at hy; simp only [hc2] at hy; cases hy
  rcases key with rfl | h
  ·simp
  ·simp [h]
theorem clo_call {σ' : NetS} {i kk k : Nat} {TK' : List V} {NN : Nat} (hT : TB b σ.tp tb) (hl : 1 ≤ tb.length) (hq : BxQ b σ.tp q3 q4 q7 q8) (hrp : ptrsL rs = []) (hHp : ptrsL HC = []) (hTp : ptrsL TK = []) (hO : O1 ++ O2 = bxO b n q3 q4 q7 q8 [.im false A4 c4 n rs] HC TK) (h' : σ'.tp = σ.tp)
 (ha : AnsM NN Tryd.prog H14 58 [.int .i64 (i : Int), .int .i64 (kk : Int), .bptr q4 0, .bptr q7 0, .bptr q3 0, .bptr q8 0] (O1 ++ ((b, ⟨g, netC σ⟩) :: tb) ++ O2) (.tup []) (bxO b n q3 q4 q7 q8 [.im false A4 c4 n rs] HC TK' ++ ((b, ⟨g, netC σ'⟩) :: tb))) (hk : NN ≤ k) (hlt : ∀ e ∈ O1 ++ ((b, (⟨g, netC σ⟩ : Box)) :: tb) ++ O2, e.1 < nx) (s : Nat → V) (dst : Option Nat) :
 doCallB H14 (evCall Tryd.prog H14 k) 58 false [.int .i64 (i : Int), .int .i64 (kk : Int), .bptr q4 0, .bptr q7 0, .bptr q3 0, .bptr q8 0] ⟨s, O1 ++ ((b, ⟨g, netC σ⟩) :: tb) ++ O2, nx⟩ dst = some ((St.mk (fun i => killB ([q4, q7, q3, q8] ++ [b] ++ σ.tp) nx (s i)) (bxO b n q3 q4 q7 q8 [.im false A4 c4 n rs] HC TK' ++ ((b, ⟨g, netC σ'⟩) :: tb)) nx).lay dst (.tup [])) := by
 obtain ⟨⟨n34, n37, n38, n47, n48, n78⟩, hqd⟩ := id hq
 have hr := clo_reach (g := g) hT hl hq hrp hHp hTp hO
 have hin : ∀ e ∈ O1 ++ O2, e.1 ∈ [q4, q7, q3, q8] := fun e he => by
  rw [hO] at he
  unfold bxO at he
  simp only [List.mem_cons, List.not_mem_nil, or_false] at he ⊢
  rcases he with rfl | rfl | rfl | rfl <;> simp
 have hall : ∀ e ∈ O1 ++ ((b, (⟨g, netC σ⟩ : Box)) :: tb) ++ O2, e.1 ∈ [q4, q7, q3, q8] ++ [b] ++ σ.tp := fun e he => by
  rcases List.mem_append.1 he with he | he
  ·rcases List.mem_append.1 he with he | he
   ·exact List.mem_append_left _ (List.mem_append_left _ (hin e (List.mem_append_left _ he)))
   ·have := net_keys (g := g) hT e he
    rcases List.mem_cons.1 this with h | h
    ·rw [h]; simp
    ·exact List.mem_append_right _ h
  ·exact List.mem_append_left _ (List.mem_append_left _ (hin e (List.mem_append_right _ he)))
 have hp : (ptrsL [V.int .i64 (i : Int), .int .i64 (kk : Int), .bptr q4 0, .bptr q7 0, .bptr q3 0, .bptr q8 0]).eraseDups = [q4, q7, q3, q8] := by
  have e : ptrsL [V.int .i64 (i : Int), .int .i64 (kk : Int), .bptr q4 0, .bptr q7 0, .bptr q3 0, .bptr q8 0] = [q4, q7, q3, q8] := rfl
  rw [e]
  refine nodup_ed ?_
  have x1 : ¬ q4 = q3 := fun h => n34 h.symm
  have x2 : ¬ q7 = q3 := fun h => n37 h.symm
  simp [n47, n48, x1, x2, n78, n38]
 have := callBox (H := H14) (f := 58) (ids := [q4, q7, q3, q8] ++ [b] ++ σ.tp) (s := s) (m := O1 ++ ((b, ⟨g, netC σ⟩) :: tb) ++ O2) (M := O1 ++ ((b, ⟨g, netC σ⟩) :: tb) ++ O2) (O := []) rfl (by rw [hp]; exact hr) (filter_all0 fun e he => by simpa using hall e he) (filter_none0 fun e he => by rw [List.contains_iff_mem.2 (hall e he)]; rfl) (by simp) (ha k hk nx hlt) (fun e he => .inl ?_) dst
 ·rw [List.nil_append] at this
  exact this
 ·rcases List.mem_append.1 he with he | he
  ·unfold bxO at he
   simp only [List.mem_cons, List.not_mem_nil, or_false] at he
   rcases he with rfl | rfl | rfl | rfl <;> simp
  ·have := net_keys (g := g) (σ := σ') (by rw [h']; exact hT) e he
   rw [h'] at this
   rcases List.mem_cons.1 this with h | h
   ·rw [h]; simp
   ·exact List.mem_append_right _ h
end
end Go.Abs
end
