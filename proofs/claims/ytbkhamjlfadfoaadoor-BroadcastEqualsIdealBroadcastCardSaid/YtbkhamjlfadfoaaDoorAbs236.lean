/- Joined: AbsQN AbsQLR AbsQO AbsQP AbsPY15. -/
import Derived.Test.YtbkhamjlfadfoaaDoorAbs234
set_option linter.all false
set_option linter.unusedVariables false
noncomputable section
namespace Go.Abs
open Go Go.Proofs
set_option maxRecDepth 100000
def setD (i k x : Nat) : Dev := ⟨0, (i : Int) + 1, 0, (k : Int), 1, x, 0, 0⟩
def setsD (i : Nat) (l : List Nat) (m : Nat) : List Dev := (List.range m).map fun k => setD i k (l[k]?.getD 0)
def allD (c : List Int) (tk : Nat → List Nat) : Nat → List Dev
  | 0 => []
  | i + 1 => allD c tk i ++ if ((i : Int) + 1) ∈ c then setsD i (tk i) (tk i).length else []
theorem setsD_succ (i : Nat) (l : List Nat) (m : Nat) : setsD i l (m + 1) = setsD i l m ++ [setD i m (l[m]?.getD 0)] := by
  unfold setsD; rw [List.range_succ, List.map_append]; rfl
theorem setsD_length (i : Nat) (l : List Nat) (m : Nat) : (setsD i l m).length = m := by unfold setsD; rw [List.length_map, List.length_range]
theorem mem_setsD {i m : Nat} {l : List Nat} {x : Dev} (h : x ∈ setsD i l m) : ∃ k, k < m ∧ x = setD i k (l[k]?.getD 0) := by
  unfold setsD at h
  obtain ⟨k, hk, rfl⟩ := List.mem_map.1 h
  exact ⟨k, List.mem_range.1 hk, rfl⟩
theorem mem_allD {c : List Int} {tk : Nat → List Nat} {x : Dev} : ∀ {n : Nat}, x ∈ allD c tk n → ∃ i k, i < n ∧ k < (tk i).length ∧ ((i : Int) + 1) ∈ c ∧ x = setD i k ((tk i)[k]?.getD 0)
  | 0, h => by cases h
  | n + 1, h => by
    rcases List.mem_append.1 h with h | h
    · obtain ⟨i, k, h1, h2⟩ := mem_allD h
      exact ⟨i, k, by omega, h2⟩
    · by_cases hc : ((n : Int) + 1) ∈ c
      · rw [if_pos hc] at h
        obtain ⟨k, hk, rfl⟩ := mem_setsD h
        exact ⟨n, k, by omega, hk, hc, rfl⟩
      · rw [if_neg hc] at h; cases h
theorem allD_length (c : List Int) (tk : Nat → List Nat) : ∀ n, (allD c tk n).length ≤ sumL (fun i => (tk i).length) n
  | 0 => Nat.le_refl _
  | n + 1 => by
    have h := allD_length c tk n
    show (allD c tk n ++ _).length ≤ sumL (fun i => (tk i).length) n + (tk n).length
    rw [List.length_append]
    split
    · rw [setsD_length]; omega
    · simp; omega
section
variable {p : Nat} {c : List Int} {out : List (List Nat)}
theorem set_take {l w : List Nat} {m : Nat} (hm : m < l.length) (hw : w.length = l.length) : (l.take m ++ w.drop m).set m (l[m]?.getD 0) = l.take (m + 1) ++ w.drop (m + 1) := by
  have h1 : (l.take m).length = m := by rw [List.length_take]; omega
  rw [List.set_append_right _ _ (by omega), h1, Nat.sub_self, List.drop_eq_getElem_cons (show m < w.length by omega), List.set_cons_zero, List.take_succ_eq_append_getElem hm, List.getElem?_eq_getElem hm, List.append_assoc]
  rfl
theorem foldl_sets {i : Nat} {l w : List Nat} (hc : ((i : Int) + 1) ∈ c) (hp : ∀ x ∈ l, x < p) (hw : w.length = l.length) : ∀ m, m ≤ l.length → (setsD i l m).foldl (cellB p c 0 out i) w = l.take m ++ w.drop m
  | 0, _ => by simp [setsD]
  | m + 1, hm => by
    rw [setsD_succ, List.foldl_append, foldl_sets hc hp hw m (by omega)]
    show cellB p c 0 out i (l.take m ++ w.drop m) (setD i m _) = _
    have hml : m < l.length := by omega
    have hx : l[m]?.getD 0 < p := by
      rw [List.getElem?_eq_getElem hml]
      exact hp _ (List.getElem_mem hml)
    have hlen : (l.take m ++ w.drop m).length = l.length := by rw [List.length_append, List.length_take, List.length_drop]; omega
    unfold cellB
    rw [if_pos ⟨rfl, hc, by show ((i : Int) + 1 - 1).toNat = i; omega⟩]
    unfold uponS
    rw [if_neg (by show ¬ (1 : Int) = 4; omega), if_neg (by rw [hlen]; show ¬ (l.length : Int) ≤ (m : Int); omega), if_pos (show (setD i m (l[m]?.getD 0)).kind = 1 from rfl)]
    show (l.take m ++ w.drop m).set ((m : Int)).toNat ((l[m]?.getD 0) % p) = _
    rw [Nat.mod_eq_of_lt hx, show ((m : Int)).toNat = m by omega, set_take hml hw]
theorem foldl_other {i i' : Nat} {l : List Nat} {m : Nat} (h : i' ≠ i) (w : List Nat) : (setsD i' l m).foldl (cellB p c 0 out i) w = w := by
  induction m generalizing w with
  | zero => rfl
  | succ m ih =>
    rw [setsD_succ, List.foldl_append, ih]
    show cellB p c 0 out i w (setD i' m _) = w
    unfold cellB
    rw [if_neg]
    rintro ⟨_, _, h3⟩
    exact h (by have h3 : ((i' : Int) + 1 - 1).toNat = i := h3; omega)
theorem foldl_allD {tk : Nat → List Nat} {i : Nat} {w : List Nat} (hp : ((i : Int) + 1) ∈ c → (∀ x ∈ tk i, x < p) ∧ w.length = (tk i).length) : ∀ n, (allD c tk n).foldl (cellB p c 0 out i) w = if i < n ∧ ((i : Int) + 1) ∈ c then tk i else w
  | 0 => by rw [if_neg (by omega)]; rfl
  | n + 1 => by
    show (allD c tk n ++ _).foldl _ w = _
    rw [List.foldl_append, foldl_allD hp n]
    by_cases hin : i = n
    · subst hin
      rw [if_neg (fun h => absurd h.1 (Nat.lt_irrefl _))]
      by_cases hc : ((i : Int) + 1) ∈ c
      · rw [if_pos hc, if_pos ⟨Nat.lt_succ_self _, hc⟩, foldl_sets hc (hp hc).1 (hp hc).2 _ (Nat.le_refl _), List.take_length, List.drop_eq_nil_of_le (by rw [(hp hc).2]; exact Nat.le_refl _), List.append_nil]
      · rw [if_neg hc, if_neg (fun h => hc h.2)]; rfl
    · have e : (i < n + 1 ∧ ((i : Int) + 1) ∈ c) = (i < n ∧ ((i : Int) + 1) ∈ c) := by
        have : (i < n + 1) = (i < n) := propext (by omega)
        rw [this]
      have h2 : ∀ w', (if ((n : Int) + 1) ∈ c then setsD n (tk n) (tk n).length else []).foldl (cellB p c 0 out i) w' = w' := fun w' => by
        split
        · exact foldl_other (fun h => hin h.symm) w'
        · rfl
      rw [h2]
      simp only [e]
theorem ideal {n : Nat} {tk : Nat → List Nat} {L : List (List Nat)} (hL : L.length = n) (hc : ∀ i (h : i < n), ((i : Int) + 1) ∈ c → (∀ x ∈ tk i, x < p) ∧ (L[i]'(by omega)).length = (tk i).length) (hh : ∀ i (h : i < n), ((i : Int) + 1) ∉ c → L[i]'(by omega) = tk i) : broadS p c 0 L (allD c tk n) = (List.range n).map tk := by
  unfold broadS
  apply List.ext_getElem?
  intro i
  rw [foldB_get, List.getElem?_map]
  by_cases hi : i < n
  · rw [List.getElem?_eq_getElem (by omega), List.getElem?_range hi]
    simp only [Option.map_some, Option.some.injEq]
    rw [foldl_allD (tk := tk) (fun h => hc i hi h)]
    by_cases h : ((i : Int) + 1) ∈ c
    · rw [if_pos ⟨hi, h⟩]
    · rw [if_neg (fun x => h x.2), hh i hi h]
  · rw [List.getElem?_eq_none (by omega), List.getElem?_eq_none (by rw [List.length_range]; omega)]
    rfl
end
theorem setD_S {n : Int} {i k x : Nat} (h : (i : Int) + 1 ≤ n) (hn : 0 ≤ n) : DevS n (setD i k x) := by
  refine ⟨Int.le_refl 0, ?_, Int.le_refl 0, ?_, h, Int.le_refl 0, hn, Int.le_refl 1, show (1 : Int) ≤ 4 by decide, Int.le_refl 0, hn, fun h => absurd (show (1 : Int) = 3 from h) (by decide)⟩
  · show (0 : Int) ≤ (k : Int); omega
  · show (1 : Int) ≤ (i : Int) + 1; omega
theorem dvQ_ok {z : Play} {l : List Dev} {n t N : Nat} (o : PlayOk z n t N) (hl : ∀ x ∈ l, DevS z.s.n x ∧ x.k < 18446744073709551616) (hn : l.length ≤ 1000) : ∃ N0, PlayOk (dvP z l) n t N0 := by
  have hs : ScnS (dvP z l).s := ⟨o.s.1, o.s.2.1, fun x hx => (hl x hx).1, o.s.2.2.2⟩
  obtain ⟨N0, hN⟩ := new_ex (dvP z l).s hs o.c hn o.r (fun x hx => (hl x hx).2)
  exact ⟨N0, ⟨o.T.c, rfl, o.T.t, o.T.r⟩, hs, hn, o.c, o.r, hN, o.hn, o.ht, o.h3, o.h5, o.lr, o.ll, o.ls, o.w, o.t0, o.t4⟩
theorem sumL_congr {f g : Nat → Nat} : ∀ {n : Nat}, (∀ i, i < n → f i = g i) → sumL f n = sumL g n
  | 0, _ => rfl
  | n + 1, h => by
    show sumL f n + f n = sumL g n + g n
    rw [sumL_congr (n := n) fun i hi => h i (by omega), h n (by omega)]
section
variable {z : Play} {n t N nx : Nat}
theorem PlayOk.tk_nx (o : PlayOk z n t N) (nx nx' : Nat) : (pEnd z nx n t).tk = (pEnd z nx' n t).tk := (o.like nx 0).t.symm.trans (o.like nx' 0).t
theorem PlayOk.tk_len (o : PlayOk z n t N) {i : Nat} (hi : i < n) (j : Nat) : ((pEnd z nx n t).tk j i).length = lnF z.ls i := by
  rw [o.tk nx hi, List.length_map, List.length_range]
theorem PlayOk.tk_lt (o : PlayOk z n t N) {i : Nat} (hi : i < n) (j : Nat) : ∀ x ∈ (pEnd z nx n t).tk j i, x < z.s.p := by
  intro x hx
  rw [o.tk nx hi] at hx
  obtain ⟨k, _, rfl⟩ := List.mem_map.1 hx
  have h3 := o.h3
  have htn : t < n := by omega
  have h1 := (bAll_ok (ln := lnF z.ls) (o.z1 nx).1 o.hn htn (o.hdp nx) i).1
  have h2 := (bRow_ok h1 o.hn htn (o.hdp nx) i k).1
  have h4 := (bRun_ok h2 o.hn htn (o.hdp nx) i k).1
  exact vF_lt o.p0 h4.v j
theorem PlayOk.p64 (o : PlayOk z n t N) : z.s.p < 18446744073709551616 := by
  obtain ⟨q, hq⟩ := (o.net 0).I.hp
  have hq : (z.s.p, q) ∈ pq7 := hq
  obtain ⟨h1, h2, h3⟩ := pq_facts hq
  have : 2 ^ q ≤ 2 ^ 61 := Nat.pow_le_pow_right (by omega) h3
  omega
theorem PlayOk.ideal_ok (o : PlayOk z n t N) (f : Nat) : ∃ N0, PlayOk (dvP z (allD z.s.corrupt ((pEnd z 0 n t).tk f) n)) n t N0 := by
  refine dvQ_ok o (fun x hx => ?_) ?_
  · obtain ⟨i, k, hi, hk, hc, rfl⟩ := mem_allD hx
    have hn := o.hn
    refine ⟨setD_S (by omega) (by omega), ?_⟩
    show ((pEnd z 0 n t).tk f i)[k]?.getD 0 < _
    rw [List.getElem?_eq_getElem hk]
    have h1 := o.tk_lt hi f _ (List.getElem_mem hk)
    have h2 := o.p64
    exact Nat.lt_trans h1 h2
  · have h1 := allD_length z.s.corrupt ((pEnd z 0 n t).tk f) n
    have h2 : sumL (fun i => ((pEnd z 0 n t).tk f i).length) n = sumL (lnF z.ls) n := sumL_congr fun i hi => o.tk_len hi f
    have := o.t4
    omega
end
theorem hpL_pos {z : Play} {n t N : Nat} (o : PlayOk z n t N) : 0 < (hpL z.s.corrupt n).length := by
  obtain ⟨k, hk, hH⟩ := honest_king o.good
  have h3 := o.h3
  have h1 : ((k : Int) + 1) ∉ z.s.corrupt := by simpa [hon] using hH
  have h2 : (k : Int) + 1 ∈ hpL z.s.corrupt n := by
    unfold hpL
    refine List.mem_map.2 ⟨k, List.mem_filter.2 ⟨List.mem_range.2 (by omega), by simpa using h1⟩, rfl⟩
  exact List.length_pos_of_mem h2
end Go.Abs
end
set_option linter.unusedVariables false
noncomputable section
namespace Go.Abs
open Go Go.Proofs
set_option maxRecDepth 100000
theorem EvP_name {P : Program} {H : Hint} {C : Callee} {f k : Nat} {c : Code} {Φ : Ex → St → Prop} {D : St} (K : St → Prop) (h : K D) (h2 : ∀ D1, K D1 → EvP P H C f k c D1 Φ) : EvP P H C f k c D Φ := h2 D h
def blkAt (id : Nat) : Code → Option Code
  | .block i c => if i = id then some (.block i c) else blkAt id c
  | .seq a b => match blkAt id a with | some r => some r | none => blkAt id b
  | .cond _ a b => match blkAt id a with | some r => some r | none => blkAt id b
  | .loop c => blkAt id c
  | _ => none
def blkF (F : Func) (id : Nat) : Code := ((F.body.bind (blkAt id)).getD .skip)
end Go.Abs
end
set_option linter.unusedVariables false
noncomputable section
namespace Go.Abs
open Go Go.Proofs
set_option maxRecDepth 100000
def boxD (z : Play) (n t : Nat) (L : List Dev) : Box := ⟨0, [.int .u64 (z.s.p : Int), .int .i64 (n : Int), .int .i64 (t : Int), .im true z.s.cA z.s.ccap z.s.corrupt.length (iL z.s.corrupt), .own .nil 0 L.length (devsV L), .im true z.s.tA z.s.tcap z.s.tapes.length (rsV z.s.tapes)]⟩
set_option maxHeartbeats 8000000 in
theorem blk15a {z : Play} {k n t i x nx : Nat} {W1 : List (Nat × Box)} {cP : Box} {RR SD : List V} {w : List Nat} {L : List Dev} {D : St} (hk : 1200 < k) (hcs : cP.cs = [.int .u64 (z.s.p : Int), .int .i64 (n : Int), .int .i64 (t : Int), .im true z.s.cA z.s.ccap z.s.corrupt.length (iL z.s.corrupt), .im true z.s.dA z.s.dcap z.s.devs.length (devsV z.s.devs), .im true z.s.tA z.s.tcap z.s.tapes.length (rsV z.s.tapes), .im true z.A z.cap n (rsV z.rs), .im true z.Al z.cl n (iL z.ls)]) (gN : ∀ B : Box, getBox (W1 ++ [(x, B)]) nx = some cP) (gX : ∀ B : Box, getBox (W1 ++ [(x, B)]) x = some B) (sX : ∀ B B' : Box, setBox (W1 ++ [(x, B)]) x B' = W1 ++ [(x, B')]) (hc1000 : z.s.corrupt.length ≤ 1000)
    (hil : i < n) (h13 : n ≤ 13) (hRRl : RR.length = n) (hR? : RR[i]? = some (.own .nil 0 w.length (uL w))) (hwl : w.length ≤ 1000) (hLl : L.length ≤ 4)
    (d1 : D.s 1 = .bptr nx 0) (d7 : D.s 7 = .own .nil 0 n RR) (d8 : D.s 8 = .bptr x 0) (d9 : D.s 9 = .own .nil 0 (i + 1) SD) (d10 : D.s 10 = .int .i64 (i : Int)) (d11 : D.s 11 = .int .i64 0) (dm : D.m = W1 ++ [(x, boxD z n t L)]) (dx : D.nx = x + 1) :
    EvP Tryd.prog H14 (evCall Tryd.prog H14 k) 15 k (blkF Tryd.f15 2) D (thenE (fun D => D.s 1 = .bptr nx 0 ∧ D.s 7 = .own .nil 0 n RR ∧ D.s 8 = .bptr x 0 ∧ D.s 9 = .own .nil 0 (i + 1) SD ∧ D.s 10 = .int .i64 (i : Int) ∧ D.m = W1 ++ [(x, boxD z n t (L ++ if ((i : Int) + 1) ∈ z.s.corrupt then setsD i w w.length else []))] ∧ D.nx = x + 1) fun _ _ => False) := by
  obtain ⟨og, hog⟩ : ∃ o, o = blkF Tryd.f15 2 := ⟨_, rfl⟩
  rw [← hog]
  simp [blkF, blkAt, Tryd.f15] at hog
  subst hog
  have hiR : i < RR.length := by omega
  have hRe : RR[i] = .own .nil 0 w.length (uL w) := by
    have := List.getElem?_eq_getElem hiR
    rw [hR?] at this
    exact (Option.some.inj this).symm
  have e3 := wrapi (x := (i : Int) + 1) (by omega) (by omega)
  have c41 := fun A cap => callP (in41 false A cap z.s.corrupt hc1000 ((i : Int) + 1)) (k := k) (by omega) (by simp [ptrsL, ptrs]) rfl
  obtain ⟨J, hJ⟩ : ∃ J : Nat → St → Prop, J = fun q D => ∃ (kk : Nat) (L2 : List Dev), q = w.length - kk ∧ kk ≤ w.length ∧ (((i : Int) + 1) ∉ z.s.corrupt → kk = 0) ∧ L2 = L ++ setsD i w kk ∧ D.s 1 = .bptr nx 0 ∧ D.s 7 = .own .nil 0 n RR ∧ D.s 8 = .bptr x 0 ∧ D.s 9 = .own .nil 0 (i + 1) SD ∧ D.s 10 = .int .i64 (i : Int) ∧ D.s 11 = .int .i64 (kk : Int) ∧ D.m = W1 ++ [(x, boxD z n t L2)] ∧ D.nx = x + 1 := ⟨_, rfl⟩
  simp [-reach, -doCall, doCall_eq, noBorL_iL, d1, d7, d8, d9, d10, d11, dm, dx]
  refine EvP.loop J (n := w.length) (by rw [hJ]; exact ⟨0, L, by simp, by simp, fun _ => rfl, by simp [setsD], by simp [d1, d7, d8, d9, d10, d11, dm, dx]⟩) (by omega) fun q D hD => ?_
  rw [hJ] at hD
  obtain ⟨kk, L2, rfl, hkk, hk0, hL2, d1, d7, d8, d9, d10, d11, dm, dx⟩ := hD
  simp only [boxD] at dm
  obtain ⟨ul, hul2⟩ : ∃ ul, uL w = ul := ⟨_, rfl⟩
  have hull : ul.length = w.length := by rw [← hul2]; simp [uL]
  by_cases hc : ((i : Int) + 1) ∈ z.s.corrupt
  case neg =>
    have hk := hk0 hc
    rw [hk] at hL2 d11
    rw [decide_eq_false hc] at c41
    rw [if_neg hc]
    have hL3 : L2 = L ++ [] := by rw [hL2]; simp [setsD]
    rw [hul2] at hR? hRe
    by_cases hw0 : 0 < w.length
    · simp [-reach, -doCall, doCall_eq, noBorL_iL, d1, d7, d8, d9, d10, d11, dm, dx, gX, gN, sX, hcs, hil, hR?, hRe, hiR, hRRl, hw0, e3, c41, hL3, boxD]
    · simp [-reach, -doCall, doCall_eq, noBorL_iL, d1, d7, d8, d9, d10, d11, dm, dx, gX, gN, sX, hcs, hil, hR?, hRe, hiR, hRRl, hw0, e3, c41, hL3, boxD]
  rw [decide_eq_true hc] at c41
  rw [if_pos hc]
  by_cases hkl2 : kk < w.length
  case neg =>
    have hke : kk = w.length := by omega
    rw [hke] at hL2
    rw [hul2] at hR? hRe
    simp [-reach, -doCall, doCall_eq, noBorL_iL, d1, d7, d8, d9, d10, d11, dm, dx, gX, gN, sX, hcs, hil, hR?, hRe, hiR, hRRl, hkl2, e3, c41, ← hL2, boxD]
  have e4 := wrapi (x := (kk : Int) + 1) (by omega) (by omega)
  obtain ⟨y, hy⟩ : ∃ y, w[kk]?.getD 0 = y := ⟨_, rfl⟩
  have hu? : (uL w)[kk]? = some (.int .u64 (y : Int)) := by rw [← hy]; exact uL_vF hkl2
  have hkul : kk < (uL w).length := by simp [uL]; exact hkl2
  have hue : (uL w)[kk] = .int .u64 (y : Int) := by
    have := List.getElem?_eq_getElem hkul
    rw [hu?] at this
    exact (Option.some.inj this).symm
  have hLs : L2 ++ [setD i kk y] = L ++ setsD i w (kk + 1) := by rw [hL2, setsD_succ, hy, List.append_assoc]
  have hL2l : L2.length ≤ 1004 := by rw [hL2, List.length_append, setsD_length]; omega
  have q4 : (L2.length + 1) * 64 ≤ 140737488355328 := by omega
  have q5 : L2.length ≤ 140737488355327 := by omega
  have hdvs : devsV (L2 ++ [setD i kk y]) = devsV L2 ++ devL (setD i kk y) := by
    unfold devsV; rw [List.flatMap_append]; simp
  have hdl : (devsV L2).length = L2.length * 8 := devsV_length L2
  rw [hul2] at hR? hRe hu?
  simp only [hul2] at hkul hue
  simp [-reach, -doCall, doCall_eq, noBorL_iL, -EvK_app, d1, d7, d8, d9, d10, d11, dm, dx, gX, gN, sX, hcs, hil, hR?, hRe, hiR, hRRl, hkl2, e3, c41]
  rw [EvK_app]
  simp [-reach, -doCall, doCall_eq, noBorL_iL, -EvK_app]
  refine EvK_cut (fun D => D.s 1 = .bptr nx 0 ∧ D.s 7 = .own .nil 0 n RR ∧ D.s 8 = .bptr x 0 ∧ D.s 9 = .own .nil 0 (i + 1) SD ∧ D.s 10 = .int .i64 (i : Int) ∧ D.s 11 = .int .i64 (kk : Int) ∧ D.m = W1 ++ [(x, boxD z n t L2)] ∧ D.nx = x + 1) (by simp [d1, d7, d8, d9, d10, d11, boxD]) fun D ⟨d1, d7, d8, d9, d10, d11, dm, dx⟩ => ?_
  simp only [boxD] at dm
  rw [ev_seq, ev_block]
  simp [-reach, -doCall, doCall_eq, noBorL_iL, -EvK_app, d1, d7, d8, d9, d10, d11, dm, dx, gX, gN, sX, hcs, hil, hR?, hRe, hiR, hRRl, hkl2, hu?, hue, hkul, hull, q4, q5, hdl, e3, e4]
  rw [EvK_app]
  simp [-reach, -doCall, doCall_eq, noBorL_iL, -EvK_app, d1, d7, d8, d9, d10, d11, e4]
  subst hJ
  exact ⟨w.length - (kk + 1), by omega, kk + 1, L2 ++ [setD i kk y], rfl, by omega, fun h => absurd hc h, hLs, by simp [d1], by simp [d7], by simp [d8], by simp [d9], by simp [d10], by simp, by simp only [boxD, hdvs]; simp [devL, setD], by simp⟩
set_option maxHeartbeats 8000000 in
theorem blk15b {z : Play} {k n t x nx N : Nat} {W1 : List (Nat × Box)} {cP : Box} {SL : List (List Nat)} {tk : Nat → List Nat} {D : St} (hk : 1200 < k) (hcs : cP.cs = [.int .u64 (z.s.p : Int), .int .i64 (n : Int), .int .i64 (t : Int), .im true z.s.cA z.s.ccap z.s.corrupt.length (iL z.s.corrupt), .im true z.s.dA z.s.dcap z.s.devs.length (devsV z.s.devs), .im true z.s.tA z.s.tcap z.s.tapes.length (rsV z.s.tapes), .im true z.A z.cap n (rsV z.rs), .im true z.Al z.cl n (iL z.ls)]) (gN : ∀ B : Box, getBox (W1 ++ [(x, B)]) nx = some cP) (gX : ∀ B : Box, getBox (W1 ++ [(x, B)]) x = some B) (sX : ∀ B B' : Box, setBox (W1 ++ [(x, B)]) x B' = W1 ++ [(x, B')]) (hc1000 : z.s.corrupt.length ≤ 1000)
    (o : PlayOk z n t N) (hSL : sayL n z.rs z.ls = SL) (htl : ∀ i, i < n → (tk i).length = lnF z.ls i)
    (d1 : D.s 1 = .bptr nx 0) (d7 : D.s 7 = .own .nil 0 n (tkRow tk n)) (d8 : D.s 8 = .bptr x 0) (d9 : D.s 9 = .own .nil 0 0 []) (d10 : D.s 10 = .int .i64 0) (dm : D.m = W1 ++ [(x, boxD z n t [])]) (dx : D.nx = x + 1) :
    EvP Tryd.prog H14 (evCall Tryd.prog H14 k) 15 k (blkF Tryd.f15 0) D (thenE (fun D => D.s 1 = .bptr nx 0 ∧ D.s 7 = .own .nil 0 n (tkRow tk n) ∧ D.s 8 = .bptr x 0 ∧ D.s 9 = .own .nil 0 n (SL.map ownR) ∧ D.m = W1 ++ [(x, boxD z n t (allD z.s.corrupt tk n))] ∧ D.nx = x + 1) fun _ _ => False) := by
  obtain ⟨og, hog⟩ : ∃ o, o = blkF Tryd.f15 0 := ⟨_, rfl⟩
  rw [← hog]
  simp [blkF, blkAt, Tryd.f15] at hog
  subst hog
  have hn := o.hn
  have lr := o.lr
  have ll := o.ll
  have h5 := o.h5
  have hSLl : SL.length = n := by rw [← hSL]; simp
  have hSLe : ∀ i (h : i < n), SL[i]'(by omega) = resizeS (rwF z.rs i) (lnF z.ls i) := fun i h => by
    have h1 : SL[i]? = some (resizeS (rwF z.rs i) (lnF z.ls i)) := by rw [← hSL]; unfold sayL; rw [List.getElem?_map, List.getElem?_range h]; rfl
    rw [List.getElem?_eq_getElem (by omega)] at h1
    exact Option.some.inj h1
  have hDlen : ∀ i, i ≤ n → (allD z.s.corrupt tk i).length ≤ 4 := fun i hi => by
    have h1 := allD_length z.s.corrupt tk i
    have h2 : sumL (fun i => (tk i).length) i = sumL (lnF z.ls) i := sumL_congr fun j hj => htl j (by omega)
    have h3 := sumL_mono (ln := lnF z.ls) hi
    have := o.t4
    omega
  obtain ⟨RR, hRR⟩ : ∃ RR, tkRow tk n = RR := ⟨_, rfl⟩
  have hRRl : RR.length = n := by rw [← hRR]; simp
  rw [hRR] at d7 ⊢
  obtain ⟨I, hI⟩ : ∃ I : Nat → St → Prop, I = fun q D => ∃ (i : Nat) (L : List Dev), q = n - i ∧ i ≤ n ∧ L = allD z.s.corrupt tk i ∧ D.s 1 = .bptr nx 0 ∧ D.s 7 = .own .nil 0 n RR ∧ D.s 8 = .bptr x 0 ∧ D.s 9 = .own .nil 0 i ((SL.take i).map ownR) ∧ D.s 10 = .int .i64 (i : Int) ∧ D.m = W1 ++ [(x, boxD z n t L)] ∧ D.nx = x + 1 := ⟨_, rfl⟩
  simp [-reach, -doCall, doCall_eq, noBorL_iL, d1, d7, d8, d9, d10, dm, dx]
  refine EvP.loop I (n := n) (by rw [hI]; exact ⟨0, [], by simp, by simp, rfl, by simp [d1, d7, d8, d9, d10, dm, dx]⟩) (by omega) fun q D hD => ?_
  rw [hI] at hD
  obtain ⟨i, L, rfl, hi, hL, d1, d7, d8, d9, d10, dm, dx⟩ := hD
  simp only [boxD] at dm
  have hDi := hDlen i hi
  rw [← hL] at hDi
  obtain ⟨SC, hSC⟩ : ∃ SC, (SL.take i).map ownR = SC := ⟨_, rfl⟩
  have hSCl : SC.length = i := by rw [← hSC, List.length_map, List.length_take]; omega
  rw [hSC] at d9
  by_cases hil : i < n
  case neg =>
    have hin : i = n := by omega
    rw [hin] at hL d9 hSC
    rw [← hSLl, List.take_length] at hSC
    simp [-reach, -doCall, doCall_eq, noBorL_iL, d1, d7, d8, d9, d10, dm, dx, gX, gN, sX, hcs, hil, hSC, ← hL, boxD]
  have e3 := wrapi (x := (i : Int) + 1) (by omega) (by omega)
  have hkr : i < z.rs.length := by omega
  have hkl : i < z.ls.length := by omega
  obtain ⟨r, hr⟩ : ∃ r, z.rs[i] = r := ⟨_, rfl⟩
  obtain ⟨cs, hcsv⟩ : ∃ cs, rsV z.rs = cs := ⟨_, rfl⟩
  have hcl : cs.length = n := by rw [← hcsv]; simp [lr]
  have hkc : i < cs.length := by omega
  have hce : cs[i] = rV r := by subst hcsv; rw [rs_get z.rs i hkr, hr]
  obtain ⟨is, hisv⟩ : ∃ is, iL z.ls = is := ⟨_, rfl⟩
  have hisl : is.length = n := by rw [← hisv]; simp [iL, ll]
  have hki : i < is.length := by omega
  have hlk : z.ls[i] = (lnF z.ls i : Int) ∧ lnF z.ls i ≤ 1000 := by
    have h1 := o.ls _ (List.getElem_mem hkl)
    have h2 : lnF z.ls i = (z.ls[i]).toNat := by unfold lnF; rw [List.getElem?_eq_getElem hkl]; rfl
    omega
  have hie : is[i] = .int .i64 (lnF z.ls i : Int) := by subst hisv; simp [iL, hlk.1]
  have hrw : rwF z.rs i = r.l := by unfold rwF; rw [List.getElem?_eq_getElem hkr, hr]; rfl
  obtain ⟨u, hu⟩ : ∃ u, resizeS r.l (lnF z.ls i) = u := ⟨_, rfl⟩
  have hul : u.length = lnF z.ls i := by rw [← hu]; exact resizeS_pos
  have c37 := callP (resize25 false r.A r.cap r.l (lnF z.ls i) hlk.2) (k := k) (by omega) (by simp [ptrsL, ptrs, nil_uL]) rfl
  rw [hu] at c37
  simp only [rV] at hce
  have b1 : ((i : Int) + 1) * 24 ≤ 140737488355328 := by omega
  have b2 : i ≤ 140737488355327 := by omega
  have b3 : (i + 1) * 24 ≤ 140737488355328 := by omega
  have hsn : (SL.take (i + 1)).map ownR = SC ++ [ownR u] := by
    rw [List.take_succ_eq_append_getElem (by omega), List.map_append, hSC, hSLe i hil, hrw, hu]; rfl
  simp [-reach, -doCall, doCall_eq, noBorL_iL, -EvK_app, d1, d7, d8, d9, d10, dm, dx, gX, gN, sX, hcs, hil]
  rw [EvK_app]
  simp [-reach, -doCall, doCall_eq, noBorL_iL, -EvK_app]
  refine EvK_cut (fun D => D.s 1 = .bptr nx 0 ∧ D.s 7 = .own .nil 0 n RR ∧ D.s 8 = .bptr x 0 ∧ D.s 9 = .own .nil 0 i SC ∧ D.s 10 = .int .i64 (i : Int) ∧ D.m = W1 ++ [(x, boxD z n t L)] ∧ D.nx = x + 1) (by simp [d1, d7, d8, d9, d10, boxD]) fun D ⟨d1, d7, d8, d9, d10, dm, dx⟩ => ?_
  rw [ev_seq, ev_block, ev_seq]
  simp only [boxD] at dm
  simp [-reach, -doCall, doCall_eq, noBorL_iL, -EvK_app, d1, d7, d8, d9, d10, dm, dx, gX, gN, sX, hcs, hcsv, hisv, hil, hkc, hcl, hce, hki, hisl, hie, c37, b1, b2, b3, hSCl]
  obtain ⟨SD, hSD⟩ : ∃ SD, SC ++ [ownR u] = SD := ⟨_, rfl⟩
  refine EvK_cut (fun D => D.s 1 = .bptr nx 0 ∧ D.s 7 = .own .nil 0 n RR ∧ D.s 8 = .bptr x 0 ∧ D.s 9 = .own .nil 0 (i + 1) SD ∧ D.s 10 = .int .i64 (i : Int) ∧ D.m = W1 ++ [(x, boxD z n t L)] ∧ D.nx = x + 1) (by simp [d1, d7, d8, d9, d10, boxD, ← hSD, ownR, hul]) fun D ⟨d1, d7, d8, d9, d10, dm, dx⟩ => ?_
  rw [ev_seq]
  simp [-reach, -doCall, doCall_eq, noBorL_iL, -EvK_app]
  rw [EvK_app]
  refine EvP_name (fun D => D.s 1 = .bptr nx 0 ∧ D.s 7 = .own .nil 0 n RR ∧ D.s 8 = .bptr x 0 ∧ D.s 9 = .own .nil 0 (i + 1) SD ∧ D.s 10 = .int .i64 (i : Int) ∧ D.s 11 = .int .i64 0 ∧ D.m = W1 ++ [(x, boxD z n t L)] ∧ D.nx = x + 1) (by simp [d1, d7, d8, d9, d10, dm, dx]) fun D ⟨d1, d7, d8, d9, d10, d11, dm, dx⟩ => ?_
  obtain ⟨w, hw⟩ : ∃ w, tk i = w := ⟨_, rfl⟩
  have hwl : w.length = lnF z.ls i := by rw [← hw]; exact htl i hil
  have hR? : RR[i]? = some (.own .nil 0 w.length (uL w)) := by rw [← hRR, tkRow_get _ hil, hw]; rfl
  have hq := blk15a (t := t) (k := k) hk hcs gN gX sX hc1000 hil (by omega) hRRl hR? (by omega) hDi d1 d7 d8 d9 d10 d11 dm dx
  obtain ⟨og, hog⟩ : ∃ o, o = blkF Tryd.f15 2 := ⟨_, rfl⟩
  rw [← hog] at hq
  simp [blkF, blkAt, Tryd.f15] at hog
  subst hog
  refine EvP.cutN _ hq fun D hD => ?_
  obtain ⟨d1, d7, d8, d9, d10, dm, dx⟩ := hD
  have hL3 : L ++ (if ((i : Int) + 1) ∈ z.s.corrupt then setsD i w w.length else []) = allD z.s.corrupt tk (i + 1) := by
    show _ = allD z.s.corrupt tk i ++ _
    rw [hL, hw]
  rw [hL3] at dm
  simp [-reach, -doCall, doCall_eq, noBorL_iL, d1, d7, d8, d9, d10, dm, dx, e3]
  subst hI
  exact ⟨n - (i + 1), by omega, i + 1, _, rfl, by omega, rfl, by simp [d1], by simp [d7], by simp [d8], by rw [hsn, hSD]; simp [d9], by simp, by simp, by simp⟩
end Go.Abs
end
set_option linter.unusedVariables false
noncomputable section
namespace Go.Abs
open Go Go.Proofs
set_option maxRecDepth 100000
set_option maxHeartbeats 4000000 in
theorem ideal15 {z : Play} {L : List Dev} {n t N N0 : Nat} {tk : Nat → List Nat} {SL : List (List Nat)} {W1 : List (Nat × Box)} {x nx k : Nat} (o : PlayOk z n t N) (o0 : PlayOk (dvP z L) n t N0) (hk : max N0 1200 + 5 ≤ k) (hL : L = allD z.s.corrupt tk n) (hSL : sayL n z.rs z.ls = SL) (hval : ∀ i, i < n → hon z.s i = true → tk i = resizeS (rwF z.rs i) (lnF z.ls i)) (htl : ∀ i, i < n → (tk i).length = lnF z.ls i) (htp : ∀ i, i < n → ∀ y ∈ tk i, y < z.s.p) (hW1m : ∀ e ∈ W1, nx ≤ e.1 ∧ e.1 < x) (hnx : nx ≤ x) :
    ∃ (V0 V1 : List (Nat × Box)) (y0 : Nat) (ids : List Nat), (∀ (st : Nat → V) (dst : Option Nat), doCallB H14 (evCall Tryd.prog H14 k) 32 false [.agg [.int .u64 (z.s.p : Int), .int .i64 (n : Int), .int .i64 (t : Int), .im true z.s.cA z.s.ccap z.s.corrupt.length (iL z.s.corrupt), .im true none 0 L.length (devsV L), .im true z.s.tA z.s.tcap z.s.tapes.length (rsV z.s.tapes)]] ⟨st, W1 ++ [(x, ⟨0, [.int .u64 (z.s.p : Int), .int .i64 (n : Int), .int .i64 (t : Int), .im true z.s.cA z.s.ccap z.s.corrupt.length (iL z.s.corrupt), .im true none 0 L.length (devsV L), .im true z.s.tA z.s.tcap z.s.tapes.length (rsV z.s.tapes)]⟩)], x + 1⟩ dst = some ((St.mk (fun i => killB [] (x + 1) (st i)) V0 y0).lay dst (.tup [.bptr (x + 2) 0, .int .i64 0])))
      ∧ (∀ (st : Nat → V) (dst : Option Nat), doCallB H14 (evCall Tryd.prog H14 k) 42 false [.bptr (x + 2) 0, .im false none 0 n (rsV (SL.map rz))] ⟨st, V0, y0⟩ dst = some ((St.mk (fun i => killB ids y0 (st i)) V1 y0).lay dst (.own .nil 0 n (((List.range n).map tk).map bcV))))
      ∧ ∀ e ∈ V1, nx ≤ e.1 := by
  have hn := o.hn
  have ht := o.ht
  have t1 := o.T.c
  have t3 := o.T.t
  have h5 := o.h5
  have hnl : (z.s.tapes.length : Int) = z.s.n := o.s.2.1
  have hxW : ∀ e ∈ W1, e.1 < x := fun e he => (hW1m e he).2
  have hSLl : SL.length = n := by rw [← hSL]; simp
  have hSLe : ∀ i (h : i < n), SL[i]'(by omega) = resizeS (rwF z.rs i) (lnF z.ls i) := fun i h => by
    have h1 : SL[i]? = some (resizeS (rwF z.rs i) (lnF z.ls i)) := by rw [← hSL]; unfold sayL; rw [List.getElem?_map, List.getElem?_range h]; rfl
    rw [List.getElem?_eq_getElem (by omega)] at h1
    exact Option.some.inj h1
  obtain ⟨s', hs'⟩ : ∃ s', (dvP z L).s = s' := ⟨_, rfl⟩
  obtain ⟨cB, hcB⟩ : ∃ cB : Box, (⟨0, [.int .u64 (z.s.p : Int), .int .i64 (n : Int), .int .i64 (t : Int), .im true z.s.cA z.s.ccap z.s.corrupt.length (iL z.s.corrupt), .im true none 0 L.length (devsV L), .im true z.s.tA z.s.tcap z.s.tapes.length (rsV z.s.tapes)]⟩ : Box) = cB := ⟨_, rfl⟩
  obtain ⟨cT, hcT⟩ : ∃ cT : Box, (⟨0, scL s'⟩ : Box) = cT := ⟨_, rfl⟩
  have hsl : s'.tapes.length = z.s.tapes.length := by rw [← hs']; rfl
  have hsc : scV s' = .agg [.int .u64 (z.s.p : Int), .int .i64 (n : Int), .int .i64 (t : Int), .im true z.s.cA z.s.ccap z.s.corrupt.length (iL z.s.corrupt), .im true none 0 L.length (devsV L), .im true z.s.tA z.s.tcap z.s.tapes.length (rsV z.s.tapes)] := by rw [← hs']; simp [scV, scL, dvP, t1, t3, hn, ht]
  obtain ⟨y0, hy0⟩ : ∃ y0, x + 1 + (2 + z.s.tapes.length) = y0 := ⟨_, rfl⟩
  have c13 := fun st dst => call13 (dvP z L).s st (W1 ++ [(x, cB)]) (x + 1) dst o0.d (by show z.s.tapes.length ≤ 1000; omega) o0.r o0.s o0.T.r (k := k) (by omega)
  rw [netM_at, hs', hsl, hy0, hsc, hcT] at c13
  have o0A := nwO_A (dvP z L).s x cB cT
  have I0 := (o0.net x).I
  have hsp : (nwO (dvP z L).s x).scn = (dvP z L).s := rfl
  have hrl : (SL.map rz).length = n := by rw [List.length_map, hSLl]
  have hrm : (SL.map rz).map (·.l) = SL := by rw [List.map_map]; exact List.map_id' SL
  have hSLok : LsOk z.s.p SL := by
    rw [← hSL]
    exact sayL_ok o.p0 o.ls o.okr
  have c42 := I0.cast16 (g := 0) (by show (0 : Int) < 1000; omega) false none 0 (SL.map rz) (by rw [hrl]; exact hn.symm) (by rw [hrm]; exact hSLok)
  have hto : netTold (nwO (dvP z L).s x) SL = (List.range n).map tk := by
    unfold netTold
    show broadS z.s.p z.s.corrupt 0 SL L = _
    rw [hL]
    refine ideal hSLl (fun i h hc => ⟨htp i h, by rw [hSLe i h, htl i h]; exact resizeS_pos⟩) fun i h hc => ?_
    rw [hSLe i h]
    exact (hval i h (by simpa [hon] using hc)).symm
  rw [hrl, hrm, hto] at c42
  obtain ⟨σ1, hσ1⟩ : ∃ σ1, castS cpW ((List.range n).map tk) n (nwO (dvP z L).s x) = σ1 := ⟨_, rfl⟩
  have htp1 : σ1.tp = (nwO (dvP z L).s x).tp := by rw [← hσ1]; exact (like_castS _ _ _ _).2.1
  rw [hσ1] at c42
  obtain ⟨O3, hO3⟩ : ∃ O3, W1 ++ [(x, cB), (x + 1, cT)] = O3 := ⟨_, rfl⟩
  have hd3 : ∀ e ∈ O3 ++ [], e.1 ∉ (x + 2) :: (nwO (dvP z L).s x).tp := fun e he hx => by
    rw [List.append_nil, ← hO3] at he
    rcases List.mem_append.1 he with he | he
    · have h1 := (o0A.t _ hx).1
      have := hxW e he; omega
    · exact (o0A.o e he).2.2 hx
  have hy1 : x + (3 + (dvP z L).s.tapes.length) = y0 := by rw [← hy0]; show x + (3 + z.s.tapes.length) = _; omega
  have c42' := fun st dst => netCall (O1 := O3) (O2 := []) (nx := y0) I0.hT I0.hl hd3 htp1 c42 (k := k) (by omega) (by simp [ptrsL, ptrs]) rfl (fun e he => by have := (o0A.t _ (net_keys I0.hT e he)).2; omega) st dst
  simp only [List.append_nil] at c42'
  obtain ⟨tb, htb⟩ : ∃ tb, tbO (dvP z L).s x = tb := ⟨_, rfl⟩
  obtain ⟨σ0, hσ0⟩ : ∃ σ0, nwO (dvP z L).s x = σ0 := ⟨_, rfl⟩
  have hσ0' : net0 s' (x + 1) z.s.tapes.length = σ0 := by rw [← hσ0, ← hs']; rfl
  have htb' : tapB (fun w => tapeC w 0) (x + 1 + 2) s'.tapes = tb := by rw [← htb, ← hs']; rfl
  rw [hσ0', htb'] at c13
  rw [hσ0, htb] at c42'
  obtain ⟨V0, hV0⟩ : ∃ V0, O3 ++ (x + 2, (⟨0, netC σ0⟩ : Box)) :: tb = V0 := ⟨_, rfl⟩
  obtain ⟨V1, hV1⟩ : ∃ V1, O3 ++ (x + 2, (⟨0, netC σ1⟩ : Box)) :: tb = V1 := ⟨_, rfl⟩
  rw [hV0, hV1] at c42'
  have eV0 : W1 ++ [(x, cB)] ++ (x + 1, cT) :: (x + 1 + 1, (⟨0, netC σ0⟩ : Box)) :: tb = V0 := by rw [← hV0, ← hO3]; simp
  rw [eV0] at c13
  have hallV : ∀ e ∈ V1, nx ≤ e.1 := fun e he => by
    have hnx := hnx
    rw [← hV1, ← hO3] at he
    rcases List.mem_append.1 he with he | he
    · rcases List.mem_append.1 he with he | he
      · exact (hW1m e he).1
      · simp only [List.mem_cons, List.not_mem_nil, or_false] at he
        rcases he with rfl | rfl
        · exact hnx
        · show nx ≤ x + 1; omega
    · rw [hσ0] at htp1 o0A I0
      rw [htb] at I0
      have h1 := net_keys (g := 0) (σ := σ1) (by rw [htp1]; exact I0.hT) e he
      rw [htp1] at h1
      have := (o0A.t _ h1).1; omega
  exact ⟨V0, V1, y0, _, fun st dst => by rw [hcB]; exact c13 st dst, c42', hallV⟩
end Go.Abs
end
set_option linter.unusedVariables false
noncomputable section
namespace Go.Abs
open Go Go.Proofs
set_option maxRecDepth 100000
open Classical in
set_option maxHeartbeats 8000000 in
theorem law15 (z : Play) (hw : ScnB z.s ∧ z.pm = true ∧ z.pl = true ∧ ∀ r ∈ z.rs, r.pm = true) : ∃ N, AnsN N Tryd.prog H14 15 [playV z] (.bool true) := by
  obtain ⟨hB, hpm, hpl, hrp⟩ := hw
  obtain ⟨N30, hN30⟩ := awake30
  obtain ⟨n, t, N, ho⟩ : ∃ n t N, PlayS z → PlayOk z n t N := by
    by_cases hm : PlayS z
    · obtain ⟨n, t, N, h⟩ := playOk_ex hB hm
      exact ⟨n, t, N, fun _ => h⟩
    · exact ⟨0, 0, 0, fun h => absurd h hm⟩
  obtain ⟨f0, hf0⟩ : ∃ f0 : Nat, PlayS z → f0 < n ∧ (hpL z.s.corrupt n)[0]? = some ((f0 : Int) + 1) ∧ hon z.s f0 = true := by
    by_cases hm : PlayS z
    · have o := ho hm
      obtain ⟨f, h1, h2, h3⟩ := hpL_get (hpL_pos o)
      exact ⟨f, fun _ => ⟨h1, by rw [List.getElem?_eq_getElem (hpL_pos o), h2], by simpa [hon] using h3⟩⟩
    · exact ⟨0, fun h => absurd h hm⟩
  obtain ⟨DL, hDL⟩ : ∃ DL, allD z.s.corrupt ((pEnd z 0 n t).tk f0) n = DL := ⟨_, rfl⟩
  obtain ⟨N0, ho0⟩ : ∃ N0, PlayS z → PlayOk (dvP z DL) n t N0 := by
    by_cases hm : PlayS z
    · obtain ⟨N0, h⟩ := (ho hm).ideal_ok f0
      exact ⟨N0, fun _ => hDL ▸ h⟩
    · exact ⟨0, fun h => absurd h hm⟩
  refine ⟨max (max N30 100300) (max (max N N0) 1200 + 5) + 1, AnsN.of (fn := Tryd.f15) (t := 2) (by rfl) Tryd.func15 rfl rfl (by rfl) (by rfl) fun k hk nx => ?_⟩
  have c30 := callP (k := k) hN30 (by omega) (by simp [ptrsL]) rfl
  have c31 := callP (k := k) (fair31 (lentP z)) (by omega) (by simp [playV, playL, scL, ptrsL, ptrs, lentP, lentS]) rfl
  have e1 : decide (PlayS (lentP z)) = decide (PlayS z) := decide_eq_decide.2 PlayS.lent
  rw [e1] at c31
  simp only [playV, playL, scL, lentP, lentS, List.length_map, List.cons_append, List.nil_append] at c31
  by_cases hm : PlayS z
  case neg =>
    rw [decide_eq_false hm] at c31
    simp [-reach, -doCall, doCall_eq, entryS, playV, playL, scL, c30, c31]
  rw [decide_eq_true hm] at c31
  have o := ho hm
  have t1 := hB.T.c
  have t2 := hB.T.d
  have t3 := hB.T.t
  have hn := o.hn
  have ht := o.ht
  have lr := o.lr
  have ll := o.ll
  have h5 := o.h5
  have h3 := o.h3
  have nb := noBorL_rs hB.T.r
  have hnl : (z.s.tapes.length : Int) = z.s.n := o.s.2.1
  obtain ⟨cP, hcP⟩ : ∃ cP : Box, (⟨0, [.int .u64 (z.s.p : Int), .int .i64 (n : Int), .int .i64 (t : Int), .im true z.s.cA z.s.ccap z.s.corrupt.length (iL z.s.corrupt), .im true z.s.dA z.s.dcap z.s.devs.length (devsV z.s.devs), .im true z.s.tA z.s.tcap z.s.tapes.length (rsV z.s.tapes), .im true z.A z.cap n (rsV z.rs), .im true z.Al z.cl n (iL z.ls)]⟩ : Box) = cP := ⟨_, rfl⟩
  have hcs : cP.cs = [.int .u64 (z.s.p : Int), .int .i64 (n : Int), .int .i64 (t : Int), .im true z.s.cA z.s.ccap z.s.corrupt.length (iL z.s.corrupt), .im true z.s.dA z.s.dcap z.s.devs.length (devsV z.s.devs), .im true z.s.tA z.s.tcap z.s.tapes.length (rsV z.s.tapes), .im true z.A z.cap n (rsV z.rs), .im true z.Al z.cl n (iL z.ls)] := by rw [← hcP]
  obtain ⟨cS, hcS⟩ : ∃ cS : Box, (⟨0, scL z.s⟩ : Box) = cS := ⟨_, rfl⟩
  have c32 := fun st dst => o.new (nx := nx) (k := k) (by omega) cP st dst
  have c33 := fun A Al cap cl st dst => o.bcall A Al cap cl nx (k := k) (by omega) cP cS st dst
  obtain ⟨hfin, hrd⟩ := o.fin nx
  have AO : Around nx (nx + 2) (pEnd z nx n t).σ.tp cP [(nx, cP), (nx + 1, cS)] (nx + (3 + z.s.tapes.length)) := by rw [hfin.tp]; exact nwO_A z.s nx cP cS
  rw [hcS] at c32
  obtain ⟨W0, hW0⟩ : ∃ W0, [(nx, cP), (nx + 1, cS)] ++ (nx + 2, (⟨0, netC (nwO z.s nx)⟩ : Box)) :: tbO z.s nx = W0 := ⟨_, rfl⟩
  obtain ⟨W1, hW1⟩ : ∃ W1, [(nx, cP), (nx + 1, cS)] ++ (nx + 2, (⟨0, netC (pEnd z nx n t).σ⟩ : Box)) :: tbO z.s nx = W1 := ⟨_, rfl⟩
  have g0 : getBox W0 nx = some cP := by rw [← hW0]; simp [getBox]
  have g1 : getBox W1 nx = some cP := by rw [← hW1]; exact AO.get
  have hall : ∀ e ∈ W1, nx ≤ e.1 := fun e he => (AO.mem hfin.I.hT e (by rw [hW1]; exact he)).1
  rw [hW0] at c32
  rw [hW0, hW1] at c33
  simp only [scV, scL, t1, t2, t3, hn, ht, List.length_map, lr, ll] at c32 c31
  have o0 := ho0 hm
  obtain ⟨hf0, hHL0, hfh⟩ := hf0 hm
  obtain ⟨x, hx⟩ : ∃ x, nx + (3 + z.s.tapes.length) = x := ⟨_, rfl⟩
  rw [hx] at AO
  simp only [hx] at c32 c33
  obtain ⟨tk, htk⟩ : ∃ tk, (pEnd z nx n t).tk = tk := ⟨_, rfl⟩
  have hDL' : allD z.s.corrupt (tk f0) n = DL := by rw [← htk, o.tk_nx nx 0]; exact hDL
  have hval : ∀ i, i < n → hon z.s i = true → tk f0 i = resizeS (rwF z.rs i) (lnF z.ls i) := fun i hi hH => by rw [← htk]; exact o.valid_h o.good o.hears hi hH hf0 hfh
  have htl : ∀ i, i < n → (tk f0 i).length = lnF z.ls i := fun i hi => by rw [← htk]; exact o.tk_len hi f0
  have htp : ∀ i, i < n → ∀ y ∈ tk f0 i, y < z.s.p := fun i hi => by rw [← htk]; exact o.tk_lt hi f0
  have c34 := fun A cap => callP (hp34 z.s.p n (t : Int) (by omega) false A cap z.s.corrupt o.c) (k := k) (by omega) (by simp [ptrsL, ptrs]) rfl
  obtain ⟨HL, hHL⟩ : ∃ HL, hpL z.s.corrupt n = HL := ⟨_, rfl⟩
  rw [hHL] at c34 hHL0
  have hi0 : 0 < HL.length := (List.getElem?_eq_some_iff.1 hHL0).1
  have hHf0 : HL[0] = (f0 : Int) + 1 := by
    have := List.getElem?_eq_getElem hi0
    rw [hHL0] at this
    exact (Option.some.inj this).symm
  have hH0 : 0 < (iL HL).length := by simp [iL]; exact hi0
  have hHe0 : (iL HL)[0]'hH0 = .int .i64 ((f0 : Int) + 1) := by simp [iL, hHf0]
  have hH?0 : (iL HL)[0]? = some (.int .i64 ((f0 : Int) + 1)) := by rw [List.getElem?_eq_getElem hH0, hHe0]
  have ef0 := wrapi (x := (f0 : Int)) (by omega) (by omega)
  have hn0 : ¬ n = 0 := by omega
  obtain ⟨TC, hTC⟩ : ∃ TC, tkC tk n = TC := ⟨_, rfl⟩
  have hTCl : TC.length = n := by rw [← hTC]; simp
  have hT? : TC[f0]? = some (.own .nil 0 n (tkRow (tk f0) n)) := by rw [← hTC]; unfold tkC; rw [List.getElem?_map, List.getElem?_range hf0]; rfl
  have hfT : f0 < TC.length := by omega
  have hTe : TC[f0] = .own .nil 0 n (tkRow (tk f0) n) := by
    have := List.getElem?_eq_getElem hfT
    rw [hT?] at this
    exact (Option.some.inj this).symm
  obtain ⟨RR, hRR⟩ : ∃ RR, tkRow (tk f0) n = RR := ⟨_, rfl⟩
  have hRRl : RR.length = n := by rw [← hRR]; simp
  rw [hRR] at hT? hTe
  have hW1m : ∀ e ∈ W1, nx ≤ e.1 ∧ e.1 < x := fun e he => AO.mem hfin.I.hT e (by rw [hW1]; exact he)
  have hxW : ∀ e ∈ W1, e.1 < x := fun e he => (hW1m e he).2
  have gX : ∀ B : Box, getBox (W1 ++ [(x, B)]) x = some B := fun B => getBox_app_new hxW
  have gN : ∀ B : Box, getBox (W1 ++ [(x, B)]) nx = some cP := fun B => getBox_app_old g1
  have sX : ∀ B B' : Box, setBox (W1 ++ [(x, B)]) x B' = W1 ++ [(x, B')] := fun B B' => setBox_app_new hxW
  obtain ⟨BF, hBF⟩ : ∃ BF : List Dev → List V, BF = fun L => [.int .u64 (z.s.p : Int), .int .i64 (n : Int), .int .i64 (t : Int), .im true z.s.cA z.s.ccap z.s.corrupt.length (iL z.s.corrupt), .own .nil 0 L.length (devsV L), .im true z.s.tA z.s.tcap z.s.tapes.length (rsV z.s.tapes)] := ⟨_, rfl⟩
  have dnl : devsV [] = [] := rfl
  rw [htk] at c33
  rw [hTC] at c33
  simp [-reach, -doCall, doCall_eq, playV, playL, scL, t1, t2, t3, hn, ht, lr, ll, hpm, hpl, noBorL_iL, noBorL_devs, nb, -EvK_app, entryS]
  rw [EvK_app]
  simp [-reach, -doCall, doCall_eq, playV, playL, scL, t1, t2, t3, hn, ht, lr, ll, hpm, hpl, noBorL_iL, noBorL_devs, nb, -EvK_app, c30]
  rw [EvK_app]
  simp [-reach, -doCall, doCall_eq, playV, playL, scL, t1, t2, t3, hn, ht, lr, ll, hpm, hpl, noBorL_iL, noBorL_devs, nb, -EvK_app, c30]
  refine EvK_cut (fun D => D.s 1 = .bptr nx 0 ∧ D.m = [(nx, cP)] ∧ D.nx = nx + 1) (by simp [← hcP]) fun D ⟨d1, dm, dx⟩ => ?_
  simp [-reach, -doCall, doCall_eq, playV, playL, scL, t1, t2, t3, hn, ht, lr, ll, hpm, hpl, noBorL_iL, noBorL_devs, nb, -EvK_app, d1, dm, dx, hcs, c31]
  rw [EvK_app]
  simp [-reach, -doCall, doCall_eq, playV, playL, scL, t1, t2, t3, hn, ht, lr, ll, hpm, hpl, noBorL_iL, noBorL_devs, nb, -EvK_app, d1, dm, dx, hcs, c32]
  rw [EvK_app]
  simp [-reach, -doCall, doCall_eq, playV, playL, scL, t1, t2, t3, hn, ht, lr, ll, hpm, hpl, noBorL_iL, noBorL_devs, nb, -EvK_app, d1, dm, dx, hcs, c32]
  refine EvK_cut (fun D => D.s 1 = .bptr nx 0 ∧ D.s 3 = .bptr (nx + 2) 0 ∧ D.s 4 = .int .i64 0 ∧ D.m = W0 ∧ D.nx = x) (by simp [d1]) fun D ⟨d1, d3, d4, dm, dx⟩ => ?_
  simp [-reach, -doCall, doCall_eq, playV, playL, scL, t1, t2, t3, hn, ht, lr, ll, hpm, hpl, noBorL_iL, noBorL_devs, nb, -EvK_app, d1, d3, d4, dm, dx, g0, hcs, c33]
  rw [EvK_app]
  simp [-reach, -doCall, doCall_eq, playV, playL, scL, t1, t2, t3, hn, ht, lr, ll, hpm, hpl, noBorL_iL, noBorL_devs, nb, -EvK_app, d1, d3, d4, dm, dx]
  rw [EvK_app]
  simp [-reach, -doCall, doCall_eq, playV, playL, scL, t1, t2, t3, hn, ht, lr, ll, hpm, hpl, noBorL_iL, noBorL_devs, nb, -EvK_app, d1, d3, d4, dm, dx, g0, hcs, c33]
  refine EvK_cut (fun D => D.s 1 = .bptr nx 0 ∧ D.s 5 = .own .nil 0 n TC ∧ D.m = W1 ∧ D.nx = x) (by simp [d1]) fun D ⟨d1, d5, dm, dx⟩ => ?_
  simp [-reach, -doCall, doCall_eq, playV, playL, scL, t1, t2, t3, hn, ht, lr, ll, hpm, hpl, noBorL_iL, noBorL_devs, nb, -EvK_app, d1, d5, dm, dx, g1, hcs, c34]
  refine EvK_cut (fun D => D.s 1 = .bptr nx 0 ∧ D.s 5 = .own .nil 0 n TC ∧ D.s 6 = .own .nil 0 HL.length (iL HL) ∧ D.m = W1 ∧ D.nx = x) (by simp [d1, d5]) fun D ⟨d1, d5, d6, dm, dx⟩ => ?_
  simp [-reach, -doCall, doCall_eq, playV, playL, scL, t1, t2, t3, hn, ht, lr, ll, hpm, hpl, noBorL_iL, noBorL_devs, nb, -EvK_app, d1, d5, d6, dm, dx, g1, hcs, hi0, hH0, hHe0, hH?0, hHf0, hf0, ef0, hTCl, hT?, hTe, hfT, hRRl]
  rw [EvK_app]
  simp [-reach, -doCall, doCall_eq, playV, playL, scL, t1, t2, t3, hn, ht, lr, ll, hpm, hpl, noBorL_iL, noBorL_devs, nb, -EvK_app]
  refine EvK_cut (fun D => D.s 1 = .bptr nx 0 ∧ D.s 5 = .own .nil 0 n TC ∧ D.s 6 = .own .nil 0 HL.length (iL HL) ∧ D.m = W1 ∧ D.nx = x) (by simp [d1, d5, d6]) fun D ⟨d1, d5, d6, dm, dx⟩ => ?_
  rw [ev_seq]
  simp [-reach, -doCall, doCall_eq, playV, playL, scL, t1, t2, t3, hn, ht, lr, ll, hpm, hpl, noBorL_iL, noBorL_devs, nb, -EvK_app, d1, d5, d6, dm, dx, g1, hcs, hi0, hH0, hHe0, hH?0, hHf0, hf0, ef0, hTCl, hT?, hTe, hfT, hRRl, gX, gN, sX]
  rw [EvK_app, ev_seq]
  simp [-reach, -doCall, doCall_eq, playV, playL, scL, t1, t2, t3, hn, ht, lr, ll, hpm, hpl, noBorL_iL, noBorL_devs, nb, -EvK_app, d1, d5, d6, dm, dx, g1, hcs, hi0, hH0, hHe0, hH?0, hHf0, hf0, ef0, hTCl, hT?, hTe, hfT, hRRl, gX, gN, sX]
  refine EvK_cut (fun D => D.s 1 = .bptr nx 0 ∧ D.s 7 = .own .nil 0 n RR ∧ D.s 8 = .bptr x 0 ∧ D.m = W1 ++ [(x, ⟨0, [.int .u64 (z.s.p : Int), .int .i64 (n : Int), .int .i64 (t : Int), .im true z.s.cA z.s.ccap z.s.corrupt.length (iL z.s.corrupt), .im true z.s.dA z.s.dcap z.s.devs.length (devsV z.s.devs), .im true z.s.tA z.s.tcap z.s.tapes.length (rsV z.s.tapes)]⟩)] ∧ D.nx = x + 1) (by simp [d1]) fun D ⟨d1, d7, d8, dm, dx⟩ => ?_
  rw [ev_seq]
  simp [-reach, -doCall, doCall_eq, playV, playL, scL, t1, t2, t3, hn, ht, lr, ll, hpm, hpl, noBorL_iL, noBorL_devs, nb, -EvK_app, d1, d7, d8, dm, dx, gX, gN, sX]
  rw [EvK_app, ev_seq]
  simp [-reach, -doCall, doCall_eq, playV, playL, scL, t1, t2, t3, hn, ht, lr, ll, hpm, hpl, noBorL_iL, noBorL_devs, nb, -EvK_app]
  rw [EvK_app, ev_seq, ev_seq]
  simp [-reach, -doCall, doCall_eq, playV, playL, scL, t1, t2, t3, hn, ht, lr, ll, hpm, hpl, noBorL_iL, noBorL_devs, nb, -EvK_app]
  rw [EvK_app]
  refine EvP_name (fun D => D.s 1 = .bptr nx 0 ∧ D.s 7 = .own .nil 0 n RR ∧ D.s 8 = .bptr x 0 ∧ D.s 9 = .own .nil 0 0 [] ∧ D.s 10 = .int .i64 0 ∧ D.m = W1 ++ [(x, boxD z n t [])] ∧ D.nx = x + 1) (by simp [d1, d7, d8, dm, dx, boxD, dnl]) fun D ⟨d1, d7, d8, d9, d10, dm, dx⟩ => ?_
  obtain ⟨SL, hSL⟩ : ∃ SL, sayL n z.rs z.ls = SL := ⟨_, rfl⟩
  have hSLl : SL.length = n := by rw [← hSL]; simp
  have hSLe : ∀ i (h : i < n), SL[i]'(by omega) = resizeS (rwF z.rs i) (lnF z.ls i) := fun i h => by
    have h1 : SL[i]? = some (resizeS (rwF z.rs i) (lnF z.ls i)) := by rw [← hSL]; unfold sayL; rw [List.getElem?_map, List.getElem?_range h]; rfl
    rw [List.getElem?_eq_getElem (by omega)] at h1
    exact Option.some.inj h1
  rw [← hRR] at d7
  have hq := blk15b (t := t) (k := k) (by omega) hcs gN gX sX o.c o hSL htl d1 d7 d8 d9 d10 dm dx
  obtain ⟨og, hog⟩ : ∃ o, o = blkF Tryd.f15 0 := ⟨_, rfl⟩
  rw [← hog] at hq
  simp [blkF, blkAt, Tryd.f15] at hog
  subst hog
  refine EvP.cutN _ hq fun D hD => ?_
  obtain ⟨d1, d7, d8, d9, dm, dx⟩ := hD
  rw [hRR] at d7
  rw [hDL'] at dm
  obtain ⟨L, hL⟩ : ∃ L, DL = L := ⟨_, rfl⟩
  have o0 : PlayOk (dvP z L) n t N0 := hL ▸ o0
  have hL0 := hL
  rw [hL] at dm
  have hL : L = allD z.s.corrupt (tk f0) n := by rw [hDL', hL0]
  obtain ⟨SC, hSC⟩ : ∃ SC, SL.map ownR = SC := ⟨_, rfl⟩
  rw [hSC] at d9
  simp only [boxD] at dm
  obtain ⟨V0, V1, y0, ids, c13, c42, hallV⟩ := ideal15 (k := k) o o0 (by omega) hL hSL hval htl htp hW1m (by omega)
  obtain ⟨RB, hRB⟩ : ∃ RB, ((List.range n).map (tk f0)).map bcV = RB := ⟨_, rfl⟩
  obtain ⟨RL, hRL⟩ : ∃ RL : List RD, ((List.range n).map (tk f0)).map rz = RL := ⟨_, rfl⟩
  obtain ⟨SR, hSR⟩ : ∃ SR : List RD, SL.map rz = SR := ⟨_, rfl⟩
  have hRBf : ∀ b, frzL false (frzL b RB) = rsV RL := fun b => by rw [← hRB, ← hRL]; exact frz_bcV b _
  have hRRf : ∀ b, frzL false (frzL b RR) = rsV RL := fun b => by
    rw [← hRR, ← hRL, ← frz_ownR b]
    unfold tkRow
    rw [List.map_map]; rfl
  have hSCf : ∀ b, frzL false (frzL b SC) = rsV SR := fun b => by rw [← hSC, ← hSR]; exact frz_ownR b _
  have hRLl : RL.length = n := by rw [← hRL, List.length_map, List.length_map, List.length_range]
  have c35 := callP (sameRows35 false false none none 0 0 RL RL (by omega) (fun r hr => by
    rw [← hRL] at hr
    obtain ⟨l, hl, rfl⟩ := List.mem_map.1 hr
    obtain ⟨i', hi', rfl⟩ := List.mem_map.1 hl
    have h1 := htl i' (List.mem_range.1 hi')
    have h2 : lnF z.ls i' ≤ 1000 := by
      have h3 : i' < z.ls.length := by have := List.mem_range.1 hi'; omega
      have h4 := o.ls _ (List.getElem_mem h3)
      have h5 : lnF z.ls i' = (z.ls[i']).toNat := by unfold lnF; rw [List.getElem?_eq_getElem h3]; rfl
      omega
    show (tk f0 i').length ≤ 1000
    omega) rfl) (k := k) (by omega) (by simp [ptrsL, ptrs]) rfl
  rw [hRLl] at c35
  rw [hRB, hSR] at c42
  simp only [thenE]
  rw [EvK_app, ev_seq]
  simp [-reach, -doCall, doCall_eq, playV, playL, scL, t1, t2, t3, hn, ht, lr, ll, hpm, hpl, noBorL_iL, noBorL_devs, nb, -EvK_app, d1, d7, d8, d9, dm, dx, gX, gN, sX, hcs, c13]
  refine EvK_cut (fun D => D.s 7 = .own .nil 0 n RR ∧ D.s 9 = .own .nil 0 n SC ∧ D.s 12 = .bptr (x + 2) 0 ∧ D.s 13 = .int .i64 0 ∧ D.m = V0 ∧ D.nx = y0) (by simp [d7, d9]) fun D ⟨d7, d9, d12, d13, dm, dx⟩ => ?_
  simp [-reach, -doCall, doCall_eq, playV, playL, scL, t1, t2, t3, hn, ht, lr, ll, hpm, hpl, noBorL_iL, noBorL_devs, nb, -EvK_app, d7, d9, d12, d13, dm, dx]
  rw [EvK_app]
  simp [-reach, -doCall, doCall_eq, playV, playL, scL, t1, t2, t3, hn, ht, lr, ll, hpm, hpl, noBorL_iL, noBorL_devs, nb, -EvK_app, d7, d9, d12, d13, dm, dx]
  rw [EvK_app]
  simp [-reach, -doCall, doCall_eq, playV, playL, scL, t1, t2, t3, hn, ht, lr, ll, hpm, hpl, noBorL_iL, noBorL_devs, nb, d7, d9, d12, d13, dm, dx, hSCf, c42, hRBf, hRRf, c35]
  exact fun a b h => hallV (a, b) h
end Go.Abs
end
