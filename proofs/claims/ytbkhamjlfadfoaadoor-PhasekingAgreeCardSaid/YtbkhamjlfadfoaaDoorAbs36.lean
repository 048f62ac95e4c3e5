/- Joined: AbsPR AbsPS. -/
import Derived.Test.YtbkhamjlfadfoaaDoorAbs27
set_option linter.all false
set_option linter.unusedVariables false
noncomputable section
namespace Go.Abs
open Go Go.Proofs
set_option maxRecDepth 100000
def headsR (rs : List RD) : List (Option Nat) := rs.map fun r => r.l.head?
theorem votesL_snoc (hs : List (Option Nat)) (h : Option Nat) (x : Nat) : votesL (hs ++ [h]) x = votesL hs x + if h = some x then 1 else 0 := by
  unfold votesL
  rw [List.filter_append, List.length_append]
  by_cases e : h = some x <;> simp [e]
theorem votesL_le (hs : List (Option Nat)) (x : Nat) : votesL hs x ≤ hs.length := List.length_filter_le _ _
theorem rs_get (rs : List RD) (i : Nat) (h : i < rs.length) : (rsV rs)[i]'(by simp; exact h) = rV rs[i] := by simp [rsV]
set_option maxHeartbeats 2000000 in
theorem votes70 (pm : Bool) (A : Option Addr) (cap : Nat) (rs : List RD) (hl : rs.length ≤ 1000) (x : Nat) : AnsN 1101 Tryd.prog H14 70 [.im pm A cap rs.length (rsV rs), .int .u64 (x : Int)] (.int .i64 (votesL (headsR rs) x : Nat)) := by
  refine AnsN.of (fn := Tryd.f70) (t := 4) (by rfl) Tryd.func70 rfl rfl (by rfl) (by rfl) fun k hk nx => ?_
  obtain ⟨n, hn⟩ : ∃ n, rs.length = n := ⟨_, rfl⟩
  obtain ⟨cs, hcs⟩ : ∃ cs, rsV rs = cs := ⟨_, rfl⟩
  have hcl : cs.length = n := by rw [← hcs]; simp [hn]
  rw [hn, hcs]
  obtain ⟨cf, hcf⟩ : ∃ cf : Nat → Nat, cf = fun i => votesL (headsR (rs.take i)) x := ⟨_, rfl⟩
  have cfn : votesL (headsR rs) x = cf n := by rw [hcf, ← hn]; simp only [List.take_length]
  have cfl : ∀ i, cf i ≤ n := fun i => by
    rw [hcf]
    have := votesL_le (headsR (rs.take i)) x
    simp only [headsR, List.length_map, List.length_take] at this
    exact Nat.le_trans this (by omega)
  rw [cfn]
  obtain ⟨I, hI⟩ : ∃ I : Nat → St → Prop, I = fun q D => ∃ i : Nat, q = n - i ∧ i ≤ n ∧ D.s 0 = .im pm A cap n cs ∧ D.s 1 = .int .u64 (x : Int) ∧ D.s 5 = .int .i64 (cf i : Int) ∧ D.s 6 = .int .i64 (i : Int) ∧ D.m = [] ∧ D.nx = nx := ⟨_, rfl⟩
  have cf0 : cf 0 = 0 := by rw [hcf]; rfl
  simp [entryS]
  refine EvP.loop I (n := n) (by rw [hI]; exact ⟨0, by simp, by simp, by simp [cf0]⟩) (by omega) fun q D hD => ?_
  rw [hI] at hD
  obtain ⟨i, rfl, hi, d0, d1, d5, d6, dm, dx⟩ := hD
  by_cases hil : i < n
  · have e3 := wrapi (x := (i : Int) + 1) (by omega) (by omega)
    have hci := cfl i
    have e4 := wrapi (x := (cf i : Int) + 1) (by omega) (by omega)
    have hir : i < rs.length := by omega
    have hic : i < cs.length := by omega
    obtain ⟨r, hr⟩ : ∃ r, rs[i] = r := ⟨_, rfl⟩
    have hri : cs[i] = rV r := by subst hcs; rw [rs_get rs i hir, hr]
    have hs : cf (i + 1) = cf i + if r.l.head? = some x then 1 else 0 := by
      rw [hcf]
      show votesL (headsR (rs.take (i + 1))) x = _
      rw [List.take_succ_eq_append_getElem hir, hr]
      show votesL ((rs.take i ++ [r]).map fun r => r.l.head?) x = _
      rw [List.map_append]
      exact votesL_snoc _ _ _
    obtain ⟨rp, rA, rc, rl⟩ := r
    rcases rl with _ | ⟨y, rl⟩
    · have hs : cf (i + 1) = cf i := by rw [hs]; simp
      simp only [rV] at hri
      simp [d0, d1, d5, d6, dm, dx, hil, hic, hcl, hri, e3]
      subst hI
      exact ⟨n - (i + 1), by omega, i + 1, rfl, by omega, by simp [d0], by simp [d1], by simp [d5, hs], by simp, by simp [dm], by simp [dx]⟩
    · simp only [rV] at hri
      by_cases hy : y = x
      · subst hy
        have hs : cf (i + 1) = cf i + 1 := by rw [hs]; simp
        simp [d0, d1, d5, d6, dm, dx, hil, hic, hcl, hri, uL_cons, e3, e4]
        subst hI
        exact ⟨n - (i + 1), by omega, i + 1, rfl, by omega, by simp [d0], by simp [d1], by simp [hs], by simp, by simp [dm], by simp [dx]⟩
      · have hs : cf (i + 1) = cf i := by rw [hs]; simp [hy]
        have hne : ((y : Int) == (x : Int)) = false := by simp; omega
        simp [d0, d1, d5, d6, dm, dx, hil, hic, hcl, hri, uL_cons, e3, hne]
        subst hI
        exact ⟨n - (i + 1), by omega, i + 1, rfl, by omega, by simp [d0], by simp [d1], by simp [d5, hs], by simp, by simp [dm], by simp [dx]⟩
  · have hin : i = n := by omega
    subst hin
    simp [d0, d1, d5, d6, dm, dx]
def stepL (hs : List (Option Nat)) (m : Nat) (a h : Option Nat) : Option Nat := match h with
  | none => a
  | some y => if m ≤ votesL hs y then (match a with | none => some y | some x => if y < x then some y else some x) else a
def leastL (hs : List (Option Nat)) (m : Nat) : Option Nat := ((hs.filterMap id).filter fun x => decide (m ≤ votesL hs x)).min?
def candL (hs l : List (Option Nat)) (m : Nat) : List Nat := (l.filterMap id).filter fun x => decide (m ≤ votesL hs x)
theorem foldL_eq (hs : List (Option Nat)) (m : Nat) : ∀ l : List (Option Nat), l.foldl (stepL hs m) none = (candL hs l m).min? := by
  have key : ∀ (l pre : List (Option Nat)), l.foldl (stepL hs m) ((candL hs pre m).min?) = (candL hs (pre ++ l) m).min? := by
    intro l
    induction l with
    | nil => intro pre; simp
    | cons h l ih =>
      intro pre
      rw [List.foldl_cons]
      have e : stepL hs m ((candL hs pre m).min?) h = (candL hs (pre ++ [h]) m).min? := by
        have e1 : candL hs (pre ++ [h]) m = candL hs pre m ++ candL hs [h] m := by unfold candL; rw [List.filterMap_append, List.filter_append]
        rw [e1]
        cases h with
        | none => simp [stepL, candL]
        | some y =>
          by_cases hy : m ≤ votesL hs y
          · have e2 : candL hs [some y] m = [y] := by simp [candL, hy]
            rw [e2]
            show (if m ≤ votesL hs y then _ else _) = _
            rw [if_pos hy]
            cases e3 : (candL hs pre m).min? with
            | none =>
              have : candL hs pre m = [] := by rwa [List.min?_eq_none_iff] at e3
              rw [this]; rfl
            | some x =>
              obtain ⟨h1, h2⟩ := List.min?_eq_some_iff.1 e3
              symm
              by_cases hyx : y < x
              · simp only [if_pos hyx]
                rw [List.min?_eq_some_iff]
                refine ⟨by simp, fun b hb => ?_⟩
                rcases List.mem_append.1 hb with hb | hb
                · have := h2 b hb; omega
                · rw [List.mem_singleton] at hb; omega
              · simp only [if_neg hyx]
                rw [List.min?_eq_some_iff]
                refine ⟨List.mem_append_left _ h1, fun b hb => ?_⟩
                rcases List.mem_append.1 hb with hb | hb
                · exact h2 b hb
                · rw [List.mem_singleton] at hb; omega
          · have e2 : candL hs [some y] m = [] := by simp [candL, hy]
            rw [e2, List.append_nil]
            show (if m ≤ votesL hs y then _ else _) = _
            rw [if_neg hy]
      rw [e, ih (pre ++ [h]), List.append_assoc]; rfl
  intro l
  have := key l []
  simpa [candL] using this
set_option maxHeartbeats 4000000 in
theorem least69 (pm : Bool) (A : Option Addr) (cap : Nat) (rs : List RD) (hl : rs.length ≤ 1000) (m : Nat) (hm : m ≤ 1000) : AnsN 1103 Tryd.prog H14 69 [.im pm A cap rs.length (rsV rs), .int .i64 (m : Int)] (.tup [.int .u64 (((leastL (headsR rs) m).getD 0 : Nat) : Int), .bool (leastL (headsR rs) m).isSome]) := by
  refine AnsN.gen (fn := Tryd.f69) (by rfl) Tryd.func69 rfl (by rfl) (by rfl) fun k hk nx => ?_
  have c70 := fun x => callP (votes70 false A cap (rs.map lent) (by rw [List.length_map]; exact hl) x) (k := k) (by omega) (by simp [ptrsL, ptrs]) rfl
  have hlent : headsR (rs.map lent) = headsR rs := by unfold headsR; rw [List.map_map]; rfl
  simp only [hlent, List.length_map] at c70
  obtain ⟨hs, hhs⟩ : ∃ hs, headsR rs = hs := ⟨_, rfl⟩
  obtain ⟨n, hn⟩ : ∃ n, rs.length = n := ⟨_, rfl⟩
  obtain ⟨cs, hcs⟩ : ∃ cs, rsV rs = cs := ⟨_, rfl⟩
  have hfz : frzL false cs = rsV (rs.map lent) := by rw [← hcs]; simp
  have hcl : cs.length = n := by rw [← hcs]; simp [hn]
  rw [hhs, hn] at c70
  rw [hn, hcs, hhs]
  obtain ⟨af, haf⟩ : ∃ af : Nat → Option Nat, af = fun i => (hs.take i).foldl (stepL hs m) none := ⟨_, rfl⟩
  have hsl : hs.length = n := by rw [← hhs]; simp [headsR, hn]
  have afn : leastL hs m = af n := by
    rw [haf, ← hsl]
    show _ = (hs.take hs.length).foldl (stepL hs m) none
    rw [List.take_length, foldL_eq]; rfl
  rw [afn]
  have af0 : af 0 = none := by rw [haf]; rfl
  obtain ⟨I, hI⟩ : ∃ I : Nat → St → Prop, I = fun q D => ∃ i : Nat, q = n - i ∧ i ≤ n ∧ D.s 0 = .im pm A cap n cs ∧ D.s 1 = .int .i64 (m : Int) ∧ D.s 6 = .int .u64 (((af i).getD 0 : Nat) : Int) ∧ D.s 7 = .bool (af i).isSome ∧ D.s 8 = .int .i64 (i : Int) ∧ D.m = [] ∧ D.nx = nx := ⟨_, rfl⟩
  simp [entryS]
  refine EvP.loop I (n := n) (by rw [hI]; exact ⟨0, by simp, by simp, by simp [af0]⟩) (by omega) fun q D hD => ?_
  rw [hI] at hD
  obtain ⟨i, rfl, hi, d0, d1, d6, d7, d8, dm, dx⟩ := hD
  by_cases hil : i < n
  · have e3 := wrapi (x := (i : Int) + 1) (by omega) (by omega)
    have hir : i < rs.length := by omega
    have hic : i < cs.length := by omega
    obtain ⟨r, hr⟩ : ∃ r, rs[i] = r := ⟨_, rfl⟩
    have hri : cs[i] = rV r := by subst hcs; rw [rs_get rs i hir, hr]
    have his : i < hs.length := by omega
    have hsi : hs[i] = r.l.head? := by subst hhs; simp [headsR, hr]
    have hstep : af (i + 1) = stepL hs m (af i) r.l.head? := by
      rw [haf]
      show (hs.take (i + 1)).foldl (stepL hs m) none = _
      rw [List.take_succ_eq_append_getElem his, List.foldl_append, hsi]; rfl
    obtain ⟨rp, rA, rc, rl⟩ := r
    rcases rl with _ | ⟨y, rl⟩
    · have hstep : af (i + 1) = af i := hstep
      simp only [rV] at hri
      simp [-doCall, doCall_eq, d0, d1, d6, d7, d8, dm, dx, hil, hic, hcl, hri, e3]
      subst hI
      exact ⟨n - (i + 1), by omega, i + 1, rfl, by omega, by simp [d0], by simp [d1], by simp [d6, hstep], by simp [d7, hstep], by simp, by simp [dm], by simp [dx]⟩
    · simp only [rV] at hri
      have c70y := c70 y
      by_cases hv : m ≤ votesL hs y
      · cases ha : af i with
        | none =>
          have hstep : af (i + 1) = some y := by rw [hstep, ha]; show (if m ≤ votesL hs y then _ else _) = _; rw [if_pos hv]
          rw [ha] at d6 d7
          simp [-doCall, doCall_eq, d0, d1, d6, d7, d8, dm, dx, hil, hic, hcl, hri, uL_cons, e3, hfz, c70y, hv]
          subst hI
          exact ⟨n - (i + 1), by omega, i + 1, rfl, by omega, by simp [d0], by simp [d1], by simp [hstep], by simp [hstep], by simp, by simp [dm], by simp [dx]⟩
        | some x =>
          rw [ha] at d6 d7
          by_cases hyx : y < x
          · have hstep : af (i + 1) = some y := by rw [hstep, ha]; show (if m ≤ votesL hs y then (if y < x then some y else some x) else _) = _; rw [if_pos hv, if_pos hyx]
            simp [-doCall, doCall_eq, d0, d1, d6, d7, d8, dm, dx, hil, hic, hcl, hri, uL_cons, e3, hfz, c70y, hv, hyx]
            subst hI
            exact ⟨n - (i + 1), by omega, i + 1, rfl, by omega, by simp [d0], by simp [d1], by simp [hstep], by simp [hstep], by simp, by simp [dm], by simp [dx]⟩
          · have hstep : af (i + 1) = some x := by rw [hstep, ha]; show (if m ≤ votesL hs y then (if y < x then some y else some x) else _) = _; rw [if_pos hv, if_neg hyx]
            simp [-doCall, doCall_eq, d0, d1, d6, d7, d8, dm, dx, hil, hic, hcl, hri, uL_cons, e3, hfz, c70y, hv, hyx]
            subst hI
            exact ⟨n - (i + 1), by omega, i + 1, rfl, by omega, by simp [d0], by simp [d1], by simp [d6, hstep], by simp [d7, hstep], by simp, by simp [dm], by simp [dx]⟩
      · have hstep : af (i + 1) = af i := by rw [hstep]; show (if m ≤ votesL hs y then _ else _) = _; rw [if_neg hv]
        simp [-doCall, doCall_eq, d0, d1, d6, d7, d8, dm, dx, hil, hic, hcl, hri, uL_cons, e3, hfz, c70y, hv]
        subst hI
        exact ⟨n - (i + 1), by omega, i + 1, rfl, by omega, by simp [d0], by simp [d1], by simp [d6, hstep], by simp [d7, hstep], by simp, by simp [dm], by simp [dx]⟩
  · have hin : i = n := by omega
    subst hin
    simp [d0, d1, d6, d7, d8, dm, dx]
theorem ptrsL_ownR (ls : List (List Nat)) : ptrsL (ls.map ownR) = [] := by
  induction ls with
  | nil => rfl
  | cons l ls ih =>
    show ptrs (ownR l) ++ ptrsL (ls.map ownR) = []
    rw [ih]; simp [ownR, ptrs, nil_uL]
theorem ptrsL_repR (r : RD) (n : Nat) : ptrsL (List.replicate n (rV r)) = [] := by
  induction n with
  | zero => rfl
  | succ n ih =>
    rw [List.replicate_succ]
    show ptrs (rV r) ++ ptrsL (List.replicate n (rV r)) = []
    rw [ih]; simp [rV, ptrs, nil_uL]
theorem ptrsL_eachR (n : Nat) (rs : List RD) : ptrsL (rs.map fun r => eachRow n r n) = [] := by
  induction rs with
  | nil => rfl
  | cons r rs ih =>
    show ptrs (eachRow n r n) ++ ptrsL (rs.map fun r => eachRow n r n) = []
    rw [ih]; simp [eachRow, ptrs, ptrsL_repR]
set_option maxHeartbeats 2000000 in
theorem each68 (pm : Bool) (A : Option Addr) (cap : Nat) (vs : List Nat) (hl : vs.length ≤ 1000) : AnsN 1101 Tryd.prog H14 68 [.im pm A cap vs.length (uL vs)] (.own .nil 0 vs.length ((one1 vs).map ownR)) := by
  refine AnsN.gen (fn := Tryd.f68) (by rfl) Tryd.func68 rfl (by rfl) (by rw [ptrs]; exact ptrsL_ownR _) fun k hk nx => ?_
  obtain ⟨n, hn⟩ : ∃ n, vs.length = n := ⟨_, rfl⟩
  rw [hn]
  obtain ⟨I, hI⟩ : ∃ I : Nat → St → Prop, I = fun q D => ∃ (i : Nat) (L : List V), q = n - i ∧ i ≤ n ∧ L = ((one1 vs).take i).map ownR ∧ D.s 0 = .im pm A cap n (uL vs) ∧ D.s 3 = .own .nil 0 i L ∧ D.s 4 = .int .i64 (i : Int) ∧ D.m = [] ∧ D.nx = nx := ⟨_, rfl⟩
  simp [entryS]
  refine EvP.loop I (n := n) (by rw [hI]; exact ⟨0, [], by simp, by simp, rfl, by simp⟩) (by omega) fun q D hD => ?_
  rw [hI] at hD
  obtain ⟨i, L, rfl, hi, hL, d0, d3, d4, dm, dx⟩ := hD
  have h1l : (one1 vs).length = n := by rw [one1_length, hn]
  have hLl : L.length = i := by rw [hL, List.length_map, List.length_take, h1l]; omega
  by_cases hil : i < n
  · have e3 := wrapi (x := (i : Int) + 1) (by omega) (by omega)
    have hiv : i < vs.length := by omega
    have hu : (uL vs)[i]'(by simp [uL]; omega) = .int .u64 ((vs[i] : Nat) : Int) := by simp [uL]
    obtain ⟨y, hy⟩ : ∃ y, vs[i] = y := ⟨_, rfl⟩
    rw [hy] at hu
    have f1 : (i + 1) * 24 ≤ 140737488355328 := by omega
    have f2 : i ≤ 140737488355327 := by omega
    have hnext : ((one1 vs).take (i + 1)).map ownR = L ++ [.own .nil 0 1 [.int .u64 (y : Int)]] := by
      rw [List.take_succ_eq_append_getElem (by rw [h1l]; exact hil), List.map_append, ← hL]
      simp [one1, ownR, uL, hy]
    simp [d0, d3, d4, dm, dx, hil, hn, hu, hLl, f1, f2, e3]
    subst hI
    exact ⟨n - (i + 1), by omega, i + 1, _, rfl, by omega, hnext.symm, by simp [d0], by simp, by simp, by simp [dm], by simp [dx]⟩
  · have hin : i = n := by omega
    subst hin
    rw [← h1l, List.take_length] at hL
    simp [d0, d3, d4, dm, dx, hL]
set_option maxHeartbeats 2000000 in
theorem alike67 (pm : Bool) (A : Option Addr) (cap : Nat) (rs : List RD) (hl : rs.length ≤ 1000) : AnsN 1101 Tryd.prog H14 67 [.im pm A cap rs.length (rsV rs)] (.own .nil 0 rs.length (rs.map fun r => eachRow rs.length r rs.length)) := by
  refine AnsN.gen (fn := Tryd.f67) (by rfl) Tryd.func67 rfl (by rfl) (by rw [ptrs]; exact ptrsL_eachR _ _) fun k hk nx => ?_
  obtain ⟨n, hn⟩ : ∃ n, rs.length = n := ⟨_, rfl⟩
  obtain ⟨cs, hcs⟩ : ∃ cs, rsV rs = cs := ⟨_, rfl⟩
  have hcl : cs.length = n := by rw [← hcs]; simp [hn]
  rw [hn, hcs]
  obtain ⟨I, hI⟩ : ∃ I : Nat → St → Prop, I = fun q D => ∃ (i : Nat) (L : List V), q = n - i ∧ i ≤ n ∧ L = (rs.take i).map (fun r => eachRow n r n) ∧ D.s 0 = .im pm A cap n cs ∧ D.s 3 = .own .nil 0 i L ∧ D.s 4 = .int .i64 (i : Int) ∧ D.m = [] ∧ D.nx = nx := ⟨_, rfl⟩
  simp [entryS]
  refine EvP.loop I (n := n) (by rw [hI]; exact ⟨0, [], by simp, by simp, rfl, by simp⟩) (by omega) fun q D hD => ?_
  rw [hI] at hD
  obtain ⟨i, L, rfl, hi, hL, d0, d3, d4, dm, dx⟩ := hD
  have hLl : L.length = i := by rw [hL, List.length_map, List.length_take, hn]; omega
  by_cases hil : i < n
  · have e3 := wrapi (x := (i : Int) + 1) (by omega) (by omega)
    have hir : i < rs.length := by omega
    have hic : i < cs.length := by omega
    obtain ⟨r, hr⟩ : ∃ r, rs[i] = r := ⟨_, rfl⟩
    have hri : cs[i] = rV r := by subst hcs; rw [rs_get rs i hir, hr]
    have f1 : (i + 1) * 24 ≤ 140737488355328 := by omega
    have f2 : i ≤ 140737488355327 := by omega
    have hnext : (rs.take (i + 1)).map (fun r => eachRow n r n) = L ++ [eachRow n r n] := by
      rw [List.take_succ_eq_append_getElem hir, List.map_append, ← hL]
      simp [hr]
    obtain ⟨J, hJ⟩ : ∃ J : Nat → St → Prop, J = fun q D => ∃ (j : Nat) (R : List V), q = n - j ∧ j ≤ n ∧ R = List.replicate j (rV r) ∧ D.s 0 = .im pm A cap n cs ∧ D.s 3 = .own .nil 0 i L ∧ D.s 4 = .int .i64 (i : Int) ∧ D.s 5 = .own .nil 0 j R ∧ D.s 6 = .int .i64 (j : Int) ∧ D.m = [] ∧ D.nx = nx := ⟨_, rfl⟩
    simp [d0, d3, d4, dm, dx, hil]
    refine EvP.loop J (n := n) (by rw [hJ]; exact ⟨0, [], by simp, by simp, rfl, by simp [d0, d3, d4]⟩) (by omega) fun q D hD => ?_
    rw [hJ] at hD
    obtain ⟨j, R, rfl, hj, hR, d0, d3, d4, d5, d6, dm, dx⟩ := hD
    have hRl : R.length = j := by rw [hR, List.length_replicate]
    by_cases hjl : j < n
    · have e4 := wrapi (x := (j : Int) + 1) (by omega) (by omega)
      have g1 : (j + 1) * 24 ≤ 140737488355328 := by omega
      have g2 : j ≤ 140737488355327 := by omega
      have hnx : List.replicate (j + 1) (rV r) = R ++ [rV r] := by rw [List.replicate_succ', hR]
      simp only [rV] at hri
      simp [d0, d3, d4, d5, d6, dm, dx, hil, hjl, hic, hcl, hri, hRl, g1, g2, e4]
      subst hJ
      exact ⟨n - (j + 1), by omega, j + 1, _, rfl, by omega, hnx.symm, by simp [d0], by simp [d3], by simp [d4], by simp [rV], by simp, by simp [dm], by simp [dx]⟩
    · have hje : j = n := by omega
      subst hje
      simp [d0, d3, d4, d5, d6, dm, dx, hLl, f1, f2, e3]
      subst hI
      exact ⟨j - (i + 1), by omega, i + 1, _, rfl, by omega, hnext.symm, by simp [d0], by simp [eachRow, hR], by simp, by simp [dm], by simp [dx]⟩
  · have hin : i = n := by omega
    subst hin
    rw [← hn, List.take_length, hn] at hL
    simp [d0, d3, d4, dm, dx, hL]
end Go.Abs
end
set_option linter.unusedVariables false
noncomputable section
namespace Go.Abs
open Go Go.Proofs
set_option maxRecDepth 100000
structure NetQ (N b : Nat) (tb : List (Nat × Box)) (s : Scn) (tp : List Nat) (σ : NetS) : Prop where
  I : NetI N b σ tb
  s : σ.scn = s
  tp : σ.tp = tp
def rsent (σ : NetS) (n : Nat) (L : List (List Nat)) : NetS := sentS lnW (saidE σ n L) n σ
section
variable {N b n t : Nat} {tb : List (Nat × Box)} {s : Scn} {tp : List Nat} {σ : NetS}
theorem NetQ.sent (h : NetQ N b tb s tp σ) (hn : s.n = (n : Int)) (L : List (List Nat)) : NetQ N b tb s tp (rsent σ n L) ∧ (rsent σ n L).round = σ.round + 1 := by
  obtain ⟨h1, h2, h3, h4⟩ := like_sentS lnW (saidE σ n L) n σ
  exact ⟨⟨h.I.sent _ _ (by rw [h.s, hn]), h1.trans h.s, h2.trans h.tp⟩, h4⟩
theorem NetQ.said (h : NetQ N b tb s tp σ) (hn : s.n = (n : Int)) {L : List (List Nat)} (hL : L.length = n) (hok : LsOk s.p L) : MsOk s.p n (saidE σ n L) := by
  have := h.I.said_ok (n := n) (out := eachL n L) (eachL_ok hL (by rw [h.s]; exact hok))
  rwa [h.s] at this
end
section
variable (n t k : Nat) (a : Ph)
def rfA : List (List (List Nat)) := saidE a.σ n (one1 a.vs)
def rf1 : NetS := rsent a.σ n (one1 a.vs)
def rfB : List (List (List Nat)) := saidE (rf1 n a) n (prL n t (rfA n a))
def rf2 : NetS := rsent (rf1 n a) n (prL n t (rfA n a))
def rfV : List Nat := vaL n t (rfB n t a) a.vs
def rfC : List (List (List Nat)) := saidE (rf2 n t a) n (kiL n k (vF (rfV n t a) k))
def rf3 : NetS := rsent (rf2 n t a) n (kiL n k (vF (rfV n t a) k))
def rfL (w : Nat) : Bool := (leastS n (hS (rfB n t a) w) (t + 1)).isSome && decide (n - t ≤ votes n (hS (rfB n t a) w) (val2 n t (vF a.vs) (hS (rfB n t a)) w))
def rfO (w : Nat) : Nat := if rfL n t a w then val2 n t (vF a.vs) (hS (rfB n t a)) w else (hS (rfC n t k a) w k).headD 0
def phaseR : Ph := ⟨rf3 n t k a, (List.range n).map (rfO n t k a)⟩
end
structure PhQ (N b n t : Nat) (tb : List (Nat × Box)) (s : Scn) (tp : List Nat) (a : Ph) : Prop where
  o : NetQ N b tb s tp a.σ
  l : a.vs.length = n
  v : ∀ x ∈ a.vs, x < s.p
structure PhG (N b n t k : Nat) (tb : List (Nat × Box)) (s : Scn) (tp : List Nat) (a : Ph) : Prop where
  p0 : 0 < s.p
  L1 : LsOk s.p (one1 a.vs)
  A : MsOk s.p n (rfA n a)
  o1 : NetQ N b tb s tp (rf1 n a)
  r1 : (rf1 n a).round = a.σ.round + 1
  L2 : LsOk s.p (prL n t (rfA n a))
  B : MsOk s.p n (rfB n t a)
  o2 : NetQ N b tb s tp (rf2 n t a)
  r2 : (rf2 n t a).round = a.σ.round + 2
  L3 : LsOk s.p (kiL n k (vF (rfV n t a) k))
  C : MsOk s.p n (rfC n t k a)
  o3 : NetQ N b tb s tp (rf3 n t k a)
  r3 : (rf3 n t k a).round = a.σ.round + 3
  O : ∀ w, rfO n t k a w < s.p
section
variable {N b n t : Nat} {tb : List (Nat × Box)} {s : Scn} {tp : List Nat} {a : Ph}
theorem PhQ.facts (h : PhQ N b n t tb s tp a) (hn : s.n = (n : Int)) (htn : t < n) (k : Nat) : PhG N b n t k tb s tp a := by
  have p0 : 0 < s.p := by have := h.o.I.p0; rwa [h.o.s] at this
  have L1 := one1_ok h.v
  have A := h.o.said hn (L := one1 a.vs) (by simp [h.l]) L1
  obtain ⟨o1, r1⟩ := h.o.sent hn (one1 a.vs)
  have L2 := prL_ok (t := t) p0 htn (sOk_of A)
  have B := o1.said hn (by simp) L2
  obtain ⟨o2, r2⟩ := o1.sent hn (prL n t (rfA n a))
  have V : ∀ x ∈ rfV n t a, x < s.p := fun x hx => by
    obtain ⟨w, _, rfl⟩ := List.mem_map.1 hx
    exact val2_lt p0 (sOk_of B) (vF_lt p0 h.v) w
  have L3 := kiL_ok (n := n) (k := k) (vF_lt p0 V k)
  have C := o2.said hn (by simp) L3
  obtain ⟨o3, r3⟩ := o2.sent hn (kiL n k (vF (rfV n t a) k))
  have q2 : (rf2 n t a).round = a.σ.round + 2 := by
    have e1 : (rf1 n a).round = a.σ.round + 1 := r1
    have e2 : (rf2 n t a).round = (rf1 n a).round + 1 := r2
    omega
  have q3 : (rf3 n t k a).round = a.σ.round + 3 := by
    have e3 : (rf3 n t k a).round = (rf2 n t a).round + 1 := r3
    omega
  refine ⟨p0, L1, A, o1, r1, L2, B, o2, q2, L3, C, o3, q3, fun w => ?_⟩
  unfold rfO
  split
  · exact val2_lt p0 (sOk_of B) (vF_lt p0 h.v) w
  · cases e : hS (rfC n t k a) w k with
    | nil => exact p0
    | cons y l =>
      have hy : y ∈ hS (rfC n t k a) w k := by rw [e]; exact List.mem_cons_self
      exact hS_ok p0 (sOk_of C) w k y hy
theorem PhQ.phase (h : PhQ N b n t tb s tp a) (hn : s.n = (n : Int)) (htn : t < n) (k : Nat) : PhQ N b n t tb s tp (phaseR n t k a) ∧ (phaseR n t k a).σ.round = a.σ.round + 3 := by
  have f := h.facts hn htn k
  exact ⟨⟨f.o3, by show ((List.range n).map _).length = n; rw [List.length_map, List.length_range], fun x hx => by
    obtain ⟨w, _, rfl⟩ := List.mem_map.1 hx
    exact f.O w⟩, f.r3⟩
end
theorem leastL_eq (S : List (List (List Nat))) (w n m : Nat) : leastL ((colS S w n).map List.head?) m = leastS n (hS S w) m := by
  unfold leastL leastS
  have h1 : ((colS S w n).map List.head?).filterMap id = (List.range n).filterMap fun f => (hS S w f).head? := by
    rw [colS_heads, List.filterMap_map]; rfl
  rw [h1]
  congr 1
  refine List.filter_congr fun x _ => ?_
  rw [votesL_eq]
theorem headsR_rz (ls : List (List Nat)) : headsR (ls.map rz) = ls.map List.head? := by unfold headsR; rw [List.map_map]; rfl
theorem least_call {S : List (List (List Nat))} {n w m k : Nat} (h13 : n ≤ 13) (hm : m ≤ 1000) (hk : 1103 ≤ k) (bb : Bool) (D : St) (dst : Option Nat) :
    doCallB H14 (evCall Tryd.prog H14 k) 69 false [.im false none 0 n (frzL false (frzL bb ((colS S w n).map cpV))), .int .i64 (m : Int)] D dst = some (D.lay dst (.tup [.int .u64 (((leastS n (hS S w) m).getD 0 : Nat) : Int), .bool (leastS n (hS S w) m).isSome])) := by
  have hl : ((colS S w n).map rz).length = n := by rw [List.length_map, colS_length]
  have h := callP (least69 false none 0 ((colS S w n).map rz) (by rw [hl]; omega) m hm) (k := k) hk (by simp [ptrsL, ptrs]) rfl D dst
  rw [hl, headsR_rz, leastL_eq] at h
  rw [frz_cpV]
  exact h
theorem votes_call {S : List (List (List Nat))} {n w x k : Nat} (h13 : n ≤ 13) (hk : 1101 ≤ k) (bb : Bool) (D : St) (dst : Option Nat) :
    doCallB H14 (evCall Tryd.prog H14 k) 70 false [.im false none 0 n (frzL false (frzL bb ((colS S w n).map cpV))), .int .u64 (x : Int)] D dst = some (D.lay dst (.int .i64 (votes n (hS S w) x : Nat))) := by
  have hl : ((colS S w n).map rz).length = n := by rw [List.length_map, colS_length]
  have h := callP (votes70 false none 0 ((colS S w n).map rz) (by rw [hl]; omega) x) (k := k) hk (by simp [ptrsL, ptrs]) rfl D dst
  rw [hl, headsR_rz, votesL_eq] at h
  rw [frz_cpV]
  exact h
def eaV (n : Nat) (L : List (List Nat)) : List V := (L.map rz).map fun r => eachRow n r n
theorem alike_call {L : List (List Nat)} {n k : Nat} (hL : L.length = n) (h13 : n ≤ 13) (hk : 1101 ≤ k) (bb : Bool) (D : St) (dst : Option Nat) :
    doCallB H14 (evCall Tryd.prog H14 k) 67 false [.im false none 0 n (frzL false (frzL bb (L.map ownR)))] D dst = some (D.lay dst (.own .nil 0 n (eaV n L))) := by
  have hl : (L.map rz).length = n := by rw [List.length_map, hL]
  have h := callP (alike67 false none 0 (L.map rz) (by rw [hl]; omega)) (k := k) hk (by simp [ptrsL, ptrs, ptrsL_rsV]) rfl D dst
  rw [hl] at h
  rw [frz_ownR]
  exact h
theorem frz_each {n : Nat} {rs : List RD} (hl : rs.length = n) (b : Bool) : frzL false (frzL b (rs.map fun r => eachRow n r n)) = msV (eachM n rs) := by
  have h := eachC_full hl b
  unfold eachC at h
  rwa [Nat.sub_self, List.replicate_zero, List.append_nil, ← hl, List.take_length, hl] at h
section
variable {N b g nx n k : Nat} {σ : NetS} {tb O1 O2 : List (Nat × Box)} {bx : Box}
theorem call59 (I : NetI N b σ tb) (hr : σ.round < 1000) (hn : σ.scn.n = (n : Int)) {L : List (List Nat)} (hL : L.length = n) (hok : LsOk σ.scn.p L) (hO : O1 ++ O2 = [(nx, bx)]) (h : ∀ e ∈ (b, (⟨g, netC σ⟩ : Box)) :: tb, e.1 < nx) (hk : max N 100 + 1 ≤ k) (bb : Bool) (s : Nat → V) (dst : Option Nat) :
    doCallB H14 (evCall Tryd.prog H14 k) 59 false [.bptr b 0, .im false none 0 n (frzL false (frzL bb (eaV n L)))] ⟨s, O1 ++ ((b, ⟨g, netC σ⟩) :: tb) ++ O2, nx + 1⟩ dst = some ((St.mk (fun i => killB (b :: σ.tp) (nx + 1) (s i)) ([(nx, bx)] ++ ((b, ⟨g, netC (rsent σ n L)⟩) :: tb)) (nx + 1)).lay dst (inV (saidE σ n L) n)) := by
  have hRl : (L.map rz).length = n := by rw [List.length_map, hL]
  have hML : (eachM n (L.map rz)).length = n := by simp [eachM, hL]
  have hmo : MsOk σ.scn.p n (mls (eachM n (L.map rz))) := by rw [mls_each, rz_l]; exact eachL_ok hL hok
  have e := I.send44 (g := g) hr false none 0 (eachM n (L.map rz)) (by rw [hML, hn]) (by rw [hML]; exact hmo)
  rw [hML, mls_each, rz_l] at e
  have hm : ∀ t ∈ b :: σ.tp, t < nx := fun t ht => by
    rcases List.mem_cons.1 ht with rfl | ht
    · exact h _ List.mem_cons_self
    · obtain ⟨e, he, rfl⟩ := List.mem_map.1 (I.hT.ids.mem_iff.2 ht)
      exact h e (List.mem_cons_of_mem _ he)
  have hd : ∀ e ∈ O1 ++ O2, e.1 ∉ b :: σ.tp := fun e he hc => by
    rw [hO, List.mem_singleton] at he
    subst he
    exact Nat.lt_irrefl _ (hm _ hc)
  have c := netCall (σ' := rsent σ n L) (O1 := O1) (O2 := O2) (k := k) I.hT I.hl hd (like_sentS _ _ _ _).2.1 e hk (by simp [ptrsL, ptrs]) rfl (nx := nx + 1) (fun e he => Nat.lt_succ_of_lt (h e he)) s dst
  rw [hO] at c
  unfold eaV
  rw [frz_each hRl]
  exact c
end
end Go.Abs
end
