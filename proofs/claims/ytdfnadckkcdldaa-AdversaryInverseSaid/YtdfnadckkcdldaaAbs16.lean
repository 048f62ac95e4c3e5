/- Joined: AbsUL. -/
import Derived.Test.YtdfnadckkcdldaaAbs15
set_option linter.all false
/- The seat of privitylaw13: AdversaryLocality. -/
set_option linter.unusedVariables false
noncomputable section
namespace Go.Abs
open Go Go.Proofs

@[simp] theorem z32 : zeroT Try.prog 32 = some [.int .u64 0, .int .i64 0, .int .i64 0, .own .nil 0 0 [], .own .nil 0 0 [], .own .nil 0 0 [], .int .i64 0, .own .nil 0 0 [], .own .nil 0 0 []] := by kernel_rfl
/-- Rows of the call's own. -/
def ownR (R : List RD) : V := .own .nil 0 R.length (rsV R)
def mixD (R : List RD) : MD := ⟨false, none, 0, R.map lent⟩
theorem frzL_own (Rs : List (List RD)) : frzL false (Rs.map ownR) = msV (Rs.map mixD) := by
  induction Rs with
  | nil => rfl
  | cons R l ih =>
    rw [List.map_cons, List.map_cons]
    show frz false (ownR R) :: frzL false (l.map ownR) = mV (mixD R) :: msV (l.map mixD)
    rw [ih]
    simp [ownR, frz, mV, mixD]
theorem cellIn_own (Rs : List (List RD)) : (Rs.map ownR).all cellIn = true := by
  induction Rs with
  | nil => rfl
  | cons R l ih => rw [List.map_cons, List.all_cons, ih]; rfl
theorem ptrsL_own (Rs : List (List RD)) : ptrsL (Rs.map ownR) = [] := by
  induction Rs with
  | nil => rfl
  | cons R l ih => rw [List.map_cons]; simp [ptrsL, ownR, ptrs, ih]
theorem rsV_set (R : List RD) (j : Nat) (x : RD) : (rsV R).set j (rV x) = rsV (R.set j x) := by
  unfold rsV; rw [List.map_set]
/-- Row R lies between the true one and the other's, as far as j has come. -/
def Mix (c : List Int) (i j : Nat) (a b R : List RD) : Prop := R.length = a.length ∧ ∀ q, q < a.length → R[q]?.map (·.l) = if q < j ∧ ¬ ((i : Int) + 1 ∈ c) ∧ ¬ ((q : Int) + 1 ∈ c) then b[q]?.map (·.l) else a[q]?.map (·.l)
theorem Mix.zero {c : List Int} {i : Nat} {a b : List RD} : Mix c i 0 a b a := ⟨rfl, fun q h => by simp⟩
theorem Mix.skip {c : List Int} {i j : Nat} {a b R : List RD} (h : Mix c i j a b R) (hc : ¬ (¬ ((i : Int) + 1 ∈ c) ∧ ¬ ((j : Int) + 1 ∈ c))) : Mix c i (j + 1) a b R := ⟨h.1, fun q hq => by
  rw [h.2 q hq]
  by_cases hj : q = j
  · subst hj
    rw [if_neg (fun h => hc h.2), if_neg (fun h => hc h.2)]
  · have : (q < j ∧ ¬ ((i : Int) + 1 ∈ c) ∧ ¬ ((q : Int) + 1 ∈ c)) ↔ (q < j + 1 ∧ ¬ ((i : Int) + 1 ∈ c) ∧ ¬ ((q : Int) + 1 ∈ c)) := by
      constructor
      · rintro ⟨h1, h2⟩; exact ⟨by omega, h2⟩
      · rintro ⟨h1, h2⟩; exact ⟨by omega, h2⟩
    simp only [this]⟩
theorem Mix.step {c : List Int} {i j : Nat} {a b R : List RD} (h : Mix c i j a b R) (hc : ¬ ((i : Int) + 1 ∈ c) ∧ ¬ ((j : Int) + 1 ∈ c)) (hj : j < a.length) (hb : j < b.length) : Mix c i (j + 1) a b (R.set j b[j]) := ⟨by rw [List.length_set]; exact h.1, fun q hq => by
  by_cases hqj : q = j
  · subst hqj
    rw [if_pos ⟨by omega, hc⟩]
    simp [h.1, hj, hb]
  · rw [List.getElem?_set_ne (Ne.symm hqj), h.2 q hq]
    have : (q < j ∧ ¬ ((i : Int) + 1 ∈ c) ∧ ¬ ((q : Int) + 1 ∈ c)) ↔ (q < j + 1 ∧ ¬ ((i : Int) + 1 ∈ c) ∧ ¬ ((q : Int) + 1 ∈ c)) := by
      constructor
      · rintro ⟨h1, h2⟩; exact ⟨by omega, h2⟩
      · rintro ⟨h1, h2⟩; exact ⟨by omega, h2⟩
    simp only [this]⟩
theorem sh_arg30 {x : V} (h : ArgSh Try.prog 8 30 x) : ∃ A cap, ∃ l : List MD, l.length ≤ maxLen ∧ (∀ m ∈ l, m.l.length ≤ maxLen) ∧ x = .im false A cap l.length (msV l) := by
  unfold ArgSh at h
  rw [Try.underlying30] at h
  obtain ⟨A, cap, l, h1, h2, h3⟩ := sh_msgs h
  exact ⟨A, cap, l, h1, fun m hm => (h2 m hm).1, by simpa using h3⟩
set_option maxHeartbeats 4000000 in
set_option maxRecDepth 100000 in
theorem law7 (z : Ask) (hz : AskOk z) (hk64 : ∀ x ∈ z.w.devs, x.k < 18446744073709551616) (opm : Bool) (oA : Option Addr) (ocap : Nat) (ol : List MD) (ho1 : ol.length ≤ maxLen) (ho2 : ∀ x ∈ ol, x.l.length ≤ maxLen) : Ans Try.prog H13 7 [askV z, .im opm oA ocap ol.length (msV ol)] (.bool true) := by
  have hml : maxLen = 9223372036854775807 := rfl
  obtain ⟨b, ⟨N0, h0⟩, hb⟩ := may10 (lentA z) (lentA_ok hz)
  obtain ⟨zO, hzO⟩ : ∃ zO : Ask, zO = ⟨z.w, 0, opm, oA, ocap, ol, z.apm, z.aA, z.acap, z.al⟩ := ⟨_, rfl⟩
  have hzOok : AskOk zO := by rw [hzO]; exact ⟨hz.w, ho1, ho2, hz.al⟩
  obtain ⟨b', ⟨N0', h0'⟩, hb'⟩ := may10 (lentA zO) (lentA_ok hzOok)
  obtain ⟨N1, h1⟩ := awake11
  subst hzO
  simp only [askV, askL, lentA, lentS, List.length_map] at h0 h0'
  by_cases hbb : (b && b') = true
  case neg =>
    refine Ans.of (fn := Try.f7) (t := 4) (by rfl) Try.func7 rfl rfl (by rfl) (by rfl) ⟨N0 + N0' + N1, fun k hk nx => ?_⟩
    have c0 := h0 k (by omega)
    have c0' := h0' k (by omega)
    have c1 := h1 k (by omega)
    refine EvP.seq (EvP.region ?_)
    simp [entryS, askV, askL]
    refine EvP.seq (EvP.seq (EvP.region ?_))
    cases b with
    | false =>
      simp [c0]
      refine EvP.cond (t := true) (by simp) (fun _ => ?_) (fun h => by cases h)
      refine EvP.seq (EvP.region ?_)
      simp [c1]
      refine EvP.ret ?_
      simp
    | true =>
      cases b' with
      | true => exact absurd rfl hbb
      | false =>
        simp [c0, c0']
        refine EvP.cond (t := true) (by simp) (fun _ => ?_) (fun h => by cases h)
        refine EvP.seq (EvP.region ?_)
        simp [c1]
        refine EvP.ret ?_
        simp
  case pos =>
    have hbt : b = true := by cases b <;> simp_all
    have hbt' : b' = true := by cases b' <;> simp_all
    subst hbt hbt'
    have hA := hb rfl
    have hO := hb' rfl
    obtain ⟨q, hq⟩ := prime_pq hA.w.par.1
    obtain ⟨N2, h2⟩ := msgs16 (lentS z.w) (lentS_ok hz.w) hq hA.w.devs hk64 z.rd
    have h18 := fun v => corrupt18 (lentS z.w) (lentS_ok hz.w) v
    have hn13 : (lentS z.w).n ≤ 13 := hA.w.par.2.2.1
    have hms : ((z.ms.map lentM).length : Int) = (lentS z.w).n := hA.n
    have hmok : MsOk (lentS z.w).p (z.ms.map lentM).length (mls (z.ms.map lentM)) := hA.msOk
    have homs : ((ol.map lentM).length : Int) = (lentS z.w).n := hO.n
    have homok : MsOk (lentS z.w).p (ol.map lentM).length (mls (ol.map lentM)) := hO.msOk
    obtain ⟨hp1, hq1, hq2⟩ := pq_facts hq
    have hp0 : 0 < (lentS z.w).p := by
      have : 2 ^ 5 ≤ 2 ^ q := Nat.pow_le_pow_right (by omega) hq1
      have hp1 : (lentS z.w).p + 1 = 2 ^ q := hp1
      omega
    have hcl : z.w.corrupt.length ≤ 1000 := by
      have q1 := hA.w.coal.1
      have q2 := hA.w.par.2
      simp [lentA, lentS] at q1 q2
      omega
    rw [mls_lent] at hmok homok
    simp only [List.length_map] at hms homs hmok homok
    obtain ⟨n, hnz⟩ : ∃ n : Nat, z.ms.length = n := ⟨_, rfl⟩
    have hnn : z.w.n = (n : Int) := by have : (z.ms.length : Int) = z.w.n := hms; omega
    have hno : ol.length = n := by have : (ol.length : Int) = z.w.n := homs; omega
    have hn1000 : n ≤ 13 := by have : z.w.n ≤ 13 := hn13; omega
    rw [hnz] at hmok
    rw [hno] at homok
    have hMl : ∀ i (h : i < z.ms.length), z.ms[i].l.length = n := fun i h => (hmok.rows rfl).2 z.ms[i] (List.getElem_mem _) |>.1
    have hOl : ∀ i (h : i < ol.length), ol[i].l.length = n := fun i h => (homok.rows rfl).2 ol[i] (List.getElem_mem _) |>.1
    refine Ans.of (fn := Try.f7) (t := 4) (by rfl) Try.func7 rfl rfl (by rfl) (by rfl) ⟨N0 + N0' + N1 + N2 + z.w.corrupt.length + 3004, fun k hk nx => ?_⟩
    have c0 := h0 k (by omega)
    have c0' := h0' k (by omega)
    have c1 := h1 k (by omega)
    have c18 := fun v => h18 v k (by simp [lentS]; omega) (nx + 1)
    have c16 := fun (A : Option Addr) (cap : Nat) (ms : List MD) (h1 : ms.length = n) (h2' : MsOk z.w.p n (mls ms)) => h2 false A cap ms (by rw [h1]; exact hnn.symm) hn13 (by rw [h1]; exact h2') k (by omega) (nx + 1)
    have hDev : ∀ x ∈ (lentS z.w).devs, DevP z.w.n x := hA.w.devs
    clear h0 h0' h1 h2 h18 hb hb' hA hO
    let KA : St → Prop := fun D => D.s 2 = .bptr nx 0 ∧ D.s 1 = .im opm oA ocap n (msV ol) ∧ D.m = [(nx, ⟨0, askL z⟩)] ∧ D.nx = nx + 1
    refine EvP.seqG KA (EvP.region ?_) ?_
    · simp [entryS, askV, askL, KA, hno]
    rintro D ⟨d2, d1, dm, dx⟩
    unfold askL at dm
    refine EvP.seqG KA (EvP.seq (EvP.region ?_)) ?_
    · rw [hno] at c0'
      simp [d1, d2, dm, dx, c0, c0']
      refine EvP.cond (t := false) (by simp) (fun h => by cases h) (fun _ => EvP.skip ?_)
      simp [d1, d2, dm, dx, askL, KA]
    rintro D ⟨d2, d1, dm, dx⟩
    unfold askL at dm
    refine EvP.seqG (fun D => KA D ∧ D.s 5 = .own .nil 0 0 []) (EvP.region ?_) ?_
    · simp [d1, d2, dm, dx, KA, askL]
    rintro D ⟨⟨d2, d1, dm, dx⟩, d5⟩
    unfold askL at dm
    refine EvP.seqG (fun D => KA D ∧ ∃ Rs : List (List RD), Rs.length = n ∧ (∀ q (h : q < n) (h2 : q < z.ms.length) (h3 : q < ol.length), ∃ R, Rs[q]? = some R ∧ Mix z.w.corrupt q n z.ms[q].l ol[q].l R) ∧ D.s 5 = .own .nil 0 n (Rs.map ownR)) (EvP.seq (EvP.region ?_)) ?_
    · simp [d1, d2, dm, dx, d5]
      refine EvP.block (EvP.loop (fun q D => ∃ (i : Nat) (Rs : List (List RD)), q = n - i ∧ i ≤ n ∧ Rs.length = i ∧ (∀ q (h : q < i) (h2 : q < z.ms.length) (h3 : q < ol.length), ∃ R, Rs[q]? = some R ∧ Mix z.w.corrupt q n z.ms[q].l ol[q].l R) ∧ D.s 5 = .own .nil 0 i (Rs.map ownR) ∧ D.s 6 = .int .i64 (i : Int) ∧ KA D) (n := n) ⟨0, [], by simp [d1, d2, dm, dx, d5, KA, askL]⟩ (by omega) ?_)
      rintro q D ⟨i, Rs, hqn, hi, hRl, hRs, d5, d6, d2, d1, dm, dx⟩
      simp only [liveOf13, clear_none]
      unfold askL at dm
      simp only [hnn, hnz] at dm
      refine EvP.seq (EvP.seq (EvP.region ?_))
      simp [d2, d6, dm]
      refine EvP.cond (t := decide (i < n)) (by simp) (fun h => EvP.skip ?_) (fun h => EvP.exit ?_)
      · have hlt : i < n := by simpa using h
        have hiz : i < z.ms.length := by omega
        have hio : i < ol.length := by omega
        have hMi := hMl i hiz
        have hOi := hOl i hio
        have hn24 : n * 24 ≤ 140737488355328 := by omega
        have hn0 : n ≤ 140737488355328 := by omega
        simp only [thenE_norm]
        let KI : St → Prop := fun D => KA D ∧ D.s 5 = .own .nil 0 i (Rs.map ownR) ∧ D.s 6 = .int .i64 (i : Int)
        refine EvP.seq (EvP.block (EvP.seqG (fun D => KI D ∧ D.s 7 = .own .nil 0 n (rsV z.ms[i].l)) (EvP.region ?_) ?_))
        · simp [d1, d2, d5, d6, dm, dx, hlt, hMi, hn24, hn0, KI, KA, askL, hnn, hnz]
          done
        rintro D ⟨⟨⟨d2, d1, dm, dx⟩, d5, d6⟩, d7⟩
        unfold askL at dm
        simp only [hnn, hnz] at dm
        refine EvP.seqG (fun D => KI D ∧ ∃ R, Mix z.w.corrupt i n z.ms[i].l ol[i].l R ∧ D.s 7 = .own .nil 0 n (rsV R)) (EvP.seq (EvP.region ?_)) ?_
        · simp [d1, d2, dm, dx, d5, d6, d7]
          refine EvP.block (EvP.loop (fun q D => ∃ (j : Nat) (R : List RD), q = n - j ∧ j ≤ n ∧ Mix z.w.corrupt i j z.ms[i].l ol[i].l R ∧ D.s 7 = .own .nil 0 n (rsV R) ∧ D.s 8 = .int .i64 (j : Int) ∧ KI D) (n := n) ⟨0, z.ms[i].l, by simp [d1, d2, dm, dx, d5, d6, d7, KI, KA, askL, hnn, hnz, Mix.zero]⟩ (by omega) ?_)
          rintro q D ⟨j, R, hqn, hj, hMix, d7, d8, ⟨d2, d1, dm, dx⟩, d5, d6⟩
          simp only [liveOf13, clear_none]
          unfold askL at dm
          simp only [hnn, hnz] at dm
          refine EvP.seq (EvP.seq (EvP.region ?_))
          simp [d2, d8, dm]
          refine EvP.cond (t := decide (j < n)) (by simp) (fun h => EvP.skip ?_) (fun h => EvP.exit ?_)
          · have hltj : j < n := by simpa using h
            simp only [thenE_norm]
            obtain ⟨t62, ht62⟩ : ∃ t : Bool, t = (!decide ((i : Int) + 1 ∈ z.w.corrupt) && !decide ((j : Int) + 1 ∈ z.w.corrupt)) := ⟨_, rfl⟩
            have ci := c18 ((i : Int) + 1)
            have cj := c18 ((j : Int) + 1)
            obtain ⟨bi, hbi⟩ : ∃ b : Bool, b = decide ((i : Int) + 1 ∈ z.w.corrupt) := ⟨_, rfl⟩
            obtain ⟨bj, hbj⟩ : ∃ b : Bool, b = decide ((j : Int) + 1 ∈ z.w.corrupt) := ⟨_, rfl⟩
            simp only [scV, scL, lentS, List.length_map, hnn] at ci cj
            rw [← hbi] at ci ht62
            rw [← hbj] at cj ht62
            have hwi : IntKind.i64.wrap ((i : Int) + 1) = (i : Int) + 1 := by rw [wrap_succ (by omega)]; simp
            have hwj : IntKind.i64.wrap ((j : Int) + 1) = (j : Int) + 1 := by rw [wrap_succ (by omega)]; simp
            refine EvP.seq (EvP.block (EvP.seqG (fun D => KI D ∧ D.s 7 = .own .nil 0 n (rsV R) ∧ D.s 8 = .int .i64 (j : Int) ∧ D.s 62 = .bool t62) (EvP.region ?_) ?_))
            · rw [ht62]
              cases bi <;> simp [d1, d2, d5, d6, d7, d8, dm, dx, ci, cj, hwi, hwj, KI, KA, askL, hnn, hnz]
              done
            rintro D ⟨⟨⟨d2, d1, dm, dx⟩, d5, d6⟩, d7, d8, d62⟩
            unfold askL at dm
            simp only [hnn, hnz] at dm
            have hRn : R.length = n := by rw [hMix.1]; exact hMi
            refine EvP.cond (t := t62) (by simp [d62]) (fun h => ?_) (fun h => EvP.skip ?_)
            · have hc : ¬ ((i : Int) + 1 ∈ z.w.corrupt) ∧ ¬ ((j : Int) + 1 ∈ z.w.corrupt) := by
                rw [h, hbi, hbj] at ht62
                simpa using ht62.symm
              have hjo : j < ol[i].l.length := by omega
              have hset : ∀ x : RD, (rsV R).set j (.im x.pm x.A x.cap x.l.length (uL x.l)) = rsV (R.set j x) := fun x => rsV_set R j x
              refine EvP.region ?_
              simp [d1, d2, d5, d6, d7, d8, dm, dx, hlt, hltj, hno, hOi, hRn, hset]
              refine EvP.region ?_
              simp [d1, d2, d5, d6, d7, d8, dm, dx, KI, KA, askL, hnn, hnz]
              exact ⟨_, by omega, j + 1, rfl, by omega, _, hMix.step hc (by omega) hjo, rfl, wrap_succ (by omega)⟩
            · have hc : ¬ (¬ ((i : Int) + 1 ∈ z.w.corrupt) ∧ ¬ ((j : Int) + 1 ∈ z.w.corrupt)) := by
                rw [h, hbi, hbj] at ht62
                intro hcc
                simp [hcc.1, hcc.2] at ht62
              simp
              refine EvP.region ?_
              simp [d1, d2, d5, d6, d7, d8, dm, dx, KI, KA, askL, hnn, hnz]
              exact ⟨_, by omega, j + 1, rfl, by omega, R, hMix.skip hc, rfl, wrap_succ (by omega)⟩
          · have hltj : j = n := by have : ¬ j < n := by simpa using h
                                    omega
            subst hltj
            simp [d1, d2, d5, d6, d7, d8, dm, dx, KI, KA, askL, hnn, hnz]
            exact ⟨R, hMix, rfl⟩
        rintro D ⟨⟨⟨d2, d1, dm, dx⟩, d5, d6⟩, R, hMix, d7⟩
        unfold askL at dm
        simp only [hnn, hnz] at dm
        have hRn : R.length = n := by rw [hMix.1]; exact hMi
        have hi24 : (i + 1) * 24 ≤ 140737488355328 := by omega
        have hi0 : i + 1 ≤ 140737488355328 := by omega
        have happ : Rs.map ownR ++ [.own .nil 0 n (rsV R)] = (Rs ++ [R]).map ownR := by simp [ownR, hRn]
        refine EvP.region ?_
        simp [d1, d2, d5, d6, d7, dm, dx, hRl, hi24, hi0, happ]
        refine EvP.region ?_
        simp [d1, d2, d5, d6, d7, dm, dx, KA, askL, hnn, hnz]
        refine ⟨_, by omega, i + 1, rfl, by omega, Rs ++ [R], by simp [hRl], fun q hq h2 h3 => ?_, ⟨rfl, by simp⟩, wrap_succ (by omega)⟩
        by_cases hqi : q = i
        · subst hqi
          exact ⟨R, by rw [List.getElem?_append_right (by omega), hRl]; simp, hMix⟩
        · rw [List.getElem?_append_left (by omega)]
          exact hRs q (by omega) (by omega) h3
      · have hlt : i = n := by have : ¬ i < n := by simpa using h
                               omega
        subst hlt
        simp [d1, d2, d5, d6, dm, dx, KA, askL, hnn, hnz]
        exact ⟨Rs, hRl, fun q hq h2 h3 => hRs q hq (by omega) h3, rfl⟩
    rintro D ⟨⟨d2, d1, dm, dx⟩, Rs, hRl, hRs, d5⟩
    unfold askL at dm
    simp only [hnn, hnz] at dm
    obtain ⟨Zm, hZm⟩ : ∃ Zm, Zm = mls (Rs.map mixD) := ⟨_, rfl⟩
    have hZc : ∀ i j, i < n → j < n → at2 Zm i j = if ¬ ((i : Int) + 1 ∈ z.w.corrupt) ∧ ¬ ((j : Int) + 1 ∈ z.w.corrupt) then at2 (mls ol) i j else at2 (mls z.ms) i j := fun i j hi hj => by
      obtain ⟨R, hR, hMix⟩ := hRs i hi (by omega) (by omega)
      have h1 := hMix.2 j (by rw [hMl i (by omega)]; exact hj)
      have e1 : at2 Zm i j = R[j]?.map (·.l) := by
        unfold at2; rw [hZm]; simp [mls, hR, mixD]
        cases R[j]? <;> rfl
      have e2 : at2 (mls ol) i j = ol[i].l[j]?.map (·.l) := by
        unfold at2; simp [mls, hno, hi]
      have e3 : at2 (mls z.ms) i j = z.ms[i].l[j]?.map (·.l) := by
        unfold at2; simp [mls, hnz, hi]
      rw [e1, e2, e3, h1]
      simp [hj]
    have hZl : Zm.length = n := by rw [hZm]; simp [mls, hRl]
    have hZr : ∀ i (h : i < Zm.length), Zm[i].length = n := fun i h => by
      obtain ⟨R, hR, hMix⟩ := hRs i (by omega) (by omega) (by omega)
      have hRi : ∃ h : i < Rs.length, Rs[i] = R := List.getElem?_eq_some_iff.1 hR
      obtain ⟨h', hRi⟩ := hRi
      have : Zm[i] = R.map (·.l) := by simp [hZm, mls, hRi, mixD]
      rw [this, List.length_map, hMix.1]; exact hMl i (by omega)
    have hZok : MsOk z.w.p n Zm := by
      refine ⟨hZl, fun l hl => ?_⟩
      obtain ⟨i, hi, rfl⟩ := List.getElem_of_mem hl
      refine ⟨hZr i hi, fun w hw => ?_⟩
      obtain ⟨j, hj, rfl⟩ := List.getElem_of_mem hw
      have hjn : j < n := by rw [← hZr i hi]; exact hj
      have e1 : at2 Zm i j = some Zm[i][j] := by unfold at2; simp [hi, hj]
      have hc := hZc i j (by omega) hjn
      rw [e1] at hc
      have fromM : ∀ X : List (List (List Nat)), MsOk z.w.p n X → some Zm[i][j] = at2 X i j → Zm[i][j].length ≤ 1000 ∧ ∀ y ∈ Zm[i][j], y < z.w.p := fun X hX he => by
        unfold at2 at he
        have hiX : i < X.length := by rw [hX.1]; omega
        rw [List.getElem?_eq_getElem hiX, Option.getD_some] at he
        exact (hX.2 _ (List.getElem_mem hiX)).2 _ (List.mem_of_getElem? he.symm)
      split at hc
      · exact fromM _ homok hc
      · exact fromM _ hmok hc
    obtain ⟨ra, ca, csa, rfl, hRa⟩ := c16 z.mA z.mcap (z.ms.map lentM) (by simp [hnz]) (by rw [mls_lent]; exact hmok)
    obtain ⟨rb, cb, csb, rfl, hRb⟩ := c16 none 0 (Rs.map mixD) (by simp [hRl]) (by rw [← hZm]; exact hZok)
    rw [mls_lent] at hRa
    rw [← hZm] at hRb
    simp only [List.length_map, hnz] at hRa ca
    simp only [List.length_map, hRl] at hRb cb
    have hAok : MsOk z.w.p n (msgS (lentS z.w).p (lentS z.w).corrupt z.rd n (mls z.ms) (lentS z.w).devs) := msg_ok hp0 hmok
    have hBok : MsOk z.w.p n (msgS (lentS z.w).p (lentS z.w).corrupt z.rd n Zm (lentS z.w).devs) := msg_ok hp0 hZok
    have hloc := fun i j hi hj hc => msg_local (p := (lentS z.w).p) (n := n) (c := (lentS z.w).corrupt) (rd := z.rd) (m := (n : Int)) (a := mls z.ms) (b := Zm) (devs := (lentS z.w).devs) (by rw [← hnn]; exact hDev) (fun i j hi hj hc => by
      rw [hZc i j hi hj, if_neg]
      rintro ⟨q1, q2⟩
      rcases hc with hc | hc
      · exact q1 hc
      · exact q2 hc) (Int.le_refl _) (i := i) (j := j) hi hj hc
    generalize hMA : msgS (lentS z.w).p (lentS z.w).corrupt z.rd n (mls z.ms) (lentS z.w).devs = MA at *
    generalize hMB : msgS (lentS z.w).p (lentS z.w).corrupt z.rd n Zm (lentS z.w).devs = MB at *
    simp only [scV, scL, lentS, List.length_map, hnn] at ca cb
    have hne : (((n : Nat) : Int) != (n : Int)) = false := by simp
    clear c16 hZc hZr hZok hRs
    let K9 : St → Prop := fun D => D.s 2 = .bptr nx 0 ∧ D.m = [(nx, ⟨0, askL z⟩)] ∧ D.nx = nx + 1
    refine EvP.seqG (fun D => K9 D ∧ D.s 9 = .own .nil 0 n csa ∧ D.s 10 = .own .nil 0 n csb) (EvP.draw ?_) ?_
    · simp [d1, d2, d5, dm, dx, ca, cb, frzL_own, K9, askL, hnn, hnz]
      done
    rintro D ⟨⟨d2, dm, dx⟩, d9, d10⟩
    unfold askL at dm
    simp only [hnn, hnz] at dm
    refine EvP.seqG (fun D => K9 D ∧ D.s 9 = .own .nil 0 n csa ∧ D.s 10 = .own .nil 0 n csb) (EvP.seq (EvP.region ?_)) ?_
    · simp [d2, d9, d10, dm, dx, hne]
      refine EvP.cond (t := false) (by simp) (fun h => by cases h) (fun _ => EvP.skip ?_)
      simp [d2, d9, d10, dm, dx, K9, askL, hnn, hnz]
    rintro D ⟨⟨d2, dm, dx⟩, d9, d10⟩
    unfold askL at dm
    simp only [hnn, hnz] at dm
    have hla : csa.length = n := by rw [hRa.1]; exact hAok.1
    have hlb : csb.length = n := by rw [hRb.1]; exact hBok.1
    refine EvP.seqG K9 (EvP.seq (EvP.region ?_)) ?_
    · simp [d2, d9, d10, dm, dx]
      refine EvP.block (EvP.loop (fun q D => ∃ (i : Nat) (CA CB : List V), q = n - i ∧ i ≤ n ∧ (CA.length = n ∧ ∀ j, i ≤ j → CA[j]? = csa[j]?) ∧ (CB.length = n ∧ ∀ j, i ≤ j → CB[j]? = csb[j]?) ∧ D.s 9 = .own .nil 0 n CA ∧ D.s 10 = .own .nil 0 n CB ∧ D.s 11 = .int .i64 (i : Int) ∧ K9 D) (n := n) ⟨0, csa, csb, by simp [d2, d9, d10, dm, dx, K9, askL, hnn, hnz, hla, hlb]⟩ (by omega) ?_)
      rintro q D ⟨i, CA, CB, hqn, hi, ⟨hCAl, hCA⟩, ⟨hCBl, hCB⟩, d9, d10, d11, d2, dm, dx⟩
      simp only [liveOf13, clear_none]
      unfold askL at dm
      simp only [hnn, hnz] at dm
      refine EvP.seq (EvP.seq (EvP.region ?_))
      simp [d2, d11, dm]
      refine EvP.cond (t := decide (i < n)) (by simp) (fun h => EvP.skip ?_) (fun h => EvP.exit ?_)
      · have hlt : i < n := by simpa using h
        simp only [thenE_norm]
        have ci := c18 ((i : Int) + 1)
        obtain ⟨bi, hbi⟩ : ∃ b : Bool, b = decide ((i : Int) + 1 ∈ z.w.corrupt) := ⟨_, rfl⟩
        simp only [scV, scL, lentS, List.length_map, hnn] at ci
        rw [← hbi] at ci
        have hwi : IntKind.i64.wrap ((i : Int) + 1) = (i : Int) + 1 := by rw [wrap_succ (by omega)]; simp
        obtain ⟨rca, hrca, hRrca⟩ := hRa.get (i := i) (by rw [hAok.1]; exact hlt)
        obtain ⟨rcb, hrcb, hRrcb⟩ := hRb.get (i := i) (by rw [hBok.1]; exact hlt)
        have hMAi : (MA[i]'(by rw [hAok.1]; exact hlt)).length = n := (hAok.2 _ (List.getElem_mem _)).1
        have hMBi : (MB[i]'(by rw [hBok.1]; exact hlt)).length = n := (hBok.2 _ (List.getElem_mem _)).1
        rw [hMAi] at hrca
        rw [hMBi] at hrcb
        rw [← hCA i (Nat.le_refl _)] at hrca
        rw [← hCB i (Nat.le_refl _)] at hrcb
        obtain ⟨hia, hiae⟩ := List.getElem?_eq_some_iff.1 hrca
        obtain ⟨hib, hibe⟩ := List.getElem?_eq_some_iff.1 hrcb
        obtain ⟨rsa, qfa, lfa⟩ := hRrca.frz false
        obtain ⟨rsb, qfb, lfb⟩ := hRrcb.frz false
        have hral : rsa.length = n := by rw [← hMAi, ← lfa, List.length_map]
        have hrbl : rsb.length = n := by rw [← hMBi, ← lfb, List.length_map]
        have c12 := same12N false false none none 0 0 rsa rsb (by omega) (fun r hr => (((hAok.2 _ (List.getElem_mem _)).2) r.l (by rw [← lfa]; exact List.mem_map_of_mem hr)).1) (fun r hr => by have := (((hBok.2 _ (List.getElem_mem _)).2) r.l (by rw [← lfb]; exact List.mem_map_of_mem hr)).1; omega) k (by omega) (nx + 1)
        have hsame : (i : Int) + 1 ∈ z.w.corrupt → rsa.map (·.l) = rsb.map (·.l) := fun hc => by
          rw [lfa, lfb]
          refine List.ext_getElem (by rw [hMAi, hMBi]) fun j h1 h2 => ?_
          have := hloc i j hlt (by rw [← hMAi]; exact h1) hc
          have hgA : MA[i]? = some (MA[i]'(by rw [hAok.1]; exact hlt)) := List.getElem?_eq_getElem _
          have hgB : MB[i]? = some (MB[i]'(by rw [hBok.1]; exact hlt)) := List.getElem?_eq_getElem _
          unfold at2 at this
          rw [hgA, hgB, Option.getD_some, Option.getD_some, List.getElem?_eq_getElem h1, List.getElem?_eq_getElem h2] at this
          exact Option.some.inj this
        let K10 : List V → List V → St → Prop := fun CA CB D => K9 D ∧ D.s 9 = .own .nil 0 n CA ∧ D.s 10 = .own .nil 0 n CB ∧ D.s 11 = .int .i64 (i : Int)
        refine EvP.seq (EvP.block (EvP.seqG (fun D => (∃ CA2 CB2, (CA2.length = n ∧ ∀ j, i + 1 ≤ j → CA2[j]? = csa[j]?) ∧ (CB2.length = n ∧ ∀ j, i + 1 ≤ j → CB2[j]? = csb[j]?) ∧ K10 CA2 CB2 D) ∧ D.s 130 = .bool false) (EvP.drawCut [0, 1, 2, 3, 4, 5] [6, 7, 8, 9, 10, 11, 12, 13, 14, 15, 16] (by rfl) (fun D => K10 CA CB D ∧ D.s 119 = .bool bi) ?_ ?_) ?_))
        · simp [d2, d9, d10, d11, dm, dx, ci, hwi, K10, K9, askL, hnn, hnz]
          done
        · rintro D ⟨⟨⟨d2, dm, dx⟩, d9, d10, d11⟩, d119⟩
          unfold askL at dm
          simp only [hnn, hnz] at dm
          cases bi with
          | false =>
            refine optE_mono (fun D => K10 CA CB D ∧ D.s 130 = .bool false) ?_ ?_
            · simp [d2, d9, d10, d11, dm, dx, d119, K10, K9, askL, hnn, hnz]
            rintro D ⟨hK, d130⟩
            exact ⟨⟨CA, CB, ⟨hCAl, fun j hj => hCA j (by omega)⟩, ⟨hCBl, fun j hj => hCB j (by omega)⟩, hK⟩, d130⟩
          | true =>
            have hc : (i : Int) + 1 ∈ z.w.corrupt := by simpa using hbi.symm
            rw [hsame hc] at c12
            simp only [decide_true, hral, hrbl] at c12
            refine optE_mono (fun D => (∃ va vb, K10 (CA.set i va) (CB.set i vb) D) ∧ D.s 130 = .bool false) ?_ ?_
            · simp [d2, d9, d10, d11, dm, dx, d119, hlt, hCAl, hCBl, hiae, hibe, qfa, qfb, c12, K10, K9, askL, hnn, hnz]
              exact ⟨⟨_, rfl⟩, ⟨_, rfl⟩⟩
            rintro D ⟨⟨va, vb, hK⟩, d130⟩
            exact ⟨⟨_, _, ⟨by rw [List.length_set]; exact hCAl, fun j hj => by rw [List.getElem?_set_ne (by omega)]; exact hCA j (by omega)⟩, ⟨by rw [List.length_set]; exact hCBl, fun j hj => by rw [List.getElem?_set_ne (by omega)]; exact hCB j (by omega)⟩, hK⟩, d130⟩
        rintro D ⟨⟨CA2, CB2, hA2, hB2, ⟨d2, dm, dx⟩, d9, d10, d11⟩, d130⟩
        unfold askL at dm
        simp only [hnn, hnz] at dm
        refine EvP.cond (t := false) (by simp [d130]) (fun h => by cases h) (fun _ => EvP.skip ?_)
        simp
        refine EvP.region ?_
        simp [d2, d9, d10, d11, dm, dx, K9, askL, hnn, hnz]
        exact ⟨_, by omega, i + 1, rfl, by omega, CA2, hA2, CB2, hB2, rfl, rfl, wrap_succ (by omega)⟩
      · simp [d2, d9, d10, d11, dm, dx, K9, askL, hnn, hnz]
    rintro D ⟨d2, dm, dx⟩
    refine EvP.seq (EvP.region ?_)
    simp [c1, dm, dx]
    refine EvP.ret ?_
    simp [dm]
end Go.Abs
end
