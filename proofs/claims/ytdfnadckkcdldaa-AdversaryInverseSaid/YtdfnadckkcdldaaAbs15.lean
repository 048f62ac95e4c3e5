/- Joined: AbsUK. -/
import Derived.Test.YtdfnadckkcdldaaAbs14
set_option linter.all false
/- The seat of privitylaw13: AdversaryOtherRounds. -/
set_option linter.unusedVariables false
noncomputable section
namespace Go.Abs
open Go Go.Proofs

set_option maxHeartbeats 4000000 in
set_option maxRecDepth 100000 in
theorem law6 (z : Ask) (hz : AskOk z) (hk64 : ∀ x ∈ z.w.devs, x.k < 18446744073709551616) : Ans Try.prog H13 6 [askV z] (.bool true) := by
  have hml : maxLen = 9223372036854775807 := rfl
  obtain ⟨b, ⟨N0, h0⟩, hb⟩ := may10 (lentA z) (lentA_ok hz)
  obtain ⟨N1, h1⟩ := awake11
  simp only [askV, askL, lentA, lentS, List.length_map] at h0
  cases b with
  | false =>
    refine Ans.of (fn := Try.f6) (t := 2) (by rfl) Try.func6 rfl rfl (by rfl) (by rfl) ⟨N0 + N1, fun k hk nx => ?_⟩
    have c0 := h0 k (by omega)
    have c1 := h1 k (by omega)
    refine EvP.seq (EvP.region ?_)
    simp [entryS, askV, askL]
    refine EvP.seq (EvP.seq (EvP.region ?_))
    simp [c0]
    refine EvP.cond (t := true) (by simp) (fun _ => ?_) (fun h => by cases h)
    refine EvP.seq (EvP.region ?_)
    simp [c1]
    refine EvP.ret ?_
    simp
  | true =>
    have hA := hb rfl
    have hd30 : z.w.devs.length ≤ 30 := hA.few
    obtain ⟨q, hq⟩ := prime_pq hA.w.par.1
    have hn13 : (lentS z.w).n ≤ 13 := hA.w.par.2.2.1
    have hms : ((z.ms.map lentM).length : Int) = (lentS z.w).n := hA.n
    have hmok : MsOk (lentS z.w).p (z.ms.map lentM).length (mls (z.ms.map lentM)) := hA.msOk
    have hal : ((z.al.map lent).length : Int) = (lentS z.w).n := hA.al.1
    have hlok : LsOk (lentS z.w).p ((z.al.map lent).map (·.l)) := words_ok hA.al
    obtain ⟨hp1, hq1, hq2⟩ := pq_facts hq
    have hp0 : 0 < (lentS z.w).p := by
      have : 2 ^ 5 ≤ 2 ^ q := Nat.pow_le_pow_right (by omega) hq1
      have hp1 : (lentS z.w).p + 1 = 2 ^ q := hp1
      omega
    obtain ⟨FF, hFF⟩ : ∃ FF, FF = z.w.devs.filter (fun x => decide (x.round = z.rd)) := ⟨_, rfl⟩
    have hFl : FF.length ≤ 30 := by rw [hFF]; exact Nat.le_trans (List.length_filter_le _ _) hd30
    have hFm : ∀ x ∈ FF, x ∈ z.w.devs := fun x hx => by rw [hFF] at hx; exact (List.mem_filter.1 hx).1
    obtain ⟨sF, hsF⟩ : ∃ sF : Scn, sF = { lentS z.w with dpm := false, dA := none, dcap := 0, devs := FF } := ⟨_, rfl⟩
    have hsFok : ScnOk sF := by rw [hsF]; exact ⟨(lentS_ok hz.w).c, by show FF.length ≤ maxLen; omega, (lentS_ok hz.w).t, (lentS_ok hz.w).r⟩
    have hFd : ∀ x ∈ sF.devs, DevP sF.n x := by rw [hsF]; exact fun x hx => hA.w.devs x (hFm x hx)
    have hFk : ∀ x ∈ sF.devs, x.k < 18446744073709551616 := by rw [hsF]; exact fun x hx => hk64 x (hFm x hx)
    obtain ⟨N2, h2⟩ := msgs16 (lentS z.w) (lentS_ok hz.w) hq hA.w.devs hk64 z.rd
    obtain ⟨N3, h3⟩ := msgs16 sF hsFok (q := q) (by rw [hsF]; exact hq) hFd hFk z.rd
    obtain ⟨N4, h4⟩ := broad13 (lentS z.w) (lentS_ok hz.w) hq hA.w.devs hk64 z.rd
    obtain ⟨N5, h5⟩ := broad13 sF hsFok (q := q) (by rw [hsF]; exact hq) hFd hFk z.rd
    obtain ⟨sN, hsN⟩ : ∃ sN : Scn, sN = { lentS z.w with dpm := false, dA := none, dcap := 0, devs := [] } := ⟨_, rfl⟩
    have hsNok : ScnOk sN := by rw [hsN]; exact ⟨(lentS_ok hz.w).c, by show 0 ≤ maxLen; omega, (lentS_ok hz.w).t, (lentS_ok hz.w).r⟩
    obtain ⟨N6, h6⟩ := msgs16 sN hsNok (q := q) (by rw [hsN]; exact hq) (by rw [hsN]; exact fun x hx => by cases hx) (by rw [hsN]; exact fun x hx => by cases hx) z.rd
    obtain ⟨N7, h7⟩ := broad13 sN hsNok (q := q) (by rw [hsN]; exact hq) (by rw [hsN]; exact fun x hx => by cases hx) (by rw [hsN]; exact fun x hx => by cases hx) z.rd
    subst hsF hsN
    have hM : msgS (lentS z.w).p (lentS z.w).corrupt z.rd (z.ms.map lentM).length (mls (z.ms.map lentM)) (FF) = msgS (lentS z.w).p (lentS z.w).corrupt z.rd (z.ms.map lentM).length (mls (z.ms.map lentM)) z.w.devs := by rw [hFF]; exact msg_rounds.symm
    have hB : broadS (lentS z.w).p (lentS z.w).corrupt z.rd ((z.al.map lent).map (·.l)) (FF) = broadS (lentS z.w).p (lentS z.w).corrupt z.rd ((z.al.map lent).map (·.l)) z.w.devs := by rw [hFF]; exact broad_rounds.symm
    refine Ans.of (fn := Try.f6) (t := 2) (by rfl) Try.func6 rfl rfl (by rfl) (by rfl) ⟨N0 + N1 + N2 + N3 + N4 + N5 + N6 + N7 + 3004, fun k hk nx => ?_⟩
    have c0 := h0 k (by omega)
    have c1 := h1 k (by omega)
    obtain ⟨r2, c2, cs2, rfl, hR2⟩ := h2 false z.mA z.mcap (z.ms.map lentM) hms hn13 hmok k (by omega) (nx + 1 + 1 + 1)
    obtain ⟨r3, c3, cs3, rfl, hR3⟩ := h3 false z.mA z.mcap (z.ms.map lentM) hms hn13 hmok k (by omega) (nx + 1 + 1 + 1)
    obtain ⟨r4, c4, cs4, rfl, hR4⟩ := h4 false z.aA z.acap (z.al.map lent) hal hn13 hlok k (by omega) (nx + 1 + 1 + 1)
    obtain ⟨r5, c5, cs5, rfl, hR5⟩ := h5 false z.aA z.acap (z.al.map lent) hal hn13 hlok k (by omega) (nx + 1 + 1 + 1)
    obtain ⟨r6, c8, cs6, rfl, hR6⟩ := h6 false z.mA z.mcap (z.ms.map lentM) hms hn13 hmok k (by omega) (nx + 1 + 1 + 1)
    obtain ⟨r7, c9, cs7, rfl, hR7⟩ := h7 false z.aA z.acap (z.al.map lent) hal hn13 hlok k (by omega) (nx + 1 + 1 + 1)
    have hR6 : Rows2 cs6 (mls (z.ms.map lentM)) := hR6
    have hR7 : Rows cs7 ((z.al.map lent).map (·.l)) := hR7
    have hR2 : Rows2 cs2 (msgS (lentS z.w).p (lentS z.w).corrupt z.rd (z.ms.map lentM).length (mls (z.ms.map lentM)) z.w.devs) := hR2
    have hR4 : Rows cs4 (broadS (lentS z.w).p (lentS z.w).corrupt z.rd ((z.al.map lent).map (·.l)) z.w.devs) := hR4
    have hR3 : Rows2 cs3 (msgS (lentS z.w).p (lentS z.w).corrupt z.rd (z.ms.map lentM).length (mls (z.ms.map lentM)) z.w.devs) := hM ▸ hR3
    have hR5 : Rows cs5 (broadS (lentS z.w).p (lentS z.w).corrupt z.rd ((z.al.map lent).map (·.l)) z.w.devs) := hB ▸ hR5
    have hmf : MsOk (lentS z.w).p (z.ms.map lentM).length (msgS (lentS z.w).p (lentS z.w).corrupt z.rd (z.ms.map lentM).length (mls (z.ms.map lentM)) z.w.devs) := msg_ok hp0 hmok
    obtain ⟨hbf, hbl⟩ := fold_ok (c := (lentS z.w).corrupt) (rd := z.rd) (out := (z.al.map lent).map (·.l)) (devs := z.w.devs) hp0 hlok
    have hbf' : LsOk (lentS z.w).p (broadS (lentS z.w).p (lentS z.w).corrupt z.rd ((z.al.map lent).map (·.l)) z.w.devs) := hbf
    have hbl' : (broadS (lentS z.w).p (lentS z.w).corrupt z.rd ((z.al.map lent).map (·.l)) z.w.devs).length = z.al.length := by unfold broadS; rw [hbl]; simp
    obtain ⟨rs2, q2, l2⟩ := hR2.frz false
    obtain ⟨rs3, q3, l3⟩ := hR3.frz false
    obtain ⟨rs4, q4, l4⟩ := hR4.frz false
    obtain ⟨rs5, q5, l5⟩ := hR5.frz false
    obtain ⟨n2, b2⟩ := MsOk.rows hmf l2
    obtain ⟨n3', b3⟩ := MsOk.rows hmf l3
    rw [List.length_map] at n2 n3' b2 b3
    have hms2 : (z.ms.length : Int) = (lentS z.w).n := by simpa using hms
    have hal2 : (z.al.length : Int) = (lentS z.w).n := by simpa using hal
    have c6 := sameAll15N false false none none 0 0 rs2 rs3 (by omega) (fun m hm => ⟨by have := (b2 m hm).1; omega, (b2 m hm).2⟩) (fun m hm r hr => by have := (b3 m hm).2 r hr; omega) k (by omega)
    rw [l2, l3, n2, n3'] at c6
    simp only [decide_true] at c6
    have n4' : rs4.length = z.al.length := by rw [← hbl', ← l4, List.length_map]
    have n5' : rs5.length = z.al.length := by rw [← hbl', ← l5, List.length_map]
    have c7 := same12N false false none none 0 0 rs4 rs5 (by omega) (LsOk.mem hbf' l4) (fun r hr => by have := LsOk.mem hbf' l5 r hr; omega) k (by omega)
    rw [l4, l5, n4', n5'] at c7
    simp only [decide_true] at c7
    obtain ⟨rs6, q6, l6⟩ := hR6.frz false
    obtain ⟨rs7, q7, l7⟩ := hR7.frz false
    obtain ⟨n6, b6⟩ := MsOk.rows hmok l6
    obtain ⟨_, b6'⟩ := MsOk.rows hmok rfl
    rw [List.length_map] at n6 b6 b6'
    have n7 : rs7.length = z.al.length := by have := congrArg List.length l7; simpa using this
    have c10 := sameAll15N false false none z.mA 0 z.mcap rs6 (z.ms.map lentM) (by omega) (fun m hm => ⟨by have := (b6 m hm).1; omega, (b6 m hm).2⟩) (fun m hm r hr => by have := (b6' m hm).2 r hr; omega) k (by omega)
    rw [l6, n6] at c10
    simp only [decide_true, List.length_map] at c10
    have c11 := same12N false false none z.aA 0 z.acap rs7 (z.al.map lent) (by omega) (LsOk.mem hlok l7) (fun r hr => by have := LsOk.mem hlok rfl r hr; omega) k (by omega)
    rw [l7, n7] at c11
    simp only [decide_true, List.length_map] at c11
    simp only [scV, scL, lentS, List.length_map, List.length_nil] at c2 c3 c4 c5 c8 c9
    have hdn : devsV [] = [] := rfl
    rw [hdn] at c8 c9
    clear h0 h1 h2 h3 h4 h5 h6 h7 hR6 hR7 hsNok hsFok hR2 hR3 hR4 hR5 hM hB hmf hbf hbl hbf' hbl' hFd hFk
    have n1 : ¬ nx = nx + 1 + 1 := by omega
    have n2a : ¬ nx + 1 = nx + 1 + 1 := by omega
    have n3 : ¬ nx = nx + 1 := by omega
    have n4 : ¬ nx + 1 = nx := by omega
    have n5 : ¬ nx + 1 + 1 = nx := by omega
    have n6a : ¬ nx + 1 + 1 = nx + 1 := by omega
    refine EvP.seqG (fun D => D.s 1 = .bptr nx 0 ∧ D.m = [(nx, ⟨0, askL z⟩)] ∧ D.nx = nx + 1) (EvP.region ?_) ?_
    · simp [entryS, askV, askL]
    rintro D ⟨d1, dm, dx⟩
    unfold askL at dm
    refine EvP.seqG (fun D => D.s 1 = .bptr nx 0 ∧ D.m = [(nx, ⟨0, askL z⟩)] ∧ D.nx = nx + 1) (EvP.seq (EvP.region ?_)) ?_
    · simp [d1, dm, dx, c0]
      refine EvP.cond (t := false) (by simp) (fun h => by cases h) (fun _ => EvP.skip ?_)
      simp [d1, dm, dx, askL]
    rintro D ⟨d1, dm, dx⟩
    unfold askL at dm
    refine EvP.seqG (fun D => D.s 1 = .bptr nx 0 ∧ D.s 3 = .bptr (nx + 1) 0 ∧ D.m = [(nx, ⟨0, askL z⟩), (nx + 1, ⟨0, scL z.w⟩)] ∧ D.nx = nx + 1 + 1) (EvP.region ?_) ?_
    · simp [d1, dm, dx, askL, n1, n2a, n3, n4, scL]
    rintro D ⟨d1, d3, dm, dx⟩
    unfold askL scL at dm
    refine EvP.seqG (fun D => D.s 1 = .bptr nx 0 ∧ D.s 3 = .bptr (nx + 1) 0 ∧ D.m = [(nx, ⟨0, askL z⟩), (nx + 1, ⟨0, wL z.w []⟩)] ∧ D.nx = nx + 1 + 1) (EvP.region ?_) ?_
    · simp [d1, d3, dm, dx, askL, n1, n2a, n3, n4, wL, devsV]
    rintro D ⟨d1, d3, dm, dx⟩
    unfold askL wL at dm
    let KB : List Dev → St → Prop := fun l D => D.s 1 = .bptr nx 0 ∧ D.s 3 = .bptr (nx + 1) 0 ∧ D.s 4 = .bptr (nx + 1 + 1) 0 ∧ D.m = [(nx, ⟨0, askL z⟩), (nx + 1, ⟨0, wL z.w l⟩), (nx + 1 + 1, ⟨0, wL z.w []⟩)] ∧ D.nx = nx + 1 + 1 + 1
    refine EvP.seqG (KB []) (EvP.region ?_) ?_
    · simp [d1, d3, dm, dx, askL, n1, n2a, n3, n4, n5, n6a, wL, devsV, KB]
      done
    rintro D ⟨d1, d3, d4, dm, dx⟩
    unfold askL wL at dm
    refine EvP.seqG (KB FF) (EvP.seq (EvP.region ?_)) ?_
    · simp
      refine EvP.block (EvP.loop (fun q D => ∃ i : Nat, q = z.w.devs.length - i ∧ i ≤ z.w.devs.length ∧ D.s 5 = .int .i64 (i : Int) ∧ KB ((z.w.devs.take i).filter fun x => decide (x.round = z.rd)) D) (n := z.w.devs.length) ⟨0, by simp [d1, d3, d4, dm, dx, KB, askL, wL]⟩ (by omega) ?_)
      rintro q D ⟨i, hqn, hi, d5, d1, d3, d4, dm, dx⟩
      simp only [liveOf13, clear_none]
      obtain ⟨L, hL⟩ : ∃ L, L = (z.w.devs.take i).filter (fun x => decide (x.round = z.rd)) := ⟨_, rfl⟩
      have hLl : L.length ≤ i := by rw [hL]; exact Nat.le_trans (List.length_filter_le _ _) (by simp; omega)
      rw [← hL] at dm
      unfold askL wL at dm
      refine EvP.seq (EvP.seq (EvP.region ?_))
      simp [d1, d5, dm]
      refine EvP.cond (t := decide (i < z.w.devs.length)) (by simp) (fun h => EvP.skip ?_) (fun h => EvP.exit ?_)
      · have hlt : i < z.w.devs.length := by simpa using h
        simp only [thenE_norm]
        obtain ⟨x, hx⟩ : ∃ x, x = z.w.devs[i] := ⟨_, rfl⟩
        have h8 : i * 8 + 8 ≤ z.w.devs.length * 8 := by omega
        have h88 : 8 ≤ z.w.devs.length * 8 - i * 8 := by omega
        have h81 : 1 ≤ z.w.devs.length * 8 - i * 8 := by omega
        have hg1 : (devsV z.w.devs)[i * 8]? = some (.int .i64 x.round) := by rw [show i * 8 = i * 8 + 0 from rfl, devs_cell hlt 0 (by omega), ← hx]; rfl
        have hg2 : ∀ h, (devsV z.w.devs)[i * 8]'h = .int .i64 x.round := fun h => Option.some.inj (by rw [← List.getElem?_eq_getElem h]; exact hg1)
        have hb1 : (x.round == z.rd) = decide (x.round = z.rd) := rfl
        refine EvP.seq (EvP.block (EvP.seqG (fun D => D.s 5 = .int .i64 (i : Int) ∧ KB L D ∧ D.s 31 = .bool (decide (x.round = z.rd))) (EvP.draw ?_) ?_))
        · simp [d1, d3, d4, d5, dm, dx, hlt, h8, h81, hg1, hg2, hb1, KB, askL, wL]
        rintro D ⟨d5, ⟨d1, d3, d4, dm, dx⟩, d31⟩
        unfold askL wL at dm
        refine EvP.cond (t := decide (x.round = z.rd)) (by simp [d31]) (fun h => ?_) (fun h => EvP.skip ?_)
        · have hxk : x.round = z.rd := by simpa using h
          have hL1 : (L.length + 1) * 64 ≤ 140737488355328 := by omega
          have hL2 : L.length + 1 ≤ 140737488355328 := by omega
          have hL3 : L ++ [x] = (z.w.devs.take (i + 1)).filter (fun x => decide (x.round = z.rd)) := by
            rw [List.take_add_one, List.getElem?_eq_getElem hlt, List.filter_append, ← hL, ← hx]; simp [hxk]
          refine EvP.draw ?_
          have hsn : devsV L ++ [V.int IntKind.i64 x.round, V.int IntKind.i64 x.from_, V.int IntKind.i64 x.to, V.int IntKind.i64 x.at_, V.int IntKind.i64 x.kind, V.int IntKind.u64 (x.k : Int), V.int IntKind.i64 x.of_, V.int IntKind.i64 x.src] = devsV (L ++ [x]) := devsV_snoc L x
          simp [d1, d3, d4, d5, dm, dx, hlt, h8, h88, hL1, hL2, devL, n3, n4, ← hx, hsn]
          refine EvP.region ?_
          simp [d1, d3, d4, d5, dm, dx, KB, askL, wL]
          refine ⟨_, by omega, i + 1, rfl, by omega, wrap_succ (by omega), ?_, ?_⟩
          · have := congrArg List.length hL3; simpa using this
          · rw [← hL3]
        · have hxk : ¬ x.round = z.rd := by simpa using h
          have hL3 : L = (z.w.devs.take (i + 1)).filter (fun x => decide (x.round = z.rd)) := by
            rw [List.take_add_one, List.getElem?_eq_getElem hlt, List.filter_append, ← hL, ← hx]; simp [hxk]
          simp
          refine EvP.region ?_
          simp [d1, d3, d4, d5, dm, dx, KB, askL, wL]
          refine ⟨_, by omega, i + 1, rfl, by omega, wrap_succ (by omega), ?_, ?_⟩
          · have := congrArg List.length hL3; simpa using this
          · rw [← hL3]
      · have hlt : i = z.w.devs.length := by have : ¬ i < z.w.devs.length := by simpa using h
                                             omega
        rw [hlt, List.take_length, ← hFF] at hL
        rw [← hL]
        simp [d1, d3, d4, d5, dm, dx, KB, askL, wL]
    rintro D ⟨d1, d3, d4, dm, dx⟩
    unfold askL wL at dm
    let fB : Bool → List Dev → List V := fun b l => [.int .u64 (z.w.p : Int), .int .i64 z.w.n, .int .i64 z.w.t, .im z.w.cpm z.w.cA z.w.ccap z.w.corrupt.length (iL z.w.corrupt), .im b none 0 l.length (devsV l), .im z.w.tpm z.w.tA z.w.tcap z.w.tapes.length (rsV z.w.tapes)]
    let KC : St → Prop := fun D => D.s 1 = .bptr nx 0 ∧ D.s 3 = .bptr (nx + 1) 0 ∧ D.s 4 = .bptr (nx + 1 + 1) 0 ∧ (∃ b, D.m = [(nx, ⟨0, askL z⟩), (nx + 1, ⟨0, fB b FF⟩), (nx + 1 + 1, ⟨0, wL z.w []⟩)]) ∧ D.nx = nx + 1 + 1 + 1
    refine EvP.seq (EvP.drawCut [0, 1, 2, 3, 4, 5, 6, 7, 9, 10, 11, 12, 13, 8, 14, 15, 16, 17] [18, 19, 20, 21, 22, 23, 25, 26, 27, 28, 29, 24, 30, 31, 32, 33, 34, 35, 36, 37, 38, 40, 41, 39, 42, 43, 44, 45, 46, 47, 48, 49, 51, 52, 50, 53, 54, 55] (by rfl) (fun D => KC D ∧ D.s 60 = .bool true) ?_ ?_)
    · simp [d1, d3, d4, dm, dx, n1, n2a, n3, n4, n5, n6a, c1, c2, c3, c6, q2, q3, askL, wL, fB, KC]
      done
    rintro D ⟨⟨d1, d3, d4, ⟨b1, dm⟩, dx⟩, d60⟩
    unfold askL wL at dm
    simp only [fB] at dm
    refine draw_cut [18, 19, 20, 21, 22, 23, 25, 26, 27, 28, 29, 24, 30, 31, 32, 33] [34, 35, 36, 37, 38, 40, 41, 39, 42, 43, 44, 45, 46, 47, 48, 49, 51, 52, 50, 53, 54, 55] (fun D => KC D ∧ D.s 76 = .bool true) ?_ ?_
    · simp [d1, d3, d4, dm, dx, d60, n1, n2a, n3, n4, n5, n6a, c4, c5, c7, q4, q5, askL, wL, fB, KC]
      done
    rintro D ⟨⟨d1, d3, d4, ⟨b2, dm⟩, dx⟩, d76⟩
    unfold askL wL at dm
    simp only [fB, hdn] at dm
    refine draw_cut [34, 35, 36, 37, 38, 40, 41, 39, 42, 43, 44] [45, 46, 47, 48, 49, 51, 52, 50, 53, 54, 55] (fun D => D.s 1 = .bptr nx 0 ∧ D.s 4 = .bptr (nx + 1 + 1) 0 ∧ (∃ b b', D.m = [(nx, ⟨0, askL z⟩), (nx + 1, ⟨0, fB b FF⟩), (nx + 1 + 1, ⟨0, fB b' []⟩)]) ∧ D.nx = nx + 1 + 1 + 1 ∧ D.s 87 = .bool true) ?_ ?_
    · simp [d1, d3, d4, dm, dx, d76, n1, n2a, n3, n4, n5, n6a, c8, c10, q6, askL, wL, fB, hdn]
      done
    rintro D ⟨d1, d4, ⟨b3, b4, dm⟩, dx, d87⟩
    unfold askL at dm
    simp only [fB, hdn] at dm
    simp [d1, d4, dm, dx, d87, n1, n2a, n3, n4, n5, n6a, c9, c11, q7]
    refine EvP.ret ?_
    simp [dm]
    rintro a b (⟨rfl, _⟩ | ⟨rfl, _⟩ | ⟨rfl, _⟩) <;> omega
end Go.Abs
end
