/- Joined: AbsUG0 AbsUH. -/
import Derived.Test.YtdfnadckkcdldaaAbs12
set_option linter.all false
/- Regions that ask the tape, walked in parts. -/
set_option linter.unusedVariables false
noncomputable section
namespace Go.Abs
open Go Go.Proofs

section
variable {P : Program} {H : Hint} {C : Callee} {f k : Nat} {ops : Array Oper} {fz mu : Nat → Bool}
theorem draw_cut (l1 l2 : List Nat) (K : St → Prop) {Q : St → Prop} : ∀ {D : St}, optE (evDraw P H C ops fz mu l1 D) K → (∀ D1, K D1 → optE (evDraw P H C ops fz mu l2 D1) Q) → optE (evDraw P H C ops fz mu (l1 ++ l2) D) Q := by
  induction l1 with
  | nil => intro D h1 h2; exact h2 D h1
  | cons i l ih =>
    intro D h1 h2
    simp only [List.cons_append]
    unfold evDraw at h1 ⊢
    revert h1
    split
    · split
      · split
        · split
          · exact fun h1 => ih h1 h2
          · exact fun h1 => h1
        · exact fun h1 => h1
      · exact fun h1 => ih h1 h2
      · exact fun h1 => h1
    · exact fun h1 => h1
theorem EvP.drawCut {D : St} {id : Nat} {Φ : Ex → St → Prop} (l1 l2 : List Nat) (hl : planOf H f id ops = l1 ++ l2) (K : St → Prop) (h1 : optE (evDraw P H C ops (H.fz f id) (muOf H f id ops) l1 D) K)
    (h2 : ∀ D1, K D1 → optE (evDraw P H C ops (H.fz f id) (muOf H f id ops) l2 D1) (Φ .norm)) (ht : H.tree f id = none := by rfl) : EvP P H C f k (.region id ops true) D Φ := by
  refine EvP.draw ?_ ht
  rw [hl]
  exact draw_cut l1 l2 K h1 h2
theorem optE_mono {α : Type} {x : Option α} (K : α → Prop) {Q : α → Prop} (h1 : optE x K) (h2 : ∀ y, K y → Q y) : optE x Q := by
  cases x with
  | none => exact h1
  | some y => exact h2 y h1
end
theorem frzL_devsV (b : Bool) (l : List Dev) : frzL b (devsV l) = devsV l := by
  unfold devsV; induction l with
  | nil => rfl
  | cons x l ih => simp only [List.flatMap_cons, devL, List.cons_append, List.nil_append, frzL, frz, ih]
theorem noBorL_devsV (l : List Dev) : noBorL (devsV l) = true := by
  unfold devsV; induction l with
  | nil => rfl
  | cons x l ih => simp only [List.flatMap_cons, devL, List.cons_append, List.nil_append, noBorL, noBor, ih, Bool.and_self]
end Go.Abs
end
/- The seat of privitylaw13: AdversaryOrder. -/
set_option linter.unusedVariables false
noncomputable section
namespace Go.Abs
open Go Go.Proofs

/-- A scenario whose deviations are the call's own. -/
def wL (s : Scn) (l : List Dev) : List V := [.int .u64 (s.p : Int), .int .i64 s.n, .int .i64 s.t, .im s.cpm s.cA s.ccap s.corrupt.length (iL s.corrupt), .own .nil 0 l.length (devsV l), .im s.tpm s.tA s.tcap s.tapes.length (rsV s.tapes)]
theorem devsV_snoc (l : List Dev) (x : Dev) : devsV l ++ devL x = devsV (l ++ [x]) := by simp [devsV]
theorem devs_cell {xs : List Dev} {i : Nat} (h : i < xs.length) (j : Nat) (hj : j < 8) : (devsV xs)[i * 8 + j]? = (devL xs[i])[j]? := by
  have := devs_take xs i h
  rw [← this, List.getElem?_take, if_pos hj, List.getElem?_drop]
set_option maxHeartbeats 4000000 in
set_option maxRecDepth 100000 in
theorem law9 (z : Ask) (hz : AskOk z) (hk64 : ∀ x ∈ z.w.devs, x.k < 18446744073709551616) (v : Nat) (hv : v < 256) : Ans Try.prog H13 9 [askV z, .int .u8 (v : Int)] (.bool true) := by
  have hml : maxLen = 9223372036854775807 := rfl
  obtain ⟨b, ⟨N0, h0⟩, hb⟩ := may10 (lentA z) (lentA_ok hz)
  obtain ⟨N1, h1⟩ := awake11
  simp only [askV, askL, lentA, lentS, List.length_map] at h0
  cases b with
  | false =>
    refine Ans.of (fn := Try.f9) (t := 4) (by rfl) Try.func9 rfl rfl (by rfl) (by rfl) ⟨N0 + N1, fun k hk nx => ?_⟩
    have c0 := h0 k (by omega)
    have c1 := h1 k (by omega)
    refine EvP.seq (EvP.region ?_)
    simp [entryS, askV, askL]
    refine EvP.seq (EvP.seq (EvP.region ?_))
    simp [c0]
    refine EvP.cond (t := true) (by simp) (fun _ => ?_) (fun h => by cases h)
    refine EvP.seq (EvP.region ?_)
    simp [c1]
    refine EvP.ret ?_
    simp
  | true =>
    by_cases hc0 : z.w.corrupt.length = 0
    · refine Ans.of (fn := Try.f9) (t := 4) (by rfl) Try.func9 rfl rfl (by rfl) (by rfl) ⟨N0 + N1, fun k hk nx => ?_⟩
      have c0 := h0 k (by omega)
      have c1 := h1 k (by omega)
      refine EvP.seq (EvP.region ?_)
      simp [entryS, askV, askL]
      refine EvP.seq (EvP.seq (EvP.region ?_))
      simp only [hc0] at c0 ⊢
      simp [c0]
      refine EvP.cond (t := true) (by simp) (fun _ => ?_) (fun h => by cases h)
      refine EvP.seq (EvP.region ?_)
      simp [c1]
      refine EvP.ret ?_
      simp
    have hc0i : (((z.w.corrupt.length : Nat) : Int) == 0) = false := by simpa using hc0
    have hA := hb rfl
    have hd30 : z.w.devs.length ≤ 30 := hA.few
    obtain ⟨q, hq⟩ := prime_pq hA.w.par.1
    obtain ⟨j0, hj0⟩ : ∃ j, j = v % z.w.corrupt.length := ⟨_, rfl⟩
    have hj0l : j0 < z.w.corrupt.length := by rw [hj0]; exact Nat.mod_lt _ (by omega)
    have hrem : ((v : Int)).tmod (z.w.corrupt.length : Int) = (j0 : Int) := by rw [tmod_nat, hj0]
    obtain ⟨kk, hkk⟩ : ∃ kk, kk = z.w.corrupt[j0] := ⟨_, rfl⟩
    have hn13 : (lentS z.w).n ≤ 13 := hA.w.par.2.2.1
    have hms : ((z.ms.map lentM).length : Int) = (lentS z.w).n := hA.n
    have hmok : MsOk (lentS z.w).p (z.ms.map lentM).length (mls (z.ms.map lentM)) := hA.msOk
    have hal : ((z.al.map lent).length : Int) = (lentS z.w).n := hA.al.1
    have hlok : LsOk (lentS z.w).p ((z.al.map lent).map (·.l)) := words_ok hA.al
    obtain ⟨hp1, hq1, hq2⟩ := pq_facts hq
    have hp0 : 0 < (lentS z.w).p := by
      have : 2 ^ 5 ≤ 2 ^ q := Nat.pow_le_pow_right (by omega) hq1
      have hp1 : (lentS z.w).p + 1 = 2 ^ q := hp1
      omega
    have hbyl : (byK kk z.w.devs).length ≤ 60 := by
      have q1 := List.length_filter_le (fun x : Dev => decide (x.from_ = kk)) z.w.devs
      have q2 := List.length_filter_le (fun x : Dev => !decide (x.from_ = kk)) z.w.devs
      unfold byK
      rw [List.length_append]; omega
    obtain ⟨sF, hsF⟩ : ∃ sF : Scn, sF = { lentS z.w with dpm := false, dA := none, dcap := 0, devs := byK kk z.w.devs } := ⟨_, rfl⟩
    have hsFok : ScnOk sF := by rw [hsF]; exact ⟨(lentS_ok hz.w).c, by show (byK kk z.w.devs).length ≤ maxLen; omega, (lentS_ok hz.w).t, (lentS_ok hz.w).r⟩
    have hFd : ∀ x ∈ sF.devs, DevP sF.n x := by rw [hsF]; exact fun x hx => hA.w.devs x (byK_mem hx)
    have hFk : ∀ x ∈ sF.devs, x.k < 18446744073709551616 := by rw [hsF]; exact fun x hx => hk64 x (byK_mem hx)
    obtain ⟨N2, h2⟩ := msgs16 (lentS z.w) (lentS_ok hz.w) hq hA.w.devs hk64 z.rd
    obtain ⟨N3, h3⟩ := msgs16 sF hsFok (q := q) (by rw [hsF]; exact hq) hFd hFk z.rd
    obtain ⟨N4, h4⟩ := broad13 (lentS z.w) (lentS_ok hz.w) hq hA.w.devs hk64 z.rd
    obtain ⟨N5, h5⟩ := broad13 sF hsFok (q := q) (by rw [hsF]; exact hq) hFd hFk z.rd
    subst hsF
    have hM : msgS (lentS z.w).p (lentS z.w).corrupt z.rd (z.ms.map lentM).length (mls (z.ms.map lentM)) (byK kk z.w.devs) = msgS (lentS z.w).p (lentS z.w).corrupt z.rd (z.ms.map lentM).length (mls (z.ms.map lentM)) z.w.devs := (msg_order hp0 hA.w.devs hmok).symm
    have hB : broadS (lentS z.w).p (lentS z.w).corrupt z.rd ((z.al.map lent).map (·.l)) (byK kk z.w.devs) = broadS (lentS z.w).p (lentS z.w).corrupt z.rd ((z.al.map lent).map (·.l)) z.w.devs := (broad_order hA.w.devs).symm
    refine Ans.of (fn := Try.f9) (t := 4) (by rfl) Try.func9 rfl rfl (by rfl) (by rfl) ⟨N0 + N1 + N2 + N3 + N4 + N5 + 3004, fun k hk nx => ?_⟩
    have c0 := h0 k (by omega)
    have c1 := h1 k (by omega)
    obtain ⟨r2, c2, cs2, rfl, hR2⟩ := h2 false z.mA z.mcap (z.ms.map lentM) hms hn13 hmok k (by omega) (nx + 1 + 1)
    obtain ⟨r3, c3, cs3, rfl, hR3⟩ := h3 false z.mA z.mcap (z.ms.map lentM) hms hn13 hmok k (by omega) (nx + 1 + 1)
    obtain ⟨r4, c4, cs4, rfl, hR4⟩ := h4 false z.aA z.acap (z.al.map lent) hal hn13 hlok k (by omega) (nx + 1 + 1)
    obtain ⟨r5, c5, cs5, rfl, hR5⟩ := h5 false z.aA z.acap (z.al.map lent) hal hn13 hlok k (by omega) (nx + 1 + 1)
    have hR2 : Rows2 cs2 (msgS (lentS z.w).p (lentS z.w).corrupt z.rd (z.ms.map lentM).length (mls (z.ms.map lentM)) z.w.devs) := hR2
    have hR4 : Rows cs4 (broadS (lentS z.w).p (lentS z.w).corrupt z.rd ((z.al.map lent).map (·.l)) z.w.devs) := hR4
    have hR3 : Rows2 cs3 (msgS (lentS z.w).p (lentS z.w).corrupt z.rd (z.ms.map lentM).length (mls (z.ms.map lentM)) z.w.devs) := hM ▸ hR3
    have hR5 : Rows cs5 (broadS (lentS z.w).p (lentS z.w).corrupt z.rd ((z.al.map lent).map (·.l)) z.w.devs) := hB ▸ hR5
    have hmf : MsOk (lentS z.w).p (z.ms.map lentM).length (msgS (lentS z.w).p (lentS z.w).corrupt z.rd (z.ms.map lentM).length (mls (z.ms.map lentM)) z.w.devs) := msg_ok hp0 hmok
    obtain ⟨hbf, hbl⟩ := fold_ok (c := (lentS z.w).corrupt) (rd := z.rd) (out := (z.al.map lent).map (·.l)) (devs := z.w.devs) hp0 hlok
    have hbf' : LsOk (lentS z.w).p (broadS (lentS z.w).p (lentS z.w).corrupt z.rd ((z.al.map lent).map (·.l)) z.w.devs) := hbf
    have hbl' : (broadS (lentS z.w).p (lentS z.w).corrupt z.rd ((z.al.map lent).map (·.l)) z.w.devs).length = z.al.length := by unfold broadS; rw [hbl]; simp
    obtain ⟨rs2, q2, l2⟩ := hR2.frz false
    obtain ⟨rs3, q3, l3⟩ := hR3.frz false
    obtain ⟨rs4, q4, l4⟩ := hR4.frz false
    obtain ⟨rs5, q5, l5⟩ := hR5.frz false
    obtain ⟨n2, b2⟩ := MsOk.rows hmf l2
    obtain ⟨n3', b3⟩ := MsOk.rows hmf l3
    rw [List.length_map] at n2 n3' b2 b3
    have hms2 : (z.ms.length : Int) = (lentS z.w).n := by simpa using hms
    have hal2 : (z.al.length : Int) = (lentS z.w).n := by simpa using hal
    have c6 := sameAll15N false false none none 0 0 rs2 rs3 (by omega) (fun m hm => ⟨by have := (b2 m hm).1; omega, (b2 m hm).2⟩) (fun m hm r hr => by have := (b3 m hm).2 r hr; omega) k (by omega)
    rw [l2, l3, n2, n3'] at c6
    simp only [decide_true] at c6
    have n4' : rs4.length = z.al.length := by rw [← hbl', ← l4, List.length_map]
    have n5' : rs5.length = z.al.length := by rw [← hbl', ← l5, List.length_map]
    have c7 := same12N false false none none 0 0 rs4 rs5 (by omega) (LsOk.mem hbf' l4) (fun r hr => by have := LsOk.mem hbf' l5 r hr; omega) k (by omega)
    rw [l4, l5, n4', n5'] at c7
    simp only [decide_true] at c7
    simp only [scV, scL, lentS, List.length_map] at c2 c3 c4 c5
    clear h0 h1 h2 h3 h4 h5 hR2 hR3 hR4 hR5 hM hB hmf hbf hbl hbf' hbl' hFd hFk hsFok
    have n3 : ¬ nx = nx + 1 := by omega
    have n4 : ¬ nx + 1 = nx := by omega
    let KA : St → Prop := fun D => D.s 2 = .bptr nx 0 ∧ D.m = [(nx, ⟨0, askL z⟩)] ∧ D.nx = nx + 1 ∧ D.s 1 = .int .u8 (v : Int)
    refine EvP.seqG KA (EvP.region ?_) ?_
    · simp [entryS, askV, askL, KA]
    rintro D ⟨d2, dm, dx, d1⟩
    unfold askL at dm
    refine EvP.seqG KA (EvP.seq (EvP.region ?_)) ?_
    · simp [d1, d2, dm, dx, c0, hc0i]
      refine EvP.cond (t := false) (by simp) (fun h => by cases h) (fun _ => EvP.skip ?_)
      simp [d1, d2, dm, dx, askL, KA]
    rintro D ⟨d2, dm, dx, d1⟩
    unfold askL at dm
    refine EvP.seqG (fun D => KA D ∧ D.s 5 = .int .i64 kk) (EvP.draw ?_) ?_
    · have hwv : IntKind.i64.wrap (v : Int) = (v : Int) := wrap_nat (by omega) (by omega)
      simp [d1, d2, dm, dx, askL, KA, hrem, hc0, hj0l, hwv, hkk]
    rintro D ⟨⟨d2, dm, dx, d1⟩, d5⟩
    unfold askL at dm
    refine EvP.seqG (fun D => D.s 2 = .bptr nx 0 ∧ D.s 5 = .int .i64 kk ∧ D.s 6 = .bptr (nx + 1) 0 ∧ D.m = [(nx, ⟨0, askL z⟩), (nx + 1, ⟨0, scL z.w⟩)] ∧ D.nx = nx + 1 + 1) (EvP.region ?_) ?_
    · simp [d1, d2, d5, dm, dx, askL, n3, n4, scL]
    rintro D ⟨d2, d5, d6, dm, dx⟩
    unfold askL scL at dm
    let KB : List Dev → St → Prop := fun l D => D.s 2 = .bptr nx 0 ∧ D.s 5 = .int .i64 kk ∧ D.s 6 = .bptr (nx + 1) 0 ∧ D.m = [(nx, ⟨0, askL z⟩), (nx + 1, ⟨0, wL z.w l⟩)] ∧ D.nx = nx + 1 + 1
    refine EvP.seqG (KB []) (EvP.region ?_) ?_
    · simp [d2, d5, d6, dm, dx, askL, n3, n4, wL, KB, devsV]
    rintro D ⟨d2, d5, d6, dm, dx⟩
    unfold askL wL at dm
    refine EvP.seqG (KB (z.w.devs.filter fun x => decide (x.from_ = kk))) (EvP.seq (EvP.region ?_)) ?_
    · simp
      refine EvP.block (EvP.loop (fun q D => ∃ i : Nat, q = z.w.devs.length - i ∧ i ≤ z.w.devs.length ∧ D.s 7 = .int .i64 (i : Int) ∧ KB ((z.w.devs.take i).filter fun x => decide (x.from_ = kk)) D) (n := z.w.devs.length) ⟨0, by simp [d2, d5, d6, dm, dx, KB, askL, wL]⟩ (by omega) ?_)
      rintro q D ⟨i, hqn, hi, d7, d2, d5, d6, dm, dx⟩
      simp only [liveOf13, clear_none]
      obtain ⟨L, hL⟩ : ∃ L, L = (z.w.devs.take i).filter (fun x => decide (x.from_ = kk)) := ⟨_, rfl⟩
      have hLl : L.length ≤ i := by rw [hL]; exact Nat.le_trans (List.length_filter_le _ _) (by simp; omega)
      rw [← hL] at dm
      unfold askL wL at dm
      refine EvP.seq (EvP.seq (EvP.region ?_))
      simp [d2, d7, dm]
      refine EvP.cond (t := decide (i < z.w.devs.length)) (by simp) (fun h => EvP.skip ?_) (fun h => EvP.exit ?_)
      · have hlt : i < z.w.devs.length := by simpa using h
        simp only [thenE_norm]
        obtain ⟨x, hx⟩ : ∃ x, x = z.w.devs[i] := ⟨_, rfl⟩
        have h8 : i * 8 + 8 ≤ z.w.devs.length * 8 := by omega
        have h88 : 8 ≤ z.w.devs.length * 8 - i * 8 := by omega
        have h81 : 1 ≤ z.w.devs.length * 8 - i * 8 := by omega
        have hg1 : (devsV z.w.devs)[i * 8 + 1]? = some (.int .i64 x.from_) := by rw [devs_cell hlt 1 (by omega), ← hx]; rfl
        have hb1 : (x.from_ == kk) = decide (x.from_ = kk) := rfl
        refine EvP.seq (EvP.block (EvP.seqG (fun D => D.s 7 = .int .i64 (i : Int) ∧ KB L D ∧ D.s 51 = .bool (decide (x.from_ = kk))) (EvP.region ?_) ?_))
        · simp [d2, d5, d6, d7, dm, dx, hlt, h8, h81, hg1, hb1, KB, askL, wL]
          done
        rintro D ⟨d7, ⟨d2, d5, d6, dm, dx⟩, d51⟩
        unfold askL wL at dm
        refine EvP.cond (t := decide (x.from_ = kk)) (by simp [d51]) (fun h => ?_) (fun h => EvP.skip ?_)
        · have hxk : x.from_ = kk := by simpa using h
          have hL1 : (L.length + 1) * 64 ≤ 140737488355328 := by omega
          have hL2 : L.length + 1 ≤ 140737488355328 := by omega
          have hL3 : L ++ [x] = (z.w.devs.take (i + 1)).filter (fun x => decide (x.from_ = kk)) := by
            rw [List.take_add_one, List.getElem?_eq_getElem hlt, List.filter_append, ← hL, ← hx]; simp [hxk]
          refine EvP.draw ?_
          have hsn : devsV L ++ [V.int IntKind.i64 x.round, V.int IntKind.i64 x.from_, V.int IntKind.i64 x.to, V.int IntKind.i64 x.at_, V.int IntKind.i64 x.kind, V.int IntKind.u64 (x.k : Int), V.int IntKind.i64 x.of_, V.int IntKind.i64 x.src] = devsV (L ++ [x]) := devsV_snoc L x
          simp [d2, d5, d6, d7, dm, dx, hlt, h8, h88, hL1, hL2, devL, n3, n4, ← hx, hsn]
          refine EvP.region ?_
          simp [d2, d5, d6, d7, dm, dx, KB, askL, wL]
          refine ⟨_, by omega, i + 1, rfl, by omega, wrap_succ (by omega), ?_, ?_⟩
          · rw [← hL3]; simp
          · rw [← hL3]
        · have hxk : ¬ x.from_ = kk := by simpa using h
          have hL3 : L = (z.w.devs.take (i + 1)).filter (fun x => decide (x.from_ = kk)) := by
            rw [List.take_add_one, List.getElem?_eq_getElem hlt, List.filter_append, ← hL, ← hx]; simp [hxk]
          simp
          refine EvP.region ?_
          simp [d2, d5, d6, d7, dm, dx, KB, askL, wL]
          refine ⟨_, by omega, i + 1, rfl, by omega, wrap_succ (by omega), ?_, ?_⟩
          · rw [← hL3]
          · rw [← hL3]
      · have hlt : i = z.w.devs.length := by have : ¬ i < z.w.devs.length := by simpa using h
                                             omega
        rw [hlt, List.take_length] at hL
        rw [← hL]
        simp [d2, d5, d6, d7, dm, dx, KB, askL, wL]
    rintro D ⟨d2, d5, d6, dm, dx⟩
    obtain ⟨L0, hL0⟩ : ∃ L0, L0 = z.w.devs.filter (fun x => decide (x.from_ = kk)) := ⟨_, rfl⟩
    have hL0l : L0.length ≤ 30 := by rw [hL0]; exact Nat.le_trans (List.length_filter_le _ _) hd30
    rw [← hL0] at dm
    unfold askL wL at dm
    refine EvP.seqG (KB (byK kk z.w.devs)) (EvP.seq (EvP.region ?_)) ?_
    · simp
      refine EvP.block (EvP.loop (fun q D => ∃ i : Nat, q = z.w.devs.length - i ∧ i ≤ z.w.devs.length ∧ D.s 8 = .int .i64 (i : Int) ∧ KB (L0 ++ (z.w.devs.take i).filter fun x => !decide (x.from_ = kk)) D) (n := z.w.devs.length) ⟨0, by simp [d2, d5, d6, dm, dx, KB, askL, wL]⟩ (by omega) ?_)
      rintro q D ⟨i, hqn, hi, d8, d2, d5, d6, dm, dx⟩
      simp only [liveOf13, clear_none]
      obtain ⟨L, hL⟩ : ∃ L, L = L0 ++ (z.w.devs.take i).filter (fun x => !decide (x.from_ = kk)) := ⟨_, rfl⟩
      have hLl : L.length ≤ 60 := by
        have q1 := List.length_filter_le (fun x : Dev => !decide (x.from_ = kk)) (z.w.devs.take i)
        have q2 := List.length_take_le i z.w.devs
        rw [hL, List.length_append]; omega
      rw [← hL] at dm
      unfold askL wL at dm
      refine EvP.seq (EvP.seq (EvP.region ?_))
      simp [d2, d8, dm]
      refine EvP.cond (t := decide (i < z.w.devs.length)) (by simp) (fun h => EvP.skip ?_) (fun h => EvP.exit ?_)
      · have hlt : i < z.w.devs.length := by simpa using h
        simp only [thenE_norm]
        obtain ⟨x, hx⟩ : ∃ x, x = z.w.devs[i] := ⟨_, rfl⟩
        have h8 : i * 8 + 8 ≤ z.w.devs.length * 8 := by omega
        have h88 : 8 ≤ z.w.devs.length * 8 - i * 8 := by omega
        have h81 : 1 ≤ z.w.devs.length * 8 - i * 8 := by omega
        have hg1 : (devsV z.w.devs)[i * 8 + 1]? = some (.int .i64 x.from_) := by rw [devs_cell hlt 1 (by omega), ← hx]; rfl
        have hb1 : (x.from_ != kk) = !decide (x.from_ = kk) := rfl
        refine EvP.seq (EvP.block (EvP.seqG (fun D => D.s 8 = .int .i64 (i : Int) ∧ KB L D ∧ D.s 79 = .bool (!decide (x.from_ = kk))) (EvP.region ?_) ?_))
        · simp [d2, d5, d6, d8, dm, dx, hlt, h8, h81, hg1, hb1, KB, askL, wL]
          done
        rintro D ⟨d8, ⟨d2, d5, d6, dm, dx⟩, d79⟩
        unfold askL wL at dm
        refine EvP.cond (t := !decide (x.from_ = kk)) (by simp [d79]) (fun h => ?_) (fun h => EvP.skip ?_)
        · have hxk : ¬ x.from_ = kk := by simpa using h
          have hL1 : (L.length + 1) * 64 ≤ 140737488355328 := by omega
          have hL2 : L.length + 1 ≤ 140737488355328 := by omega
          have hL3 : L ++ [x] = L0 ++ (z.w.devs.take (i + 1)).filter (fun x => !decide (x.from_ = kk)) := by
            rw [List.take_add_one, List.getElem?_eq_getElem hlt, List.filter_append, ← List.append_assoc, ← hL, ← hx]; simp [hxk]
          refine EvP.draw ?_
          have hsn : devsV L ++ [V.int IntKind.i64 x.round, V.int IntKind.i64 x.from_, V.int IntKind.i64 x.to, V.int IntKind.i64 x.at_, V.int IntKind.i64 x.kind, V.int IntKind.u64 (x.k : Int), V.int IntKind.i64 x.of_, V.int IntKind.i64 x.src] = devsV (L ++ [x]) := devsV_snoc L x
          simp [d2, d5, d6, d8, dm, dx, hlt, h8, h88, hL1, hL2, devL, n3, n4, ← hx, hsn]
          refine EvP.region ?_
          simp [d2, d5, d6, d8, dm, dx, KB, askL, wL]
          refine ⟨_, by omega, i + 1, rfl, by omega, wrap_succ (by omega), ?_, ?_⟩
          · have := congrArg List.length hL3; simpa using this
          · rw [← hL3]
        · have hxk : x.from_ = kk := by simpa using h
          have hL3 : L = L0 ++ (z.w.devs.take (i + 1)).filter (fun x => !decide (x.from_ = kk)) := by
            rw [List.take_add_one, List.getElem?_eq_getElem hlt, List.filter_append, ← List.append_assoc, ← hL, ← hx]; simp [hxk]
          simp
          refine EvP.region ?_
          simp [d2, d5, d6, d8, dm, dx, KB, askL, wL]
          refine ⟨_, by omega, i + 1, rfl, by omega, wrap_succ (by omega), ?_, ?_⟩
          · have := congrArg List.length hL3; simpa using this
          · rw [← hL3]
      · have hlt : i = z.w.devs.length := by have : ¬ i < z.w.devs.length := by simpa using h
                                             omega
        rw [hlt, List.take_length, hL0] at hL
        have hL : L = byK kk z.w.devs := hL
        rw [← hL]
        simp [d2, d5, d6, d8, dm, dx, KB, askL, wL]
    rintro D ⟨d2, d5, d6, dm, dx⟩
    unfold askL wL at dm
    refine EvP.seq (EvP.drawCut [0, 1, 2, 3, 4, 5, 6, 7, 9, 10, 11, 12, 13, 8, 14, 15, 16, 17] [18, 19, 20, 21, 22, 23, 25, 26, 27, 28, 29, 24, 30, 31, 32, 33] (by rfl) (fun D => D.s 2 = .bptr nx 0 ∧ D.s 6 = .bptr (nx + 1) 0 ∧ (∃ b, D.m = [(nx, ⟨0, askL z⟩), (nx + 1, ⟨0, [.int .u64 (z.w.p : Int), .int .i64 z.w.n, .int .i64 z.w.t, .im z.w.cpm z.w.cA z.w.ccap z.w.corrupt.length (iL z.w.corrupt), .im b none 0 (byK kk z.w.devs).length (devsV (byK kk z.w.devs)), .im z.w.tpm z.w.tA z.w.tcap z.w.tapes.length (rsV z.w.tapes)]⟩)]) ∧ D.nx = nx + 1 + 1 ∧ D.s 108 = .bool true) ?_ ?_)
    · simp [d2, d6, dm, dx, n3, n4, c1, c2, c3, c6, q2, q3, askL]
      done
    rintro D ⟨d2, d6, ⟨bb, dm⟩, dx, d108⟩
    unfold askL at dm
    simp [d2, d6, dm, dx, n3, n4, d108, c4, c5, c7, q4, q5]
    refine EvP.ret ?_
    simp [dm]
    rintro a b (⟨rfl, _⟩ | ⟨rfl, _⟩) <;> omega
theorem sh_u8 {x : V} (h : ArgSh Try.prog 8 5 x) : ∃ v : Nat, v < 256 ∧ x = .int .u8 (v : Int) := by
  unfold ArgSh at h
  rw [Try.underlying5] at h
  unfold Sh at h
  rw [Try.underlying5] at h
  obtain ⟨n, he, hn⟩ := h
  have hn : (decide (IntKind.u8.min ≤ n) && decide (n ≤ IntKind.u8.max)) = true := hn
  simp only [Bool.and_eq_true, decide_eq_true_eq] at hn
  have e1 : IntKind.u8.min = 0 := rfl
  have e2 : IntKind.u8.max = 255 := rfl
  rw [e1, e2] at hn
  have hx : x = .int .u8 n := by simpa using he
  exact ⟨n.toNat, by omega, by rw [hx, show ((n.toNat : Nat) : Int) = n by omega]⟩
end Go.Abs
end
