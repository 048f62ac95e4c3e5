/- Joined: AbsNUC AbsNUD AbsYB AbsYC AbsYG AbsYD AbsNVA AbsNVB AbsNVC AbsNVE AbsNVF AbsNVG AbsNVH. -/
import Derived.Test.YtjdgcblikhkioaaDoorAbs8
set_option linter.all false
/- The seat of privitylaw14: the reference's ApplyToMessages. -/
set_option linter.unusedVariables false
noncomputable section
namespace Go.Abs
open Go Go.Proofs
attribute [local simp] intOp shOp
set_option maxRecDepth 100000

@[simp] theorem mls_lent (ms : List MD) : mls (ms.map lentM) = mls ms := by
  simp [mls, List.map_map, Function.comp_def, lentM]
set_option maxHeartbeats 8000000 in
set_option maxRecDepth 100000 in
theorem heard27 (pm : Bool) (A : Option Addr) (cap : Nat) (ms : List MD) (x : Dev) {p : Nat} (hn : ms.length ≤ 1000) (hd : DevP (ms.length : Int) x) (hw : MsOk p ms.length (mls ms)) : ∃ v w, AnsN 1 Tryd.prog H14 77 [.im pm A cap ms.length (msV ms), devV x] v ∧ IsRow v w ∧ (x.kind = 3 → w = saidS (mls ms) x) ∧ ∀ y ∈ w, y < p := by
  have hrl : ∀ i (h : i < ms.length), ms[i].l.length = ms.length := fun i h => by
    have := (hw.2 (ms[i].l.map (·.l)) (List.mem_map.2 ⟨ms[i], List.getElem_mem h, rfl⟩)).1
    simpa using this
  by_cases h1 : x.of_ < 1
  · refine ⟨.own .nil 0 0 [], [], AnsN.of (N := 0) (fn := Tryd.f77) (t := 4) (by rfl) Tryd.func77 rfl rfl (by rfl) (by rfl) fun k hk nx => ?_, IsRow.own 0 [], fun h => absurd (hd.echo h) (by omega), by simp⟩
    refine EvP.seq (EvP.region ?_)
    simp [entryS, devV]
    refine EvP.seq (EvP.seq (EvP.region ?_))
    simp [h1]
    refine EvP.cond (t := true) (by simp) (fun _ => ?_) (fun h => by cases h)
    refine EvP.seq (EvP.region ?_)
    simp
    refine EvP.ret ?_
    simp
  · obtain ⟨og, hog0⟩ : ∃ og : Nat, x.of_ = (og : Int) + 1 := ⟨(x.of_ - 1).toNat, by omega⟩
    obtain ⟨fr, hfr0⟩ : ∃ fr : Nat, x.from_ = (fr : Int) + 1 := ⟨(x.from_ - 1).toNat, by have := hd.from1; omega⟩
    have hogl : og < ms.length := by have := hd.of2; omega
    have hfrl : fr < ms.length := by have := hd.from2; omega
    have hol := hrl og hogl
    have hog : IntKind.i64.wrap (x.of_ - 1) = (og : Int) := by rw [hog0, wrap_nat (by omega) (by omega)]; omega
    have hfr : IntKind.i64.wrap (x.from_ - 1) = (fr : Int) := by rw [hfr0, wrap_nat (by omega) (by omega)]; omega
    have hfo : fr < ms[og].l.length := by omega
    refine ⟨rV ms[og].l[fr], ms[og].l[fr].l, AnsN.of (N := 0) (fn := Tryd.f77) (t := 4) (by rfl) Tryd.func77 rfl rfl (by rfl) (by simp [rV, plainV]) fun k hk nx => ?_, IsRow.im _ _ _ _, fun h => ?_, ?_⟩
    · refine EvP.seq (EvP.region ?_)
      simp [entryS, devV]
      refine EvP.seq (EvP.seq (EvP.region ?_))
      simp [h1]
      refine EvP.cond (t := false) (by simp [h1]) (fun h => by cases h) (fun _ => EvP.skip ?_)
      simp
      refine EvP.seq (EvP.draw ?_)
      simp [hog, hogl, hol, hfr, hfrl]
      refine EvP.ret ?_
      simp [rV]
    · have ho : (mls ms)[og]? = some (ms[og].l.map (·.l)) := by simp [mls, hogl]
      rw [saidS, if_pos h, show (x.of_ - 1).toNat = og by omega, show (x.from_ - 1).toNat = fr by omega, ho]
      simp [hol, hfrl]
    · have := (hw.2 (ms[og].l.map (·.l)) (List.mem_map.2 ⟨ms[og], List.getElem_mem hogl, rfl⟩)).2
      exact (this _ (List.mem_map.2 ⟨ms[og].l[fr], List.getElem_mem hfo, rfl⟩)).2
set_option maxHeartbeats 32000000 in
set_option maxRecDepth 100000 in
theorem msgs17 (s : Scn) (hs : ScnOk s) {q : Nat} (hq : (s.p, q) ∈ pq7) (hd : ∀ x ∈ s.devs, DevP s.n x) (hk64 : ∀ x ∈ s.devs, x.k < 18446744073709551616) (rd : Int) : ∃ N, ∀ (pm : Bool) (A : Option Addr) (cap : Nat) (ms : List MD), (ms.length : Int) = s.n → s.n ≤ 13 → MsOk s.p ms.length (mls ms) →
    AnsP N Tryd.prog H14 63 [scV s, .int .i64 rd, .im pm A cap ms.length (msV ms)] (fun v => ∃ cs, v = .own .nil 0 ms.length cs ∧ Rows2 cs (msgS s.p s.corrupt rd ms.length (mls ms) s.devs)) := by
  have hml : maxLen = 9223372036854775807 := rfl
  obtain ⟨hp1, hq1, hq2⟩ := pq_facts hq
  have hp0 : 0 < s.p := by
    have : 2 ^ 5 ≤ 2 ^ q := Nat.pow_le_pow_right (by omega) hq1
    omega
  obtain ⟨N1, h1⟩ := told26 (lentS s) (lentS_ok hs) hq
  have h0 : ∀ v, AnsN (s.corrupt.length + 1 + 1) Tryd.prog H14 75 [scV (lentS s), .int .i64 v] (.bool (decide (v ∈ s.corrupt))) := fun v => bad25 (lentS s) (lentS_ok hs) v
  obtain ⟨p, n, t, cpm, cA, ccap, corrupt, dpm, dA, dcap, devs, tpm, tA, tcap, tapes⟩ := s
  obtain ⟨hs1, hs2, hs3, hs4⟩ := hs
  simp only at *
  refine ⟨N1 + corrupt.length + 4 + devs.length + 15 + 1, fun pm A cap ms hlen hn13 hw => ?_⟩
  refine AnsP.of (fn := Tryd.f63) (t := 6) (by rfl) Tryd.func63 rfl rfl (by rfl) fun k hk nx => ?_
  have hn1 : ms.length * 24 ≤ 140737488355328 := by omega
  have hn2 : ms.length ≤ 140737488355328 := by omega
  have hrl : ∀ i (h : i < ms.length), ms[i].l.length = ms.length := fun i h => by
    have := (hw.2 (ms[i].l.map (·.l)) (List.mem_map.2 ⟨ms[i], List.getElem_mem h, rfl⟩)).1
    simpa using this
  have c0 := fun x => h0 x k (by omega)
  simp only [scV, scL, lentS, devV, List.length_map] at c0
  let K0 : St → Prop := fun D => D.s 1 = .int .i64 rd ∧ D.s 2 = .im pm A cap ms.length (msV ms) ∧ D.s 3 = .bptr nx 0 ∧ D.m = [(nx, ⟨0, scL ⟨p, n, t, cpm, cA, ccap, corrupt, dpm, dA, dcap, devs, tpm, tA, tcap, tapes⟩⟩)] ∧ D.nx = nx + 1
  refine EvP.seqG K0 (EvP.region ?_) ?_
  · simp [entryS, scV, scL, K0]
  rintro D ⟨d1, d2, d3, dm, dx⟩
  refine EvP.seqG (fun D => K0 D ∧ D.s 7 = .own .nil 0 0 []) (EvP.region ?_) ?_
  · simp [d1, d2, d3, dm, dx, K0]
  rintro D ⟨⟨d1, d2, d3, dm, dx⟩, d7⟩
  refine EvP.seqG (fun D => K0 D ∧ ∃ CS, D.s 7 = .own .nil 0 ms.length CS ∧ Rows2 CS (mls ms)) (EvP.seq (EvP.region ?_)) ?_
  · simp [d2]
    refine EvP.block (EvP.loop (fun q D => ∃ (i : Nat) (CS : List V), q = ms.length - i ∧ i ≤ ms.length ∧ D.s 7 = .own .nil 0 i CS ∧ CS.length = i ∧ (∀ j (h : j < ms.length), j < i → CS[j]? = some (.own .nil 0 ms.length (rsV ms[j].l))) ∧ D.s 8 = .int .i64 (i : Int) ∧ K0 D) (n := ms.length) ⟨0, [], by simp [d1, d2, d3, dm, dx, d7, K0]⟩ (by omega) ?_)
    rintro q D ⟨i, CS, hn, hi, d7, hCS, hpre, d8, d1, d2, d3, dm, dx⟩
    simp only [liveOf14, clear_none]
    refine EvP.seq (EvP.seq (EvP.region ?_))
    simp [d2, d8]
    refine EvP.cond (t := decide (i < ms.length)) (by simp) (fun h => EvP.skip ?_) (fun h => EvP.exit ?_)
    · have hlt : i < ms.length := by simpa using h
      have hli := hrl i hlt
      have hi1 : (i + 1) * 24 ≤ 140737488355328 := by omega
      have hi2 : i + 1 ≤ 140737488355328 := by omega
      simp only [thenE_norm]
      refine EvP.seq (EvP.block (EvP.region ?_))
      simp [d7, d2, d8, hlt, hli, hn1, hn2, hCS, hi1, hi2, dm, dx]
      refine EvP.region ?_
      simp [d8, d7, d1, d2, d3, dm, dx, K0]
      refine ⟨_, by omega, i + 1, rfl, by omega, _, ⟨rfl, rfl⟩, by simp [hCS], fun j h hj => ?_, wrap_succ (by omega)⟩
      by_cases hji : j = i
      · subst hji
        rw [List.getElem?_append_right (by omega), hCS]
        simp
      · rw [List.getElem?_append_left (by omega)]
        exact hpre j h (by omega)
    · have hlt : i = ms.length := by have : ¬ i < ms.length := by simpa using h
                                     omega
      subst hlt
      simp [d1, d2, d3, dm, dx, K0, d7]
      refine ⟨by simp [mls, hCS], fun j v l h1 h2 => ?_⟩
      have hj : j < ms.length := by
        have := (List.getElem?_eq_some_iff.1 h1).1
        omega
      rw [hpre j hj (by omega)] at h1
      unfold mls at h2
      rw [List.getElem?_map, List.getElem?_eq_getElem hj] at h2
      cases h1; cases h2
      exact ⟨rsV ms[j].l, by simp [hrl j hj], rows_rsV _⟩
  rintro D ⟨⟨d1, d2, d3, dm, dx⟩, CS, d7, hR0⟩
  have hlm : (ms.map lentM).length = ms.length := by simp
  have h27 : ∀ x, DevP (ms.length : Int) x → ∃ v w, AnsN 1 Tryd.prog H14 77 [.im false A cap ms.length (msV (ms.map lentM)), devV x] v ∧ IsRow v w ∧ (x.kind = 3 → w = saidS (mls ms) x) ∧ ∀ y ∈ w, y < p := fun x hx => by
    have := heard27 false A cap (ms.map lentM) x (p := p) (by rw [hlm]; omega) (by rw [hlm]; exact hx) (by rw [hlm, mls_lent]; exact hw)
    rw [hlm, mls_lent] at this
    exact this
  generalize hout : mls ms = out at *
  have houtl : out.length = ms.length := by rw [← hout]; simp [mls]
  unfold scL at dm
  simp only at dm
  refine EvP.seqG (fun D => ∃ CS, D.s 7 = .own .nil 0 ms.length CS ∧ Rows2 CS (msgS p corrupt rd ms.length out devs) ∧ ∀ b ∈ D.m, nx ≤ b.1) (EvP.seq (EvP.region ?_)) ?_
  · simp
    refine EvP.block (EvP.loop (fun q D => ∃ (i : Nat) (CS : List V), q = devs.length - i ∧ i ≤ devs.length ∧ Rows2 CS ((devs.take i).foldl (stepM p corrupt rd ms.length out) out) ∧ D.s 1 = .int .i64 rd ∧ D.s 2 = .im pm A cap ms.length (msV ms) ∧ D.s 3 = .bptr nx 0 ∧ D.s 7 = .own .nil 0 ms.length CS ∧ D.s 9 = .int .i64 (i : Int)
      ∧ getBox D.m nx = some ⟨0, scL ⟨p, n, t, cpm, cA, ccap, corrupt, dpm, dA, dcap, devs, tpm, tA, tcap, tapes⟩⟩ ∧ (∀ b ∈ D.m, b.1 < D.nx) ∧ (∀ b ∈ D.m, nx ≤ b.1) ∧ nx < D.nx) (n := devs.length) ⟨0, CS, by simp [d1, d2, d3, dm, dx, d7, hR0, scL, getBox]⟩ (by omega) ?_)
    rintro q D ⟨i, CS, hn, hi, hR, d1, d2, d3, d7, d9, g0, g1, g2, g3⟩
    simp only [liveOf14, clear_none]
    have e0 := g0
    unfold scL at e0
    simp only at e0
    refine EvP.seq (EvP.seq (EvP.region ?_))
    simp [d3, d9, e0]
    refine EvP.cond (t := decide (i < devs.length)) (by simp) (fun h => EvP.skip ?_) (fun h => EvP.exit ?_)
    · have hlt : i < devs.length := by simpa using h
      simp only [thenE_norm]
      have h8 : i * 8 + 8 ≤ devs.length * 8 := by omega
      have h88 : 8 ≤ devs.length * 8 - i * 8 := by omega
      have e1 : ∀ c, getBox (D.m ++ [(D.nx, c)]) D.nx = some c := fun c => getBox_app_new g1
      have e2' : ∀ c, getBox (D.m ++ [(D.nx, c)]) nx = some ⟨0, scL ⟨p, n, t, cpm, cA, ccap, corrupt, dpm, dA, dcap, devs, tpm, tA, tcap, tapes⟩⟩ := fun c => getBox_app_old g0
      have e3 : ∀ c c', setBox (D.m ++ [(D.nx, c)]) D.nx c' = D.m ++ [(D.nx, c')] := fun c c' => setBox_app_new g1
      have b1 : ∀ (c : Box) (a : Nat) (b : Box), (a, b) ∈ D.m ∨ a = D.nx ∧ b = c → a < D.nx + 1 := by
        rintro c a b (h | ⟨rfl, _⟩)
        · have := g1 _ h; simp at this; omega
        · omega
      have b2 : ∀ (c : Box) (a : Nat) (b : Box), (a, b) ∈ D.m ∨ a = D.nx ∧ b = c → nx ≤ a := by
        rintro c a b (h | ⟨rfl, _⟩)
        · exact g2 _ h
        · omega
      have e2 := e2'
      unfold scL at e2
      simp only at e2
      have hx := hd devs[i] (List.getElem_mem hlt)
      have hlsok := foldM_ok (c := corrupt) (rd := rd) (out := out) (devs := devs.take i) hp0 hw
      have hstep : (devs.take (i + 1)).foldl (stepM p corrupt rd ms.length out) out = stepM p corrupt rd ms.length out ((devs.take i).foldl (stepM p corrupt rd ms.length out) out) devs[i] := foldl_take_succ _ _ hlt
      generalize hls : (devs.take i).foldl (stepM p corrupt rd ms.length out) out = ls at *
      obtain ⟨DM, hDM⟩ : ∃ DM, DM = D.m ++ [(D.nx, ⟨0, devL devs[i]⟩)] := ⟨_, rfl⟩
      have g4 : getBox DM D.nx = some ⟨0, devL devs[i]⟩ := by rw [hDM]; exact e1 _
      have g5 : getBox DM nx = some ⟨0, scL ⟨p, n, t, cpm, cA, ccap, corrupt, dpm, dA, dcap, devs, tpm, tA, tcap, tapes⟩⟩ := by rw [hDM]; exact e2' _
      have b1' : ∀ b ∈ DM, b.1 < D.nx + 1 := fun b hb => by
        rw [hDM] at hb
        obtain ⟨a, b⟩ := b
        exact b1 _ a b (by simpa using hb)
      have b2' : ∀ b ∈ DM, nx ≤ b.1 := fun b hb => by
        rw [hDM] at hb
        obtain ⟨a, b⟩ := b
        exact b2 _ a b (by simpa using hb)
      have g6 := g5
      unfold devL at g4
      unfold scL at g6
      simp only at g6
      let K1 : St → Prop := fun D' => D'.s 1 = .int .i64 rd ∧ D'.s 2 = .im pm A cap ms.length (msV ms) ∧ D'.s 3 = .bptr nx 0 ∧ D'.s 9 = .int .i64 (i : Int) ∧ D'.m = DM ∧ D'.nx = D.nx + 1
      refine EvP.seqG (fun D' => K1 D' ∧ ∃ CS, D'.s 7 = .own .nil 0 ms.length CS ∧ Rows2 CS ((devs.take (i + 1)).foldl (stepM p corrupt rd ms.length out) out)) (EvP.block ?_) ?_
      · refine EvP.seqG (fun D' => K1 D' ∧ D'.s 7 = .own .nil 0 ms.length CS ∧ D'.s 10 = .bptr D.nx 0) (EvP.region ?_) ?_
        · simp [d1, d2, d3, d7, d9, e0, hlt, h8, h88, devL, e1, e2, e3, K1, hDM]
        rintro D1 ⟨⟨d1, d2, d3, d9, dm, dx⟩, d7, d10⟩
        have c0i := c0 devs[i].from_
        refine EvP.seq (EvP.seq (EvP.region ?_))
        by_cases hno : ¬ (devs[i].round = rd ∧ devs[i].from_ ∈ corrupt)
        · by_cases hr : devs[i].round = rd
          · have hr' : (devs[i].round != rd) = false := by simp [bne, hr]
            have hb2 : devs[i].from_ ∉ corrupt := fun h => hno ⟨hr, h⟩
            rw [decide_eq_false hb2] at c0i
            simp [d1, d3, d10, dm, dx, g4, g6, c0i, hr']
            refine EvP.cond (t := true) (by simp) (fun _ => EvP.exit ?_) (fun h => by cases h)
            simp [d1, d2, d3, d9, dm, dx, d7, K1]
            rw [hstep, stepM, if_neg hno]; exact hR
          · have hr' : (devs[i].round != rd) = true := by simp [bne, hr]
            simp [d1, d3, d10, dm, dx, g4, g6, c0i, hr']
            refine EvP.cond (t := true) (by simp) (fun _ => EvP.exit ?_) (fun h => by cases h)
            simp [d1, d2, d3, d9, dm, dx, d7, K1]
            rw [hstep, stepM, if_neg hno]; exact hR
        · have hyes : (devs[i].round = rd ∧ devs[i].from_ ∈ corrupt) := by
            by_cases h : devs[i].round = rd ∧ devs[i].from_ ∈ corrupt
            · exact h
            · exact absurd h hno
          rw [decide_eq_true hyes.2] at c0i
          have hr' : (devs[i].round != rd) = false := by simp [bne, hyes.1]
          obtain ⟨fr, hfr0⟩ : ∃ fr : Nat, devs[i].from_ = (fr : Int) + 1 := ⟨(devs[i].from_ - 1).toNat, by have := hx.from1; omega⟩
          have hfr : IntKind.i64.wrap (devs[i].from_ - 1) = (fr : Int) := by rw [hfr0, wrap_nat (by omega) (by have := hx.from2; omega)]; omega
          have hfrl : fr < ms.length := by have := hx.from2; omega
          have hfrs : fr < ls.length := by rw [hlsok.1]; exact hfrl
          have hrow := hlsok.2 ls[fr] (List.getElem_mem hfrs)
          simp [d1, d3, d10, dm, dx, g4, g6, c0i, hr']
          refine EvP.cond (t := false) (by simp) (fun h => by cases h) (fun _ => EvP.skip ?_)
          simp only [thenE_norm]
          let K2 : St → Prop := fun D' => K1 D' ∧ D'.s 10 = .bptr D.nx 0
          obtain ⟨hv27, w27, a27, r27, s27, l27⟩ := h27 devs[i] (by rw [hlen]; exact hx)
          have a27 := a27 k (by omega)
          simp only [devV] at a27
          generalize hsaid : saidS out devs[i] = said at *
          have hRowJ : ∀ j, ∃ l, l = (List.range j).foldl (stepJ p corrupt devs[i] said) ls[fr] ∧ LsOk p l ∧ l.length = ms.length := fun j => by
            obtain ⟨q1, q2⟩ := foldJ_ok (js := List.range j) (c := corrupt) (x := devs[i]) (said := said) hp0 hrow.2
            exact ⟨_, rfl, q1, by rw [q2]; exact hrow.1⟩
          have hCSl : CS.length = ms.length := by rw [hR.1, hlsok.1]
          refine EvP.seq (EvP.region ?_)
          simp
          refine EvP.block (EvP.loop (fun q D' => ∃ (j : Nat) (CS : List V), q = ms.length - j ∧ j ≤ ms.length ∧ Rows2 CS (ls.set fr ((List.range j).foldl (stepJ p corrupt devs[i] said) ls[fr])) ∧ D'.s 7 = .own .nil 0 ms.length CS ∧ D'.s 11 = .int .i64 ((j : Int) + 1) ∧ K2 D') (n := ms.length) ⟨0, CS, by simp [d1, d2, d3, d9, dm, dx, d7, d10, K1, K2, hR]⟩ (by omega) ?_)
          rintro q D2 ⟨j, CS2, hn', hj, hR2, d7, d11, ⟨d1, d2, d3, d9, dm, dx⟩, d10⟩
          simp only [liveOf14, clear_none]
          refine EvP.seq (EvP.seq (EvP.region ?_))
          simp [d3, d11, dm, g6]
          refine EvP.cond (t := decide (j < ms.length)) (by simp; omega) (fun h => EvP.skip ?_) (fun h => EvP.exit ?_)
          · have hjl : j < ms.length := by simpa using h
            simp only [thenE_norm]
            obtain ⟨row, hrowj, hrowok, hrowl⟩ := hRowJ j
            rw [← hrowj] at hR2
            have hnext : (List.range (j + 1)).foldl (stepJ p corrupt devs[i] said) ls[fr] = stepJ p corrupt devs[i] said row j := by rw [foldl_range_succ, ← hrowj]
            have hw1 : IntKind.i64.wrap ((j : Int) + 1 + 1) = ((j + 1 : Nat) : Int) + 1 := by rw [wrap_nat (by omega) (by omega)]; omega
            have hw2 : IntKind.i64.wrap ((j : Int) + 1 - 1) = (j : Int) := by rw [wrap_nat (by omega) (by omega)]; omega
            have hw3 : IntKind.i64.wrap (j : Int) = (j : Int) := wrap_nat (by omega) (by omega)
            let K3 : St → Prop := fun D' => K2 D' ∧ D'.s 11 = .int .i64 ((j : Int) + 1)
            refine EvP.seqG (fun D' => K3 D' ∧ ∃ CS, D'.s 7 = .own .nil 0 ms.length CS ∧ Rows2 CS (ls.set fr (stepJ p corrupt devs[i] said row j))) (EvP.block ?_) ?_
            · refine EvP.seqG (fun D' => K3 D' ∧ D'.s 71 = .bool (decide ((j : Int) + 1 ≠ devs[i].from_ ∧ (devs[i].to = 0 ∨ devs[i].to = (j : Int) + 1))) ∧ D'.s 7 = .own .nil 0 ms.length CS2) (EvP.region ?_) ?_
              · by_cases j1 : (j : Int) + 1 = devs[i].from_
                · have j1' : ((j : Int) + 1 != devs[i].from_) = false := by simp [bne, j1]
                  simp [d1, d2, d3, d9, dm, dx, d7, d10, d11, K1, K2, K3, g4, j1']
                  simp [j1]
                · have j1' : ((j : Int) + 1 != devs[i].from_) = true := by simp [bne, j1]
                  by_cases j2 : devs[i].to = 0
                  · have j2' : (devs[i].to == 0) = true := by simp [j2]
                    simp [d1, d2, d3, d9, dm, dx, d7, d10, d11, K1, K2, K3, g4, j1', j2']
                    simp [j1, j2]
                  · have j2' : (devs[i].to == 0) = false := by simp [j2]
                    simp [d1, d2, d3, d9, dm, dx, d7, d10, d11, K1, K2, K3, g4, j1', j2']
                    simp [j1, j2]
                    rfl
              rintro D2 ⟨⟨⟨⟨d1, d2, d3, d9, dm, dx⟩, d10⟩, d11⟩, d71, d7⟩
              refine EvP.cond (t := decide ((j : Int) + 1 ≠ devs[i].from_ ∧ (devs[i].to = 0 ∨ devs[i].to = (j : Int) + 1))) (by simp [d71]) (fun hgo => ?_) (fun hgo => EvP.skip ?_)
              · have hgo : (j : Int) + 1 ≠ devs[i].from_ ∧ (devs[i].to = 0 ∨ devs[i].to = (j : Int) + 1) := by simpa using hgo
                have hC2l : CS2.length = ms.length := by rw [hR2.1, List.length_set, hlsok.1]
                obtain ⟨rc, hrc, hrr⟩ := hR2.2 fr _ _ (List.getElem?_eq_getElem (by omega)) (by rw [List.getElem?_set_self (by omega)])
                rw [hrowl] at hrc
                have hrcl : rc.length = ms.length := by rw [hrr.1, hrowl]
                have hjrow : j < row.length := by omega
                have hvrow := hrr.2 j _ _ (List.getElem?_eq_getElem (by omega)) (List.getElem?_eq_getElem hjrow)
                have hok := hrowok row[j] (List.getElem_mem hjrow)
                have fin : ∀ v, IsRow v (uponS p corrupt devs[i] row[j] w27) → Rows2 (CS2.set fr (.own .nil 0 ms.length (rc.set j v))) (ls.set fr (stepJ p corrupt devs[i] said row j)) := by
                  intro v hv
                  have hv' : IsRow v (uponS p corrupt devs[i] row[j] said) := by
                    by_cases k3 : devs[i].kind = 3
                    · rw [← s27 k3]; exact hv
                    · rw [uponS_said (b := w27) k3]; exact hv
                  rw [stepJ, if_pos hgo, List.getElem?_eq_getElem hjrow, Option.getD_some]
                  have := hR2.set fr (hrr.set j hv')
                  rw [List.set_set] at this
                  rw [show ms.length = (row.set j (uponS p corrupt devs[i] row[j] said)).length by simp [hrowl]]
                  exact this
                generalize hl : row[j] = l at *
                generalize hv0 : rc[j] = v0 at *
                refine EvP.draw ?_
                cases r27 with
                | im pmS AS capS =>
                  cases hvrow with
                  | im pm' A' cap' =>
                    obtain ⟨v, hv, hvr⟩ := h1 devs[i] false false A' AS cap' capS l w27 hx.at_ (hk64 _ (List.getElem_mem hlt)) hok.1 hok.2 l27
                    have hv := hv k (by omega)
                    simp only [scV, scL, lentS, devV, List.length_map] at hv
                    have hR' := fin v hvr
                    cases hvr with
                    | im pm2 A2 cap2 =>
                      simp [d1, d2, d3, d9, dm, dx, d7, d10, d11, g4, g6, hfr, hfrl, hC2l, hrc, hrcl, hjl, hv0, hw2, hw3, a27, hv, K1, K2, K3]
                      exact hR'
                    | own k2 =>
                      simp [d1, d2, d3, d9, dm, dx, d7, d10, d11, g4, g6, hfr, hfrl, hC2l, hrc, hrcl, hjl, hv0, hw2, hw3, a27, hv, K1, K2, K3]
                      exact hR'
                  | own k' =>
                    obtain ⟨v, hv, hvr⟩ := h1 devs[i] false false none AS 0 capS l w27 hx.at_ (hk64 _ (List.getElem_mem hlt)) hok.1 hok.2 l27
                    have hv := hv k (by omega)
                    simp only [scV, scL, lentS, devV, List.length_map] at hv
                    have hR' := fin v hvr
                    cases hvr with
                    | im pm2 A2 cap2 =>
                      simp [d1, d2, d3, d9, dm, dx, d7, d10, d11, g4, g6, hfr, hfrl, hC2l, hrc, hrcl, hjl, hv0, hw2, hw3, a27, hv, K1, K2, K3]
                      exact hR'
                    | own k2 =>
                      simp [d1, d2, d3, d9, dm, dx, d7, d10, d11, g4, g6, hfr, hfrl, hC2l, hrc, hrcl, hjl, hv0, hw2, hw3, a27, hv, K1, K2, K3]
                      exact hR'
                | own kS =>
                  cases hvrow with
                  | im pm' A' cap' =>
                    obtain ⟨v, hv, hvr⟩ := h1 devs[i] false false A' none cap' 0 l w27 hx.at_ (hk64 _ (List.getElem_mem hlt)) hok.1 hok.2 l27
                    have hv := hv k (by omega)
                    simp only [scV, scL, lentS, devV, List.length_map] at hv
                    have hR' := fin v hvr
                    cases hvr with
                    | im pm2 A2 cap2 =>
                      simp [d1, d2, d3, d9, dm, dx, d7, d10, d11, g4, g6, hfr, hfrl, hC2l, hrc, hrcl, hjl, hv0, hw2, hw3, a27, hv, K1, K2, K3]
                      exact hR'
                    | own k2 =>
                      simp [d1, d2, d3, d9, dm, dx, d7, d10, d11, g4, g6, hfr, hfrl, hC2l, hrc, hrcl, hjl, hv0, hw2, hw3, a27, hv, K1, K2, K3]
                      exact hR'
                  | own k' =>
                    obtain ⟨v, hv, hvr⟩ := h1 devs[i] false false none none 0 0 l w27 hx.at_ (hk64 _ (List.getElem_mem hlt)) hok.1 hok.2 l27
                    have hv := hv k (by omega)
                    simp only [scV, scL, lentS, devV, List.length_map] at hv
                    have hR' := fin v hvr
                    cases hvr with
                    | im pm2 A2 cap2 =>
                      simp [d1, d2, d3, d9, dm, dx, d7, d10, d11, g4, g6, hfr, hfrl, hC2l, hrc, hrcl, hjl, hv0, hw2, hw3, a27, hv, K1, K2, K3]
                      exact hR'
                    | own k2 =>
                      simp [d1, d2, d3, d9, dm, dx, d7, d10, d11, g4, g6, hfr, hfrl, hC2l, hrc, hrcl, hjl, hv0, hw2, hw3, a27, hv, K1, K2, K3]
                      exact hR'
              · have hgo : ¬ ((j : Int) + 1 ≠ devs[i].from_ ∧ (devs[i].to = 0 ∨ devs[i].to = (j : Int) + 1)) := by simpa using hgo
                simp only [blockE_norm]
                exact ⟨⟨⟨⟨d1, d2, d3, d9, dm, dx⟩, d10⟩, d11⟩, CS2, d7, by rw [stepJ, if_neg hgo]; exact hR2⟩
            rintro D2 ⟨⟨⟨⟨d1, d2, d3, d9, dm, dx⟩, d10⟩, d11⟩, CS3, d7, hR3⟩
            have hR3' : Rows2 CS3 (ls.set fr ((List.range (j + 1)).foldl (stepJ p corrupt devs[i] said) ls[fr])) := by rw [hnext]; exact hR3
            refine EvP.region ?_
            simp [d1, d2, d3, d9, dm, dx, d7, d10, d11, hw1, K1, K2]
            exact ⟨_, by omega, j + 1, rfl, by omega, CS3, hR3', rfl, by omega⟩
          · have hjl : j = ms.length := by have : ¬ j < ms.length := by simpa using h
                                           omega
            subst hjl
            simp [d1, d2, d3, d9, dm, dx, d7, K1]
            rw [hstep, stepM, if_pos hyes, show (devs[i].from_ - 1).toNat = fr by omega, hsaid, List.getElem?_eq_getElem hfrs, Option.getD_some]
            exact hR2
      rintro D1 ⟨⟨d1, d2, d3, d9, dm, dx⟩, CS3, d7, hR3⟩
      refine EvP.region ?_
      simp [d1, d2, d3, d9, dm, dx, d7]
      exact ⟨_, by omega, i + 1, rfl, by omega, CS3, hR3, rfl, wrap_succ (by omega), g5, fun a b h => b1' _ h, fun a b h => b2' _ h, by omega⟩
    · have hlt : i = devs.length := by have : ¬ i < devs.length := by simpa using h
                                       omega
      subst hlt
      rw [List.take_length] at hR
      simp [d7]
      exact ⟨hR, fun a b h => g2 _ h⟩
  rintro D ⟨CS, d7, hR, hb⟩
  refine EvP.seq (EvP.region ?_)
  simp [d7]
  refine EvP.ret ?_
  simp [plainV, hR.ptrs]
  exact ⟨hR, fun a b h => hb _ h⟩
end Go.Abs
end
/- The seat of privitylaw14: what the deviations do, cell by cell; no program in sight. -/
set_option linter.unusedVariables false
noncomputable section
namespace Go.Abs
open Go Go.Proofs
attribute [local simp] intOp shOp
set_option maxRecDepth 100000

def saidB (out : List (List Nat)) (x : Dev) : List Nat := if x.kind = 3 then out[(x.of_ - 1).toNat]?.getD [] else []
def cellB (p : Nat) (c : List Int) (rd : Int) (out : List (List Nat)) (i : Nat) (w : List Nat) (x : Dev) : List Nat :=
  if x.round = rd ∧ x.from_ ∈ c ∧ (x.from_ - 1).toNat = i then uponS p c x w (saidB out x) else w
theorem stepB_get {p : Nat} {c : List Int} {rd : Int} {out all : List (List Nat)} {x : Dev} {i : Nat} : (stepB p c rd out all x)[i]? = all[i]?.map (fun w => cellB p c rd out i w x) := by
  unfold stepB cellB
  have hs : (if x.kind = 3 then out[(x.of_ - 1).toNat]?.getD [] else []) = saidB out x := rfl
  rw [hs]
  generalize saidB out x = said
  generalize (x.from_ - 1).toNat = fr
  by_cases h : x.round = rd ∧ x.from_ ∈ c
  · rw [if_pos h, List.getElem?_set]
    by_cases hi : fr = i
    · subst hi
      by_cases h2 : fr < all.length
      · simp [h2, h.1, h.2]
      · simp [h2]
    · simp [hi]
  · rw [if_neg h]
    have : ¬ (x.round = rd ∧ x.from_ ∈ c ∧ fr = i) := fun q => h ⟨q.1, q.2.1⟩
    simp only [if_neg this]; simp
theorem foldB_get {p : Nat} {c : List Int} {rd : Int} {out : List (List Nat)} {i : Nat} : ∀ {devs : List Dev} {all : List (List Nat)}, (devs.foldl (stepB p c rd out) all)[i]? = all[i]?.map (fun w => devs.foldl (cellB p c rd out i) w)
  | [], all => by simp
  | x :: l, all => by
    rw [List.foldl_cons, foldB_get (devs := l), stepB_get]
    cases all[i]? <;> rfl
def onJ (x : Dev) (j : Nat) : Prop := (j : Int) + 1 ≠ x.from_ ∧ (x.to = 0 ∨ x.to = (j : Int) + 1)
instance (x : Dev) (j : Nat) : Decidable (onJ x j) := by unfold onJ; infer_instance
def cellM (p : Nat) (c : List Int) (rd : Int) (out : List (List (List Nat))) (i j : Nat) (w : List Nat) (x : Dev) : List Nat :=
  if x.round = rd ∧ x.from_ ∈ c ∧ (x.from_ - 1).toNat = i ∧ onJ x j then uponS p c x w (saidS out x) else w
theorem stepJ_get {p : Nat} {c : List Int} {x : Dev} {said : List Nat} {row : List (List Nat)} {n j : Nat} : (stepJ p c x said row n)[j]? = row[j]?.map (fun w => if n = j ∧ onJ x j then uponS p c x w said else w) := by
  have e : stepJ p c x said row n = if onJ x n then row.set n (uponS p c x (row[n]?.getD []) said) else row := rfl
  rw [e]
  by_cases h : n = j
  · subst h
    by_cases h1 : onJ x n
    · rw [if_pos h1, List.getElem?_set]
      by_cases h2 : n < row.length
      · simp [h2, h1]
      · simp [h2]
    · rw [if_neg h1]; simp [h1]
  · split
    · rw [List.getElem?_set]; simp [h]
    · simp [h]
theorem foldJ_get {p : Nat} {c : List Int} {x : Dev} {said : List Nat} {row : List (List Nat)} {j : Nat} : ∀ n : Nat, ((List.range n).foldl (stepJ p c x said) row)[j]? = row[j]?.map (fun w => if j < n ∧ onJ x j then uponS p c x w said else w)
  | 0 => by simp
  | n + 1 => by
    rw [foldl_range_succ, stepJ_get, foldJ_get n, Option.map_map]
    congr 1
    funext w
    simp only [Function.comp_def]
    by_cases h1 : onJ x j
    · by_cases h2 : n = j
      · subst h2; simp [h1]
      · have : j < n ↔ j < n + 1 := by omega
        simp [h1, h2, this]
    · simp [h1]
def at2 (l : List (List (List Nat))) (i j : Nat) : Option (List Nat) := (l[i]?.getD [])[j]?
theorem stepM_get {p : Nat} {c : List Int} {rd : Int} {n : Nat} {out all : List (List (List Nat))} {x : Dev} {i j : Nat} (hj : j < n) : at2 (stepM p c rd n out all x) i j = (at2 all i j).map (fun w => cellM p c rd out i j w x) := by
  have hJ : ∀ row : List (List Nat), ((List.range n).foldl (stepJ p c x (saidS out x)) row)[j]? = row[j]?.map (fun w => if j < n ∧ onJ x j then uponS p c x w (saidS out x) else w) := fun row => foldJ_get n
  unfold stepM cellM at2
  generalize saidS out x = said at *
  generalize (x.from_ - 1).toNat = fr
  generalize hg : (fun row : List (List Nat) => (List.range n).foldl (stepJ p c x said) row) = g
  have hg' : ∀ row : List (List Nat), (List.range n).foldl (stepJ p c x said) row = g row := fun row => congrFun hg row
  simp only [hg'] at hJ ⊢
  by_cases h : x.round = rd ∧ x.from_ ∈ c
  · rw [if_pos h, List.getElem?_set]
    by_cases hi : fr = i
    · subst hi
      by_cases h2 : fr < all.length
      · simp [h2, h.1, h.2, hJ, hj]
      · simp [h2]
    · simp [hi]
  · rw [if_neg h]
    have : ¬ (x.round = rd ∧ x.from_ ∈ c ∧ fr = i ∧ onJ x j) := fun q => h ⟨q.1, q.2.1⟩
    simp only [if_neg this]; simp
theorem foldM_get {p : Nat} {c : List Int} {rd : Int} {n : Nat} {out : List (List (List Nat))} {i j : Nat} (hj : j < n) : ∀ {devs : List Dev} {all : List (List (List Nat))}, at2 (devs.foldl (stepM p c rd n out) all) i j = (at2 all i j).map (fun w => devs.foldl (cellM p c rd out i j) w)
  | [], all => by simp
  | x :: l, all => by
    rw [List.foldl_cons, foldM_get hj (devs := l), stepM_get hj]
    cases at2 all i j <;> rfl
theorem ms_ext {p n : Nat} {a b : List (List (List Nat))} (ha : MsOk p n a) (hb : MsOk p n b) (h : ∀ i j, i < n → j < n → at2 a i j = at2 b i j) : a = b := by
  refine List.ext_getElem (by rw [ha.1, hb.1]) fun i h1 h2 => ?_
  have la := (ha.2 _ (List.getElem_mem h1)).1
  have lb := (hb.2 _ (List.getElem_mem h2)).1
  refine List.ext_getElem? fun j => ?_
  by_cases hj : j < n
  · have := h i j (by rw [← ha.1]; exact h1) hj
    simpa [at2, h1, h2] using this
  · rw [List.getElem?_eq_none (by omega), List.getElem?_eq_none (by omega)]
/-- Steps that leave a thing alone can go. -/
theorem foldl_filter_id {α β : Type} {f : β → α → β} {q : α → Bool} : ∀ {l : List α} {b : β}, (∀ x ∈ l, q x = false → ∀ b, f b x = b) → l.foldl f b = (l.filter q).foldl f b
  | [], b, _ => rfl
  | x :: l, b, h => by
    rw [List.foldl_cons, List.filter_cons]
    have ih := fun b' => foldl_filter_id (f := f) (q := q) (l := l) (b := b') fun y hy => h y (List.mem_cons_of_mem _ hy)
    cases hq : q x with
    | true => simp [ih]
    | false => rw [h x List.mem_cons_self hq, ih]; simp
theorem foldl_id {α β : Type} {f : β → α → β} : ∀ {l : List α} {b : β}, (∀ x ∈ l, ∀ b, f b x = b) → l.foldl f b = b
  | [], b, _ => rfl
  | x :: l, b, h => by rw [List.foldl_cons, h x List.mem_cons_self, foldl_id fun y hy => h y (List.mem_cons_of_mem _ hy)]
theorem foldl_congr' {α β : Type} {f g : β → α → β} : ∀ {l : List α} {b : β}, (∀ x ∈ l, ∀ b, f b x = g b x) → l.foldl f b = l.foldl g b
  | [], b, _ => rfl
  | x :: l, b, h => by rw [List.foldl_cons, List.foldl_cons, h x List.mem_cons_self, foldl_congr' fun y hy => h y (List.mem_cons_of_mem _ hy)]
/- Law 5: honest parties' messages, and those to oneself. -/
theorem broad_honest {p : Nat} {c : List Int} {rd n : Int} {out : List (List Nat)} {devs : List Dev} (hd : ∀ x ∈ devs, DevP n x) {i : Nat} (hi : ((i : Int) + 1) ∉ c) : (broadS p c rd out devs)[i]? = out[i]? := by
  unfold broadS
  rw [foldB_get]
  have : ∀ w : List Nat, devs.foldl (cellB p c rd out i) w = w := fun w => foldl_id fun x hx b => by
    unfold cellB
    rw [if_neg]
    rintro ⟨_, h2, h3⟩
    have := (hd x hx).from1
    exact hi (by rw [show (i : Int) + 1 = x.from_ by omega]; exact h2)
  simp [this]
theorem msg_cell {p n : Nat} {c : List Int} {rd : Int} {out : List (List (List Nat))} {devs : List Dev} {i j : Nat} (hj : j < n) : at2 (msgS p c rd n out devs) i j = (at2 out i j).map (fun w => devs.foldl (cellM p c rd out i j) w) := foldM_get hj
theorem msg_honest {p n : Nat} {c : List Int} {rd : Int} {out : List (List (List Nat))} {devs : List Dev} (hd : ∀ x ∈ devs, DevP n x) {i j : Nat} (hj : j < n) (hi : ((i : Int) + 1) ∉ c ∨ i = j) : at2 (msgS p c rd n out devs) i j = at2 out i j := by
  rw [msg_cell hj]
  have : ∀ w : List Nat, devs.foldl (cellM p c rd out i j) w = w := fun w => foldl_id fun x hx b => by
    unfold cellM
    rw [if_neg]
    rintro ⟨_, h2, h3, h4⟩
    have := (hd x hx).from1
    rcases hi with hi | rfl
    · exact hi (by rw [show (i : Int) + 1 = x.from_ by omega]; exact h2)
    · exact h4.1 (by omega)
  simp [this]
theorem msg_ok {p n : Nat} (hp : 0 < p) {c : List Int} {rd : Int} {out : List (List (List Nat))} {devs : List Dev} (h : MsOk p n out) : MsOk p n (msgS p c rd n out devs) := foldM_ok hp h
/- Law 6: other rounds. -/
theorem broad_rounds {p : Nat} {c : List Int} {rd : Int} {out : List (List Nat)} {devs : List Dev} : broadS p c rd out devs = broadS p c rd out (devs.filter fun x => decide (x.round = rd)) := by
  unfold broadS
  refine foldl_filter_id fun x _ hq b => ?_
  unfold stepB
  rw [if_neg]
  exact fun h => absurd h.1 (by simpa using hq)
theorem msg_rounds {p n : Nat} {c : List Int} {rd : Int} {out : List (List (List Nat))} {devs : List Dev} : msgS p c rd n out devs = msgS p c rd n out (devs.filter fun x => decide (x.round = rd)) := by
  unfold msgS
  refine foldl_filter_id fun x _ hq b => ?_
  unfold stepM
  rw [if_neg]
  exact fun h => absurd h.1 (by simpa using hq)
/- Law 9: the order of different parties' deviations. -/
theorem filter_split {α : Type} (q r : α → Bool) : ∀ l : List α, (∀ x ∈ l, r x = true → q x = true) ∨ (∀ x ∈ l, r x = true → q x = false) → (l.filter q ++ l.filter fun x => !q x).filter r = l.filter r := by
  intro l h
  rw [List.filter_append, List.filter_filter, List.filter_filter]
  rcases h with h | h
  · have e1 : l.filter (fun x => r x && q x) = l.filter r := List.filter_congr fun x hx => by
      cases hr : r x with
      | false => rfl
      | true => simp [h x hx hr]
    have e2 : l.filter (fun x => r x && !q x) = [] := by
      rw [List.filter_eq_nil_iff]
      intro x hx
      cases hr : r x with
      | false => simp
      | true => simp [h x hx hr]
    rw [e1, e2, List.append_nil]
  · have e1 : l.filter (fun x => r x && q x) = [] := by
      rw [List.filter_eq_nil_iff]
      intro x hx
      cases hr : r x with
      | false => simp
      | true => simp [h x hx hr]
    have e2 : l.filter (fun x => r x && !q x) = l.filter r := List.filter_congr fun x hx => by
      cases hr : r x with
      | false => rfl
      | true => simp [h x hx hr]
    rw [e1, e2, List.nil_append]
def byK (k : Int) (devs : List Dev) : List Dev := devs.filter (fun x => decide (x.from_ = k)) ++ devs.filter fun x => !decide (x.from_ = k)
theorem byK_mem {k : Int} {devs : List Dev} {x : Dev} (h : x ∈ byK k devs) : x ∈ devs := by
  unfold byK at h
  rcases List.mem_append.1 h with h | h
  · exact (List.mem_filter.1 h).1
  · exact (List.mem_filter.1 h).1
theorem byK_filter {k n : Int} {devs : List Dev} (hd : ∀ x ∈ devs, DevP n x) (i : Nat) : (byK k devs).filter (fun x => decide ((x.from_ - 1).toNat = i)) = devs.filter (fun x => decide ((x.from_ - 1).toNat = i)) := by
  unfold byK
  refine filter_split _ _ _ ?_
  by_cases hk : k = (i : Int) + 1
  · refine .inl fun x hx h => ?_
    have := (hd x hx).from1
    have h : (x.from_ - 1).toNat = i := by simpa using h
    simp; omega
  · refine .inr fun x hx h => ?_
    have := (hd x hx).from1
    have h : (x.from_ - 1).toNat = i := by simpa using h
    simp; omega
theorem broad_order {p : Nat} {c : List Int} {rd n k : Int} {out : List (List Nat)} {devs : List Dev} (hd : ∀ x ∈ devs, DevP n x) : broadS p c rd out devs = broadS p c rd out (byK k devs) := by
  refine List.ext_getElem? fun i => ?_
  unfold broadS
  rw [foldB_get, foldB_get]
  congr 1
  funext w
  have h : ∀ l : List Dev, l.foldl (cellB p c rd out i) w = (l.filter (fun x => decide ((x.from_ - 1).toNat = i))).foldl (cellB p c rd out i) w := fun l => foldl_filter_id fun x _ hq b => by
    unfold cellB
    rw [if_neg]
    exact fun h => absurd h.2.2 (by simpa using hq)
  rw [h devs, h (byK k devs), byK_filter hd]
theorem msg_order {p n : Nat} (hp : 0 < p) {c : List Int} {rd k m : Int} {out : List (List (List Nat))} {devs : List Dev} (hd : ∀ x ∈ devs, DevP m x) (ho : MsOk p n out) : msgS p c rd n out devs = msgS p c rd n out (byK k devs) := by
  refine ms_ext (msg_ok hp ho) (msg_ok hp ho) fun i j hi hj => ?_
  rw [msg_cell hj, msg_cell hj]
  congr 1
  funext w
  have h : ∀ l : List Dev, l.foldl (cellM p c rd out i j) w = (l.filter (fun x => decide ((x.from_ - 1).toNat = i))).foldl (cellM p c rd out i j) w := fun l => foldl_filter_id fun x _ hq b => by
    unfold cellM
    rw [if_neg]
    exact fun h => absurd h.2.2.1 (by simpa using hq)
  rw [h devs, h (byK k devs), byK_filter hd]
/- Law 7: what honest parties say to each other. -/
theorem msg_local {p n : Nat} {c : List Int} {rd m : Int} {a b : List (List (List Nat))} {devs : List Dev} (hd : ∀ x ∈ devs, DevP m x) (h : ∀ i j : Nat, i < n → j < n → ((i : Int) + 1 ∈ c ∨ (j : Int) + 1 ∈ c) → at2 a i j = at2 b i j) (hm : m ≤ n) {i j : Nat} (hi : i < n) (hj : j < n) (hc : (i : Int) + 1 ∈ c) : at2 (msgS p c rd n a devs) i j = at2 (msgS p c rd n b devs) i j := by
  rw [msg_cell hj, msg_cell hj, h i j hi hj (.inl hc)]
  congr 1
  funext w
  refine foldl_congr' fun x hx v => ?_
  unfold cellM
  by_cases hq : x.round = rd ∧ x.from_ ∈ c ∧ (x.from_ - 1).toNat = i ∧ onJ x j
  · rw [if_pos hq, if_pos hq]
    congr 1
    unfold saidS
    by_cases h3 : x.kind = 3
    · rw [if_pos h3, if_pos h3]
      have d := hd x hx
      have h1 := d.echo h3
      have h2 := d.of2
      have h4 := d.from1
      have h5 := d.from2
      have := h (x.of_ - 1).toNat (x.from_ - 1).toNat (by omega) (by omega) (.inr (by rw [show (((x.from_ - 1).toNat : Nat) : Int) + 1 = x.from_ by omega]; exact hq.2.1))
      unfold at2 at this
      rw [this]
    · rw [if_neg h3, if_neg h3]
  · rw [if_neg hq, if_neg hq]
/- Law 8: adding, and taking it back; a final drop. -/
theorem upon_back {p : Nat} (hp : 0 < p) {c : List Int} {x y : Dev} (hx : x.kind = 2) (hy : y.kind = 2) (hat : y.at_ = x.at_) (h0 : 0 ≤ x.at_) (hk : (x.k % p + y.k % p) % p = 0) {l s1 s2 : List Nat} (hl : ∀ v ∈ l, v < p) : uponS p c y (uponS p c x l s1) s2 = l := by
  by_cases h : (l.length : Int) ≤ x.at_
  · have : uponS p c x l s1 = l := by unfold uponS; simp [hx, h]
    rw [this]
    unfold uponS; simp [hy, hat, h]
  · have hlt : x.at_.toNat < l.length := by omega
    have e1 : uponS p c x l s1 = l.set x.at_.toNat ((l[x.at_.toNat] + x.k % p) % p) := by unfold uponS; simp [hx, h, hlt]
    rw [e1]
    unfold uponS
    simp only [hy, hat, List.length_set]
    rw [if_neg (by decide), if_neg h, if_neg (by decide), if_pos trivial, List.set_set]
    have hv := hl _ (List.getElem_mem hlt)
    have : (((l.set x.at_.toNat ((l[x.at_.toNat] + x.k % p) % p))[x.at_.toNat]?.getD 0) + y.k % p) % p = l[x.at_.toNat] := by
      simp [hlt]
      have hk' : (x.k + y.k) % p = 0 := by rw [Nat.add_mod]; exact hk
      rw [Nat.add_assoc, Nat.add_mod, hk', Nat.add_zero, Nat.mod_mod, Nat.mod_eq_of_lt hv]
    rw [this]
    exact List.set_getElem_self hlt
end Go.Abs
end
/- Reckoning with the evaluator: its words for simp. -/
set_option linter.unusedVariables false
noncomputable section
namespace Go.Abs
open Go
attribute [simp] evOps evDraw evOp ev evL evI evParts settleP fillV structPlace rep ofVal ofCell ofCells wantedV settle settleL St.lay St.put noRow noRowL killAll kill killL view viewL doBuiltin appendV bring copyV lenV minmax minmaxA rs take takeF look go goSet setAt sub subL
attribute [simp] capless bareV caplessV takeZ cpD loadV loadAt storeAt canStore target okAddr okPart partV moveV cutV capM takeC bin isSh isNil eq0 ne0 un V.scalar V.cells cellIn solid solidL frz frzL noBor noBorL ptrs ptrsL lend lendL lendArgs hasRef hasRefL lendsB doCall reach getBox setBox St.newAt St.new killB killBL othersM litB mutB quietB planOf muOf strOf packRes evRes
attribute [simp] hitRef hitLoc pre List.range List.range.loop
attribute [simp] clear_none ev_skip ev_ret ev_exit ev_seq ev_region ev_block ev_cond EvK_app condE_b
section
variable (k : IntKind) (a b : Int)
@[simp] theorem int_add : intOp .add k a b = some (.int k (k.wrap (a + b))) := rfl
@[simp] theorem int_sub : intOp .sub k a b = some (.int k (k.wrap (a - b))) := rfl
@[simp] theorem int_mul : intOp .mul k a b = some (.int k (k.wrap (a * b))) := rfl
@[simp] theorem int_eql : intOp .eql k a b = some (.bool (a == b)) := rfl
@[simp] theorem int_neq : intOp .neq k a b = some (.bool (a != b)) := rfl
@[simp] theorem int_lss : intOp .lss k a b = some (.bool (decide (a < b))) := rfl
@[simp] theorem int_leq : intOp .leq k a b = some (.bool (decide (a ≤ b))) := rfl
@[simp] theorem int_gtr : intOp .gtr k a b = some (.bool (decide (a > b))) := rfl
@[simp] theorem int_geq : intOp .geq k a b = some (.bool (decide (a ≥ b))) := rfl
end
theorem int_quo {k : IntKind} {a b : Nat} (hb : b ≠ 0) (h : k.wrap ((a / b : Nat) : Int) = ((a / b : Nat) : Int)) : intOp .quo k (a : Int) (b : Int) = some (.int k ((a / b : Nat) : Int)) := by
  have h0 : ¬ (b : Int) = 0 := by omega
  show (if (b : Int) = 0 then none else some (V.int k (k.wrap ((a : Int).tdiv b)))) = _
  rw [if_neg h0, ← Int.ofNat_tdiv, h]
theorem int_rem {k : IntKind} {a b : Nat} (hb : b ≠ 0) : intOp .rem k (a : Int) (b : Int) = some (.int k ((a % b : Nat) : Int)) := by
  have h0 : ¬ (b : Int) = 0 := by omega
  show (if (b : Int) = 0 then none else some (V.int k ((a : Int).tmod b))) = _
  rw [if_neg h0, ← Int.ofNat_tmod]
theorem int_quo2 {a : Nat} (h : a < 18446744073709551616) : intOp .quo .u64 (a : Int) 2 = some (.int .u64 ((a / 2 : Nat) : Int)) := int_quo (b := 2) (by omega) (wrapu (by omega) (by omega))
theorem int_rem2 {a : Nat} : intOp .rem .u64 (a : Int) 2 = some (.int .u64 ((a % 2 : Nat) : Int)) := int_rem (b := 2) (by omega)
theorem int_and1 {a : Nat} (h : a < 18446744073709551616) : intOp .and .u64 (a : Int) 1 = some (.int .u64 ((a % 2 : Nat) : Int)) := by
  show some (V.int .u64 (IntKind.u64.wrap ((BitVec.ofInt IntKind.u64.bits (a : Int) &&& BitVec.ofInt IntKind.u64.bits 1).toNat : Int))) = _
  have e : (BitVec.ofInt IntKind.u64.bits (a : Int) &&& BitVec.ofInt IntKind.u64.bits 1).toNat = a % 2 := by
    have hb : IntKind.u64.bits = 64 := rfl
    rw [BitVec.toNat_and]
    simp only [hb, BitVec.toNat_ofInt]
    have h1 : (((a : Int) % ((2 ^ 64 : Nat) : Int))).toNat = a := by omega
    have h2 : ((1 : Int) % ((2 ^ 64 : Nat) : Int)).toNat = 1 := by decide
    rw [h1, h2, Nat.and_one_is_mod]
  rw [e, wrapu (by omega) (by omega)]
theorem sh_shr {a i : Nat} (hi : i ≤ 64) : shOp .shr .u64 (a : Int) (i : Int) = some (.int .u64 ((a / 2 ^ i : Nat) : Int)) := by
  have h0 : ¬ (i : Int) < 0 := by omega
  show (if (i : Int) < 0 then none else some (V.int .u64 ((a : Int).fdiv (2 ^ (min (i : Int).toNat IntKind.u64.bits))))) = _
  have hb : IntKind.u64.bits = 64 := rfl
  rw [if_neg h0, hb, Int.toNat_natCast, Nat.min_eq_left hi]
  congr 2
  rw [Int.fdiv_eq_ediv_of_nonneg _ (by exact_mod_cast Nat.zero_le _)]
  norm_cast
end Go.Abs
end
/- What a law's arguments can be: trees read. -/
set_option linter.unusedVariables false
noncomputable section
namespace Go.Abs
open Go

theorem parse {α : Type} (enc : α → List V) (sz : Nat) (Q : α → Prop) : ∀ (n : Nat) (cs : List V), cs.length = n * sz → (∀ i, i < n → ∃ a, Q a ∧ (cs.drop (i * sz)).take sz = enc a) → ∃ l : List α, l.length = n ∧ cs = l.flatMap enc ∧ ∀ x ∈ l, Q x
  | 0, cs, h, _ => ⟨[], rfl, by simpa using h, by simp⟩
  | n + 1, cs, h, hh => by
    obtain ⟨a, ha, he⟩ := hh 0 (by omega)
    rw [Nat.zero_mul, List.drop_zero] at he
    obtain ⟨l, h1, h2, h3⟩ := parse enc sz Q n (cs.drop sz) (by rw [List.length_drop, h, Nat.succ_mul]; omega) fun i hi => by
      obtain ⟨b, hb, hbe⟩ := hh (i + 1) (by omega)
      refine ⟨b, hb, ?_⟩
      rw [List.drop_drop, show sz + i * sz = (i + 1) * sz by rw [Nat.succ_mul]; omega]
      exact hbe
    refine ⟨a :: l, by simp [h1], ?_, fun x hx => ?_⟩
    · rw [List.flatMap_cons, ← he, ← h2, List.take_append_drop]
    · rcases List.mem_cons.1 hx with rfl | hx
      · exact ha
      · exact h3 x hx
theorem flat_uL (l : List Nat) : uL l = l.flatMap fun (x : Nat) => [V.int .u64 (x : Int)] := by
  unfold uL; induction l with
  | nil => rfl
  | cons x l ih => rw [List.map_cons, ih]; rfl
variable {P : Program} {k : Nat} {t e : TypeId} {vs : List V}
theorem sh_u64 (hu : P.underlying t = some (.int .u64)) (h : Sh P (k + 1) t vs) : ∃ x : Nat, x < 18446744073709551616 ∧ vs = [.int .u64 (x : Int)] := by
  unfold Sh at h
  rw [hu] at h
  obtain ⟨n, rfl, hn⟩ := h
  have hn : (decide (IntKind.u64.min ≤ n) && decide (n ≤ IntKind.u64.max)) = true := hn
  simp only [Bool.and_eq_true, decide_eq_true_eq] at hn
  have e1 : IntKind.u64.min = 0 := rfl
  have e2 : IntKind.u64.max = 18446744073709551615 := rfl
  rw [e1, e2] at hn
  exact ⟨n.toNat, by omega, by rw [show ((n.toNat : Nat) : Int) = n by omega]⟩
theorem sh_i64 (hu : P.underlying t = some (.int .i64)) (h : Sh P (k + 1) t vs) : ∃ x : Int, (-9223372036854775808 ≤ x ∧ x ≤ 9223372036854775807) ∧ vs = [.int .i64 x] := by
  unfold Sh at h
  rw [hu] at h
  obtain ⟨n, rfl, hn⟩ := h
  have hn : (decide (IntKind.i64.min ≤ n) && decide (n ≤ IntKind.i64.max)) = true := hn
  simp only [Bool.and_eq_true, decide_eq_true_eq] at hn
  have e1 : IntKind.i64.min = -9223372036854775808 := rfl
  have e2 : IntKind.i64.max = 9223372036854775807 := rfl
  rw [e1, e2] at hn
  exact ⟨n, hn, rfl⟩
theorem sh_u8 (hu : P.underlying t = some (.int .u8)) (h : Sh P (k + 1) t vs) : ∃ x : Nat, x < 256 ∧ vs = [.int .u8 (x : Int)] := by
  unfold Sh at h
  rw [hu] at h
  obtain ⟨n, rfl, hn⟩ := h
  have hn : (decide (IntKind.u8.min ≤ n) && decide (n ≤ IntKind.u8.max)) = true := hn
  simp only [Bool.and_eq_true, decide_eq_true_eq] at hn
  have e1 : IntKind.u8.min = 0 := rfl
  have e2 : IntKind.u8.max = 255 := rfl
  rw [e1, e2] at hn
  exact ⟨n.toNat, by omega, by rw [show ((n.toNat : Nat) : Int) = n by omega]⟩
theorem sh_bool (hu : P.underlying t = some .bool) (h : Sh P (k + 1) t vs) : ∃ b, vs = [.bool b] := by
  unfold Sh at h
  rw [hu] at h
  exact h
/-- A slice. -/
theorem sh_slice {α : Type} {sz : Nat} (enc : α → List V) (Q : α → Prop) (hu : P.underlying t = some (.slice e)) (ce : P.cellsOf e = sz) (he : ∀ c, Sh P k e c → ∃ a, Q a ∧ c = enc a) (h : Sh P (k + 1) t vs) :
    ∃ A cap, ∃ l : List α, l.length ≤ maxLen ∧ (∀ x ∈ l, Q x) ∧ vs = [.im false A cap l.length (l.flatMap enc)] := by
  unfold Sh at h
  rw [hu] at h
  obtain ⟨A, cap, n, cs, rfl, h1, h2, h3⟩ := h
  simp only [ce] at h2 h3
  obtain ⟨l, q1, q2, q3⟩ := parse enc sz Q n cs h2 fun i hi => he _ (h3 i hi)
  subst q1 q2
  exact ⟨A, cap, l, h1, q3, rfl⟩
theorem sh_words (hu : P.underlying t = some (.slice e)) (hue : P.underlying e = some (.int .u64)) (ce : P.cellsOf e = 1) (h : Sh P (k + 1 + 1) t vs) : ∃ A cap l, l.length ≤ maxLen ∧ (∀ x ∈ l, x < 18446744073709551616) ∧ vs = [.im false A cap l.length (uL l)] := by
  obtain ⟨A, cap, l, h1, h2, h3⟩ := sh_slice (fun x : Nat => [V.int .u64 (x : Int)]) (fun x => x < 18446744073709551616) hu ce (fun c h => sh_u64 hue h) h
  rw [← flat_uL] at h3
  exact ⟨A, cap, l, h1, h2, h3⟩
/-- An argument that is no struct. -/
theorem arg_plain {m : Nat} {x : V} (ht : ∀ fs, P.underlying t ≠ some (.struct fs)) (h : ArgSh P m t x) : Sh P m t [x] := by
  unfold ArgSh at h
  split at h
  · rename_i fs hu; exact absurd hu (ht fs)
  · exact h
theorem arg_words {m : Nat} {x : V} (hu : P.underlying t = some (.slice e)) (hue : P.underlying e = some (.int .u64)) (ce : P.cellsOf e = 1) (h : ArgSh P (m + 1 + 1) t x) : ∃ A cap l, l.length ≤ maxLen ∧ (∀ x ∈ l, x < 18446744073709551616) ∧ x = .im false A cap l.length (uL l) := by
  obtain ⟨A, cap, l, h1, h2, h3⟩ := sh_words hu hue ce (arg_plain (by intro fs; rw [hu]; simp) h)
  exact ⟨A, cap, l, h1, h2, by simpa using h3⟩
theorem arg_u64 {m : Nat} {x : V} (hu : P.underlying t = some (.int .u64)) (h : ArgSh P (m + 1) t x) : ∃ n : Nat, n < 18446744073709551616 ∧ x = .int .u64 (n : Int) := by
  obtain ⟨n, h1, h2⟩ := sh_u64 hu (arg_plain (by intro fs; rw [hu]; simp) h)
  exact ⟨n, h1, by simpa using h2⟩
theorem arg_i64 {m : Nat} {x : V} (hu : P.underlying t = some (.int .i64)) (h : ArgSh P (m + 1) t x) : ∃ n : Int, (-9223372036854775808 ≤ n ∧ n ≤ 9223372036854775807) ∧ x = .int .i64 n := by
  obtain ⟨n, h1, h2⟩ := sh_i64 hu (arg_plain (by intro fs; rw [hu]; simp) h)
  exact ⟨n, h1, by simpa using h2⟩
theorem arg_u8 {m : Nat} {x : V} (hu : P.underlying t = some (.int .u8)) (h : ArgSh P (m + 1) t x) : ∃ n : Nat, n < 256 ∧ x = .int .u8 (n : Int) := by
  obtain ⟨n, h1, h2⟩ := sh_u8 hu (arg_plain (by intro fs; rw [hu]; simp) h)
  exact ⟨n, h1, by simpa using h2⟩
theorem args1 {m : Nat} {t1 : TypeId} {xs : List V} (h : ArgShL P m [t1] xs) : ∃ x, xs = [x] ∧ ArgSh P m t1 x := by
  match xs, h with
  | [x], ⟨h1, _⟩ => exact ⟨x, rfl, h1⟩
theorem args2 {m : Nat} {t1 t2 : TypeId} {xs : List V} (h : ArgShL P m [t1, t2] xs) : ∃ x y, xs = [x, y] ∧ ArgSh P m t1 x ∧ ArgSh P m t2 y := by
  match xs, h with
  | [x, y], ⟨h1, h2, _⟩ => exact ⟨x, y, rfl, h1, h2⟩
theorem args3 {m : Nat} {t1 t2 t3 : TypeId} {xs : List V} (h : ArgShL P m [t1, t2, t3] xs) : ∃ x y z, xs = [x, y, z] ∧ ArgSh P m t1 x ∧ ArgSh P m t2 y ∧ ArgSh P m t3 z := by
  match xs, h with
  | [x, y, z], ⟨h1, h2, h3, _⟩ => exact ⟨x, y, z, rfl, h1, h2, h3⟩
end Go.Abs
end
/- Reckoning with the evaluator: a call behind its arguments. -/
set_option linter.unusedVariables false
noncomputable section
namespace Go.Abs
open Go

/-- A cut: what is known of the state, named anew. -/
theorem EvK_cut {P : Program} {H : Hint} {C : Callee} {f k : Nat} {c : Code} {Φ : Ex → St → Prop} {D : St} (K : St → Prop) (h : K D) (h2 : ∀ D1, K D1 → EvP P H C f k c D1 Φ) : EvK P H C f k c Φ D := h2 D h
/-- A call, its arguments lent. -/
def doCallB (H : Hint) (C : Callee) (f : Nat) (lb : Bool) (xs : List V) (D1 : St) (dst : Option Nat) : Option St :=
    match H.X f xs with
    | some r => if lb && !noBor r then none else some (D1.lay dst r)
    | none =>
      let ids := reach D1.m D1.m.length (ptrsL xs).eraseDups
      if lb && !ids.isEmpty then none else
      match C f xs (D1.m.filter fun e => ids.contains e.1) D1.nx with
      | some (r, m2, nx2) =>
        if lb && !(noBor r && m2.all fun e => noBorL e.2.cs) then none
        else if ids.isEmpty && nx2 == D1.nx then some (D1.lay dst r)
        else if m2.all fun e => ids.contains e.1 || decide (D1.nx ≤ e.1) then some ((St.mk (fun i => killB ids D1.nx (D1.s i)) (othersM D1.m ids ++ m2) nx2).lay dst r)
        else none
      | none => none
theorem doCall_eq (H : Hint) (C : Callee) (f : Nat) (vs : List V) (D : St) (dst : Option Nat) : doCall H C f vs D dst = match lendArgs (H.sg f) vs D with | some (xs, D1) => doCallB H C f (lendsB (H.sg f) vs) xs D1 dst | none => none := rfl
section
variable {P : Program} {H : Hint} {f k N : Nat} {xs : List V} {r : V}
theorem callP (h : AnsN N P H f xs r) (hk : N ≤ k) (hp : ptrsL xs = []) (hX : H.X f xs = none) : ∀ (D : St) (dst : Option Nat), doCallB H (evCall P H k) f false xs D dst = some (D.lay dst r) := by
  intro D dst
  have hr : reach D.m D.m.length (ptrsL xs).eraseDups = [] := by
    rw [hp]
    show reach D.m D.m.length [] = []
    cases D.m.length <;> rfl
  have hf : (D.m.filter fun e => ([] : List Nat).contains e.1) = [] := by
    rw [List.filter_eq_nil_iff]; intro e _; simp
  unfold doCallB
  rw [hX]
  simp only [hr, hf, h k hk D.nx, Bool.false_and, Bool.false_eq_true, if_false, List.isEmpty_nil, beq_self_eq_true, Bool.and_self, if_true]
theorem callP1 {s : Nat → V} {m : List (Nat × Box)} {nx : Nat} {C : Callee} (h : C f xs [] nx = some (r, [], nx)) (hp : ptrsL xs = []) (hX : H.X f xs = none) (dst : Option Nat) : doCallB H C f false xs ⟨s, m, nx⟩ dst = some (St.lay ⟨s, m, nx⟩ dst r) := by
  have hr : reach m m.length (ptrsL xs).eraseDups = [] := by
    rw [hp]
    show reach m m.length [] = []
    cases m.length <;> rfl
  have hf : (m.filter fun e => ([] : List Nat).contains e.1) = [] := by
    rw [List.filter_eq_nil_iff]; intro e _; simp
  unfold doCallB
  rw [hX]
  simp only [hr, hf, h, Bool.false_and, Bool.false_eq_true, if_false, List.isEmpty_nil, beq_self_eq_true, Bool.and_self, if_true]
theorem callX {x : V} (hX : H.X f xs = some x) : ∀ (C : Callee) (D : St) (dst : Option Nat), doCallB H C f false xs D dst = some (D.lay dst x) := by
  intro C D dst
  unfold doCallB
  rw [hX]
  rfl
/-- A call that comes to the boxes ids. -/
theorem callBox {ids : List Nat} {s : Nat → V} {m M O M2 : List (Nat × Box)} {nx nx2 : Nat} {C : Callee} (hX : H.X f xs = none) (hr : reach m m.length (ptrsL xs).eraseDups = ids) (hf : (m.filter fun e => ids.contains e.1) = M) (ho : othersM m ids = O) (hne : ids ≠ [])
    (hc : C f xs M nx = some (r, M2, nx2)) (hall : ∀ e ∈ M2, e.1 ∈ ids ∨ nx ≤ e.1) (dst : Option Nat) : doCallB H C f false xs ⟨s, m, nx⟩ dst = some ((St.mk (fun i => killB ids nx (s i)) (O ++ M2) nx2).lay dst r) := by
  have h1 : ids.isEmpty = false := by cases ids with | nil => exact absurd rfl hne | cons _ _ => rfl
  have h2 : (M2.all fun e => ids.contains e.1 || decide (nx ≤ e.1)) = true := by
    rw [List.all_eq_true]
    intro e he
    rcases hall e he with h | h
    · simp [h]
    · simp [h]
  unfold doCallB
  rw [hX]
  simp only [hr, hf, hc, h1, h2, ho, Bool.false_and, Bool.false_eq_true, if_false, if_true]
/-- A function that builds, called: its boxes come behind. -/
theorem callNew {nx d : Nat} {m M2 : List (Nat × Box)} {s : Nat → V} {C : Callee} (hp : ptrsL xs = []) (hX : H.X f xs = none) (hd : 0 < d) (hc : C f xs [] nx = some (r, M2, nx + d)) (hall : ∀ e ∈ M2, nx ≤ e.1) (dst : Option Nat) :
    doCallB H C f false xs ⟨s, m, nx⟩ dst = some ((St.mk (fun i => killB [] nx (s i)) (m ++ M2) (nx + d)).lay dst r) := by
  have hr : reach m m.length (ptrsL xs).eraseDups = [] := by
    rw [hp]
    show reach m m.length [] = []
    cases m.length <;> rfl
  have hf : (m.filter fun e => ([] : List Nat).contains e.1) = [] := by
    rw [List.filter_eq_nil_iff]; intro e _; simp
  have ho : othersM m [] = m := by
    unfold othersM
    rw [List.filter_eq_self]; intro e _; rfl
  have h2 : (M2.all fun e => ([] : List Nat).contains e.1 || decide (nx ≤ e.1)) = true := by
    rw [List.all_eq_true]
    intro e he
    simp [hall e he]
  have h3 : (nx + d == nx) = false := by simp; omega
  unfold doCallB
  rw [hX]
  simp only [hr, hf, hc, h2, h3, ho, Bool.false_and, Bool.and_false, Bool.false_eq_true, if_false, if_true]
end
end Go.Abs
end
/- A law's row, from the evaluator's answer, where a table of whole numbers is a package-level variable. -/
set_option linter.unusedVariables false
noncomputable section
namespace Go.Abs
open Go Go.ChangeShapes Go.WideShapes Go.ChangeAt Go.RowKit

theorem AtOk.env {E E' : Env} {w : World} {nx : Nat} {K : Nat → Prop} (hβ : E.β = E'.β) (hp : ∀ k, E.Gp k → E'.Gp k) (hb : ∀ k, E.Gb k → E'.Gb k) : ∀ {b : At}, AtOk E w nx K b → AtOk E' w nx K b := by
  have hf : ∀ {pm A cs}, FOk E w K pm A cs → FOk E' w K pm A cs := by
    intro pm A cs ⟨h1, h2, h3⟩
    refine ⟨h1, fun j x hx => ?_, fun hc => ⟨?_, (h3 hc).2⟩⟩
    · obtain ⟨u, hu, hm⟩ := h2 j x hx
      exact ⟨u, hu, hβ ▸ hm⟩
    · have := (h3 hc).1
      cases pm with
      | true => exact hp _ this
      | false => exact hb _ this
  intro b h
  cases b with
  | p b => exact h
  | i pm A cap n cs =>
    refine ⟨h.1, ?_⟩
    have h2 := h.2
    cases A with
    | none => exact h2
    | some a => exact hf h2
  | f pm A cs => exact hf h

def tabL (l : List Int) : List V := l.map fun x => V.int .i64 x
theorem rowsL_tabL (l : List Int) : rowsL (tabL l) = [] := by
  unfold tabL; induction l with
  | nil => rfl
  | cons x l ih => simp [rowsL, rows, ih]
theorem atomsL_tabL (l : List Int) : atomsL (tabL l) = [] := by
  unfold tabL; induction l with
  | nil => rfl
  | cons x l ih => simp [atomsL, atoms, ih]
theorem noRowL_tabL (l : List Int) : noRowL (tabL l) = true := by
  unfold tabL; induction l with
  | nil => rfl
  | cons x l ih => simp [noRowL, noRow, ih]
/-- A table of whole numbers, xs the program's start lays it. -/
def Table (W : World) (g : Nat) (l : List Int) : Prop := ∀ (j : Nat) (x : Int), l[j]? = some x → W.cell? ⟨g, j, none⟩ = some (.int .i64 x)
variable {P : Program} {H : Hint} {W : World} {K : Type} {enc : TypeId × Value → K}
def envG (w : World) (g : Nat) : Env := ⟨fun _ => 0, fun k => w.heap.size ≤ k ∨ k = g, fun _ => True⟩
theorem rootG_rows (g : Nat) (l : List Int) : rowsD 0 (emptyS [] 0) [.ip true ⟨g, 0, none⟩ (tabL l)] = [] := by
  simp [rowsD, slotRows, boxRows, rowsL, rows, emptyS, rowsL_tabL]
theorem rootG_keys (g : Nat) (l : List Int) : keysD 0 (emptyS [] 0) [.ip true ⟨g, 0, none⟩ (tabL l)] = [] := by
  unfold keysD; rw [rootG_rows]; rfl
theorem rootG_inv {g : Nat} {l : List Int} (h : Table W g l) : Inv (envG W g) 0 (emptyS [] 0) [.ip true ⟨g, 0, none⟩ (tabL l)] W := by
  refine ⟨fun e he => ?_, ?_, fun b hb => ?_, fun e he => ?_, ?_, fun k hk => ?_, fun k hk => .inl hk, fun k hk => trivial⟩
  · rw [rootG_rows] at he; cases he
  · rw [rootG_keys]; exact List.nodup_nil
  · have hb' : b = .f true ⟨g, 0, none⟩ (tabL l) := by
      simpa [atomsD, slotAtoms, boxAtoms, atomsL, atoms, emptyS, atomsL_tabL] using hb
    subst hb'
    refine ⟨noRowL_tabL l, fun j x hx => ?_, fun _ => ⟨.inr rfl, fun hk => by rw [rootG_keys] at hk; cases hk⟩⟩
    unfold tabL at hx
    rw [List.getElem?_map, Option.map_eq_some_iff] at hx
    obtain ⟨y, hy, rfl⟩ := hx
    refine ⟨.int .i64 y, ?_, .inl rfl⟩
    have e : (⟨g, 0, none⟩ : Addr).add j = ⟨g, j, none⟩ := by
      unfold Addr.add
      split
      · rename_i h; subst h; rfl
      · simp
    rw [e]; exact h j y hy
  · cases he
  · simp [emptyS]
  · rw [rootG_keys] at hk; cases hk

/-- A call from outside that answers with a truth value. -/
theorem law_callsG {f : Nat} {fn : Func} {c : Code} {xs : List V} {us : List Value} {n : Nat} {bb : Bool} {m2 : List (Nat × Box)} {nx2 : Nat} {g : Nat} {l : List Int} (hm : P.follows .mixedOrders = true) (hX : XSm H) (hP : progB P H = true) (hCX : CalleeOk P H (CX H)) (hG : ∀ g' cs, H.G g' = some cs → g' = g ∧ cs = tabL l) (hT : Table W g l)
    (hf : P.funcs[f]? = some fn) (hb : fn.body = some c) (hpr : ∀ D, PRL (fun _ => 0) D xs us) (hfl : noRowL xs = true) (hat : ∀ b ∈ atomsL xs, AtOk (rootEnv W) W 0 (fun _ => False) b)
    (hev : evCall P H n f xs [] 0 = some (.bool bb, m2, nx2)) : Calls P f us.toArray W fun e W' => e = .returned (.bool bb) ∧ Below W.heap.size W W' := by
  have hgood := evCall_ok hm hX hP hCX n f xs [] 0 _ _ _ hev (envG W g) _ W us (rootG_inv hT) hpr hfl
    (fun b hb => (AtOk.env (E := rootEnv W) (E' := envG W g) rfl (fun k hk => .inl hk) (fun k hk => hk) (hat b hb)).mono (Nat.le_refl _) (fun k hk => by rw [rootG_keys] at hk; cases hk))
    (fun g' cs h => by obtain ⟨rfl, rfl⟩ := hG g' cs h; exact List.mem_cons_self)
  rcases hgood with ⟨_, h⟩ | ⟨v, w', h, _⟩
  · refine h.mono fun e W' he => ?_
    cases e with
    | returned v =>
      obtain ⟨E', r', m2', s1, s2, hB, hpr', hT⟩ := he
      cases s1
      have : v = .bool bb := hpr' (emptyS [] 0)
      subst this
      refine ⟨rfl, hT.os, hT.tape, hT.out, hT.size, fun k hk => hT.same k hk ?_⟩
      rw [rootG_keys]; intro h; cases h
    | panicked c => exact he.elim
    | outgrown => exact he.elim
  · have hgood : H.good f = true := by
      cases n with
      | zero => cases hev
      | succ n =>
        unfold evCall at hev
        split at hev
        · cases hev
        · rename_i hg; simpa using hg
    obtain ⟨_, hn⟩ := progB_spec hP hgood hf hb
    rw [enter_run hf hb hn] at h
    cases h

/-- THE ROW's STEP, for a law. -/
theorem law_contractG {f : Nat} {fn : Func} {c : Code} {s : ChangeSpec} {apart fresh handsOn : Bool} {m : Nat} {tb : TypeId} {g : Nat} {l : List Int} (hm : P.follows .mixedOrders = true) (hX : XSm H) (hP : progB P H = true) (hCX : CalleeOk P H (CX H)) (hG : ∀ g' cs, H.G g' = some cs → g' = g ∧ cs = tabL l)
    (hf : P.funcs[f]? = some fn) (hb : fn.body = some c) (hl : laidOutB P = true) (hts : (fn.params.toList.all fun t => shB P m t && P.readableRec t && decide (t < P.types.size)) = true) (hvars : s.vars = []) (hres : fn.resultTypes = #[tb]) (htb : P.underlying tb = some .bool)
    (hs : ∀ ds : List (DataW K), ds.length = fn.params.size → s.fn K ds = { results := [.lit (.bool true)], args := ds })
    (hev : ∀ xs, ArgShL P m fn.params.toList xs → ∃ n m2 nx2, evCall P H n f xs [] 0 = some (.bool true, m2, nx2))
    (W : World) (hT : Table W g l) (base : Nat) (args : Array Value) (ds gs : List (DataW K)) (before : List MemPlace) (hval : ∀ (j : Nat) t v, fn.params[j]? = some t → args[j]? = some v → Value.okWide P W .any base t v)
    (hW : DataW.Whole enc P fn.params.toList s.vars apart W args.toList ds gs before) :
    Calls P f args W fun e W' => ∃ v, e = .returned v ∧ s.post enc P fn apart fresh handsOn false W args v W' := by
  have hW' := hW
  obtain ⟨p, q, hA, hV, hbe, hfz, hnd⟩ := hW
  rw [hvars] at hV
  obtain ⟨hgs, hq⟩ := trodVars_none hV
  rw [List.all_eq_true] at hts
  have hts1 : ∀ t ∈ fn.params.toList, shB P m t = true ∧ P.readableRec t = true ∧ t < P.types.size := fun t ht => by
    have := hts t ht
    simp only [Bool.and_eq_true, decide_eq_true_eq] at this
    exact ⟨this.1.1, this.1.2, this.2⟩
  obtain ⟨xs, a1, a2, a3, a4⟩ := args_read (fun t ht => (hts1 t ht).1) (fun j t v ht hv => hval j t v (by rw [← Array.getElem?_toList]; exact ht) (by rw [← Array.getElem?_toList]; exact hv)) hA
  obtain ⟨n, m2, nx2, h⟩ := hev xs a1
  have hcall := law_callsG (W := W) hm hX hP hCX hG hT hf hb a2 a3 a4 h
  rw [Array.toArray_toList] at hcall
  refine hcall.mono fun e W' ⟨he, hbel⟩ => ⟨.bool true, he, ?_⟩
  have hdl : ds.length = fn.params.size := by
    have key : ∀ {ts : List TypeId} {vs : List Value} {ds : List (DataW K)} {ps : List MemPlace}, DataW.TrodAll enc P W 0 (fun _ => true) true ts vs ds ps → ds.length = ts.length := by
      intro ts
      induction ts with
      | nil => intro vs ds ps h; cases vs <;> cases ds <;> simp [DataW.TrodAll] at h ⊢
      | cons t ts ih =>
        intro vs ds ps h
        obtain ⟨v, vs', d, ds', p, q, rfl, rfl, rfl, h1, h2⟩ := trodAll_cons h
        simp [ih h2]
    simpa using key hA
  have hsf := hs (ds ++ gs) (by rw [hgs, List.append_nil]; exact hdl)
  refine ⟨ds, gs, before, [], p, [], hW', ?_, ?_, ?_, hbel.frame _, fun h => by cases h⟩
  · rw [hsf, hres]
    exact trodAll_mk1 (shut_bool htb true)
  · rw [hsf, hgs, List.append_nil]
    exact trodAll_below hl hbel (fun t ht => (hts1 t ht).2) hA
  · rw [hsf, hvars]
    exact rfl
end Go.Abs
end
/- The seat of privitylaw14: what is valid. -/
set_option linter.unusedVariables false
noncomputable section
namespace Go.Abs
open Go Go.Proofs

@[simp] theorem draw14 {C : Callee} {f k : Nat} {ops : Array Oper} (id : Nat) (D : St) (Φ : Ex → St → Prop) (h : tree14 f id = none) : EvP Tryd.prog H14 C f k (.region id ops true) D Φ = optE (evDraw Tryd.prog H14 C ops (H14.fz f id) (muOf H14 f id ops) (planOf H14 f id ops) D) (Φ .norm) := by
  refine propext ⟨fun ⟨e, D', h1, h2⟩ => ?_, fun h1 => EvP.draw h1 h⟩
  unfold evCode at h1
  have ht : H14.tree f id = none := h
  simp only [ht, if_true] at h1
  split at h1
  · rename_i hx; cases h1; rw [hx]; exact h2
  · cases h1
def ValidS (p : Nat) (n t : Int) : Prop := 0 < expOf p ∧ 4 ≤ n ∧ n ≤ 13 ∧ n < p ∧ 1 ≤ t ∧ t < n ∧ 3 * t < n
theorem ValidS.P {p : Nat} {n t : Int} (h : ValidS p n t) : ValidP p n t := ⟨expOf_mem h.1, h.2.1, h.2.2.1, h.2.2.2.1, h.2.2.2.2.1, h.2.2.2.2.2.1⟩
instance (p : Nat) (n t : Int) : Decidable (ValidS p n t) := by unfold ValidS; infer_instance
theorem expOf_pow {p : Nat} (h : 0 < expOf p) : p + 1 = 2 ^ expOf p := by
  have := expOf_mem h
  simp only [primes7, List.mem_cons, List.not_mem_nil, or_false] at this
  rcases this with rfl | rfl | rfl | rfl | rfl | rfl | rfl <;> decide
/-- The exponent of a table's row. -/
theorem exp_hit {p e : Nat} (he : e ∈ [5, 7, 13, 17, 19, 31, 61]) : p = 2 ^ e - 1 → expOf p = e := by
  rintro rfl
  simp only [List.mem_cons, List.not_mem_nil, or_false] at he
  rcases he with rfl | rfl | rfl | rfl | rfl | rfl | rfl <;> rfl
theorem exp_miss {p : Nat} (h : ∀ e ∈ [5, 7, 13, 17, 19, 31, 61], p ≠ 2 ^ e - 1) : expOf p = 0 := by
  simp only [List.mem_cons, List.not_mem_nil, or_false, forall_eq_or_imp, forall_eq] at h
  unfold expOf
  simp at h
  simp [h]
theorem beq_ne {p : Nat} {q : Nat} (h : ¬ q = p) : ((p : Int) == (q : Int)) = false := by simp; omega
set_option maxHeartbeats 4000000 in
set_option maxRecDepth 100000 in
/-- Exponent(p) of field -/
theorem exp86 (p : Nat) : AnsN 10 Tryd.prog H14 86 [.int .u64 (p : Int)] (.int .i64 (expOf p : Int)) := by
  refine AnsN.of (fn := Tryd.f86) (t := 2) (by rfl) Tryd.func86 rfl rfl (by rfl) (by rfl) fun k hk nx => ?_
  have s5 : shOp .shl .u64 1 5 = some (.int .u64 32) := rfl
  have s7 : shOp .shl .u64 1 7 = some (.int .u64 128) := rfl
  have s13 : shOp .shl .u64 1 13 = some (.int .u64 8192) := rfl
  have s17 : shOp .shl .u64 1 17 = some (.int .u64 131072) := rfl
  have s19 : shOp .shl .u64 1 19 = some (.int .u64 524288) := rfl
  have s31 : shOp .shl .u64 1 31 = some (.int .u64 2147483648) := rfl
  have s61 : shOp .shl .u64 1 61 = some (.int .u64 2305843009213693952) := rfl
  have x5 : IntKind.u64.wrap 31 = 31 := rfl
  have x7 : IntKind.u64.wrap 127 = 127 := rfl
  have x13 : IntKind.u64.wrap 8191 = 8191 := rfl
  have x17 : IntKind.u64.wrap 131071 = 131071 := rfl
  have x19 : IntKind.u64.wrap 524287 = 524287 := rfl
  have x31 : IntKind.u64.wrap 2147483647 = 2147483647 := rfl
  have x61 : IntKind.u64.wrap 2305843009213693951 = 2305843009213693951 := rfl
  have w1 : IntKind.i64.wrap 1 = 1 := rfl
  have w2 : IntKind.i64.wrap 2 = 2 := rfl
  have w3 : IntKind.i64.wrap 3 = 3 := rfl
  have w4 : IntKind.i64.wrap 4 = 4 := rfl
  have w5 : IntKind.i64.wrap 5 = 5 := rfl
  have w6 : IntKind.i64.wrap 6 = 6 := rfl
  have w7 : IntKind.i64.wrap 7 = 7 := rfl
  obtain ⟨I, hI⟩ : ∃ I : Nat → St → Prop, I = fun q D => ∃ i : Nat, q = 7 - i ∧ i ≤ 7 ∧ (∀ t, t < i → primes7[t]? ≠ some p) ∧ D.s 0 = .int .u64 (p : Int) ∧ D.s 5 = .agg [.int .i64 5, .int .i64 7, .int .i64 13, .int .i64 17, .int .i64 19, .int .i64 31, .int .i64 61] ∧ D.s 6 = .int .i64 (i : Int) ∧ D.m = [] := ⟨_, rfl⟩
  simp [entryS]
  refine EvP.loop I (n := 7) (by rw [hI]; exact ⟨0, by simp⟩) (by omega) fun q D hD => ?_
  rw [hI] at hD
  obtain ⟨i, rfl, hi, hpre, d0, d5, d6, dm⟩ := hD
  by_cases hlt : i < 7
  · have hcase : i = 0 ∨ i = 1 ∨ i = 2 ∨ i = 3 ∨ i = 4 ∨ i = 5 ∨ i = 6 := by omega
    by_cases hp : primes7[i]? = some p
    · rcases hcase with rfl | rfl | rfl | rfl | rfl | rfl | rfl <;>
      · simp [primes7] at hp
        subst hp
        simp [d0, d5, d6, dm, s5, s7, s13, s17, s19, s31, s61, x5, x7, x13, x17, x19, x31, x61, w1, w2, w3, w4, w5, w6, w7, expOf]
    · have fin : ∀ D1 : St, D1.s 0 = .int .u64 (p : Int) → D1.s 5 = .agg [.int .i64 5, .int .i64 7, .int .i64 13, .int .i64 17, .int .i64 19, .int .i64 31, .int .i64 61] → D1.s 6 = .int .i64 ((i : Int) + 1) → D1.m = [] → ∃ n', n' < 7 - i ∧ I n' D1 := by
        intro D1 q0 q5 q6 qm
        subst hI
        refine ⟨7 - (i + 1), by omega, i + 1, rfl, by omega, fun t ht => ?_, q0, q5, by rw [q6]; simp, qm⟩
        by_cases hti : t = i
        · subst hti; exact hp
        · exact hpre t (by omega)
      rcases hcase with rfl | rfl | rfl | rfl | rfl | rfl | rfl
      · simp [primes7] at hp
        have hne : ((p : Int) == 31) = false := by simp; omega
        simp [d0, d5, d6, dm, s5, s7, s13, s17, s19, s31, s61, x5, x7, x13, x17, x19, x31, x61, w1, w2, w3, w4, w5, w6, w7, hne]
        exact fin _ (by simp [d0]) (by simp [d5]) (by first | rfl | simp) (by first | exact dm | simp [dm])
      · simp [primes7] at hp
        have hne : ((p : Int) == 127) = false := by simp; omega
        simp [d0, d5, d6, dm, s5, s7, s13, s17, s19, s31, s61, x5, x7, x13, x17, x19, x31, x61, w1, w2, w3, w4, w5, w6, w7, hne]
        exact fin _ (by simp [d0]) (by simp [d5]) (by first | rfl | simp) (by first | exact dm | simp [dm])
      · simp [primes7] at hp
        have hne : ((p : Int) == 8191) = false := by simp; omega
        simp [d0, d5, d6, dm, s5, s7, s13, s17, s19, s31, s61, x5, x7, x13, x17, x19, x31, x61, w1, w2, w3, w4, w5, w6, w7, hne]
        exact fin _ (by simp [d0]) (by simp [d5]) (by first | rfl | simp) (by first | exact dm | simp [dm])
      · simp [primes7] at hp
        have hne : ((p : Int) == 131071) = false := by simp; omega
        simp [d0, d5, d6, dm, s5, s7, s13, s17, s19, s31, s61, x5, x7, x13, x17, x19, x31, x61, w1, w2, w3, w4, w5, w6, w7, hne]
        exact fin _ (by simp [d0]) (by simp [d5]) (by first | rfl | simp) (by first | exact dm | simp [dm])
      · simp [primes7] at hp
        have hne : ((p : Int) == 524287) = false := by simp; omega
        simp [d0, d5, d6, dm, s5, s7, s13, s17, s19, s31, s61, x5, x7, x13, x17, x19, x31, x61, w1, w2, w3, w4, w5, w6, w7, hne]
        exact fin _ (by simp [d0]) (by simp [d5]) (by first | rfl | simp) (by first | exact dm | simp [dm])
      · simp [primes7] at hp
        have hne : ((p : Int) == 2147483647) = false := by simp; omega
        simp [d0, d5, d6, dm, s5, s7, s13, s17, s19, s31, s61, x5, x7, x13, x17, x19, x31, x61, w1, w2, w3, w4, w5, w6, w7, hne]
        exact fin _ (by simp [d0]) (by simp [d5]) (by first | rfl | simp) (by first | exact dm | simp [dm])
      · simp [primes7] at hp
        have hne : ((p : Int) == 2305843009213693951) = false := by simp; omega
        simp [d0, d5, d6, dm, s5, s7, s13, s17, s19, s31, s61, x5, x7, x13, x17, x19, x31, x61, w1, w2, w3, w4, w5, w6, w7, hne]
        have key : ∀ D1 : St, D1.s 0 = .int .u64 (p : Int) → D1.s 5 = .agg [.int .i64 5, .int .i64 7, .int .i64 13, .int .i64 17, .int .i64 19, .int .i64 31, .int .i64 61] → D1.s 6 = .int .i64 7 → D1.m = [] → I 0 D1 := fun D1 q0 q5 q6 qm => by
          obtain ⟨n', hn', h⟩ := fin D1 q0 q5 q6 qm
          obtain rfl : n' = 0 := by omega
          exact h
        exact key _ (by simp [d0]) (by simp [d5]) (by simp) (by first | rfl | simp [dm])
  · have hi7 : i = 7 := by omega
    subst hi7
    have q0 := hpre 0 (by omega); have q1 := hpre 1 (by omega); have q2 := hpre 2 (by omega); have q3 := hpre 3 (by omega); have q4 := hpre 4 (by omega); have q5 := hpre 5 (by omega); have q6 := hpre 6 (by omega)
    simp [primes7] at q0 q1 q2 q3 q4 q5 q6
    have h0 : expOf p = 0 := by
      unfold expOf
      rw [if_neg (by omega), if_neg (by omega), if_neg (by omega), if_neg (by omega), if_neg (by omega), if_neg (by omega), if_neg (by omega)]
    simp [d0, d5, d6, dm, h0]
set_option maxRecDepth 100000 in
theorem sup78 (p : Nat) : AnsN 11 Tryd.prog H14 78 [.int .u64 (p : Int)] (.bool (decide (0 < expOf p))) := by
  refine AnsN.of (fn := Tryd.f78) (t := 2) (by rfl) Tryd.func78 rfl rfl (by rfl) (by rfl) fun k hk nx => ?_
  have c0 := exp86 p k (by omega)
  by_cases h : expOf p = 0
  · have hb : (((expOf p : Nat) : Int) != 0) = false := by simp [h]
    simp [entryS, c0, h]
  · have hb : (((expOf p : Nat) : Int) != 0) = true := by simp [bne]; omega
    have h0 : 0 < expOf p := by omega
    simp [entryS, c0, hb, h0]
theorem sup68 (p : Nat) : AnsN 12 Tryd.prog H14 68 [.int .u64 (p : Int)] (.bool (decide (0 < expOf p))) := sup41 p
end Go.Abs
end
/- The seat of privitylaw14: valid parameters, the reference. -/
set_option linter.unusedVariables false
noncomputable section
namespace Go.Abs
open Go Go.Proofs
set_option maxHeartbeats 4000000 in
set_option maxRecDepth 100000 in
theorem valid54 (p : Nat) (n t : Int) : AnsN 13 Tryd.prog H14 54 [parV p n t] (.bool (decide (ValidS p n t))) := by
  refine AnsN.of (fn := Tryd.f54) (t := 2) (by rfl) Tryd.func54 rfl rfl (by rfl) (by rfl) fun k hk nx => ?_
  have hc := sup68 p k (by omega)
  by_cases c1 : 0 < expOf p
  case neg => simp [entryS, parV, hc, ValidS, c1]
  by_cases c2 : 4 ≤ n
  case neg => simp [entryS, parV, hc, ValidS, c1, c2]
  by_cases c3 : n ≤ 13
  case neg => simp [entryS, parV, hc, ValidS, c1, c2, c3]
  have hw : IntKind.u64.wrap n = n := wrapu (by omega) (by omega)
  by_cases c4 : n < p
  case neg => simp [entryS, parV, hc, ValidS, c1, c2, c3, hw, c4]
  by_cases c5 : 1 ≤ t
  case neg => simp [entryS, parV, hc, ValidS, c1, c2, c3, hw, c4, c5]
  by_cases c6 : t < n
  case neg => simp [entryS, parV, hc, ValidS, c1, c2, c3, hw, c4, c5, c6]
  have hw7 : IntKind.i64.wrap (3 * t) = 3 * t := wrap_nat (by omega) (by omega)
  by_cases c7 : 3 * t < n
  case neg => simp [entryS, parV, hc, ValidS, c1, c2, c3, hw, c4, c5, c6, hw7, c7]
  simp [entryS, parV, hc, ValidS, c1, c2, c3, hw, c4, c5, c6, hw7, c7]
end Go.Abs
end
/- The seat of privitylaw14: valid parameters. -/
set_option linter.unusedVariables false
noncomputable section
namespace Go.Abs
open Go Go.Proofs
set_option maxHeartbeats 4000000 in
set_option maxRecDepth 100000 in
theorem valid64 (p : Nat) (n t : Int) : AnsN 13 Tryd.prog H14 64 [parV p n t] (.bool (decide (ValidS p n t))) := by
  refine AnsN.of (fn := Tryd.f64) (t := 2) (by rfl) Tryd.func64 rfl rfl (by rfl) (by rfl) fun k hk nx => ?_
  have hc := sup78 p k (by omega)
  by_cases c1 : 0 < expOf p
  case neg => simp [entryS, parV, hc, ValidS, c1]
  by_cases c2 : 4 ≤ n
  case neg => simp [entryS, parV, hc, ValidS, c1, c2]
  by_cases c3 : n ≤ 13
  case neg => simp [entryS, parV, hc, ValidS, c1, c2, c3]
  have hw : IntKind.u64.wrap n = n := wrapu (by omega) (by omega)
  by_cases c4 : n < p
  case neg => simp [entryS, parV, hc, ValidS, c1, c2, c3, hw, c4]
  by_cases c5 : 1 ≤ t
  case neg => simp [entryS, parV, hc, ValidS, c1, c2, c3, hw, c4, c5]
  by_cases c6 : t < n
  case neg => simp [entryS, parV, hc, ValidS, c1, c2, c3, hw, c4, c5, c6]
  have hw7 : IntKind.i64.wrap (3 * t) = 3 * t := wrap_nat (by omega) (by omega)
  by_cases c7 : 3 * t < n
  case neg => simp [entryS, parV, hc, ValidS, c1, c2, c3, hw, c4, c5, c6, hw7, c7]
  simp [entryS, parV, hc, ValidS, c1, c2, c3, hw, c4, c5, c6, hw7, c7]
end Go.Abs
end
/- The seat of privitylaw14: words below the prime; coalitions. -/
set_option linter.unusedVariables false
noncomputable section
namespace Go.Abs
open Go Go.Proofs
set_option maxHeartbeats 1000000 in
set_option maxRecDepth 100000 in
/-- Below(p, l) -/
theorem below57 (p : Nat) (pm : Bool) (A : Option Addr) (cap : Nat) (l : List Nat) (hl : l.length ≤ 1000) : AnsN 1101 Tryd.prog H14 57 [.int .u64 (p : Int), .im pm A cap l.length (uL l)] (.bool (decide (∀ x ∈ l, x < p))) := by
  refine AnsN.of (fn := Tryd.f57) (t := 4) (by rfl) Tryd.func57 rfl rfl (by rfl) (by rfl) fun k hk nx => ?_
  obtain ⟨I, hI⟩ : ∃ I : Nat → St → Prop, I = fun q D => ∃ i : Nat, q = l.length - i ∧ i ≤ l.length ∧ (∀ x ∈ l.take i, x < p) ∧ D.s 0 = .int .u64 (p : Int) ∧ D.s 1 = .im pm A cap l.length (uL l) ∧ D.s 5 = .int .i64 (i : Int) ∧ D.m = [] := ⟨_, rfl⟩
  simp [entryS]
  refine EvP.loop I (n := l.length) (by rw [hI]; exact ⟨0, by simp⟩) (by omega) fun q D hD => ?_
  rw [hI] at hD
  obtain ⟨i, rfl, hi, hpre, d0, d1, d5, dm⟩ := hD
  by_cases hlt : i < l.length
  · have e3 := wrap_succ (q := i) (by omega)
    by_cases hw : l[i] < p
    · have hw' : ¬ (p : Int) ≤ l[i] := by omega
      have hw2 : ¬ p ≤ l[i] := by omega
      simp [d0, d1, d5, hlt, hw', hw2, e3]
      subst hI
      refine ⟨l.length - (i + 1), by omega, i + 1, rfl, by omega, fun x hx => ?_, by simp [d0], by simp [d1], by simp, dm⟩
      rw [List.take_succ_eq_append_getElem hlt] at hx
      rcases List.mem_append.1 hx with hx | hx
      · exact hpre x hx
      · simp at hx; omega
    · have hw' : (p : Int) ≤ l[i] := by omega
      have hw2 : p ≤ l[i] := by omega
      simp [d0, d1, d5, hlt, hw', hw2, dm]
      exact ⟨l[i], List.getElem_mem hlt, hw2⟩
  · have hil : i = l.length := by omega
    have hlt' : ¬ ((i : Int) < l.length) := by omega
    subst hil
    rw [List.take_length] at hpre
    simp [d0, d1, d5, hlt', dm]
    exact hpre
def CoalS (p : Nat) (n t : Int) (l : List Int) : Prop := ValidS p n t ∧ CoalP n t l
theorem coal_bad {n t : Int} {l : List Int} {i : Nat} (h : i < l.length) (hb : ¬ CoalGood n l i) : ¬ CoalP n t l := fun hc => hb (hc.2 i h)
theorem good_iff {n : Int} {l : List Int} {i : Nat} (h : i < l.length) : CoalGood n l i ↔ 1 ≤ l[i] ∧ l[i] ≤ n ∧ ∀ (h0 : 0 < i), l[i - 1] < l[i] := by
  unfold CoalGood
  rw [List.getElem?_eq_getElem h]
  constructor
  · intro hx
    obtain ⟨h1, h2, h3⟩ := hx _ rfl
    exact ⟨h1, h2, fun h0 => h3 _ h0 (List.getElem?_eq_getElem (by omega))⟩
  · rintro ⟨h1, h2, h3⟩ x hx
    cases hx
    refine ⟨h1, h2, fun y h0 hy => ?_⟩
    rw [List.getElem?_eq_getElem (by omega)] at hy
    cases hy
    exact h3 h0
open Classical in
set_option maxHeartbeats 4000000 in
set_option maxRecDepth 100000 in
/-- ValidCoalition(s, l) -/
theorem coal46 (p : Nat) (n t : Int) (pm : Bool) (A : Option Addr) (cap : Nat) (l : List Int) : AnsN 1101 Tryd.prog H14 46 [parV p n t, .im pm A cap l.length (iL l)] (.bool (decide (CoalS p n t l))) := by
  refine AnsN.of (fn := Tryd.f46) (t := 4) (by rfl) Tryd.func46 rfl rfl (by rfl) (by rfl) fun k hk nx => ?_
  have c0 := valid64 p n t k (by omega)
  by_cases hv : ValidS p n t
  case neg =>
    have hc : ¬ CoalS p n t l := fun h => hv h.1
    rw [decide_eq_false hv] at c0
    simp [parV] at c0
    simp [entryS, parV, c0, hc]
  rw [decide_eq_true hv] at c0
  simp [parV] at c0
  by_cases hlt : t < (l.length : Int)
  · have hc : ¬ CoalS p n t l := fun h => by have := h.2.1; omega
    simp [entryS, parV, c0, hlt, hc]
  have ht13 : l.length ≤ 13 := by have := hv.2.2.1; have := hv.2.2.2.2.2.1; omega
  obtain ⟨I, hI⟩ : ∃ I : Nat → St → Prop, I = fun q D => ∃ i : Nat, q = l.length - i ∧ i ≤ l.length ∧ (∀ j, j < i → CoalGood n l j) ∧ D.s 1 = .im pm A cap l.length (iL l) ∧ D.s 2 = .bptr nx 0 ∧ D.s 17 = .im pm A cap l.length (iL l) ∧ D.s 18 = .int .i64 (l.length : Int) ∧ D.s 19 = .int .i64 (i : Int) ∧ D.m = [(nx, ⟨0, [.int .u64 (p : Int), .int .i64 n, .int .i64 t]⟩)] := ⟨_, rfl⟩
  simp [entryS, parV, c0, hlt]
  refine EvP.loop I (n := l.length) (by rw [hI]; exact ⟨0, by simp⟩) (by omega) fun q D hD => ?_
  rw [hI] at hD
  obtain ⟨i, rfl, hi, hpre, d1, d2, d17, d18, d19, dm⟩ := hD
  by_cases hil : i < l.length
  · have e3 := wrap_succ (q := i) (by omega)
    have hlast : CoalGood n l i → ∀ D1 : St, D1.s 1 = .im pm A cap l.length (iL l) → D1.s 2 = .bptr nx 0 → D1.s 17 = .im pm A cap l.length (iL l) → D1.s 18 = .int .i64 (l.length : Int) → D1.s 19 = .int .i64 ((i : Int) + 1) → D1.m = [(nx, ⟨0, [.int .u64 (p : Int), .int .i64 n, .int .i64 t]⟩)] → ∃ n', n' < l.length - i ∧ I n' D1 := by
      intro hg D1 q1 q2 q17 q18 q19 qm
      subst hI
      refine ⟨l.length - (i + 1), by omega, i + 1, rfl, by omega, fun j hj => ?_, q1, q2, q17, q18, by rw [q19]; simp, qm⟩
      by_cases hji : j = i
      · subst hji; exact hg
      · exact hpre j (by omega)
    have hbad : ¬ CoalGood n l i → ¬ CoalS p n t l := fun h hc => coal_bad hil h hc.2
    rw [good_iff hil] at hlast hbad
    by_cases h1 : l[i] < 1
    · have hc := hbad (by omega)
      simp [d1, d2, d17, d18, d19, dm, hil, h1, hc]
    by_cases h2 : n < l[i]
    · have hc := hbad (by omega)
      simp [d1, d2, d17, d18, d19, dm, hil, h1, h2, hc]
    by_cases h0 : 0 < i
    · have hi1 : i - 1 < l.length := by omega
      have e4 : IntKind.i64.wrap ((i : Int) - 1) = ((i - 1 : Nat) : Int) := by rw [wrap_nat (by omega) (by omega)]; omega
      by_cases h3 : l[i] ≤ l[i - 1]
      · have hc := hbad (fun h => by have := h.2.2 h0; omega)
        generalize hx : l[i - 1] = y at *
        simp [d1, d2, d17, d18, d19, dm, hil, h1, h2, h0, e4, hi1, hx, h3, hc]
      · have hl2 := hlast ⟨by omega, by omega, fun _ => by omega⟩
        generalize hx : l[i - 1] = y at *
        simp [d1, d2, d17, d18, d19, dm, hil, h1, h2, h0, e4, hi1, hx, h3, e3]
        exact hl2 _ (by simp [d1]) (by simp [d2]) (by simp [d17]) (by simp [d18]) (by simp) (by simp [dm])
    · have hl2 := hlast ⟨by omega, by omega, fun h => absurd h h0⟩
      simp [d1, d2, d17, d18, d19, dm, hil, h1, h2, h0, e3]
      exact hl2 _ (by simp [d1]) (by simp [d2]) (by simp [d17]) (by simp [d18]) (by simp) (by simp [dm])
  · have hil' : i = l.length := by omega
    have hc : CoalS p n t l := ⟨hv, by omega, fun j hj => hpre j (by omega)⟩
    subst hil'
    simp [d1, d2, d17, d18, d19, dm, hc]
end Go.Abs
end
/- The seat of privitylaw14: coalitions, the reference. -/
set_option linter.unusedVariables false
noncomputable section
namespace Go.Abs
open Go Go.Proofs
open Classical in
set_option maxHeartbeats 4000000 in
set_option maxRecDepth 100000 in
/-- ValidCoalition(s, l), the reference -/
theorem coal55 (p : Nat) (n t : Int) (pm : Bool) (A : Option Addr) (cap : Nat) (l : List Int) : AnsN 1101 Tryd.prog H14 55 [parV p n t, .im pm A cap l.length (iL l)] (.bool (decide (CoalS p n t l))) := by
  refine AnsN.of (fn := Tryd.f55) (t := 4) (by rfl) Tryd.func55 rfl rfl (by rfl) (by rfl) fun k hk nx => ?_
  have c0 := valid54 p n t k (by omega)
  by_cases hv : ValidS p n t
  case neg =>
    have hc : ¬ CoalS p n t l := fun h => hv h.1
    rw [decide_eq_false hv] at c0
    simp [parV] at c0
    simp [entryS, parV, c0, hc]
  rw [decide_eq_true hv] at c0
  simp [parV] at c0
  by_cases hlt : t < (l.length : Int)
  · have hc : ¬ CoalS p n t l := fun h => by have := h.2.1; omega
    simp [entryS, parV, c0, hlt, hc]
  have ht13 : l.length ≤ 13 := by have := hv.2.2.1; have := hv.2.2.2.2.2.1; omega
  obtain ⟨I, hI⟩ : ∃ I : Nat → St → Prop, I = fun q D => ∃ i : Nat, q = l.length - i ∧ i ≤ l.length ∧ (∀ j, j < i → CoalGood n l j) ∧ D.s 1 = .im pm A cap l.length (iL l) ∧ D.s 2 = .bptr nx 0 ∧ D.s 5 = .int .i64 (i : Int) ∧ D.m = [(nx, ⟨0, [.int .u64 (p : Int), .int .i64 n, .int .i64 t]⟩)] := ⟨_, rfl⟩
  simp [entryS, parV, c0, hlt]
  refine EvP.loop I (n := l.length) (by rw [hI]; exact ⟨0, by simp⟩) (by omega) fun q D hD => ?_
  rw [hI] at hD
  obtain ⟨i, rfl, hi, hpre, d1, d2, d5, dm⟩ := hD
  by_cases hil : i < l.length
  · have e3 := wrap_succ (q := i) (by omega)
    have hlast : CoalGood n l i → ∀ D1 : St, D1.s 1 = .im pm A cap l.length (iL l) → D1.s 2 = .bptr nx 0 → D1.s 5 = .int .i64 ((i : Int) + 1) → D1.m = [(nx, ⟨0, [.int .u64 (p : Int), .int .i64 n, .int .i64 t]⟩)] → ∃ n', n' < l.length - i ∧ I n' D1 := by
      intro hg D1 q1 q2 q5 qm
      subst hI
      refine ⟨l.length - (i + 1), by omega, i + 1, rfl, by omega, fun j hj => ?_, q1, q2, by rw [q5]; simp, qm⟩
      by_cases hji : j = i
      · subst hji; exact hg
      · exact hpre j (by omega)
    have hbad : ¬ CoalGood n l i → ¬ CoalS p n t l := fun h hc => coal_bad hil h hc.2
    rw [good_iff hil] at hlast hbad
    by_cases h1 : l[i] < 1
    · have hc := hbad (by omega)
      simp [d1, d2, d5, dm, hil, h1, hc]
    by_cases h2 : n < l[i]
    · have hc := hbad (by omega)
      simp [d1, d2, d5, dm, hil, h1, h2, hc]
    by_cases h0 : 0 < i
    · have hi1 : i - 1 < l.length := by omega
      have e4 : IntKind.i64.wrap ((i : Int) - 1) = ((i - 1 : Nat) : Int) := by rw [wrap_nat (by omega) (by omega)]; omega
      by_cases h3 : l[i] ≤ l[i - 1]
      · have hc := hbad (fun h => by have := h.2.2 h0; omega)
        generalize hx : l[i - 1] = y at *
        simp [d1, d2, d5, dm, hil, h1, h2, h0, e4, hi1, hx, h3, hc]
      · have hl2 := hlast ⟨by omega, by omega, fun _ => by omega⟩
        generalize hx : l[i - 1] = y at *
        simp [d1, d2, d5, dm, hil, h1, h2, h0, e4, hi1, hx, h3, e3]
        exact hl2 _ (by simp [d1]) (by simp [d2]) (by simp) (by simp [dm])
    · have hl2 := hlast ⟨by omega, by omega, fun h => absurd h h0⟩
      simp [d1, d2, d5, dm, hil, h1, h2, h0, e3]
      exact hl2 _ (by simp [d1]) (by simp [d2]) (by simp) (by simp [dm])
  · have hil' : i = l.length := by omega
    have hc : CoalS p n t l := ⟨hv, by omega, fun j hj => hpre j (by omega)⟩
    subst hil'
    simp [d1, d2, d5, dm, hc]
end Go.Abs
end
/- The seat of privitylaw14: functions handed to functions. -/
set_option linter.unusedVariables false
noncomputable section
namespace Go.Abs
open Go Go.Proofs
theorem first_or {α : Type} (q : α → Prop) : ∀ l : List α, (∃ i : Nat, ∃ h : i < l.length, q l[i] ∧ ∀ j (hj : j < i), ¬ q l[j]) ∨ (∀ x ∈ l, ¬ q x)
  | [] => .inr fun x hx => by cases hx
  | a :: l => by
    by_cases ha : q a
    · exact .inl ⟨0, by simp, ha, fun j hj => absurd hj (Nat.not_lt_zero j)⟩
    · rcases first_or q l with ⟨i, h, h1, h2⟩ | h
      · refine .inl ⟨i + 1, by simp; exact h, by simpa using h1, fun j hj => ?_⟩
        cases j with
        | zero => exact ha
        | succ j => simpa using h2 j (by omega)
      · refine .inr fun x hx => ?_
        rcases List.mem_cons.1 hx with rfl | hx
        · exact ha
        · exact h x hx
theorem ed_one (b : Nat) : [b].eraseDups = [b] := rfl
/-- A scenario in a box. -/
def scB (g b : Nat) (s : Scn) : List (Nat × Box) := [(b, ⟨g, scL s⟩)]
theorem scB_lt {g b : Nat} {s : Scn} {nx : Nat} (h : ∀ e ∈ scB g b s, e.1 < nx) : b < nx := h (b, ⟨g, scL s⟩) (by simp [scB])
theorem ptrsL_scL (s : Scn) : ptrsL (scL s) = [] := by simp [scL]
theorem reach_scB (g b : Nat) (s : Scn) (k : Nat) : reach [(b, (⟨g, scL s⟩ : Box))] k [b] = [b] := reach_one (c := ⟨g, scL s⟩) (ptrsL_scL s) (by simp [getBox])
set_option maxHeartbeats 1000000 in
set_option maxRecDepth 100000 in
theorem big53 (g b : Nat) (s : Scn) (x : Nat) : AnsM 1 Tryd.prog H14 53 [.int .u64 (x : Int), .bptr b 0] (scB g b s) (.bool (decide (s.p ≤ x))) (scB g b s) := by
  refine AnsM.gen (fn := Tryd.f53) (by rfl) Tryd.func53 rfl (by rfl) (fun nx h c hc => ?_) fun k hk nx h => ?_
  · simp [scB, ptrs, ptrsL_scL] at hc
  · have hb := scB_lt h
    by_cases hx : s.p ≤ x
    · simp [entryS, scB, scL, hx, hb]
    · simp [entryS, scB, scL, hx, hb]
set_option maxHeartbeats 1000000 in
set_option maxRecDepth 100000 in
theorem idx67 (g b : Nat) (s : Scn) (pm : Bool) (A : Option Addr) (cap : Nat) (l : List Nat) (hl : l.length ≤ 1000) (v : Int)
    (hv : (∃ i : Nat, v = i ∧ ∃ h : i < l.length, s.p ≤ l[i] ∧ ∀ j (hj : j < i), ¬ s.p ≤ l[j]) ∨ (v = -1 ∧ ∀ x ∈ l, ¬ s.p ≤ x)) :
    AnsM 1101 Tryd.prog H14 67 [.im pm A cap l.length (uL l), .fn (.func 53) [] [.bptr b 0]] (scB g b s) (.int .i64 v) (scB g b s) := by
  refine AnsM.gen (fn := Tryd.f67) (by rfl) Tryd.func67 rfl (by rfl) (fun nx h c hc => ?_) fun k hk nx h => ?_
  · simp [scB, ptrs, ptrsL_scL] at hc
  have hb := scB_lt h
  obtain ⟨I, hI⟩ : ∃ I : Nat → St → Prop, I = fun q D => ∃ i : Nat, q = l.length - i ∧ i ≤ l.length ∧ (∀ j (hj : j < i) (hjl : j < l.length), ¬ s.p ≤ l[j]) ∧ D.s 0 = .im pm A cap l.length (uL l) ∧ D.s 1 = .fn (.func 53) [] [.bptr b 0] ∧ D.s 7 = .int .i64 (l.length : Int) ∧ D.s 8 = .int .i64 (i : Int) ∧ D.m = [(b, ⟨g, scL s⟩)] ∧ D.nx = nx := ⟨_, rfl⟩
  simp [entryS, scB]
  refine EvP.loop I (n := l.length) (by rw [hI]; exact ⟨0, by simp⟩) (by omega) fun q D hD => ?_
  rw [hI] at hD
  obtain ⟨i, rfl, hi, hpre, d0, d1, d7, d8, dm, dx⟩ := hD
  by_cases hil : i < l.length
  · have e3 := wrap_succ (q := i) (by omega)
    have c0 := big53 g b s l[i] k (by omega) nx h
    simp only [scB] at c0
    have hr := reach_scB g b s 1
    by_cases hw : s.p ≤ l[i]
    · rw [decide_eq_true hw] at c0
      have hvi : v = i := by
        rcases hv with ⟨i2, rfl, h2, h3, h4⟩ | ⟨_, h2⟩
        · have : ¬ i2 < i := fun hlt => hpre i2 hlt h2 h3
          have : ¬ i < i2 := fun hlt => h4 i hlt hw
          omega
        · exact absurd hw (h2 _ (List.getElem_mem hil))
      simp [-reach, d0, d1, d7, d8, dm, dx, hil, c0, hr, ed_one, hb, hvi]
    · rw [decide_eq_false hw] at c0
      simp [-reach, d0, d1, d7, d8, dm, dx, hil, c0, hr, ed_one, hb, e3]
      subst hI
      refine ⟨l.length - (i + 1), by omega, i + 1, rfl, by omega, fun j hj hjl => ?_, by simp [d0], by simp [d1], by simp [d7], by simp, rfl, rfl⟩
      by_cases hji : j = i
      · subst hji; exact hw
      · exact hpre j (by omega) hjl
  · have hil' : i = l.length := by omega
    have hvm : v = -1 := by
      rcases hv with ⟨i2, rfl, h2, h3, h4⟩ | ⟨h1, _⟩
      · exact absurd h3 (hpre i2 (by omega) h2)
      · exact h1
    subst hil'
    simp [d0, d1, d7, d8, dm, dx, hb, hvm]
set_option maxHeartbeats 1000000 in
set_option maxRecDepth 100000 in
theorem any52 (g b : Nat) (s : Scn) (pm : Bool) (A : Option Addr) (cap : Nat) (l : List Nat) (hl : l.length ≤ 1000) :
    AnsM 1102 Tryd.prog H14 52 [.im pm A cap l.length (uL l), .fn (.func 53) [] [.bptr b 0]] (scB g b s) (.bool (decide (∃ x ∈ l, s.p ≤ x))) (scB g b s) := by
  refine AnsM.gen (fn := Tryd.f52) (by rfl) Tryd.func52 rfl (by rfl) (fun nx h c hc => ?_) fun k hk nx h => ?_
  · simp [scB, ptrs, ptrsL_scL] at hc
  have hb := scB_lt h
  have hr := reach_scB g b s 1
  rcases first_or (fun x => s.p ≤ x) l with ⟨i, h1, h2, h3⟩ | hno
  · have c0 := idx67 g b s false A cap l hl i (.inl ⟨i, rfl, h1, h2, h3⟩) k (by omega) nx h
    simp only [scB] at c0
    have hx : ∃ x ∈ l, s.p ≤ x := ⟨_, List.getElem_mem h1, h2⟩
    rw [decide_eq_true hx]
    simp [-reach, entryS, scB, c0, hr, ed_one, hb]
  · have c0 := idx67 g b s false A cap l hl (-1) (.inr ⟨rfl, hno⟩) k (by omega) nx h
    simp only [scB] at c0
    have hx : ¬ ∃ x ∈ l, s.p ≤ x := fun ⟨x, h1, h2⟩ => hno x h1 h2
    rw [decide_eq_false hx]
    simp [-reach, entryS, scB, c0, hr, ed_one, hb]
end Go.Abs
end
/- The seat of privitylaw14: functions handed to functions, second part. -/
set_option linter.unusedVariables false
noncomputable section
namespace Go.Abs
open Go Go.Proofs
set_option maxHeartbeats 1000000 in
set_option maxRecDepth 100000 in
theorem big51 (g b : Nat) (s : Scn) (pm : Bool) (A : Option Addr) (cap : Nat) (l : List Nat) (hl : l.length ≤ 1000) : AnsM 1103 Tryd.prog H14 51 [.im pm A cap l.length (uL l), .bptr b 0] (scB g b s) (.bool (decide (∃ x ∈ l, s.p ≤ x))) (scB g b s) := by
  refine AnsM.gen (fn := Tryd.f51) (by rfl) Tryd.func51 rfl (by rfl) (fun nx h c hc => ?_) fun k hk nx h => ?_
  · simp [scB, ptrs, ptrsL_scL] at hc
  · have hb := scB_lt h
    have hr := reach_scB g b s 1
    have c0 := any52 g b s false A cap l hl k (by omega) nx h
    simp only [scB] at c0
    simp [-reach, entryS, scB, c0, hr, ed_one, hb]
def RB (p : Nat) (r : RD) : Prop := ∃ x ∈ r.l, p ≤ x
set_option maxHeartbeats 1000000 in
set_option maxRecDepth 100000 in
theorem idx66 (g b : Nat) (s : Scn) (pm : Bool) (A : Option Addr) (cap : Nat) (l : List RD) (hl : l.length ≤ 1000) (hr0 : ∀ r ∈ l, r.l.length ≤ 1000) (v : Int)
    (hv : (∃ i : Nat, v = i ∧ ∃ h : i < l.length, RB s.p l[i] ∧ ∀ j (hj : j < i), ¬ RB s.p l[j]) ∨ (v = -1 ∧ ∀ x ∈ l, ¬ RB s.p x)) :
    AnsM 1104 Tryd.prog H14 66 [.im pm A cap l.length (rsV l), .fn (.func 51) [] [.bptr b 0]] (scB g b s) (.int .i64 v) (scB g b s) := by
  refine AnsM.gen (fn := Tryd.f66) (by rfl) Tryd.func66 rfl (by rfl) (fun nx h c hc => ?_) fun k hk nx h => ?_
  · simp [scB, ptrs, ptrsL_scL] at hc
  have hb := scB_lt h
  obtain ⟨I, hI⟩ : ∃ I : Nat → St → Prop, I = fun q D => ∃ i : Nat, q = l.length - i ∧ i ≤ l.length ∧ (∀ j (hj : j < i) (hjl : j < l.length), ¬ RB s.p l[j]) ∧ D.s 0 = .im pm A cap l.length (rsV l) ∧ D.s 1 = .fn (.func 51) [] [.bptr b 0] ∧ D.s 7 = .int .i64 (l.length : Int) ∧ D.s 8 = .int .i64 (i : Int) ∧ D.m = [(b, ⟨g, scL s⟩)] ∧ D.nx = nx := ⟨_, rfl⟩
  simp [entryS, scB]
  refine EvP.loop I (n := l.length) (by rw [hI]; exact ⟨0, by simp⟩) (by omega) fun q D hD => ?_
  rw [hI] at hD
  obtain ⟨i, rfl, hi, hpre, d0, d1, d7, d8, dm, dx⟩ := hD
  by_cases hil : i < l.length
  · have e3 := wrap_succ (q := i) (by omega)
    have c0 := big51 g b s false l[i].A l[i].cap l[i].l (hr0 _ (List.getElem_mem hil)) k (by omega) nx h
    simp only [scB] at c0
    have hr := reach_scB g b s 1
    by_cases hw : RB s.p l[i]
    · have hw' : ∃ x ∈ (l[i]'hil).l, s.p ≤ x := hw
      rw [decide_eq_true hw'] at c0
      have hvi : v = i := by
        rcases hv with ⟨i2, rfl, h2, h3, h4⟩ | ⟨_, h2⟩
        · have : ¬ i2 < i := fun hlt => hpre i2 hlt h2 h3
          have : ¬ i < i2 := fun hlt => h4 i hlt hw
          omega
        · exact absurd hw (h2 _ (List.getElem_mem hil))
      simp [-reach, d0, d1, d7, d8, dm, dx, hil, c0, hr, ed_one, hb, hvi]
    · have hw' : ¬ ∃ x ∈ (l[i]'hil).l, s.p ≤ x := hw
      rw [decide_eq_false hw'] at c0
      simp [-reach, d0, d1, d7, d8, dm, dx, hil, c0, hr, ed_one, hb, e3]
      subst hI
      refine ⟨l.length - (i + 1), by omega, i + 1, rfl, by omega, fun j hj hjl => ?_, by simp [d0], by simp [d1], by simp [d7], by simp, rfl, rfl⟩
      by_cases hji : j = i
      · subst hji; exact hw
      · exact hpre j (by omega) hjl
  · have hil' : i = l.length := by omega
    have hvm : v = -1 := by
      rcases hv with ⟨i2, rfl, h2, h3, h4⟩ | ⟨h1, _⟩
      · exact absurd h3 (hpre i2 (by omega) h2)
      · exact h1
    subst hil'
    simp [d0, d1, d7, d8, dm, dx, hb, hvm]
open Classical in
set_option maxHeartbeats 1000000 in
set_option maxRecDepth 100000 in
theorem any50 (g b : Nat) (s : Scn) (pm : Bool) (A : Option Addr) (cap : Nat) (l : List RD) (hl : l.length ≤ 1000) (hr0 : ∀ r ∈ l, r.l.length ≤ 1000) :
    AnsM 1105 Tryd.prog H14 50 [.im pm A cap l.length (rsV l), .fn (.func 51) [] [.bptr b 0]] (scB g b s) (.bool (decide (∃ r ∈ l, RB s.p r))) (scB g b s) := by
  refine AnsM.gen (fn := Tryd.f50) (by rfl) Tryd.func50 rfl (by rfl) (fun nx h c hc => ?_) fun k hk nx h => ?_
  · simp [scB, ptrs, ptrsL_scL] at hc
  have hb := scB_lt h
  have hr := reach_scB g b s 1
  have hll : (l.map lent).length = l.length := by simp
  have hrl : ∀ r ∈ l.map lent, r.l.length ≤ 1000 := fun r hr => by
    obtain ⟨x, hx, rfl⟩ := List.mem_map.1 hr
    exact hr0 x hx
  rcases first_or (RB s.p) l with ⟨i, h1, h2, h3⟩ | hno
  · have c0 := idx66 g b s false A cap (l.map lent) (by omega) hrl i (.inl ⟨i, rfl, by simpa using h1, by simpa [RB] using h2, fun j hj => by simpa [RB] using h3 j hj⟩) k (by omega) nx h
    simp only [scB, hll] at c0
    have hx : ∃ r ∈ l, RB s.p r := ⟨_, List.getElem_mem h1, h2⟩
    rw [decide_eq_true hx]
    simp [-reach, entryS, scB, c0, hr, ed_one, hb]
  · have c0 := idx66 g b s false A cap (l.map lent) (by omega) hrl (-1) (.inr ⟨rfl, fun x hx => by
      obtain ⟨y, hy, rfl⟩ := List.mem_map.1 hx
      exact hno y hy⟩) k (by omega) nx h
    simp only [scB, hll] at c0
    have hx : ¬ ∃ r ∈ l, RB s.p r := fun ⟨x, h1, h2⟩ => hno x h1 h2
    rw [decide_eq_false hx]
    simp [-reach, entryS, scB, c0, hr, ed_one, hb]
end Go.Abs
end
