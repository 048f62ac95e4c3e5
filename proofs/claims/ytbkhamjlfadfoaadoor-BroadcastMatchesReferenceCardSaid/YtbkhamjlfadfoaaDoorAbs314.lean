/- Joined: AbsPNUC AbsPNUD. -/
import Derived.Test.YtbkhamjlfadfoaaDoorAbs313
set_option linter.all false
set_option maxHeartbeats 16000000
noncomputable section
namespace Go.Abs
open Go Go.Proofs
attribute [local simp] intOp shOp
set_option maxRecDepth 100000
@[simp] theorem mls_lent (ms : List MD) : mls (ms.map lentM) = mls ms := by
 simp [mls, List.map_map, Function.comp_def, lentM]
theorem heard27 (pm : Bool) (A : Option Addr) (cap : Nat) (ms : List MD) (x : Dev) {p : Nat} (hn : ms.length ≤ 1000) (hd : DevP (ms.length : Int) x) (hw : MsOk p ms.length (mls ms)) : ∃ v w, AnsN 1 Tryd.prog H14 94 [.im pm A cap ms.length (msV ms), devV x] v ∧ IsRow v w ∧ (x.kind = 3 → w = saidS (mls ms) x) ∧ ∀ y ∈ w, y < p := by
 have hrl : ∀ i (h : i < ms.length), ms[i].l.length = ms.length := fun i h => by
  have := (hw.2 (ms[i].l.map (·.l)) (List.mem_map.2 ⟨ms[i], List.getElem_mem h, rfl⟩)).1
  simpa using this
 by_cases h1 : x.of_ < 1
 ·refine ⟨.own .nil 0 0 [], [], AnsN.of (N := 0) (fn := Tryd.f94) (t := 4) (by rfl) Tryd.func94 rfl rfl (by rfl) (by rfl) fun k hk nx => ?_, IsRow.own 0 [], fun h => absurd (hd.echo h) (by omega), by simp⟩
  refine EvP.seq (EvP.region ?_)
  simp [entryS, devV]
  refine EvP.seq (EvP.seq (EvP.region ?_))
  simp [h1]
  refine EvP.cond (t := true) (by simp) (fun _ => ?_) (fun h => by cases h)
  refine EvP.seq (EvP.region ?_)
  simp
  refine EvP.ret ?_
  simp
 ·obtain ⟨og, hog0⟩ : ∃ og : Nat, x.of_ = (og : Int) + 1 := ⟨(x.of_ - 1).toNat, by omega⟩
  obtain ⟨fr, hfr0⟩ : ∃ fr : Nat, x.from_ = (fr : Int) + 1 := ⟨(x.from_ - 1).toNat, by have := hd.from1; omega⟩
  have hogl : og < ms.length := by have := hd.of2; omega
  have hfrl : fr < ms.length := by have := hd.from2; omega
  have hol := hrl og hogl
  have hog : IntKind.i64.wrap (x.of_ - 1) = (og : Int) := by rw [hog0, wrap_nat (by omega) (by omega)]; omega
  have hfr : IntKind.i64.wrap (x.from_ - 1) = (fr : Int) := by rw [hfr0, wrap_nat (by omega) (by omega)]; omega
  have hfo : fr < ms[og].l.length := by omega
  refine ⟨rV ms[og].l[fr], ms[og].l[fr].l, AnsN.of (N := 0) (fn := Tryd.f94) (t := 4) (by rfl) Tryd.func94 rfl rfl (by rfl) (by simp [rV, plainV]) fun k hk nx => ?_, IsRow.im _ _ _ _, fun h => ?_, ?_⟩
  ·refine EvP.seq (EvP.region ?_)
   simp [entryS, devV]
   refine EvP.seq (EvP.seq (EvP.region ?_))
   simp [h1]
   refine EvP.cond (t := false) (by simp [h1]) (fun h => by cases h) (fun _ => EvP.skip ?_)
   simp
   refine EvP.seq (EvP.draw ?_)
   simp [hog, hogl, hol, hfr, hfrl]
   refine EvP.ret ?_
   simp [rV]
  ·have ho : (mls ms)[og]? = some (ms[og].l.map (·.l)) := by simp [mls, hogl]
   rw [saidS, if_pos h, show (x.of_ - 1).toNat = og by omega, show (x.from_ - 1).toNat = fr by omega, ho]
   simp [hol, hfrl]
  ·have := (hw.2 (ms[og].l.map (·.l)) (List.mem_map.2 ⟨ms[og], List.getElem_mem hogl, rfl⟩)).2
   exact (this _ (List.mem_map.2 ⟨ms[og].l[fr], List.getElem_mem hfo, rfl⟩)).2
theorem msgs17 (s : Scn) (hs : ScnOk s) {q : Nat} (hq : (s.p, q) ∈ pq7) (hd : ∀ x ∈ s.devs, DevP s.n x) (hk64 : ∀ x ∈ s.devs, x.k < 18446744073709551616) (rd : Int) : ∃ N, ∀ (pm : Bool) (A : Option Addr) (cap : Nat) (ms : List MD), (ms.length : Int) = s.n → s.n ≤ 13 → MsOk s.p ms.length (mls ms) →
 AnsP N Tryd.prog H14 80 [scV s, .int .i64 rd, .im pm A cap ms.length (msV ms)] (fun v => ∃ cs, v = .own .nil 0 ms.length cs ∧ Rows2 cs (msgS s.p s.corrupt rd ms.length (mls ms) s.devs)) := by
 have hml : maxLen = 9223372036854775807 := rfl
 obtain ⟨hp1, hq1, hq2⟩ := pq_facts hq
 have hp0 : 0 < s.p := by
  have : 2 ^ 5 ≤ 2 ^ q := Nat.pow_le_pow_right (by omega) hq1
  omega
 obtain ⟨N1, h1⟩ := told26 (lentS s) (lentS_ok hs) hq
 have h0 : ∀ v, AnsN (s.corrupt.length + 1 + 1) Tryd.prog H14 92 [scV (lentS s), .int .i64 v] (.bool (decide (v ∈ s.corrupt))) := fun v => bad25 (lentS s) (lentS_ok hs) v
 obtain ⟨p, n, t, cpm, cA, ccap, corrupt, dpm, dA, dcap, devs, tpm, tA, tcap, tapes⟩ := s
 obtain ⟨hs1, hs2, hs3, hs4⟩ := hs
 simp only at *
 refine ⟨N1 + corrupt.length + 4 + devs.length + 15 + 1, fun pm A cap ms hlen hn13 hw => ?_⟩
 refine AnsP.of (fn := Tryd.f80) (t := 6) (by rfl) Tryd.func80 rfl rfl (by rfl) fun k hk nx => ?_
 have hn1 : ms.length * 24 ≤ 140737488355328 := by omega
 have hn2 : ms.length ≤ 140737488355328 := by omega
 have hrl : ∀ i (h : i < ms.length), ms[i].l.length = ms.length := fun i h => by
  have := (hw.2 (ms[i].l.map (·.l)) (List.mem_map.2 ⟨ms[i], List.getElem_mem h, rfl⟩)).1
  simpa using this
 have c0 := fun x => h0 x k (by omega)
 simp only [scV, scL, lentS, devV, List.length_map] at c0
 let K0 : St → Prop := fun D => D.s 1 = .int .i64 rd ∧ D.s 2 = .im pm A cap ms.length (msV ms) ∧ D.s 3 = .bptr nx 0 ∧ D.m = [(nx, ⟨0, scL ⟨p, n, t, cpm, cA, ccap, corrupt, dpm, dA, dcap, devs, tpm, tA, tcap, tapes⟩⟩)] ∧ D.nx = nx + 1
 refine EvP.seqG K0 (EvP.region ?_) ?_
 ·simp [entryS, scV, scL, K0]
 rintro D ⟨d1, d2, d3, dm, dx⟩
 refine EvP.seqG (fun D => K0 D ∧ D.s 7 = .own .nil 0 0 []) (EvP.region ?_) ?_
 ·simp [d1, d2, d3, dm, dx, K0]
 rintro D ⟨⟨d1, d2, d3, dm, dx⟩, d7⟩
 refine EvP.seqG (fun D => K0 D ∧ ∃ CS, D.s 7 = .own .nil 0 ms.length CS ∧ Rows2 CS (mls ms)) (EvP.seq (EvP.region ?_)) ?_
 ·simp [d2]
  refine EvP.block (EvP.loop (fun q D => ∃ (i : Nat) (CS : List V), q = ms.length - i ∧ i ≤ ms.length ∧ D.s 7 = .own .nil 0 i CS ∧ CS.length = i ∧ (∀ j (h : j < ms.length), j < i → CS[j]? = some (.own .nil 0 ms.length (rsV ms[j].l))) ∧ D.s 8 = .int .i64 (i : Int) ∧ K0 D) (n := ms.length) ⟨0, [], by simp [d1, d2, d3, dm, dx, d7, K0]⟩ (by omega) ?_)
  rintro q D ⟨i, CS, hn, hi, d7, hCS, hpre, d8, d1, d2, d3, dm, dx⟩
  simp only [liveOf14, clear_none]
  refine EvP.seq (EvP.seq (EvP.region ?_))
  simp [d2, d8]
  refine EvP.cond (t := decide (i < ms.length)) (by simp) (fun h => EvP.skip ?_) (fun h => EvP.exit ?_)
  ·have hlt : i < ms.length := by simpa using h
   have hli := hrl i hlt
   have hi1 : (i + 1) * 24 ≤ 140737488355328 := by omega
   have hi2 : i + 1 ≤ 140737488355328 := by omega
   simp only [thenE_norm]
   refine EvP.seq (EvP.block (EvP.region ?_))
   simp [d7, d2, d8, hlt, hli, hn1, hn2, hCS, hi1, hi2, dm, dx]
   refine EvP.region ?_
   simp [d8, d7, d1, d2, d3, dm, dx, K0]
   refine ⟨_, by omega, i + 1, rfl, by omega, _, ⟨rfl, rfl⟩, by simp [hCS], fun j h hj => ?_, wrap_succ (by omega)⟩
   by_cases hji : j = i
   ·subst hji
    rw [List.getElem?_append_right (by omega), hCS]
    simp
   ·rw [List.getElem?_append_left (by omega)]
    exact hpre j h (by omega)
  ·have hlt : i = ms.length := by have : ¬ i < ms.length := by simpa using h
                                  omega
   subst hlt
   simp [d1, d2, d3, dm, dx, K0, d7]
   refine ⟨by simp [mls, hCS], fun j v l h1 h2 => ?_⟩
   have hj : j < ms.length := by
    have := (List.getElem?_eq_some_iff.1 h1).1
    omega
   rw [hpre j hj (by omega)] at h1
   unfold mls at h2
   rw [List.getElem?_map, List.getElem?_eq_getElem hj] at h2
   cases h1; cases h2
   exact ⟨rsV ms[j].l, by simp [hrl j hj], rows_rsV _⟩
 rintro D ⟨⟨d1, d2, d3, dm, dx⟩, CS, d7, hR0⟩
 have hlm : (ms.map lentM).length = ms.length := by simp
 have h27 : ∀ x, DevP (ms.length : Int) x → ∃ v w, AnsN 1 Tryd.prog H14 94 [.im false A cap ms.length (msV (ms.map lentM)), devV x] v ∧ IsRow v w ∧ (x.kind = 3 → w = saidS (mls ms) x) ∧ ∀ y ∈ w, y < p := fun x hx => by
  have := heard27 false A cap (ms.map lentM) x (p := p) (by rw [hlm]; omega) (by rw [hlm]; exact hx) (by rw [hlm, mls_lent]; exact hw)
  rw [hlm, mls_lent] at this
  exact this
 generalize hout : mls ms = out at *
 have houtl : out.length = ms.length := by rw [← hout]; simp [mls]
 unfold scL at dm
 simp only at dm
 refine EvP.seqG (fun D => ∃ CS, D.s 7 = .own .nil 0 ms.length CS ∧ Rows2 CS (msgS p corrupt rd ms.length out devs) ∧ ∀ b ∈ D.m, nx ≤ b.1) (EvP.seq (EvP.region ?_)) ?_
 ·simp
  refine EvP.block (EvP.loop (fun q D => ∃ (i : Nat) (CS : List V), q = devs.length - i ∧ i ≤ devs.length ∧ Rows2 CS ((devs.take i).foldl (stepM p corrupt rd ms.length out) out) ∧ D.s 1 = .int .i64 rd ∧ D.s 2 = .im pm A cap ms.length (msV ms) ∧ D.s 3 = .bptr nx 0 ∧ D.s 7 = .own .nil 0 ms.length CS ∧ D.s 9 = .int .i64 (i : Int)
   ∧ getBox D.m nx = some ⟨0, scL ⟨p, n, t, cpm, cA, ccap, corrupt, dpm, dA, dcap, devs, tpm, tA, tcap, tapes⟩⟩ ∧ (∀ b ∈ D.m, b.1 < D.nx) ∧ (∀ b ∈ D.m, nx ≤ b.1) ∧ nx < D.nx) (n := devs.length) ⟨0, CS, by simp [d1, d2, d3, dm, dx, d7, hR0, scL, getBox]⟩ (by omega) ?_)
  rintro q D ⟨i, CS, hn, hi, hR, d1, d2, d3, d7, d9, g0, g1, g2, g3⟩
  simp only [liveOf14, clear_none]
  have e0 := g0
  unfold scL at e0
  simp only at e0
  refine EvP.seq (EvP.seq (EvP.region ?_))
  simp [d3, d9, e0]
  refine EvP.cond (t := decide (i < devs.length)) (by simp) (fun h => EvP.skip ?_) (fun h => EvP.exit ?_)
  ·have hlt : i < devs.length := by simpa using h
   simp only [thenE_norm]
   have h8 : i * 8 + 8 ≤ devs.length * 8 := by omega
   have h88 : 8 ≤ devs.length * 8 - i * 8 := by omega
   have e1 : ∀ c, getBox (D.m ++ [(D.nx, c)]) D.nx = some c := fun c => getBox_app_new g1
   have e2' : ∀ c, getBox (D.m ++ [(D.nx, c)]) nx = some ⟨0, scL ⟨p, n, t, cpm, cA, ccap, corrupt, dpm, dA, dcap, devs, tpm, tA, tcap, tapes⟩⟩ := fun c => getBox_app_old g0
   have e3 : ∀ c c', setBox (D.m ++ [(D.nx, c)]) D.nx c' = D.m ++ [(D.nx, c')] := fun c c' => setBox_app_new g1
   have b1 : ∀ (c : Box) (a : Nat) (b : Box), (a, b) ∈ D.m ∨ a = D.nx ∧ b = c → a < D.nx + 1 := by
    rintro c a b (h | ⟨rfl, _⟩)
    ·have := g1 _ h; simp at this; omega
    ·omega
   have b2 : ∀ (c : Box) (a : Nat) (b : Box), (a, b) ∈ D.m ∨ a = D.nx ∧ b = c → nx ≤ a := by
    rintro c a b (h | ⟨rfl, _⟩)
    ·exact g2 _ h
    ·omega
   have e2 := e2'
   unfold scL at e2
   simp only at e2
   have hx := hd devs[i] (List.getElem_mem hlt)
   have hlsok := foldM_ok (c := corrupt) (rd := rd) (out := out) (devs := devs.take i) hp0 hw
   have hstep : (devs.take (i + 1)).foldl (stepM p corrupt rd ms.length out) out = stepM p corrupt rd ms.length out ((devs.take i).foldl (stepM p corrupt rd ms.length out) out) devs[i] := foldl_take_succ _ _ hlt
   generalize hls : (devs.take i).foldl (stepM p corrupt rd ms.length out) out = ls at *
   obtain ⟨DM, hDM⟩ : ∃ DM, DM = D.m ++ [(D.nx, ⟨0, devL devs[i]⟩)] := ⟨_, rfl⟩
   have g4 : getBox DM D.nx = some ⟨0, devL devs[i]⟩ := by rw [hDM]; exact e1 _
   have g5 : getBox DM nx = some ⟨0, scL ⟨p, n, t, cpm, cA, ccap, corrupt, dpm, dA, dcap, devs, tpm, tA, tcap, tapes⟩⟩ := by rw [hDM]; exact e2' _
   have b1' : ∀ b ∈ DM, b.1 < D.nx + 1 := fun b hb => by
    rw [hDM] at hb
    obtain ⟨a, b⟩ := b
    exact b1 _ a b (by simpa using hb)
   have b2' : ∀ b ∈ DM, nx ≤ b.1 := fun b hb => by
    rw [hDM] at hb
    obtain ⟨a, b⟩ := b
    exact b2 _ a b (by simpa using hb)
   have g6 := g5
   unfold devL at g4
   unfold scL at g6
   simp only at g6
   let K1 : St → Prop := fun D' => D'.s 1 = .int .i64 rd ∧ D'.s 2 = .im pm A cap ms.length (msV ms) ∧ D'.s 3 = .bptr nx 0 ∧ D'.s 9 = .int .i64 (i : Int) ∧ D'.m = DM ∧ D'.nx = D.nx + 1
   refine EvP.seqG (fun D' => K1 D' ∧ ∃ CS, D'.s 7 = .own .nil 0 ms.length CS ∧ Rows2 CS ((devs.take (i + 1)).foldl (stepM p corrupt rd ms.length out) out)) (EvP.block ?_) ?_
   ·refine EvP.seqG (fun D' => K1 D' ∧ D'.s 7 = .own .nil 0 ms.length CS ∧ D'.s 10 = .bptr D.nx 0) (EvP.region ?_) ?_
    ·simp [d1, d2, d3, d7, d9, e0, hlt, h8, h88, devL, e1, e2, e3, K1, hDM]
    rintro D1 ⟨⟨d1, d2, d3, d9, dm, dx⟩, d7, d10⟩
    have c0i := c0 devs[i].from_
    refine EvP.seq (EvP.seq (EvP.region ?_))
    by_cases hno : ¬ (devs[i].round = rd ∧ devs[i].from_ ∈ corrupt)
    ·by_cases hr : devs[i].round = rd
     ·have hr' : (devs[i].round != rd) = false := by simp [bne, hr]
      have hb2 : devs[i].from_ ∉ corrupt := fun h => hno ⟨hr, h⟩
      rw [decide_eq_false hb2] at c0i
      simp [d1, d3, d10, dm, dx, g4, g6, c0i, hr']
      refine EvP.cond (t := true) (by simp) (fun _ => EvP.exit ?_) (fun h => by cases h)
      simp [d1, d2, d3, d9, dm, dx, d7, K1]
      rw [hstep, stepM, if_neg hno]; exact hR
     ·have hr' : (devs[i].round != rd) = true := by simp [bne, hr]
      simp [d1, d3, d10, dm, dx, g4, g6, c0i, hr']
      refine EvP.cond (t := true) (by simp) (fun _ => EvP.exit ?_) (fun h => by cases h)
      simp [d1, d2, d3, d9, dm, dx, d7, K1]
      rw [hstep, stepM, if_neg hno]; exact hR
    ·have hyes : (devs[i].round = rd ∧ devs[i].from_ ∈ corrupt) := by
      by_cases h : devs[i].round = rd ∧ devs[i].from_ ∈ corrupt
      ·exact h
      ·exact absurd h hno
     rw [decide_eq_true hyes.2] at c0i
     have hr' : (devs[i].round != rd) = false := by simp [bne, hyes.1]
     obtain ⟨fr, hfr0⟩ : ∃ fr : Nat, devs[i].from_ = (fr : Int) + 1 := ⟨(devs[i].from_ - 1).toNat, by have := hx.from1; omega⟩
     have hfr : IntKind.i64.wrap (devs[i].from_ - 1) = (fr : Int) := by rw [hfr0, wrap_nat (by omega) (by have := hx.from2; omega)]; omega
     have hfrl : fr < ms.length := by have := hx.from2; omega
     have hfrs : fr < ls.length := by rw [hlsok.1]; exact hfrl
     have hrow := hlsok.2 ls[fr] (List.getElem_mem hfrs)
     simp [d1, d3, d10, dm, dx, g4, g6, c0i, hr']
     refine EvP.cond (t := false) (by simp) (fun h => by cases h) (fun _ => EvP.skip ?_)
     simp only [thenE_norm]
     let K2 : St → Prop := fun D' => K1 D' ∧ D'.s 10 = .bptr D.nx 0
     obtain ⟨hv27, w27, a27, r27, s27, l27⟩ := h27 devs[i] (by rw [hlen]; exact hx)
     have a27 := a27 k (by omega)
     simp only [devV] at a27
     generalize hsaid : saidS out devs[i] = said at *
     have hRowJ : ∀ j, ∃ l, l = (List.range j).foldl (stepJ p corrupt devs[i] said) ls[fr] ∧ LsOk p l ∧ l.length = ms.length := fun j => by
      obtain ⟨q1, q2⟩ := foldJ_ok (js := List.range j) (c := corrupt) (x := devs[i]) (said := said) hp0 hrow.2
      exact ⟨_, rfl, q1, by rw [q2]; exact hrow.1⟩
     have hCSl : CS.length = ms.length := by rw [hR.1, hlsok.1]
     refine EvP.seq (EvP.region ?_)
     simp
     refine EvP.block (EvP.loop (fun q D' => ∃ (j : Nat) (CS : List V), q = ms.length - j ∧ j ≤ ms.length ∧ Rows2 CS (ls.set fr ((List.range j).foldl (stepJ p corrupt devs[i] said) ls[fr])) ∧ D'.s 7 = .own .nil 0 ms.length CS ∧ D'.s 11 = .int .i64 ((j : Int) + 1) ∧ K2 D') (n := ms.length) ⟨0, CS, by simp [d1, d2, d3, d9, dm, dx, d7, d10, K1, K2, hR]⟩ (by omega) ?_)
     rintro q D2 ⟨j, CS2, hn', hj, hR2, d7, d11, ⟨d1, d2, d3, d9, dm, dx⟩, d10⟩
     simp only [liveOf14, clear_none]
     refine EvP.seq (EvP.seq (EvP.region ?_))
     simp [d3, d11, dm, g6]
     refine EvP.cond (t := decide (j < ms.length)) (by simp; omega) (fun h => EvP.skip ?_) (fun h => EvP.exit ?_)
     ·have hjl : j < ms.length := by simpa using h
      simp only [thenE_norm]
      obtain ⟨row, hrowj, hrowok, hrowl⟩ := hRowJ j
      rw [← hrowj] at hR2
      have hnext : (List.range (j + 1)).foldl (stepJ p corrupt devs[i] said) ls[fr] = stepJ p corrupt devs[i] said row j := by rw [foldl_range_succ, ← hrowj]
      have hw1 : IntKind.i64.wrap ((j : Int) + 1 + 1) = ((j + 1 : Nat) : Int) + 1 := by rw [wrap_nat (by omega) (by omega)]; omega
      have hw2 : IntKind.i64.wrap ((j : Int) + 1 - 1) = (j : Int) := by rw [wrap_nat (by omega) (by omega)]; omega
      have hw3 : IntKind.i64.wrap (j : Int) = (j : Int) := wrap_nat (by omega) (by omega)
      let K3 : St → Prop := fun D' => K2 D' ∧ D'.s 11 = .int .i64 ((j : Int) + 1)
      refine EvP.seqG (fun D' => K3 D' ∧ ∃ CS, D'.s 7 = .own .nil 0 ms.length CS ∧ Rows2 CS (ls.set fr (stepJ p corrupt devs[i] said row j))) (EvP.block ?_) ?_
      ·refine EvP.seqG (fun D' => K3 D' ∧ D'.s 71 = .bool (decide ((j : Int) + 1 ≠ devs[i].from_ ∧ (devs[i].to = 0 ∨ devs[i].to = (j : Int) + 1))) ∧ D'.s 7 = .own .nil 0 ms.length CS2) (EvP.region ?_) ?_
       ·by_cases j1 : (j : Int) + 1 = devs[i].from_
        ·have j1' : ((j : Int) + 1 != devs[i].from_) = false := by simp [bne, j1]
         simp [d1, d2, d3, d9, dm, dx, d7, d10, d11, K1, K2, K3, g4, j1']
         simp [j1]
        ·have j1' : ((j : Int) + 1 != devs[i].from_) = true := by simp [bne, j1]
         by_cases j2 : devs[i].to = 0
         ·have j2' : (devs[i].to == 0) = true := by simp [j2]
          simp [d1, d2, d3, d9, dm, dx, d7, d10, d11, K1, K2, K3, g4, j1', j2']
          simp [j1, j2]
         ·have j2' : (devs[i].to == 0) = false := by simp [j2]
          simp [d1, d2, d3, d9, dm, dx, d7, d10, d11, K1, K2, K3, g4, j1', j2']
          simp [j1, j2]
          rfl
       rintro D2 ⟨⟨⟨⟨d1, d2, d3, d9, dm, dx⟩, d10⟩, d11⟩, d71, d7⟩
       refine EvP.cond (t := decide ((j : Int) + 1 ≠ devs[i].from_ ∧ (devs[i].to = 0 ∨ devs[i].to = (j : Int) + 1))) (by simp [d71]) (fun hgo => ?_) (fun hgo => EvP.skip ?_)
       ·have hgo : (j : Int) + 1 ≠ devs[i].from_ ∧ (devs[i].to = 0 ∨ devs[i].to = (j : Int) + 1) := by simpa using hgo
        have hC2l : CS2.length = ms.length := by rw [hR2.1, List.length_set, hlsok.1]
        obtain ⟨rc, hrc, hrr⟩ := hR2.2 fr _ _ (List.getElem?_eq_getElem (by omega)) (by rw [List.getElem?_set_self (by omega)])
        rw [hrowl] at hrc
        have hrcl : rc.length = ms.length := by rw [hrr.1, hrowl]
        have hjrow : j < row.length := by omega
        have hvrow := hrr.2 j _ _ (List.getElem?_eq_getElem (by omega)) (List.getElem?_eq_getElem hjrow)
        have hok := hrowok row[j] (List.getElem_mem hjrow)
        have fin : ∀ v, IsRow v (uponS p corrupt devs[i] row[j] w27) → Rows2 (CS2.set fr (.own .nil 0 ms.length (rc.set j v))) (ls.set fr (stepJ p corrupt devs[i] said row j)) := by
         intro v hv
         have hv' : IsRow v (uponS p corrupt devs[i] row[j] said) := by
          by_cases k3 : devs[i].kind = 3
          ·rw [← s27 k3]; exact hv
          ·rw [uponS_said (b := w27) k3]; exact hv
         rw [stepJ, if_pos hgo, List.getElem?_eq_getElem hjrow, Option.getD_some]
         have := hR2.set fr (hrr.set j hv')
         rw [List.set_set] at this
         rw [show ms.length = (row.set j (uponS p corrupt devs[i] row[j] said)).length by simp [hrowl]]
         exact this
        generalize hl : row[j] = l at *
        generalize hv0 : rc[j] = v0 at *
        refine EvP.draw ?_
        cases r27 with
        | im pmS AS capS =>
          cases hvrow with
          | im pm' A' cap' =>
            obtain ⟨v, hv, hvr⟩ := h1 devs[i] false false A' AS cap' capS l w27 hx.at_ (hk64 _ (List.getElem_mem hlt)) hok.1 hok.2 l27
            have hv := hv k (by omega)
            simp only [scV, scL, lentS, devV, List.length_map] at hv
            have hR' := fin v hvr
            cases hvr with
            | im pm2 A2 cap2 =>
              simp [d1, d2, d3, d9, dm, dx, d7, d10, d11, g4, g6, hfr, hfrl, hC2l, hrc, hrcl, hjl, hv0, hw2, hw3, a27, hv, K1, K2, K3]
              exact hR'
            | own k2 =>
              simp [d1, d2, d3, d9, dm, dx, d7, d10, d11, g4, g6, hfr, hfrl, hC2l, hrc, hrcl, hjl, hv0, hw2, hw3, a27, hv, K1, K2, K3]
              exact hR'
          | own k' =>
            obtain ⟨v, hv, hvr⟩ := h1 devs[i] false false none AS 0 capS l w27 hx.at_ (hk64 _ (List.getElem_mem hlt)) hok.1 hok.2 l27
            have hv := hv k (by omega)
            simp only [scV, scL, lentS, devV, List.length_map] at hv
            have hR' := fin v hvr
            cases hvr with
            | im pm2 A2 cap2 =>
              simp [d1, d2, d3, d9, dm, dx, d7, d10, d11, g4, g6, hfr, hfrl, hC2l, hrc, hrcl, hjl, hv0, hw2, hw3, a27, hv, K1, K2, K3]
              exact hR'
            | own k2 =>
              simp [d1, d2, d3, d9, dm, dx, d7, d10, d11, g4, g6, hfr, hfrl, hC2l, hrc, hrcl, hjl, hv0, hw2, hw3, a27, hv, K1, K2, K3]
              exact hR'
        | own kS =>
          cases hvrow with
          | im pm' A' cap' =>
            obtain ⟨v, hv, hvr⟩ := h1 devs[i] false false A' none cap' 0 l w27 hx.at_ (hk64 _ (List.getElem_mem hlt)) hok.1 hok.2 l27
            have hv := hv k (by omega)
            simp only [scV, scL, lentS, devV, List.length_map] at hv
            have hR' := fin v hvr
            cases hvr with
            | im pm2 A2 cap2 =>
              simp [d1, d2, d3, d9, dm, dx, d7, d10, d11, g4, g6, hfr, hfrl, hC2l, hrc, hrcl, hjl, hv0, hw2, hw3, a27, hv, K1, K2, K3]
              exact hR'
            | own k2 =>
              simp [d1, d2, d3, d9, dm, dx, d7, d10, d11, g4, g6, hfr, hfrl, hC2l, hrc, hrcl, hjl, hv0, hw2, hw3, a27, hv, K1, K2, K3]
              exact hR'
          | own k' =>
            obtain ⟨v, hv, hvr⟩ := h1 devs[i] false false none none 0 0 l w27 hx.at_ (hk64 _ (List.getElem_mem hlt)) hok.1 hok.2 l27
            have hv := hv k (by omega)
            simp only [scV, scL, lentS, devV, List.length_map] at hv
            have hR' := fin v hvr
            cases hvr with
            | im pm2 A2 cap2 =>
              simp [d1, d2, d3, d9, dm, dx, d7, d10, d11, g4, g6, hfr, hfrl, hC2l, hrc, hrcl, hjl, hv0, hw2, hw3, a27, hv, K1, K2, K3]
              exact hR'
            | own k2 =>
              simp [d1, d2, d3, d9, dm, dx, d7, d10, d11, g4, g6, hfr, hfrl, hC2l, hrc, hrcl, hjl, hv0, hw2, hw3, a27, hv, K1, K2, K3]
              exact hR'
       ·have hgo : ¬ ((j : Int) + 1 ≠ devs[i].from_ ∧ (devs[i].to = 0 ∨ devs[i].to = (j : Int) + 1)) := by simpa using hgo
        simp only [blockE_norm]
        exact ⟨⟨⟨⟨d1, d2, d3, d9, dm, dx⟩, d10⟩, d11⟩, CS2, d7, by rw [stepJ, if_neg hgo]; exact hR2⟩
      rintro D2 ⟨⟨⟨⟨d1, d2, d3, d9, dm, dx⟩, d10⟩, d11⟩, CS3, d7, hR3⟩
      have hR3' : Rows2 CS3 (ls.set fr ((List.range (j + 1)).foldl (stepJ p corrupt devs[i] said) ls[fr])) := by rw [hnext]; exact hR3
      refine EvP.region ?_
      simp [d1, d2, d3, d9, dm, dx, d7, d10, d11, hw1, K1, K2]
      exact ⟨_, by omega, j + 1, rfl, by omega, CS3, hR3', rfl, by omega⟩
     ·have hjl : j = ms.length := by have : ¬ j < ms.length := by simpa using h
                                     omega
      subst hjl
      simp [d1, d2, d3, d9, dm, dx, d7, K1]
      rw [hstep, stepM, if_pos hyes, show (devs[i].from_ - 1).toNat = fr by omega, hsaid, List.getElem?_eq_getElem hfrs, Option.getD_some]
      exact hR2
   rintro D1 ⟨⟨d1, d2, d3, d9, dm, dx⟩, CS3, d7, hR3⟩
   refine EvP.region ?_
   simp [d1, d2, d3, d9, dm, dx, d7]
   exact ⟨_, by omega, i + 1, rfl, by omega, CS3, hR3, rfl, wrap_succ (by omega), g5, fun a b h => b1' _ h, fun a b h => b2' _ h, by omega⟩
  ·have hlt : i = devs.length := by have : ¬ i < devs.length := by simpa using h
                                    omega
   subst hlt
   rw [List.take_length] at hR
   simp [d7]
   exact ⟨hR, fun a b h => g2 _ h⟩
 rintro D ⟨CS, d7, hR, hb⟩
 refine EvP.seq (EvP.region ?_)
 simp [d7]
 refine EvP.ret ?_
 simp [plainV, hR.ptrs]
 exact ⟨hR, fun a b h => hb _ h⟩
end Go.Abs
end
noncomputable section
namespace Go.Abs
open Go Go.Proofs
attribute [local simp] intOp shOp
set_option maxRecDepth 100000
def onJ (x : Dev) (j : Nat) : Prop := (j : Int) + 1 ≠ x.from_ ∧ (x.to = 0 ∨ x.to = (j : Int) + 1)
instance (x : Dev) (j : Nat) : Decidable (onJ x j) := by unfold onJ; infer_instance
def cellM (p : Nat) (c : List Int) (rd : Int) (out : List (List (List Nat))) (i j : Nat) (w : List Nat) (x : Dev) : List Nat :=
 if x.round = rd ∧ x.from_ ∈ c ∧ (x.from_ - 1).toNat = i ∧ onJ x j then uponS p c x w (saidS out x) else w
theorem stepJ_get {p : Nat} {c : List Int} {x : Dev} {said : List Nat} {row : List (List Nat)} {n j : Nat} : (stepJ p c x said row n)[j]? = row[j]?.map (fun w => if n = j ∧ onJ x j then uponS p c x w said else w) := by
 have e : stepJ p c x said row n = if onJ x n then row.set n (uponS p c x (row[n]?.getD []) said) else row := rfl
 rw [e]
 by_cases h : n = j
 ·subst h
  by_cases h1 : onJ x n
  ·rw [if_pos h1, List.getElem?_set]
   by_cases h2 : n < row.length
   ·simp [h2, h1]
   ·simp [h2]
  ·rw [if_neg h1]; simp [h1]
 ·split
  ·rw [List.getElem?_set]; simp [h]
  ·simp [h]
theorem foldJ_get {p : Nat} {c : List Int} {x : Dev} {said : List Nat} {row : List (List Nat)} {j : Nat} : ∀ n : Nat, ((List.range n).foldl (stepJ p c x said) row)[j]? = row[j]?.map (fun w => if j < n ∧ onJ x j then uponS p c x w said else w)
 | 0 => by simp
 | n + 1 => by
   rw [foldl_range_succ, stepJ_get, foldJ_get n, Option.map_map]
   congr 1
   funext w
   simp only [Function.comp_def]
   by_cases h1 : onJ x j
   ·by_cases h2 : n = j
    ·subst h2; simp [h1]
    ·have : j < n ↔ j < n + 1 := by omega
     simp [h1, h2, this]
   ·simp [h1]
def at2 (l : List (List (List Nat))) (i j : Nat) : Option (List Nat) := (l[i]?.getD [])[j]?
theorem stepM_get {p : Nat} {c : List Int} {rd : Int} {n : Nat} {out all : List (List (List Nat))} {x : Dev} {i j : Nat} (hj : j < n) : at2 (stepM p c rd n out all x) i j = (at2 all i j).map (fun w => cellM p c rd out i j w x) := by
 have hJ : ∀ row : List (List Nat), ((List.range n).foldl (stepJ p c x (saidS out x)) row)[j]? = row[j]?.map (fun w => if j < n ∧ onJ x j then uponS p c x w (saidS out x) else w) := fun row => foldJ_get n
 unfold stepM cellM at2
 generalize saidS out x = said at *
 generalize (x.from_ - 1).toNat = fr
 generalize hg : (fun row : List (List Nat) => (List.range n).foldl (stepJ p c x said) row) = g
 have hg' : ∀ row : List (List Nat), (List.range n).foldl (stepJ p c x said) row = g row := fun row => congrFun hg row
 simp only [hg'] at hJ ⊢
 by_cases h : x.round = rd ∧ x.from_ ∈ c
 ·rw [if_pos h, List.getElem?_set]
  by_cases hi : fr = i
  ·subst hi
   by_cases h2 : fr < all.length
   ·simp [h2, h.1, h.2, hJ, hj]
   ·simp [h2]
  ·simp [hi]
 ·rw [if_neg h]
  have : ¬ (x.round = rd ∧ x.from_ ∈ c ∧ fr = i ∧ onJ x j) := fun q => h ⟨q.1, q.2.1⟩
  simp only [if_neg this]; simp
theorem foldM_get {p : Nat} {c : List Int} {rd : Int} {n : Nat} {out : List (List (List Nat))} {i j : Nat} (hj : j < n) : ∀ {devs : List Dev} {all : List (List (List Nat))}, at2 (devs.foldl (stepM p c rd n out) all) i j = (at2 all i j).map (fun w => devs.foldl (cellM p c rd out i j) w)
 | [], all => by simp
 | x :: l, all => by
   rw [List.foldl_cons, foldM_get hj (devs := l), stepM_get hj]
   cases at2 all i j <;> rfl
theorem foldl_id {α β : Type} {f : β → α → β} : ∀ {l : List α} {b : β}, (∀ x ∈ l, ∀ b, f b x = b) → l.foldl f b = b
 | [], b, _ => rfl
 | x :: l, b, h => by rw [List.foldl_cons, h x List.mem_cons_self, foldl_id fun y hy => h y (List.mem_cons_of_mem _ hy)]
theorem msg_cell {p n : Nat} {c : List Int} {rd : Int} {out : List (List (List Nat))} {devs : List Dev} {i j : Nat} (hj : j < n) : at2 (msgS p c rd n out devs) i j = (at2 out i j).map (fun w => devs.foldl (cellM p c rd out i j) w) := foldM_get hj
theorem msg_honest {p n : Nat} {c : List Int} {rd : Int} {out : List (List (List Nat))} {devs : List Dev} (hd : ∀ x ∈ devs, DevP n x) {i j : Nat} (hj : j < n) (hi : ((i : Int) + 1) ∉ c ∨ i = j) : at2 (msgS p c rd n out devs) i j = at2 out i j := by
 rw [msg_cell hj]
 have : ∀ w : List Nat, devs.foldl (cellM p c rd out i j) w = w := fun w => foldl_id fun x hx b => by
  unfold cellM
  rw [if_neg]
  rintro ⟨_, h2, h3, h4⟩
  have := (hd x hx).from1
  rcases hi with hi | rfl
  ·exact hi (by rw [show (i : Int) + 1 = x.from_ by omega]; exact h2)
  ·exact h4.1 (by omega)
 simp [this]
theorem msg_ok {p n : Nat} (hp : 0 < p) {c : List Int} {rd : Int} {out : List (List (List Nat))} {devs : List Dev} (h : MsOk p n out) : MsOk p n (msgS p c rd n out devs) := foldM_ok hp h
end Go.Abs
end
