/- Joined: AbsSS AbsSU AbsSV AbsSW AbsSX. -/
import Derived.Test.YtdfnadckkcdldaaAbs10
set_option linter.all false
/- The seat of privitylaw13: the reference's ApplyToBroadcasts. -/
set_option linter.unusedVariables false
noncomputable section
namespace Go.Abs
open Go Go.Proofs

theorem uponS_said {p : Nat} {c : List Int} {x : Dev} {l a b : List Nat} (h : x.kind ≠ 3) : uponS p c x l a = uponS p c x l b := by
  unfold uponS; simp [h]
set_option maxHeartbeats 16000000 in
set_option maxRecDepth 100000 in
theorem broad14 (s : Scn) (hs : ScnOk s) {q : Nat} (hq : (s.p, q) ∈ pq7) (hd : ∀ x ∈ s.devs, DevP s.n x) (hk64 : ∀ x ∈ s.devs, x.k < 18446744073709551616) (rd : Int) : ∃ N, ∀ (pm : Bool) (A : Option Addr) (cap : Nat) (rs : List RD), (rs.length : Int) = s.n → s.n ≤ 13 → LsOk s.p (rs.map (·.l)) →
    AnsP N Try.prog H13 14 [scV s, .int .i64 rd, .im pm A cap rs.length (rsV rs)] (fun v => ∃ cs, v = .own .nil 0 rs.length cs ∧ Rows cs (broadS s.p s.corrupt rd (rs.map (·.l)) s.devs)) := by
  have hml : maxLen = 9223372036854775807 := rfl
  obtain ⟨hp1, hq1, hq2⟩ := pq_facts hq
  have hp0 : 0 < s.p := by
    have : 2 ^ 5 ≤ 2 ^ q := Nat.pow_le_pow_right (by omega) hq1
    omega
  obtain ⟨N1, h1⟩ := told26 (lentS s) (lentS_ok hs) hq
  have h0 : ∀ v, AnsN (s.corrupt.length + 1 + 1) Try.prog H13 25 [scV (lentS s), .int .i64 v] (.bool (decide (v ∈ s.corrupt))) := fun v => bad25 (lentS s) (lentS_ok hs) v
  obtain ⟨p, n, t, cpm, cA, ccap, corrupt, dpm, dA, dcap, devs, tpm, tA, tcap, tapes⟩ := s
  obtain ⟨hs1, hs2, hs3, hs4⟩ := hs
  simp only at *
  refine ⟨N1 + corrupt.length + 4 + devs.length + 1 + 1, fun pm A cap rs hlen hn13 hw => ?_⟩
  refine AnsP.of (fn := Try.f14) (t := 6) (by rfl) Try.func14 rfl rfl (by rfl) fun k hk nx => ?_
  have hn1 : rs.length * 24 ≤ 140737488355328 := by omega
  have hn2 : rs.length ≤ 140737488355328 := by omega
  have c0 := fun x => h0 x k (by omega)
  simp only [scV, scL, lentS, devV, List.length_map] at c0
  refine EvP.seq (EvP.region ?_)
  simp [entryS, scV, scL]
  refine EvP.seq (EvP.region ?_)
  simp [hn1, hn2]
  refine EvP.seq (EvP.seq (EvP.region ?_))
  simp
  generalize hout : rs.map (·.l) = out at *
  refine EvP.block (EvP.loop (fun q D => ∃ (i : Nat) (cs : List V), q = devs.length - i ∧ i ≤ devs.length ∧ Rows cs ((devs.take i).foldl (stepB p corrupt rd out) out) ∧ D.s 1 = .int .i64 rd ∧ D.s 2 = .im pm A cap rs.length (rsV rs) ∧ D.s 3 = .bptr nx 0 ∧ D.s 7 = .own .nil 0 rs.length cs ∧ D.s 8 = .int .i64 (i : Int)
    ∧ getBox D.m nx = some ⟨0, scL ⟨p, n, t, cpm, cA, ccap, corrupt, dpm, dA, dcap, devs, tpm, tA, tcap, tapes⟩⟩ ∧ (∀ b ∈ D.m, b.1 < D.nx) ∧ (∀ b ∈ D.m, nx ≤ b.1) ∧ nx < D.nx) (n := devs.length) ?_ (by omega) ?_)
  · refine ⟨0, rsV rs, by simp, by simp, ?_⟩
    simp [scL, getBox]
    rw [← hout]
    exact rows_rsV _
  rintro q D ⟨i, cs, hn, hi, hR, d1, d2, d3, d7, d8, g0, g1, g2, g3⟩
  simp only [liveOf13, clear_none]
  refine EvP.seq (EvP.seq (EvP.region ?_))
  have e0 := g0
  unfold scL at e0
  simp only at e0
  simp [d3, d8, e0]
  refine EvP.cond (t := decide (i < devs.length)) (by simp) (fun h => EvP.skip ?_) (fun h => EvP.exit ?_)
  · have hlt : i < devs.length := by simpa using h
    simp only [thenE_norm]
    refine EvP.seq (EvP.block (EvP.seq (EvP.region ?_)))
    have h8 : i * 8 + 8 ≤ devs.length * 8 := by omega
    have h88 : 8 ≤ devs.length * 8 - i * 8 := by omega
    have e1 : ∀ c, getBox (D.m ++ [(D.nx, c)]) D.nx = some c := fun c => getBox_app_new g1
    have e2' : ∀ c, getBox (D.m ++ [(D.nx, c)]) nx = some ⟨0, scL ⟨p, n, t, cpm, cA, ccap, corrupt, dpm, dA, dcap, devs, tpm, tA, tcap, tapes⟩⟩ := fun c => getBox_app_old g0
    have e3 : ∀ c c', setBox (D.m ++ [(D.nx, c)]) D.nx c' = D.m ++ [(D.nx, c')] := fun c c' => setBox_app_new g1
    have b1 : ∀ (c : Box) (a : Nat) (b : Box), (a, b) ∈ D.m ∨ a = D.nx ∧ b = c → a < D.nx + 1 := by
      rintro c a b (h | ⟨rfl, _⟩)
      · have := g1 _ h; simp at this; omega
      · omega
    have b2 : ∀ (c : Box) (a : Nat) (b : Box), (a, b) ∈ D.m ∨ a = D.nx ∧ b = c → nx ≤ a := by
      rintro c a b (h | ⟨rfl, _⟩)
      · exact g2 _ h
      · omega
    have e2 := e2'
    unfold scL at e2
    simp only at e2
    have hx := hd devs[i] (List.getElem_mem hlt)
    obtain ⟨hlsok, hlslen⟩ := fold_ok (c := corrupt) (rd := rd) (out := out) (devs := devs.take i) hp0 hw
    have houtl : out.length = rs.length := by rw [← hout]; simp
    generalize hls : (devs.take i).foldl (stepB p corrupt rd out) out = ls at *
    have hstep : (devs.take (i + 1)).foldl (stepB p corrupt rd out) out = stepB p corrupt rd out ls devs[i] := by
      rw [foldl_take_succ _ _ hlt, hls]
    simp [d1, d2, d3, d7, d8, e0, hlt, h8, h88, devL, e1, e2, e3]
    refine EvP.seq (EvP.region ?_)
    have c0i := c0 devs[i].from_
    by_cases hb : devs[i].round = rd ∧ devs[i].from_ ∈ corrupt
    · obtain ⟨fr, hfr0⟩ : ∃ fr : Nat, devs[i].from_ = (fr : Int) + 1 := ⟨(devs[i].from_ - 1).toNat, by have := hx.from1; omega⟩
      have hfr : IntKind.i64.wrap (devs[i].from_ - 1) = (fr : Int) := by rw [hfr0, wrap_nat (by omega) (by have := hx.from2; omega)]; omega
      have hfrl : fr < rs.length := by have := hx.from2; omega
      have hcs : cs.length = rs.length := by rw [hR.1, hlslen, houtl]
      have hfrc : fr < cs.length := by omega
      have hfrs : fr < ls.length := by omega
      have hvrow := hR.2 fr _ _ (List.getElem?_eq_getElem hfrc) (List.getElem?_eq_getElem hfrs)
      have hok := hlsok ls[fr] (List.getElem_mem hfrs)
      have hb1 : (devs[i].round == rd) = true := by simp [hb.1]
      simp [d1, d3, e1, e2, c0i, hb1, hb.2]
      refine EvP.cond (t := true) (by simp) (fun _ => ?_) (fun h => by cases h)
      refine EvP.seq (EvP.region ?_)
      simp
      refine EvP.seq (EvP.seq (EvP.region ?_))
      simp [e1, d2, d3]
      have fin : ∀ (v : V) (said : List Nat), (devs[i].kind = 3 → said = out[(devs[i].of_ - 1).toNat]?.getD []) → IsRow v (uponS p corrupt devs[i] ls[fr] said) → Rows (cs.set fr v) ((devs.take (i + 1)).foldl (stepB p corrupt rd out) out) := by
        intro v said hsaid hv
        rw [hstep, stepB, if_pos hb, show (devs[i].from_ - 1).toNat = fr by omega, List.getElem?_eq_getElem hfrs]
        refine hR.set fr ?_
        by_cases k3 : devs[i].kind = 3
        · rw [if_pos k3, ← hsaid k3]; exact hv
        · rw [uponS_said (b := said) k3]; exact hv
      by_cases k3 : 1 ≤ devs[i].of_
      · refine EvP.cond (t := true) (by simp [k3]) (fun _ => ?_) (fun h => by cases h)
        obtain ⟨og, hog0⟩ : ∃ og : Nat, devs[i].of_ = (og : Int) + 1 := ⟨(devs[i].of_ - 1).toNat, by omega⟩
        have hog : IntKind.i64.wrap (devs[i].of_ - 1) = (og : Int) := by rw [hog0, wrap_nat (by omega) (by have := hx.of2; omega)]; omega
        have hogl : og < rs.length := by have := hx.of2; omega
        have hsaid : devs[i].kind = 3 → rs[og].l = out[(devs[i].of_ - 1).toNat]?.getD [] := fun _ => by
          rw [show (devs[i].of_ - 1).toNat = og by omega, ← hout, List.getElem?_map, List.getElem?_eq_getElem hogl]; rfl
        have hsok : ∀ y ∈ rs[og].l, y < p := (hw rs[og].l (by rw [← hout]; exact List.mem_map_of_mem (List.getElem_mem hogl))).2
        refine EvP.region ?_
        simp [e1, d2, d3, hog, hogl]
        refine EvP.draw ?_
        generalize hl : ls[fr] = l at *
        generalize hv0 : cs[fr] = v0 at *
        cases hvrow with
        | im pm' A' cap' =>
          obtain ⟨v, hv, hvr⟩ := h1 devs[i] false false A' rs[og].A cap' rs[og].cap l rs[og].l hx.at_ (hk64 _ (List.getElem_mem hlt)) hok.1 hok.2 hsok
          have hv := hv k (by omega)
          simp only [scV, scL, lentS, devV, List.length_map] at hv
          have hR' := fin v _ hsaid hvr
          cases hvr with
          | im pm2 A2 cap2 =>
            simp [e1, e2, d1, d2, d3, d7, hfr, hfrl, hfrc, hcs, hv0, hv]
            refine EvP.region ?_
            simp [d1, d2, d3, d8]
            exact ⟨_, by omega, i + 1, rfl, by omega, _, hR', rfl, wrap_succ (by omega), e2' _, b1 _, b2 _, by omega⟩
          | own k2 =>
            simp [e1, e2, d1, d2, d3, d7, hfr, hfrl, hfrc, hcs, hv0, hv]
            refine EvP.region ?_
            simp [d1, d2, d3, d8]
            exact ⟨_, by omega, i + 1, rfl, by omega, _, hR', rfl, wrap_succ (by omega), e2' _, b1 _, b2 _, by omega⟩
        | own k' =>
          obtain ⟨v, hv, hvr⟩ := h1 devs[i] false false none rs[og].A 0 rs[og].cap l rs[og].l hx.at_ (hk64 _ (List.getElem_mem hlt)) hok.1 hok.2 hsok
          have hv := hv k (by omega)
          simp only [scV, scL, lentS, devV, List.length_map] at hv
          have hR' := fin v _ hsaid hvr
          cases hvr with
          | im pm2 A2 cap2 =>
            simp [e1, e2, d1, d2, d3, d7, hfr, hfrl, hfrc, hcs, hv0, hv]
            refine EvP.region ?_
            simp [d1, d2, d3, d8]
            exact ⟨_, by omega, i + 1, rfl, by omega, _, hR', rfl, wrap_succ (by omega), e2' _, b1 _, b2 _, by omega⟩
          | own k2 =>
            simp [e1, e2, d1, d2, d3, d7, hfr, hfrl, hfrc, hcs, hv0, hv]
            refine EvP.region ?_
            simp [d1, d2, d3, d8]
            exact ⟨_, by omega, i + 1, rfl, by omega, _, hR', rfl, wrap_succ (by omega), e2' _, b1 _, b2 _, by omega⟩
      · refine EvP.cond (t := false) (by simp [k3]) (fun h => by cases h) (fun _ => EvP.skip ?_)
        simp
        have hsaid : devs[i].kind = 3 → ([] : List Nat) = out[(devs[i].of_ - 1).toNat]?.getD [] := fun h => absurd (hx.echo h) k3
        have hsok : ∀ y ∈ ([] : List Nat), y < p := fun y hy => by cases hy
        have hnl : uL [] = [] := rfl
        refine EvP.draw ?_
        generalize hl : ls[fr] = l at *
        generalize hv0 : cs[fr] = v0 at *
        cases hvrow with
        | im pm' A' cap' =>
          obtain ⟨v, hv, hvr⟩ := h1 devs[i] false false A' none cap' 0 l [] hx.at_ (hk64 _ (List.getElem_mem hlt)) hok.1 hok.2 hsok
          have hv := hv k (by omega)
          simp only [scV, scL, lentS, devV, List.length_map, List.length_nil, hnl] at hv
          have hR' := fin v _ hsaid hvr
          cases hvr with
          | im pm2 A2 cap2 =>
            simp [e1, e2, d1, d2, d3, d7, hfr, hfrl, hfrc, hcs, hv0, hv]
            refine EvP.region ?_
            simp [d1, d2, d3, d8]
            exact ⟨_, by omega, i + 1, rfl, by omega, _, hR', rfl, wrap_succ (by omega), e2' _, b1 _, b2 _, by omega⟩
          | own k2 =>
            simp [e1, e2, d1, d2, d3, d7, hfr, hfrl, hfrc, hcs, hv0, hv]
            refine EvP.region ?_
            simp [d1, d2, d3, d8]
            exact ⟨_, by omega, i + 1, rfl, by omega, _, hR', rfl, wrap_succ (by omega), e2' _, b1 _, b2 _, by omega⟩
        | own k' =>
          obtain ⟨v, hv, hvr⟩ := h1 devs[i] false false none none 0 0 l [] hx.at_ (hk64 _ (List.getElem_mem hlt)) hok.1 hok.2 hsok
          have hv := hv k (by omega)
          simp only [scV, scL, lentS, devV, List.length_map, List.length_nil, hnl] at hv
          have hR' := fin v _ hsaid hvr
          cases hvr with
          | im pm2 A2 cap2 =>
            simp [e1, e2, d1, d2, d3, d7, hfr, hfrl, hfrc, hcs, hv0, hv]
            refine EvP.region ?_
            simp [d1, d2, d3, d8]
            exact ⟨_, by omega, i + 1, rfl, by omega, _, hR', rfl, wrap_succ (by omega), e2' _, b1 _, b2 _, by omega⟩
          | own k2 =>
            simp [e1, e2, d1, d2, d3, d7, hfr, hfrl, hfrc, hcs, hv0, hv]
            refine EvP.region ?_
            simp [d1, d2, d3, d8]
            exact ⟨_, by omega, i + 1, rfl, by omega, _, hR', rfl, wrap_succ (by omega), e2' _, b1 _, b2 _, by omega⟩
    · have hR' : Rows cs ((devs.take (i + 1)).foldl (stepB p corrupt rd out) out) := by rw [hstep, stepB, if_neg hb]; exact hR
      by_cases hr : devs[i].round = rd
      · have hb1 : (devs[i].round == rd) = true := by simp [hr]
        have hb2 : devs[i].from_ ∉ corrupt := fun h => hb ⟨hr, h⟩
        simp [d1, d3, e1, e2, c0i, hb1, hb2]
        refine EvP.cond (t := false) (by simp) (fun h => by cases h) (fun _ => EvP.skip ?_)
        simp
        refine EvP.region ?_
        simp [d1, d2, d3, d7, d8]
        exact ⟨_, by omega, i + 1, rfl, by omega, cs, hR', rfl, wrap_succ (by omega), e2' _, b1 _, b2 _, by omega⟩
      · have hb1 : (devs[i].round == rd) = false := by simp [hr]
        simp [d1, d3, e1, e2, c0i, hb1]
        refine EvP.cond (t := false) (by simp) (fun h => by cases h) (fun _ => EvP.skip ?_)
        simp
        refine EvP.region ?_
        simp [d1, d2, d3, d7, d8]
        exact ⟨_, by omega, i + 1, rfl, by omega, cs, hR', rfl, wrap_succ (by omega), e2' _, b1 _, b2 _, by omega⟩
  · have hlt : i = devs.length := by have : ¬ i < devs.length := by simpa using h
                                     omega
    subst hlt
    rw [List.take_length] at hR
    simp
    refine EvP.seq (EvP.region ?_)
    simp [d7]
    refine EvP.ret ?_
    simp [plainV, hR.ptrs]
    exact ⟨hR, fun a b h => g2 _ h⟩
end Go.Abs
end
/- The seat of privitylaw13: may. -/
set_option linter.unusedVariables false
noncomputable section
namespace Go.Abs
open Go Go.Proofs

/-- The messages of one party; of all. -/
structure MD where
  pm : Bool
  A : Option Addr
  cap : Nat
  l : List RD
def mV (m : MD) : V := .im m.pm m.A m.cap m.l.length (rsV m.l)
def msV (ms : List MD) : List V := ms.map mV
@[simp] theorem msV_length (ms : List MD) : (msV ms).length = ms.length := by simp [msV]
@[simp] theorem msV_getElem (ms : List MD) (i : Nat) (h : i < (msV ms).length) : (msV ms)[i] = .im (ms[i]'(by simpa using h)).pm (ms[i]'(by simpa using h)).A (ms[i]'(by simpa using h)).cap (ms[i]'(by simpa using h)).l.length (rsV (ms[i]'(by simpa using h)).l) := by simp [msV, mV]
def lentM (m : MD) : MD := { m with pm := false, l := m.l.map lent }
@[simp] theorem frzL_msV (ms : List MD) : frzL false (msV ms) = msV (ms.map lentM) := by
  unfold msV; induction ms with
  | nil => rfl
  | cons x l ih => simp only [List.map_cons, frzL, ih]; simp [mV, frz, lentM]
@[simp] theorem ptrsL_msV (ms : List MD) : ptrsL (msV ms) = [] := by
  unfold msV; induction ms with
  | nil => rfl
  | cons x l ih => simp only [List.map_cons, ptrsL, ih]; simp [mV, ptrs]
@[simp] theorem noRowL_rsV (rs : List RD) : noRowL (rsV rs) = true := by
  unfold rsV; induction rs with
  | nil => rfl
  | cons x l ih => simp [noRowL, noRow, rV, ih]
structure Ask where
  w : Scn
  rd : Int
  mpm : Bool
  mA : Option Addr
  mcap : Nat
  ms : List MD
  apm : Bool
  aA : Option Addr
  acap : Nat
  al : List RD
def askL (z : Ask) : List V := [.int .u64 (z.w.p : Int), .int .i64 z.w.n, .int .i64 z.w.t, .im z.w.cpm z.w.cA z.w.ccap z.w.corrupt.length (iL z.w.corrupt), .im z.w.dpm z.w.dA z.w.dcap z.w.devs.length (devsV z.w.devs), .im z.w.tpm z.w.tA z.w.tcap z.w.tapes.length (rsV z.w.tapes), .int .i64 z.rd, .im z.mpm z.mA z.mcap z.ms.length (msV z.ms), .im z.apm z.aA z.acap z.al.length (rsV z.al)]
def askV (z : Ask) : V := .agg (askL z)
structure AskOk (z : Ask) : Prop where
  w : ScnOk z.w
  ms : z.ms.length ≤ maxLen
  m : ∀ x ∈ z.ms, x.l.length ≤ maxLen
  al : z.al.length ≤ maxLen
structure AskP (z : Ask) : Prop where
  w : ScnP z.w
  few : z.w.devs.length ≤ 30
  n : (z.ms.length : Int) = z.w.n
  al : WordsP z.w.p z.w.n z.al
  ms : ∀ m ∈ z.ms, WordsP z.w.p z.w.n m.l
theorem words_lent {p : Nat} {n : Int} {a : List RD} : WordsP p n (a.map lent) ↔ WordsP p n a := by
  unfold WordsP; simp
theorem scn_lent {s : Scn} (h : ScnP (lentS s)) : ScnP s := ⟨h.par, h.coal, h.devs, by simpa [lentS] using h.tapes⟩
open Classical in
set_option maxHeartbeats 16000000 in
set_option maxRecDepth 100000 in
theorem may10 (z : Ask) (hz : AskOk z) : ∃ b, Ans Try.prog H13 10 [askV z] (.bool b) ∧ (b = true → AskP z) := by
  have hml : maxLen = 9223372036854775807 := rfl
  obtain ⟨b0, ⟨N0, h0⟩, hv0⟩ := scen19 (lentS z.w) (lentS_ok hz.w)
  obtain ⟨N1, h1⟩ := words20 z.w.p z.w.n z.w.t false z.aA z.acap (z.al.map lent) (by simpa using hz.al)
  obtain ⟨N2, h2⟩ := bound_all (l := z.ms) (Q := fun m k => ∀ nx, evCall Try.prog H13 k 20 [.im false m.A m.cap (m.l.map lent).length (rsV (m.l.map lent)), parV z.w.p z.w.n z.w.t] [] nx = some (.bool (decide (WordsP z.w.p z.w.n (m.l.map lent))), [], nx)) fun m hm => by
    have h := words20 z.w.p z.w.n z.w.t false m.A m.cap (m.l.map lent) (by simpa using hz.m m hm)
    exact h
  obtain ⟨⟨p, n, t, cpm, cA, ccap, corrupt, dpm, dA, dcap, devs, tpm, tA, tcap, tapes⟩, rd, mpm, mA, mcap, ms, apm, aA, acap, al⟩ := z
  obtain ⟨⟨hs1, hs2, hs3, hs4⟩, hz2, hz3, hz4⟩ := hz
  simp only [words_lent, List.length_map] at *
  have hw20 : ∀ m : MD, m ∈ ms → ∃ b, b = decide (WordsP p n m.l) := fun m _ => ⟨_, rfl⟩
  refine ⟨b0 && decide (devs.length ≤ 30) && decide ((ms.length : Int) = n) && decide (WordsP p n al) && ms.all (fun m => decide (WordsP p n m.l)), Ans.of (fn := Try.f10) (t := 2) (by rfl) Try.func10 rfl rfl (by rfl) (by rfl) ⟨N0 + N1 + N2 + ms.length + 1, fun k hk nx => ?_⟩, fun h => ?_⟩
  case refine_2 =>
    simp only [Bool.and_eq_true, decide_eq_true_eq, List.all_eq_true] at h
    exact ⟨scn_lent (hv0 h.1.1.1.1), h.1.1.1.2, h.1.1.2, h.1.2, h.2⟩
  have c0 := h0 k (by omega)
  have c1 := h1 k (by omega)
  have c2 := fun m hm => h2 m hm k (by omega)
  simp only [scV, scL, lentS, parV, List.length_map] at c0 c1 c2
  refine EvP.seq (EvP.region ?_)
  simp [entryS, askV, askL]
  refine EvP.seq (EvP.seq (EvP.region ?_))
  cases b0 with
  | false =>
    simp [c0]
    refine EvP.cond (t := true) (by simp) (fun _ => ?_) (fun h => by cases h)
    refine EvP.seq (EvP.region ?_)
    simp
    refine EvP.ret ?_
    simp
  | true =>
    by_cases hdl : 30 < devs.length
    · have hdl' : ¬ devs.length ≤ 30 := by omega
      have hdi : (30 : Int) < (devs.length : Int) := by omega
      simp [c0, hdl, hdi]
      refine EvP.cond (t := true) (by simp) (fun _ => ?_) (fun h => by cases h)
      refine EvP.seq (EvP.region ?_)
      simp
      refine EvP.ret ?_
      simp [hdl']
    · have hdl' : devs.length ≤ 30 := by omega
      have hdi : ¬ (30 : Int) < (devs.length : Int) := by omega
      by_cases hml2 : (ms.length : Int) = n
      · by_cases hwa : WordsP p n al
        · simp only [hwa, decide_true] at c1
          simp [c0, hdl, hdi, hml2, c1]
          refine EvP.cond (t := false) (by simp) (fun h => by cases h) (fun _ => EvP.skip ?_)
          simp
          refine EvP.seq (EvP.seq (EvP.region ?_))
          simp
          refine EvP.block (EvP.loop (fun q D => ∃ i : Nat, q = ms.length - i ∧ i ≤ ms.length ∧ (∀ j x, j < i → ms[j]? = some x → WordsP p n x.l) ∧ D.s 1 = .bptr nx 0 ∧ D.s 3 = .int .i64 (i : Int) ∧ D.m = [(nx, ⟨0, askL ⟨⟨p, n, t, cpm, cA, ccap, corrupt, dpm, dA, dcap, devs, tpm, tA, tcap, tapes⟩, rd, mpm, mA, mcap, ms, apm, aA, acap, al⟩⟩)] ∧ D.nx = nx + 1) (n := ms.length) ⟨0, by simp [askL]⟩ (by omega) ?_)
          rintro q D ⟨i, hn, hi, hpre, d1, d3, dm, dx⟩
          unfold askL at dm
          simp only at dm
          simp only [liveOf13, clear_none]
          refine EvP.seq (EvP.seq (EvP.region ?_))
          simp [d1, d3, dm]
          refine EvP.cond (t := decide (i < ms.length)) (by simp) (fun h => EvP.skip ?_) (fun h => EvP.exit ?_)
          · have hlt : i < ms.length := by simpa using h
            simp only [thenE_norm]
            refine EvP.seq (EvP.block (EvP.seq (EvP.draw ?_)))
            have hc := c2 ms[i] (List.getElem_mem hlt)
            by_cases hb : WordsP p n ms[i].l
            · simp only [hb, decide_true] at hc
              simp [d1, d3, dm, dx, hlt, hc]
              refine EvP.cond (t := false) (by simp) (fun h => by cases h) (fun _ => EvP.skip ?_)
              simp
              refine EvP.region ?_
              simp [d1, d3, dm, dx, askL]
              refine ⟨_, by omega, i + 1, rfl, by omega, fun j x hj hx => ?_, wrap_succ (by omega)⟩
              by_cases hji : j = i
              · subst hji
                rw [List.getElem?_eq_getElem hlt] at hx; cases hx; exact hb
              · exact hpre j x (by omega) hx
            · simp only [hb, decide_false] at hc
              simp [d1, d3, dm, dx, hlt, hc]
              refine EvP.cond (t := true) (by simp) (fun _ => ?_) (fun h => by cases h)
              refine EvP.seq (EvP.region ?_)
              simp
              refine EvP.ret ?_
              simp [dm]
              exact fun _ _ => ⟨ms[i], List.getElem_mem hlt, hb⟩
          · have hlt : ¬ i < ms.length := by simpa using h
            simp
            refine EvP.seq (EvP.region ?_)
            simp
            refine EvP.ret ?_
            simp [dm]
            refine ⟨⟨hdl', hwa⟩, fun x hx => ?_⟩
            obtain ⟨v, hv, rfl⟩ := List.getElem_of_mem hx
            exact hpre v _ (by omega) (List.getElem?_eq_getElem hv)
        · simp only [hwa, decide_false] at c1
          simp [c0, hdl, hdi, hml2, c1]
          refine EvP.cond (t := true) (by simp) (fun _ => ?_) (fun h => by cases h)
          refine EvP.seq (EvP.region ?_)
          simp
          refine EvP.ret ?_
          simp [hwa]
      · have hml3 : (((ms.length : Nat) : Int) != n) = true := by simp [bne]; omega
        simp [c0, hdl, hdi, hml3]
        refine EvP.cond (t := true) (by simp) (fun _ => ?_) (fun h => by cases h)
        refine EvP.seq (EvP.region ?_)
        simp
        refine EvP.ret ?_
        simp [hml2]
end Go.Abs
end
/- The seat of privitylaw13: awake. -/
set_option linter.unusedVariables false
noncomputable section
namespace Go.Abs
open Go Go.Proofs

section
variable {P : Program} {H : Hint} {f : Nat}
/-- Any result that is handed out. -/
theorem AnsN.gen {N : Nat} {fn : Func} {c : Code} {xs : List V} {r : V} (hg : H.good f = true) (hf : P.funcs[f]? = some fn) (hb : fn.body = some c) (hfr : H.fr f = false) (hr : ptrs r = [])
    (h : ∀ k, N ≤ k → ∀ nx, EvP P H (evCall P H k) f k c (entryS xs [] nx) (fun e D => (e = .norm ∨ e = .ret) ∧ optE (evRes P D fn.results.toList) fun q => q.1 = [r] ∧ ∀ b ∈ q.2.m, nx ≤ b.1)) : AnsN (N + 1) P H f xs r := by
  intro n hn nx
  obtain ⟨k, rfl⟩ : ∃ k, n = k + 1 := ⟨n - 1, by omega⟩
  obtain ⟨e, D, h1, h2, hq⟩ := h k (by omega) nx
  obtain ⟨⟨rs, D1⟩, hres', hrs, h4⟩ := optE_elim hq
  simp only at hrs h4
  subst hrs
  unfold evCall
  simp only [hg, hf, hb]
  have h1' : evCode P H (evCall P H k) f k c { s := fun i => match xs[i]? with | some v => v | none => .dead, m := [], nx := nx } = some (e, D) := h1
  have hfil : D1.m.filter (fun e => decide (e.1 < nx)) = [] := by
    rw [List.filter_eq_nil_iff]
    intro b hb
    have := h4 b hb
    simp; omega
  rw [if_neg (by simp)]
  generalize hq : evCode P H (evCall P H k) f k c _ = q
  have : q = some (e, D) := by rw [← hq]; exact h1'
  subst this
  simp only [if_pos h2, hres', hfr, Bool.false_and, packRes, Bool.false_eq_true, if_false, hfil, hr, List.flatMap_nil, List.append_nil, List.any_nil]
theorem EvP.seqG {C : Callee} {k : Nat} {D : St} {a b : Code} {Φ : Ex → St → Prop} (K : St → Prop) (h1 : EvP P H C f k a D (thenE K Φ)) (h2 : ∀ D1, K D1 → EvP P H C f k b D1 Φ) : EvP P H C f k (.seq a b) D Φ :=
  EvP.seq (h1.mono fun e D1 h => by
    cases e with
    | norm => exact h2 D1 h
    | ret => exact h
    | exit i => exact h)
end
@[simp] theorem frzL_frzL (a b : Bool) : ∀ l : List V, frzL a (frzL b l) = frzL a l := by
  intro l
  apply frzL.induct (motive_1 := fun v => frz a (frz b v) = frz a v) (motive_2 := fun l => frzL a (frzL b l) = frzL a l)
  all_goals intros
  all_goals simp_all [frz, frzL]
@[simp] theorem z29 : zeroT Try.prog 29 = some [.int .u64 0, .int .i64 0, .int .i64 0, .own .nil 0 0 [], .own .nil 0 0 [], .own .nil 0 0 []] := by kernel_rfl
@[simp] theorem z24 : zeroT Try.prog 24 = some [.int .u64 0, .int .i64 0, .int .i64 0] := by kernel_rfl
@[simp] theorem z3 : zeroT Try.prog 3 = some [.int .i64 0] := by kernel_rfl
attribute [simp] evRes V.scalar
def fourR (A : Option Addr) (cap : Nat) (x : Dev) : V := .agg [.int .u64 31, .int .i64 4, .int .i64 1, .own .nil 0 1 [.int .i64 2], .im false A cap 1 (devL x), .own .nil 0 4 [.own .nil 0 0 [], .own .nil 0 0 [], .own .nil 0 0 [], .own .nil 0 0 []]]
set_option maxHeartbeats 8000000 in
set_option maxRecDepth 100000 in
theorem four21 (A : Option Addr) (cap : Nat) (x : Dev) : AnsN 1 Try.prog H13 21 [.im false A cap 1 (devL x)] (fourR A cap x) := by
  refine AnsN.gen (N := 0) (fn := Try.f21) (by rfl) Try.func21 rfl (by rfl) (by simp [fourR, devL]) fun k hk nx => ?_
  refine EvP.seq (EvP.region ?_)
  simp [entryS]
  refine EvP.seq (EvP.region ?_)
  simp
  refine EvP.ret ?_
  simp [fourR]
set_option maxHeartbeats 4000000 in
set_option maxRecDepth 100000 in
/-- Same(a, b) -/
theorem same12N (pm pm2 : Bool) (A A2 : Option Addr) (cap cap2 : Nat) (a b : List RD) (ha : a.length ≤ 1000) (hM : ∀ r ∈ a, r.l.length ≤ 1000) (hb0 : ∀ r ∈ b, r.l.length ≤ maxLen) : AnsN (2002 + 1) Try.prog H13 12 [.im pm A cap a.length (rsV a), .im pm2 A2 cap2 b.length (rsV b)] (.bool (decide (a.map (·.l) = b.map (·.l)))) := by
  have hml : maxLen = 9223372036854775807 := rfl
  refine AnsN.of (fn := Try.f12) (t := 4) (by rfl) Try.func12 rfl rfl (by rfl) (by rfl) fun k hk nx => ?_
  refine EvP.seq (EvP.region ?_)
  simp [entryS]
  refine EvP.seq (EvP.seq (EvP.region ?_))
  simp
  by_cases h0 : a.length = b.length
  · refine EvP.cond (t := false) (by simp [h0]) (fun h => by cases h) (fun _ => EvP.skip ?_)
    simp only [thenE_norm]
    refine EvP.seq (EvP.seq (EvP.region ?_))
    simp
    refine EvP.block (EvP.loop (fun n D => ∃ i : Nat, n = a.length - i ∧ i ≤ a.length ∧ (∀ j, j < i → (a.map (·.l))[j]? = (b.map (·.l))[j]?) ∧ D.s 0 = .im pm A cap a.length (rsV a) ∧ D.s 1 = .im pm2 A2 cap2 b.length (rsV b) ∧ D.s 5 = .int .i64 (i : Int) ∧ D.m = []) (n := a.length) ⟨0, by simp [entryS]⟩ (by omega) ?_)
    rintro n D ⟨i, hn, hi, hpre, d0, d1, d5, dm⟩
    simp only [liveOf13, clear_none]
    refine EvP.seq (EvP.seq (EvP.region ?_))
    simp [d0, d1, d5]
    refine EvP.cond (t := decide (i < a.length)) (by simp) (fun h => EvP.skip ?_) (fun h => EvP.exit ?_)
    · have hlt : i < a.length := by simpa using h
      have hb : i < b.length := by omega
      simp only [thenE_norm]
      refine EvP.seq (EvP.block (EvP.seq (EvP.seq (EvP.draw ?_))))
      by_cases hll : a[i].l.length = b[i].l.length
      · simp [d0, d1, d5, hlt, hb, hll]
        refine EvP.cond (t := false) (by simp) (fun h => by cases h) (fun _ => EvP.skip ?_)
        simp only [thenE_norm]
        refine EvP.seq (EvP.region ?_)
        simp
        refine EvP.block (EvP.loop (fun n D => ∃ q : Nat, n = b[i].l.length - q ∧ q ≤ b[i].l.length ∧ (∀ j, j < q → a[i].l[j]? = b[i].l[j]?) ∧ D.s 0 = .im pm A cap a.length (rsV a) ∧ D.s 1 = .im pm2 A2 cap2 b.length (rsV b) ∧ D.s 5 = .int .i64 (i : Int) ∧ D.s 6 = .int .i64 (q : Int) ∧ D.m = []) (n := b[i].l.length) ⟨0, by simp [d0, d1, d5, dm]⟩ (by have := hM a[i] (List.getElem_mem hlt); omega) ?_)
        rintro n2 D2 ⟨q, hn2, hq, hpre2, e0, e1, e5, e6, em⟩
        simp only [liveOf13, clear_none]
        refine EvP.seq (EvP.seq (EvP.region ?_))
        simp [e0, e1, e5, e6, hlt, hb, hll]
        refine EvP.cond (t := decide (q < b[i].l.length)) (by simp) (fun h => EvP.skip ?_) (fun h => EvP.exit ?_)
        · have hq2 : q < b[i].l.length := by simpa using h
          have hq1 : q < a[i].l.length := by omega
          simp only [thenE_norm]
          refine EvP.seq (EvP.block (EvP.seq (EvP.draw ?_)))
          by_cases hw : a[i].l[q] = b[i].l[q]
          · simp [e0, e1, e5, e6, hlt, hb, hq1, hq2, hw]
            refine EvP.cond (t := false) (by simp) (fun h => by cases h) (fun _ => EvP.skip ?_)
            simp
            refine EvP.region ?_
            have hbl := hb0 b[i] (List.getElem_mem hb)
            simp [e0, e1, e5, e6]
            refine ⟨b[i].l.length - (q + 1), by omega, q + 1, rfl, by omega, fun j hj => ?_, wrap_succ (by omega), em⟩
            by_cases hjq : j = q
            · subst hjq; simp [hq1, hq2, hw]
            · exact hpre2 j (by omega)
          · have hw' : (((a[i].l[q] : Nat) : Int) != ((b[i].l[q] : Nat) : Int)) = true := by simp [bne]; omega
            simp [e0, e1, e5, e6, hlt, hb, hq1, hq2, hw']
            refine EvP.cond (t := true) (by simp) (fun _ => ?_) (fun h => by cases h)
            refine EvP.seq (EvP.region ?_)
            simp
            refine EvP.ret ?_
            simp [em]
            intro he
            have h1 := congrArg (fun (x : List (List Nat)) => x[i]?) he
            simp [hlt, hb] at h1
            have h2 := congrArg (fun (x : List Nat) => x[q]?) h1
            simp [hq1, hq2] at h2
            exact hw h2
        · have hq3 : ¬ q < b[i].l.length := by simpa using h
          have hq2 : q = b[i].l.length := by omega
          simp
          refine EvP.region ?_
          simp [e0, e1, e5, em]
          refine ⟨a.length - (i + 1), by omega, i + 1, rfl, by omega, fun j hj => ?_, wrap_succ (by omega)⟩
          by_cases hji : j = i
          · subst hji
            simp [hlt, hb]
            refine List.ext_getElem? fun t => ?_
            by_cases ht : t < q
            · exact hpre2 t ht
            · rw [List.getElem?_eq_none (by omega), List.getElem?_eq_none (by omega)]
          · have := hpre j (by omega)
            simpa using this
      · have hll' : (((a[i].l.length : Nat) : Int) != ((b[i].l.length : Nat) : Int)) = true := by simp [bne]; omega
        simp [d0, d1, d5, hlt, hb, hll']
        refine EvP.cond (t := true) (by simp) (fun _ => ?_) (fun h => by cases h)
        refine EvP.seq (EvP.region ?_)
        simp
        refine EvP.ret ?_
        simp [dm]
        intro he
        have h1 := congrArg (fun (x : List (List Nat)) => (x[i]?).map List.length) he
        simp [hlt, hb] at h1
        exact hll h1
    · have hie0 : ¬ i < a.length := by simpa using h
      have hie : i = a.length := by omega
      simp
      refine EvP.seq (EvP.region ?_)
      simp
      refine EvP.ret ?_
      simp [dm]
      refine List.ext_getElem? fun t => ?_
      by_cases ht : t < i
      · exact hpre t ht
      · rw [List.getElem?_eq_none (by simp; omega), List.getElem?_eq_none (by simp; omega)]
  · have h0' : (((a.length : Nat) : Int) != ((b.length : Nat) : Int)) = true := by simp [bne]; omega
    refine EvP.cond (t := true) (by simp [h0']) (fun _ => ?_) (fun h => by cases h)
    refine EvP.seq (EvP.region ?_)
    simp
    refine EvP.ret ?_
    simp
    intro he
    have := congrArg List.length he
    simp at this
    exact h0 this
def fourS (x : Dev) : Scn := ⟨31, 4, 1, false, none, 0, [2], false, none, 0, [x], false, none, 0, [⟨false, none, 0, []⟩, ⟨false, none, 0, []⟩, ⟨false, none, 0, []⟩, ⟨false, none, 0, []⟩]⟩
theorem fourS_ok (x : Dev) : ScnOk (fourS x) := ⟨by simp [fourS, maxLen], by simp [fourS, maxLen], by simp [fourS, maxLen], by simp [fourS]⟩
def outR : List RD := [⟨false, none, 0, [7]⟩, ⟨false, none, 0, [5, 6]⟩, ⟨false, none, 0, []⟩, ⟨false, none, 0, [1]⟩]
theorem broadA (x : Dev) (hd : DevP 4 x) (hk : x.k < 18446744073709551616) : ∃ N, AnsP N Try.prog H13 13 [scV (fourS x), .int .i64 0, .im false none 0 4 (rsV outR)] (fun v => ∃ cs, v = .own .nil 0 4 cs ∧ Rows cs (broadS 31 [2] 0 [[7], [5, 6], [], [1]] [x])) := by
  obtain ⟨N, h⟩ := broad13 (fourS x) (fourS_ok x) (q := 5) (by simp [fourS, pq7]) (fun y hy => by simp [fourS] at hy; subst hy; exact hd) (fun y hy => by simp [fourS] at hy; subst hy; exact hk) 0
  exact ⟨N, h false none 0 outR rfl (by simp [fourS]) (by
    intro l hl
    simp [outR] at hl
    rcases hl with rfl | rfl | rfl | rfl <;> simp [fourS])⟩
def xa : Dev := ⟨0, 2, 0, 1, 2, 30, 1, 0⟩
def xb : Dev := ⟨0, 2, 0, 0, 3, 2, 1, 0⟩
def xc : Dev := ⟨0, 3, 0, 0, 4, 0, 1, 0⟩
theorem va : broadS 31 [2] 0 [[7], [5, 6], [], [1]] [xa] = [[7], [5, 5], [], [1]] := by decide
theorem vb : broadS 31 [2] 0 [[7], [5, 6], [], [1]] [xb] = [[7], [19, 6], [], [1]] := by decide
theorem vc : broadS 31 [2] 0 [[7], [5, 6], [], [1]] [xc] = [[7], [5, 6], [], [1]] := by decide
set_option maxHeartbeats 8000000 in
set_option maxRecDepth 100000 in
theorem awake11 : Ans Try.prog H13 11 [] (.bool true) := by
  obtain ⟨Na, ha⟩ := broadA xa ⟨by decide, by decide, by decide, by decide, by decide, by decide, by decide, by decide, by decide, by decide, by decide, by decide⟩ (by decide)
  obtain ⟨Nb, hb⟩ := broadA xb ⟨by decide, by decide, by decide, by decide, by decide, by decide, by decide, by decide, by decide, by decide, by decide, by decide⟩ (by decide)
  obtain ⟨Nc, hc⟩ := broadA xc ⟨by decide, by decide, by decide, by decide, by decide, by decide, by decide, by decide, by decide, by decide, by decide, by decide⟩ (by decide)
  rw [va] at ha
  rw [vb] at hb
  rw [vc] at hc
  refine Ans.of (fn := Try.f11) (t := 0) (by rfl) Try.func11 rfl rfl (by rfl) (by rfl) ⟨Na + Nb + Nc + 2003, fun k hk nx => ?_⟩
  obtain ⟨ra, ha, csa, rfl, hRa⟩ := ha k (by omega) nx
  obtain ⟨rb, hb, csb, rfl, hRb⟩ := hb k (by omega) nx
  obtain ⟨rc, hc, csc, rfl, hRc⟩ := hc k (by omega) nx
  have fa := four21 none 0 xa k (by omega)
  have fb := four21 none 0 xb k (by omega)
  have fc := four21 none 0 xc k (by omega)
  simp [fourR, devL, xa, xb, xc] at fa fb fc
  simp [scV, scL, fourS, devsV, devL, xa, xb, xc, iL, rsV, rV, outR, uL] at ha hb hc
  let o1 : V := .im true none 0 4 [.im true none 0 1 [.int .u64 7], .im true none 0 2 [.int .u64 5, .int .u64 6], .im true none 0 0 [], .im true none 0 1 [.int .u64 1]]
  refine EvP.seqG (fun D => D.m = [] ∧ D.nx = nx) (EvP.region ?_) ?_
  · simp [entryS]
  rintro D ⟨dm, dx⟩
  refine EvP.seqG (fun D => D.s 1 = .own .nil 0 4 [.own .nil 0 1 [.int .u64 7], .own .nil 0 2 [.int .u64 5, .int .u64 6], .own .nil 0 0 [], .own .nil 0 1 [.int .u64 1]] ∧ D.m = [] ∧ D.nx = nx) (EvP.region ?_) ?_
  · simp [dm, dx]
  rintro D ⟨d1, dm, dx⟩
  refine EvP.seqG (fun D => D.s 1 = o1 ∧ D.s 2 = .own .nil 0 4 csa ∧ D.m = [] ∧ D.nx = nx) (EvP.region ?_) ?_
  · simp [d1, dm, dx, fa, ha, o1]
  rintro D ⟨d1, d2, dm, dx⟩
  refine EvP.seqG (fun D => D.s 1 = o1 ∧ D.s 2 = .own .nil 0 4 csa ∧ D.s 3 = .own .nil 0 4 csb ∧ D.m = [] ∧ D.nx = nx) (EvP.region ?_) ?_
  · simp [d1, d2, dm, dx, fb, hb, o1]
  rintro D ⟨d1, d2, d3, dm, dx⟩
  refine EvP.seqG (fun D => D.s 1 = o1 ∧ D.s 2 = .own .nil 0 4 csa ∧ D.s 3 = .own .nil 0 4 csb ∧ D.s 4 = .own .nil 0 4 csc ∧ D.m = [] ∧ D.nx = nx) (EvP.region ?_) ?_
  · simp [d1, d2, d3, dm, dx, fc, hc, o1]
  rintro D ⟨d1, d2, d3, d4, dm, dx⟩
  obtain ⟨rsa, qa, la⟩ := hRa.frz false
  obtain ⟨rsb, qb, lb⟩ := hRb.frz false
  obtain ⟨rsc, qc, lc⟩ := hRc.frz false
  have la4 : rsa.length = 4 := by have := congrArg List.length la; simpa using this
  have lb4 : rsb.length = 4 := by have := congrArg List.length lb; simpa using this
  have lc4 : rsc.length = 4 := by have := congrArg List.length lc; simpa using this
  have bnd : ∀ {rs : List RD} {ls : List (List Nat)}, rs.map (·.l) = ls → LsOk 31 ls → ∀ r ∈ rs, r.l.length ≤ 1000 := fun h1 h2 r hr => (h2 r.l (by rw [← h1]; exact List.mem_map_of_mem hr)).1
  have okl : ∀ {ls : List (List Nat)}, (ls.all fun l => decide (l.length ≤ 1000) && l.all fun y => decide (y < 31)) = true → LsOk 31 ls := fun h l hl => by
    have := List.all_eq_true.1 h l hl
    simpa using this
  have sa := same12N false false none none 0 0 rsa [⟨false, none, 0, [7]⟩, ⟨false, none, 0, [5, 5]⟩, ⟨false, none, 0, []⟩, ⟨false, none, 0, [1]⟩] (by omega) (bnd la (okl (by decide))) (by simp [maxLen]) k (by omega)
  have sb := same12N false false none none 0 0 rsb [⟨false, none, 0, [7]⟩, ⟨false, none, 0, [19, 6]⟩, ⟨false, none, 0, []⟩, ⟨false, none, 0, [1]⟩] (by omega) (bnd lb (okl (by decide))) (by simp [maxLen]) k (by omega)
  have sc := same12N false false none none 0 0 rsc [⟨false, none, 0, [7]⟩, ⟨false, none, 0, [5, 6]⟩, ⟨false, none, 0, []⟩, ⟨false, none, 0, [1]⟩] (by omega) (bnd lc (okl (by decide))) (by simp [maxLen]) k (by omega)
  simp [la, lb, lc, la4, lb4, lc4] at sa sb sc
  have litE : ∀ a b c : Nat, rsV [⟨false, none, 0, [a]⟩, ⟨false, none, 0, [b, c]⟩, ⟨false, none, 0, []⟩, ⟨false, none, 0, [1]⟩] = [.im false none 0 1 [.int .u64 (a : Int)], .im false none 0 2 [.int .u64 (b : Int), .int .u64 (c : Int)], .im false none 0 0 [], .im false none 0 1 [.int .u64 1]] := fun a b c => by simp [rsV, rV, uL]
  simp [litE] at sa sb sc
  refine EvP.seq (EvP.region ?_)
  simp [d1, d2, d3, d4, dm, dx, qa, qb, qc, o1, sa, sb, sc]
  refine EvP.ret ?_
  simp [dm]
end Go.Abs
end
/- The seat of privitylaw13: what a law's arguments can be. -/
set_option linter.unusedVariables false
noncomputable section
namespace Go.Abs
open Go Go.Proofs

theorem parse {α : Type} (enc : α → List V) (sz : Nat) (Q : α → Prop) : ∀ (n : Nat) (cs : List V), cs.length = n * sz → (∀ i, i < n → ∃ a, Q a ∧ (cs.drop (i * sz)).take sz = enc a) → ∃ l : List α, l.length = n ∧ cs = l.flatMap enc ∧ ∀ a ∈ l, Q a
  | 0, cs, h, _ => ⟨[], rfl, by simpa using h, by simp⟩
  | n + 1, cs, h, hh => by
    obtain ⟨a, ha, he⟩ := hh 0 (by omega)
    rw [Nat.zero_mul, List.drop_zero] at he
    obtain ⟨l, h1, h2, h3⟩ := parse enc sz Q n (cs.drop sz) (by rw [List.length_drop, h, Nat.succ_mul]; omega) fun i hi => by
      obtain ⟨b, hb, hbe⟩ := hh (i + 1) (by omega)
      refine ⟨b, hb, ?_⟩
      rw [List.drop_drop, show sz + i * sz = (i + 1) * sz by rw [Nat.succ_mul]; omega]
      exact hbe
    refine ⟨a :: l, by simp [h1], ?_, fun x hx => ?_⟩
    · rw [List.flatMap_cons, ← he, ← h2, List.take_append_drop]
    · rcases List.mem_cons.1 hx with rfl | hx
      · exact ha
      · exact h3 x hx
theorem ce3 : Try.prog.cellsOf 3 = 1 := by kernel_rfl
theorem ce22 : Try.prog.cellsOf 22 = 1 := by kernel_rfl
theorem ce24 : Try.prog.cellsOf 24 = 3 := by kernel_rfl
theorem ce25 : Try.prog.cellsOf 25 = 1 := by kernel_rfl
theorem ce26 : Try.prog.cellsOf 26 = 1 := by kernel_rfl
theorem ce27 : Try.prog.cellsOf 27 = 1 := by kernel_rfl
theorem ce29 : Try.prog.cellsOf 29 = 6 := by kernel_rfl
theorem ce30 : Try.prog.cellsOf 30 = 1 := by kernel_rfl
theorem ce32 : Try.prog.cellsOf 32 = 9 := by kernel_rfl
theorem ce41 : Try.prog.cellsOf 41 = 8 := by kernel_rfl
theorem ce42 : Try.prog.cellsOf 42 = 1 := by kernel_rfl
theorem flat_uL (l : List Nat) : uL l = l.flatMap fun (x : Nat) => [V.int .u64 (x : Int)] := by
  unfold uL; induction l with
  | nil => rfl
  | cons x l ih => rw [List.map_cons, ih]; rfl
theorem flat_iL (l : List Int) : iL l = l.flatMap fun x => [V.int .i64 x] := by
  unfold iL; induction l with
  | nil => rfl
  | cons x l ih => rw [List.map_cons, ih]; rfl
theorem flat_rsV (l : List RD) : rsV l = l.flatMap fun x => [rV x] := by
  unfold rsV; induction l with
  | nil => rfl
  | cons x l ih => rw [List.map_cons, ih]; rfl
theorem flat_msV (l : List MD) : msV l = l.flatMap fun x => [mV x] := by
  unfold msV; induction l with
  | nil => rfl
  | cons x l ih => rw [List.map_cons, ih]; rfl
theorem sh_u64 {k : Nat} {vs : List V} (h : Sh Try.prog (k + 1) 22 vs) : ∃ x : Nat, x < 18446744073709551616 ∧ vs = [.int .u64 (x : Int)] := by
  unfold Sh at h
  rw [Try.underlying22] at h
  obtain ⟨n, rfl, hn⟩ := h
  have hn : (decide (IntKind.u64.min ≤ n) && decide (n ≤ IntKind.u64.max)) = true := hn
  simp only [Bool.and_eq_true, decide_eq_true_eq] at hn
  have e1 : IntKind.u64.min = 0 := rfl
  have e2 : IntKind.u64.max = 18446744073709551615 := rfl
  rw [e1, e2] at hn
  exact ⟨n.toNat, by omega, by rw [show ((n.toNat : Nat) : Int) = n by omega]⟩
theorem sh_i64 {k : Nat} {vs : List V} (h : Sh Try.prog (k + 1) 3 vs) : ∃ x : Int, (-9223372036854775808 ≤ x ∧ x ≤ 9223372036854775807) ∧ vs = [.int .i64 x] := by
  unfold Sh at h
  rw [Try.underlying3] at h
  obtain ⟨n, rfl, hn⟩ := h
  have hn : (decide (IntKind.i64.min ≤ n) && decide (n ≤ IntKind.i64.max)) = true := hn
  simp only [Bool.and_eq_true, decide_eq_true_eq] at hn
  have e1 : IntKind.i64.min = -9223372036854775808 := rfl
  have e2 : IntKind.i64.max = 9223372036854775807 := rfl
  rw [e1, e2] at hn
  exact ⟨n, hn, rfl⟩
theorem sh_words {k : Nat} {vs : List V} (h : Sh Try.prog (k + 1 + 1) 42 vs) : ∃ r : RD, (r.l.length ≤ maxLen ∧ ∀ x ∈ r.l, x < 18446744073709551616) ∧ vs = [rV r] := by
  unfold Sh at h
  rw [Try.underlying42] at h
  obtain ⟨A, cap, n, cs, rfl, h1, h2, h3⟩ := h
  rw [ce22] at h2 h3
  obtain ⟨l, q1, q2, q3⟩ := parse (fun x : Nat => [V.int .u64 (x : Int)]) 1 (fun x => x < 18446744073709551616) n cs h2 fun i hi => by
    obtain ⟨x, hx, he⟩ := sh_u64 (h3 i hi)
    exact ⟨x, hx, he⟩
  rw [← flat_uL] at q2
  subst q1 q2
  exact ⟨⟨false, A, cap, l⟩, ⟨h1, q3⟩, rfl⟩
theorem sh_ints {k : Nat} {vs : List V} (h : Sh Try.prog (k + 1 + 1) 25 vs) : ∃ A cap l, l.length ≤ maxLen ∧ vs = [.im false A cap l.length (iL l)] := by
  unfold Sh at h
  rw [Try.underlying25] at h
  obtain ⟨A, cap, n, cs, rfl, h1, h2, h3⟩ := h
  rw [ce3] at h2 h3
  obtain ⟨l, q1, q2, q3⟩ := parse (fun x : Int => [V.int .i64 x]) 1 (fun x => True) n cs h2 fun i hi => by
    obtain ⟨x, hx, he⟩ := sh_i64 (h3 i hi)
    exact ⟨x, trivial, he⟩
  rw [← flat_iL] at q2
  subst q1 q2
  exact ⟨A, cap, l, h1, rfl⟩
theorem sh_rows {k : Nat} {vs : List V} (h : Sh Try.prog (k + 1 + 1 + 1) 27 vs) : ∃ A cap l, l.length ≤ maxLen ∧ (∀ r ∈ l, r.l.length ≤ maxLen ∧ ∀ x ∈ r.l, x < 18446744073709551616) ∧ vs = [.im false A cap l.length (rsV l)] := by
  unfold Sh at h
  rw [Try.underlying27] at h
  obtain ⟨A, cap, n, cs, rfl, h1, h2, h3⟩ := h
  rw [ce42] at h2 h3
  obtain ⟨l, q1, q2, q3⟩ := parse (fun x : RD => [rV x]) 1 (fun r => r.l.length ≤ maxLen ∧ ∀ x ∈ r.l, x < 18446744073709551616) n cs h2 fun i hi => by
    obtain ⟨x, hx, he⟩ := sh_words (h3 i hi)
    exact ⟨x, hx, he⟩
  rw [← flat_rsV] at q2
  subst q1 q2
  exact ⟨A, cap, l, h1, q3, rfl⟩
theorem sh_msgs {k : Nat} {vs : List V} (h : Sh Try.prog (k + 1 + 1 + 1 + 1) 30 vs) : ∃ A cap l, l.length ≤ maxLen ∧ (∀ m ∈ l, m.l.length ≤ maxLen ∧ ∀ r ∈ m.l, r.l.length ≤ maxLen ∧ ∀ x ∈ r.l, x < 18446744073709551616) ∧ vs = [.im false A cap l.length (msV l)] := by
  unfold Sh at h
  rw [Try.underlying30] at h
  obtain ⟨A, cap, n, cs, rfl, h1, h2, h3⟩ := h
  rw [ce27] at h2 h3
  obtain ⟨l, q1, q2, q3⟩ := parse (fun x : MD => [mV x]) 1 (fun m => m.l.length ≤ maxLen ∧ ∀ r ∈ m.l, r.l.length ≤ maxLen ∧ ∀ x ∈ r.l, x < 18446744073709551616) n cs h2 fun i hi => by
    obtain ⟨A, cap, l, a1, a2, a3⟩ := sh_rows (h3 i hi)
    exact ⟨⟨false, A, cap, l⟩, ⟨a1, a2⟩, a3⟩
  rw [← flat_msV] at q2
  subst q1 q2
  exact ⟨A, cap, l, h1, q3, rfl⟩
theorem sh_params {k : Nat} {vs : List V} (h : Sh Try.prog (k + 1 + 1) 24 vs) : ∃ (p : Nat) (n t : Int), p < 18446744073709551616 ∧ vs = [.int .u64 (p : Int), .int .i64 n, .int .i64 t] := by
  unfold Sh at h
  rw [Try.underlying24] at h
  obtain ⟨hl, hf⟩ := h
  rw [ce24] at hl
  match vs, hl with
  | [a, b, c], _ =>
    simp [ce22, ce3] at hf
    obtain ⟨h0, h1, h2⟩ := hf
    obtain ⟨p, hp, e0⟩ := sh_u64 h0
    obtain ⟨n, _, e1⟩ := sh_i64 h1
    obtain ⟨t, _, e2⟩ := sh_i64 h2
    simp at e0 e1 e2
    exact ⟨p, n, t, hp, by simp [e0, e1, e2]⟩
theorem sh_dev {k : Nat} {vs : List V} (h : Sh Try.prog (k + 1 + 1) 41 vs) : ∃ x : Dev, x.k < 18446744073709551616 ∧ vs = devL x := by
  unfold Sh at h
  rw [Try.underlying41] at h
  obtain ⟨hl, hf⟩ := h
  rw [ce41] at hl
  match vs, hl with
  | [a, b, c, d, e, f, g, i], _ =>
    simp [ce22, ce3] at hf
    obtain ⟨h0, h1, h2, h3, h4, h5, h6, h7⟩ := hf
    obtain ⟨x0, _, e0⟩ := sh_i64 h0
    obtain ⟨x1, _, e1⟩ := sh_i64 h1
    obtain ⟨x2, _, e2⟩ := sh_i64 h2
    obtain ⟨x3, _, e3⟩ := sh_i64 h3
    obtain ⟨x4, _, e4⟩ := sh_i64 h4
    obtain ⟨x5, hk, e5⟩ := sh_u64 h5
    obtain ⟨x6, _, e6⟩ := sh_i64 h6
    obtain ⟨x7, _, e7⟩ := sh_i64 h7
    simp at e0 e1 e2 e3 e4 e5 e6 e7
    exact ⟨⟨x0, x1, x2, x3, x4, x5, x6, x7⟩, hk, by simp [devL, e0, e1, e2, e3, e4, e5, e6, e7]⟩
theorem sh_devs {k : Nat} {vs : List V} (h : Sh Try.prog (k + 1 + 1 + 1) 26 vs) : ∃ A cap l, l.length ≤ maxLen ∧ (∀ x ∈ l, x.k < 18446744073709551616) ∧ vs = [.im false A cap l.length (devsV l)] := by
  unfold Sh at h
  rw [Try.underlying26] at h
  obtain ⟨A, cap, n, cs, rfl, h1, h2, h3⟩ := h
  rw [ce41] at h2 h3
  obtain ⟨l, q1, q2, q3⟩ := parse devL 8 (fun x : Dev => x.k < 18446744073709551616) n cs h2 fun i hi => by
    obtain ⟨x, hx, he⟩ := sh_dev (h3 i hi)
    exact ⟨x, hx, he⟩
  subst q1
  exact ⟨A, cap, l, h1, q3, by rw [q2]; rfl⟩
theorem sh_scn {k : Nat} {vs : List V} (h : Sh Try.prog (k + 1 + 1 + 1 + 1) 29 vs) : ∃ s : Scn, ScnOk s ∧ (∀ x ∈ s.devs, x.k < 18446744073709551616) ∧ vs = scL s := by
  unfold Sh at h
  rw [Try.underlying29] at h
  obtain ⟨hl, hf⟩ := h
  rw [ce29] at hl
  match vs, hl with
  | [a, b, c, d, e, f], _ =>
    simp [ce24, ce25, ce26, ce27] at hf
    obtain ⟨h0, h1, h2, h3⟩ := hf
    obtain ⟨p, n, t, hp, e0⟩ := sh_params h0
    obtain ⟨A1, cap1, l1, b1, e1⟩ := sh_ints h1
    obtain ⟨A2, cap2, l2, b2, c2, e2⟩ := sh_devs h2
    obtain ⟨A3, cap3, l3, b3, c3, e3⟩ := sh_rows h3
    simp at e0 e1 e2 e3
    exact ⟨⟨p, n, t, false, A1, cap1, l1, false, A2, cap2, l2, false, A3, cap3, l3⟩, ⟨b1, b2, b3, fun x hx => (c3 x hx).1⟩, c2, by simp [scL, e0, e1, e2, e3]⟩
theorem sh_ask {x : V} (h : ArgSh Try.prog 8 32 x) : ∃ z : Ask, x = askV z ∧ AskOk z ∧ (∀ x ∈ z.w.devs, x.k < 18446744073709551616) := by
  unfold ArgSh at h
  rw [Try.underlying32] at h
  obtain ⟨vs, rfl, h⟩ := h
  unfold Sh at h
  rw [Try.underlying32] at h
  obtain ⟨hl, hf⟩ := h
  rw [ce32] at hl
  match vs, hl with
  | [a, b, c, d, e, f, g, i, j], _ =>
    simp [ce29, ce3, ce30, ce27] at hf
    obtain ⟨h0, h1, h2, h3⟩ := hf
    obtain ⟨s, hs, hk, e0⟩ := sh_scn h0
    obtain ⟨rd, _, e1⟩ := sh_i64 h1
    obtain ⟨A2, cap2, l2, b2, c2, e2⟩ := sh_msgs h2
    obtain ⟨A3, cap3, l3, b3, c3, e3⟩ := sh_rows h3
    simp [scL] at e0 e1 e2 e3
    exact ⟨⟨s, rd, false, A2, cap2, l2, false, A3, cap3, l3⟩, by simp [askV, askL, e0, e1, e2, e3], ⟨hs, b2, fun x hx => (c2 x hx).1, b3⟩, hk⟩
end Go.Abs
end
/- The seat of privitylaw13: AdversaryBroadcasts. -/
set_option linter.unusedVariables false
noncomputable section
namespace Go.Abs
open Go Go.Proofs

def lentA (z : Ask) : Ask := ⟨lentS z.w, z.rd, false, z.mA, z.mcap, z.ms.map lentM, false, z.aA, z.acap, z.al.map lent⟩
theorem lentA_ok {z : Ask} (h : AskOk z) : AskOk (lentA z) := ⟨lentS_ok h.w, by simpa [lentA] using h.ms, by
  intro x hx
  obtain ⟨y, hy, rfl⟩ := List.mem_map.1 (show x ∈ z.ms.map lentM from hx)
  simpa [lentM] using h.m y hy, by simpa [lentA] using h.al⟩
theorem prime_pq {p : Nat} (h : p ∈ primes7) : ∃ q, (p, q) ∈ pq7 := by
  unfold primes7 at h
  simp only [List.mem_cons, List.not_mem_nil, or_false] at h
  rcases h with rfl | rfl | rfl | rfl | rfl | rfl | rfl
  all_goals first
    | exact ⟨5, by decide⟩ | exact ⟨7, by decide⟩ | exact ⟨13, by decide⟩ | exact ⟨17, by decide⟩ | exact ⟨19, by decide⟩ | exact ⟨31, by decide⟩ | exact ⟨61, by decide⟩
theorem words_ok {p : Nat} {n : Int} {a : List RD} (h : WordsP p n a) : LsOk p (a.map (·.l)) := by
  intro l hl
  obtain ⟨r, hr, rfl⟩ := List.mem_map.1 hl
  have := h.2 r hr
  exact ⟨by omega, this.2⟩
theorem LsOk.mem {p : Nat} {rs : List RD} {ls : List (List Nat)} (h : LsOk p ls) (he : rs.map (·.l) = ls) : ∀ r ∈ rs, r.l.length ≤ 1000 := fun r hr => (h r.l (by rw [← he]; exact List.mem_map_of_mem hr)).1
set_option maxHeartbeats 16000000 in
set_option maxRecDepth 100000 in
theorem law3 (z : Ask) (hz : AskOk z) (hk64 : ∀ x ∈ z.w.devs, x.k < 18446744073709551616) : Ans Try.prog H13 3 [askV z] (.bool true) := by
  have hml : maxLen = 9223372036854775807 := rfl
  obtain ⟨b, ⟨N0, h0⟩, hb⟩ := may10 (lentA z) (lentA_ok hz)
  obtain ⟨N1, h1⟩ := awake11
  simp only [askV, askL, lentA, lentS, List.length_map] at h0
  cases b with
  | false =>
    refine Ans.of (fn := Try.f3) (t := 2) (by rfl) Try.func3 rfl rfl (by rfl) (by rfl) ⟨N0 + N1, fun k hk nx => ?_⟩
    have c0 := h0 k (by omega)
    have c1 := h1 k (by omega)
    refine EvP.seq (EvP.region ?_)
    simp [entryS, askV, askL]
    refine EvP.seq (EvP.seq (EvP.region ?_))
    simp [c0]
    refine EvP.cond (t := true) (by simp) (fun _ => ?_) (fun h => by cases h)
    refine EvP.seq (EvP.region ?_)
    simp [c1]
    refine EvP.ret ?_
    simp
  | true =>
    have hA := hb rfl
    obtain ⟨q, hq⟩ := prime_pq hA.w.par.1
    obtain ⟨N2, h2⟩ := broad13 (lentS z.w) (lentS_ok hz.w) hq hA.w.devs hk64 z.rd
    obtain ⟨N3, h3⟩ := broad14 (lentS z.w) (lentS_ok hz.w) hq hA.w.devs hk64 z.rd
    have hn13 : (lentS z.w).n ≤ 13 := hA.w.par.2.2.1
    have hal : ((z.al.map lent).length : Int) = (lentS z.w).n := hA.al.1
    have hlok : LsOk (lentS z.w).p ((z.al.map lent).map (·.l)) := words_ok hA.al
    obtain ⟨hp1, hq1, hq2⟩ := pq_facts hq
    have hp0 : 0 < (lentS z.w).p := by
      have : 2 ^ 5 ≤ 2 ^ q := Nat.pow_le_pow_right (by omega) hq1
      have hp1 : (lentS z.w).p + 1 = 2 ^ q := hp1
      omega
    refine Ans.of (fn := Try.f3) (t := 2) (by rfl) Try.func3 rfl rfl (by rfl) (by rfl) ⟨N0 + N1 + N2 + N3 + 2003, fun k hk nx => ?_⟩
    have c0 := h0 k (by omega)
    have c1 := h1 k (by omega)
    obtain ⟨r2, c2, cs2, rfl, hR2⟩ := h2 false z.aA z.acap (z.al.map lent) hal hn13 hlok k (by omega) (nx + 1)
    obtain ⟨r3, c3, cs3, rfl, hR3⟩ := h3 false z.aA z.acap (z.al.map lent) hal hn13 hlok k (by omega) (nx + 1)
    obtain ⟨hfok, hflen⟩ := fold_ok (c := (lentS z.w).corrupt) (rd := z.rd) (out := (z.al.map lent).map (·.l)) (devs := (lentS z.w).devs) hp0 hlok
    obtain ⟨rs2, q2, l2⟩ := hR2.frz false
    obtain ⟨rs3, q3, l3⟩ := hR3.frz false
    have hbl : (broadS (lentS z.w).p (lentS z.w).corrupt z.rd ((z.al.map lent).map (·.l)) (lentS z.w).devs).length = z.al.length := by
      unfold broadS; rw [hflen]; simp
    have n2 : rs2.length = z.al.length := by rw [← hbl, ← l2, List.length_map]
    have n3 : rs3.length = z.al.length := by rw [← hbl, ← l3, List.length_map]
    have hb2 := LsOk.mem hfok l2
    have hb3 := LsOk.mem hfok l3
    have hal2 : (z.al.length : Int) = (lentS z.w).n := by simpa using hal
    have c4 := same12N false false none none 0 0 rs2 rs3 (by omega) hb2 (fun r hr => by have := hb3 r hr; omega) k (by omega)
    rw [l2, l3, n2, n3] at c4
    simp only [decide_true] at c4
    simp only [scV, scL, lentS, List.length_map] at c2 c3
    refine EvP.seqG (fun D => D.s 1 = .bptr nx 0 ∧ D.m = [(nx, ⟨0, askL z⟩)] ∧ D.nx = nx + 1) (EvP.region ?_) ?_
    · simp [entryS, askV, askL]
    rintro D ⟨d1, dm, dx⟩
    unfold askL at dm
    refine EvP.seqG (fun D => D.s 1 = .bptr nx 0 ∧ D.m = [(nx, ⟨0, askL z⟩)] ∧ D.nx = nx + 1) (EvP.seq (EvP.region ?_)) ?_
    · simp [d1, dm, dx, c0]
      refine EvP.cond (t := false) (by simp) (fun h => by cases h) (fun _ => EvP.skip ?_)
      simp [d1, dm, dx, askL]
    rintro D ⟨d1, dm, dx⟩
    unfold askL at dm
    refine EvP.seq (EvP.draw ?_)
    simp [d1, dm, dx, c1, c2, c3, c4, q2, q3]
    refine EvP.ret ?_
    simp [dm]
end Go.Abs
end
