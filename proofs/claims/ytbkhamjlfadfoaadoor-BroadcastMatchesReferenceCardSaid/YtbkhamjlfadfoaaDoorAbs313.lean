/- Joined: AbsPNSU AbsPNUA AbsPNUB. -/
import Derived.Test.YtbkhamjlfadfoaaDoorAbs312
set_option linter.all false
set_option maxHeartbeats 16000000
noncomputable section
namespace Go.Abs
open Go Go.Proofs
attribute [local simp] intOp shOp
set_option maxRecDepth 100000
structure MD where
 pm : Bool
 A : Option Addr
 cap : Nat
 l : List RD
def mV (m : MD) : V := .im m.pm m.A m.cap m.l.length (rsV m.l)
def msV (ms : List MD) : List V := ms.map mV
@[simp] theorem msV_length (ms : List MD) : (msV ms).length = ms.length := by simp [msV]
@[simp] theorem msV_getElem (ms : List MD) (i : Nat) (h : i < (msV ms).length) : (msV ms)[i] = .im (ms[i]'(by simpa using h)).pm (ms[i]'(by simpa using h)).A (ms[i]'(by simpa using h)).cap (ms[i]'(by simpa using h)).l.length (rsV (ms[i]'(by simpa using h)).l) := by simp [msV, mV]
def lentM (m : MD) : MD := { m with pm := false, l := m.l.map lent }
@[simp] theorem frzL_msV (ms : List MD) : frzL false (msV ms) = msV (ms.map lentM) := by
 unfold msV; induction ms with
 | nil => rfl
 | cons x l ih => simp only [List.map_cons, frzL, ih]; simp [mV, frz, lentM]
@[simp] theorem ptrsL_msV (ms : List MD) : ptrsL (msV ms) = [] := by
 unfold msV; induction ms with
 | nil => rfl
 | cons x l ih => simp only [List.map_cons, ptrsL, ih]; simp [mV, ptrs]
@[simp] theorem noRowL_rsV (rs : List RD) : noRowL (rsV rs) = true := by
 unfold rsV; induction rs with
 | nil => rfl
 | cons x l ih => simp [noRowL, noRow, rV, ih]
end Go.Abs
end
noncomputable section
namespace Go.Abs
open Go Go.Proofs
attribute [local simp] intOp shOp
set_option maxRecDepth 100000
def Rows2 (cs : List V) (ls : List (List (List Nat))) : Prop := cs.length = ls.length ∧ ∀ (i : Nat) (v : V) (l : List (List Nat)), cs[i]? = some v → ls[i]? = some l → ∃ rc, v = .own .nil 0 l.length rc ∧ Rows rc l
theorem Rows2.set {cs : List V} {ls : List (List (List Nat))} (h : Rows2 cs ls) (i : Nat) {rc : List V} {l : List (List Nat)} (hv : Rows rc l) : Rows2 (cs.set i (.own .nil 0 l.length rc)) (ls.set i l) := by
 refine ⟨by simp [h.1], fun j v' l' h1 h2 => ?_⟩
 rw [List.getElem?_set] at h1 h2
 split at h1
 ·rename_i hij
  rw [if_pos hij] at h2
  split at h1
  ·split at h2
   ·cases h1; cases h2; exact ⟨rc, rfl, hv⟩
   ·cases h2
  ·cases h1
 ·rename_i hij
  rw [if_neg hij] at h2
  exact h.2 j v' l' h1 h2
theorem Rows2.tail {v : V} {cs : List V} {l : List (List Nat)} {ls : List (List (List Nat))} (h : Rows2 (v :: cs) (l :: ls)) : (∃ rc, v = .own .nil 0 l.length rc ∧ Rows rc l) ∧ Rows2 cs ls :=
 ⟨h.2 0 v l (by simp) (by simp), by simpa using h.1, fun i v' l' a b => h.2 (i + 1) v' l' (by simpa using a) (by simpa using b)⟩
theorem Rows2.ptrs : ∀ {cs : List V} {ls : List (List (List Nat))}, Rows2 cs ls → ptrsL cs = []
 | [], _, _ => rfl
 | v :: cs, [], h => by have := h.1; simp at this
 | v :: cs, l :: ls, h => by
   obtain ⟨⟨rc, rfl, hr⟩, ht⟩ := h.tail
   simp [ptrsL, Abs.ptrs, hr.ptrs, Rows2.ptrs ht]
def mls (ms : List MD) : List (List (List Nat)) := ms.map fun m => m.l.map (·.l)
def stepJ (p : Nat) (c : List Int) (x : Dev) (said : List Nat) (row : List (List Nat)) (j : Nat) : List (List Nat) :=
 if ((j : Int) + 1 ≠ x.from_ ∧ (x.to = 0 ∨ x.to = (j : Int) + 1)) then row.set j (uponS p c x (row[j]?.getD []) said) else row
def saidS (out : List (List (List Nat))) (x : Dev) : List Nat := if x.kind = 3 then (out[(x.of_ - 1).toNat]?.getD [])[(x.from_ - 1).toNat]?.getD [] else []
def stepM (p : Nat) (c : List Int) (rd : Int) (n : Nat) (out all : List (List (List Nat))) (x : Dev) : List (List (List Nat)) :=
 if x.round = rd ∧ x.from_ ∈ c then all.set (x.from_ - 1).toNat ((List.range n).foldl (stepJ p c x (saidS out x)) (all[(x.from_ - 1).toNat]?.getD [])) else all
def msgS (p : Nat) (c : List Int) (rd : Int) (n : Nat) (out : List (List (List Nat))) (devs : List Dev) : List (List (List Nat)) := devs.foldl (stepM p c rd n out) out
@[simp] theorem stepJ_length {p : Nat} {c : List Int} {x : Dev} {said : List Nat} {row : List (List Nat)} {j : Nat} : (stepJ p c x said row j).length = row.length := by
 unfold stepJ; split <;> simp
theorem stepJ_ok {p : Nat} (hp : 0 < p) {c : List Int} {x : Dev} {said : List Nat} {row : List (List Nat)} {j : Nat} (h : LsOk p row) : LsOk p (stepJ p c x said row j) := by
 unfold stepJ
 split
 ·intro l hl
  rcases List.mem_or_eq_of_mem_set hl with hl | rfl
  ·exact h l hl
  ·refine upon_ok hp ?_
   cases hi : row[j]? with
   | none => exact ⟨by simp, by simp⟩
   | some l => exact h l (List.mem_of_getElem? hi)
 ·exact h
theorem foldJ_ok {p : Nat} (hp : 0 < p) {c : List Int} {x : Dev} {said : List Nat} : ∀ {js : List Nat} {row : List (List Nat)}, LsOk p row → LsOk p (js.foldl (stepJ p c x said) row) ∧ (js.foldl (stepJ p c x said) row).length = row.length
 | [], row, h => ⟨h, rfl⟩
 | j :: js, row, h => by
   obtain ⟨h1, h2⟩ := foldJ_ok (js := js) hp (stepJ_ok (c := c) (x := x) (said := said) (j := j) hp h)
   exact ⟨h1, by rw [List.foldl_cons, h2, stepJ_length]⟩
def MsOk (p n : Nat) (ls : List (List (List Nat))) : Prop := ls.length = n ∧ ∀ l ∈ ls, l.length = n ∧ LsOk p l
theorem stepM_ok {p n : Nat} (hp : 0 < p) {c : List Int} {rd : Int} {out all : List (List (List Nat))} {x : Dev} (h : MsOk p n all) : MsOk p n (stepM p c rd n out all x) := by
 unfold stepM
 split
 ·refine ⟨by simp [h.1], fun l hl => ?_⟩
  by_cases hi : (x.from_ - 1).toNat < all.length
  ·rcases List.mem_or_eq_of_mem_set hl with hl | rfl
   ·exact h.2 l hl
   ·have := h.2 _ (List.getElem_mem hi)
    rw [List.getElem?_eq_getElem hi, Option.getD_some]
    obtain ⟨q1, q2⟩ := foldJ_ok (js := List.range n) (c := c) (x := x) (said := saidS out x) hp this.2
    exact ⟨by rw [q2]; exact this.1, q1⟩
  ·rw [List.set_eq_of_length_le (by omega)] at hl
   exact h.2 l hl
 ·exact h
theorem foldM_ok {p n : Nat} (hp : 0 < p) {c : List Int} {rd : Int} {out : List (List (List Nat))} : ∀ {devs : List Dev} {all : List (List (List Nat))}, MsOk p n all → MsOk p n (devs.foldl (stepM p c rd n out) all)
 | [], all, h => h
 | x :: l, all, h => foldM_ok (devs := l) hp (stepM_ok (c := c) (rd := rd) (out := out) (x := x) hp h)
theorem foldl_range_succ {β : Type} (f : β → Nat → β) (a : β) (j : Nat) : (List.range (j + 1)).foldl f a = f ((List.range j).foldl f a) j := by
 rw [List.range_succ, List.foldl_append]; rfl
@[simp] theorem cellIn_msV (ms : List MD) : (msV ms).all cellIn = true := by
 unfold msV; induction ms with
 | nil => rfl
 | cons x l ih => simp [cellIn, solid, mV]
end Go.Abs
end
noncomputable section
namespace Go.Abs
open Go Go.Proofs
attribute [local simp] intOp shOp
set_option maxRecDepth 100000
theorem said_lt {p n : Nat} (hp : 0 < p) {out : List (List (List Nat))} (h : MsOk p n out) (x : Dev) : ∀ y ∈ saidS out x, y < p := by
 unfold saidS
 split
 ·cases h1 : out[(x.of_ - 1).toNat]? with
  | none => intro y hy; simp at hy
  | some l =>
    rw [Option.getD_some]
    cases h2 : l[(x.from_ - 1).toNat]? with
    | none => intro y hy; simp at hy
    | some w =>
      rw [Option.getD_some]
      exact ((h.2 l (List.mem_of_getElem? h1)).2 w (List.mem_of_getElem? h2)).2
 ·simp
theorem msgs16 (s : Scn) (hs : ScnOk s) {q : Nat} (hq : (s.p, q) ∈ pq7) (hd : ∀ x ∈ s.devs, DevP s.n x) (hk64 : ∀ x ∈ s.devs, x.k < 18446744073709551616) (rd : Int) : ∃ N, ∀ (pm : Bool) (A : Option Addr) (cap : Nat) (ms : List MD), (ms.length : Int) = s.n → s.n ≤ 13 → MsOk s.p ms.length (mls ms) →
 AnsP N Tryd.prog H14 86 [scV s, .int .i64 rd, .im pm A cap ms.length (msV ms)] (fun v => ∃ cs, v = .own .nil 0 ms.length cs ∧ Rows2 cs (msgS s.p s.corrupt rd ms.length (mls ms) s.devs)) := by
 have hml : maxLen = 9223372036854775807 := rfl
 obtain ⟨hp1, hq1, hq2⟩ := pq_facts hq
 have hp0 : 0 < s.p := by
  have : 2 ^ 5 ≤ 2 ^ q := Nat.pow_le_pow_right (by omega) hq1
  omega
 obtain ⟨N1, h1⟩ := upon24 (lentS s) (lentS_ok hs) hq
 have h0 : ∀ x, AnsN (s.corrupt.length + 4) Tryd.prog H14 84 [scV (lentS s), devV x, .int .i64 rd] (.bool (decide (x.round = rd ∧ x.from_ ∈ s.corrupt))) := fun x => done23 (lentS s) (lentS_ok hs) x rd
 obtain ⟨p, n, t, cpm, cA, ccap, corrupt, dpm, dA, dcap, devs, tpm, tA, tcap, tapes⟩ := s
 obtain ⟨hs1, hs2, hs3, hs4⟩ := hs
 simp only at *
 refine ⟨N1 + corrupt.length + 4 + devs.length + 14 + 1, fun pm A cap ms hlen hn13 hw => ?_⟩
 refine AnsP.of (fn := Tryd.f86) (t := 6) (by rfl) Tryd.func86 rfl rfl (by rfl) fun k hk nx => ?_
 have hn1 : ms.length * 24 ≤ 140737488355328 := by omega
 have hn2 : ms.length ≤ 140737488355328 := by omega
 have hn1i : (ms.length : Int) * 24 ≤ 140737488355328 := by omega
 have hn2i : (ms.length : Int) ≤ 140737488355328 := by omega
 have hne : ¬ (ms = [] ∧ 0 < ms.length) := by rintro ⟨rfl, h⟩; simp at h
 have hrl : ∀ i (h : i < ms.length), ms[i].l.length = ms.length := fun i h => by
  have := (hw.2 (ms[i].l.map (·.l)) (List.mem_map.2 ⟨ms[i], List.getElem_mem h, rfl⟩)).1
  simpa using this
 have c0 := fun x => h0 x k (by omega)
 simp only [scV, scL, lentS, devV, List.length_map] at c0
 let K0 : St → Prop := fun D => D.s 1 = .int .i64 rd ∧ D.s 2 = .im pm A cap ms.length (msV ms) ∧ D.s 3 = .bptr nx 0 ∧ D.m = [(nx, ⟨0, scL ⟨p, n, t, cpm, cA, ccap, corrupt, dpm, dA, dcap, devs, tpm, tA, tcap, tapes⟩⟩)] ∧ D.nx = nx + 1
 refine EvP.seqG K0 (EvP.region ?_) ?_
 ·simp [entryS, scV, scL, K0]
 rintro D ⟨d1, d2, d3, dm, dx⟩
 refine EvP.seqG (fun D => K0 D ∧ ∃ CS, D.s 7 = .own .nil 0 ms.length CS ∧ CS.length = ms.length) (EvP.region ?_) ?_
 ·simp [d1, d2, d3, dm, dx, hn1i, hn2i, hne, K0]
  have : ∀ n : Nat, (rep n [V.own .nil 0 0 []]).length = n := fun n => by
   induction n with
   | zero => rfl
   | succ n ih => simp [rep, ih, Nat.add_comm]
  exact this _
 rintro D ⟨⟨d1, d2, d3, dm, dx⟩, CS, d7, hCS⟩
 refine EvP.seqG (fun D => K0 D ∧ ∃ CS, D.s 7 = .own .nil 0 ms.length CS ∧ Rows2 CS (mls ms)) (EvP.seq (EvP.region ?_)) ?_
 ·simp [d2]
  refine EvP.block (EvP.loop (fun q D => ∃ (i : Nat) (CS : List V), q = ms.length - i ∧ i ≤ ms.length ∧ D.s 7 = .own .nil 0 ms.length CS ∧ CS.length = ms.length ∧ (∀ j (h : j < ms.length), j < i → CS[j]? = some (.own .nil 0 ms.length (rsV (ms[j].l.map lent)))) ∧ D.s 17 = .im pm A cap ms.length (msV ms) ∧ D.s 18 = .int .i64 (ms.length : Int) ∧ D.s 19 = .int .i64 (i : Int) ∧ K0 D) (n := ms.length) ⟨0, CS, by simp [d1, d2, d3, dm, dx, d7, hCS, K0]⟩ (by omega) ?_)
  rintro q D ⟨i, CS, hn, hi, d7, hCS, hpre, d17, d18, d19, d1, d2, d3, dm, dx⟩
  simp only [liveOf14, clear_none]
  refine EvP.seq (EvP.region ?_)
  simp [d18, d19]
  refine EvP.seq (EvP.cond (t := decide (i < ms.length)) (by simp) (fun h => EvP.skip ?_) (fun h => EvP.exit ?_))
  ·have hlt : i < ms.length := by simpa using h
   have hli := hrl i hlt
   simp only [thenE_norm]
   refine EvP.seq (EvP.block (EvP.seq (EvP.region ?_)))
   simp [d17, d19, hlt]
   refine EvP.region ?_
   simp [d7, d17, d19, hlt, cloneX, hli, hn1, hn2, hCS, dm, dx]
   refine EvP.region ?_
   simp [d19, d7, d17, d18, d1, d2, d3, dm, dx, K0, hli]
   refine ⟨_, by omega, i + 1, rfl, by omega, by simp [hCS], fun j h hj => ?_, wrap_succ (by omega)⟩
   by_cases hji : j = i
   ·subst hji; simp [hCS, hlt]
   ·rw [List.getElem?_set_ne (by omega)]
    exact hpre j h (by omega)
  ·have hlt : i = ms.length := by have : ¬ i < ms.length := by simpa using h
                                  omega
   simp [d1, d2, d3, dm, dx, K0, d7]
   refine ⟨by simp [mls, hCS], fun j v l h1 h2 => ?_⟩
   have hj : j < ms.length := by
    have := (List.getElem?_eq_some_iff.1 h1).1
    omega
   rw [hpre j hj (by omega)] at h1
   unfold mls at h2
   rw [List.getElem?_map, List.getElem?_eq_getElem hj] at h2
   cases h1; cases h2
   refine ⟨rsV (ms[j].l.map lent), by simp [hrl j hj], ?_⟩
   show Rows _ (ms[j].l.map (·.l))
   rw [← lent_map]
   exact rows_rsV _
 rintro D ⟨⟨d1, d2, d3, dm, dx⟩, CS, d7, hR0⟩
 generalize hout : mls ms = out at *
 have houtl : out.length = ms.length := by rw [← hout]; simp [mls]
 unfold scL at dm
 simp only at dm
 refine EvP.seqG (fun D => ∃ CS, D.s 7 = .own .nil 0 ms.length CS ∧ Rows2 CS (msgS p corrupt rd ms.length out devs) ∧ ∀ b ∈ D.m, nx ≤ b.1) (EvP.seq (EvP.region ?_)) ?_
 ·simp [d3, dm]
  refine EvP.block (EvP.loop (fun q D => ∃ (i : Nat) (CS : List V), q = devs.length - i ∧ i ≤ devs.length ∧ Rows2 CS ((devs.take i).foldl (stepM p corrupt rd ms.length out) out) ∧ D.s 1 = .int .i64 rd ∧ D.s 2 = .im pm A cap ms.length (msV ms) ∧ D.s 3 = .bptr nx 0 ∧ D.s 7 = .own .nil 0 ms.length CS ∧ D.s 31 = .im dpm dA dcap devs.length (devsV devs) ∧ D.s 32 = .int .i64 (devs.length : Int) ∧ D.s 33 = .int .i64 (i : Int)
   ∧ getBox D.m nx = some ⟨0, scL ⟨p, n, t, cpm, cA, ccap, corrupt, dpm, dA, dcap, devs, tpm, tA, tcap, tapes⟩⟩ ∧ (∀ b ∈ D.m, b.1 < D.nx) ∧ (∀ b ∈ D.m, nx ≤ b.1) ∧ nx < D.nx) (n := devs.length) ⟨0, CS, by simp [d1, d2, d3, dm, dx, d7, hR0, scL, getBox]⟩ (by omega) ?_)
  rintro q D ⟨i, CS, hn, hi, hR, d1, d2, d3, d7, d31, d32, d33, g0, g1, g2, g3⟩
  simp only [liveOf14, clear_none]
  refine EvP.seq (EvP.region ?_)
  simp [d32, d33]
  refine EvP.seq (EvP.cond (t := decide (i < devs.length)) (by simp) (fun h => EvP.skip ?_) (fun h => EvP.exit ?_))
  ·have hlt : i < devs.length := by simpa using h
   simp only [thenE_norm]
   have h8 : i * 8 + 8 ≤ devs.length * 8 := by omega
   have h88 : 8 ≤ devs.length * 8 - i * 8 := by omega
   have e1 : ∀ c, getBox (D.m ++ [(D.nx, c)]) D.nx = some c := fun c => getBox_app_new g1
   have e2' : ∀ c, getBox (D.m ++ [(D.nx, c)]) nx = some ⟨0, scL ⟨p, n, t, cpm, cA, ccap, corrupt, dpm, dA, dcap, devs, tpm, tA, tcap, tapes⟩⟩ := fun c => getBox_app_old g0
   have e3 : ∀ c c', setBox (D.m ++ [(D.nx, c)]) D.nx c' = D.m ++ [(D.nx, c')] := fun c c' => setBox_app_new g1
   have b1 : ∀ (c : Box) (a : Nat) (b : Box), (a, b) ∈ D.m ∨ a = D.nx ∧ b = c → a < D.nx + 1 := by
    rintro c a b (h | ⟨rfl, _⟩)
    ·have := g1 _ h; simp at this; omega
    ·omega
   have b2 : ∀ (c : Box) (a : Nat) (b : Box), (a, b) ∈ D.m ∨ a = D.nx ∧ b = c → nx ≤ a := by
    rintro c a b (h | ⟨rfl, _⟩)
    ·exact g2 _ h
    ·omega
   have e2 := e2'
   unfold scL at e2
   simp only at e2
   have hx := hd devs[i] (List.getElem_mem hlt)
   have hlsok := foldM_ok (c := corrupt) (rd := rd) (out := out) (devs := devs.take i) hp0 hw
   have hstep : (devs.take (i + 1)).foldl (stepM p corrupt rd ms.length out) out = stepM p corrupt rd ms.length out ((devs.take i).foldl (stepM p corrupt rd ms.length out) out) devs[i] := foldl_take_succ _ _ hlt
   generalize hls : (devs.take i).foldl (stepM p corrupt rd ms.length out) out = ls at *
   obtain ⟨DM, hDM⟩ : ∃ DM, DM = D.m ++ [(D.nx, ⟨0, devL devs[i]⟩)] := ⟨_, rfl⟩
   have g4 : getBox DM D.nx = some ⟨0, devL devs[i]⟩ := by rw [hDM]; exact e1 _
   have g5 : getBox DM nx = some ⟨0, scL ⟨p, n, t, cpm, cA, ccap, corrupt, dpm, dA, dcap, devs, tpm, tA, tcap, tapes⟩⟩ := by rw [hDM]; exact e2' _
   have b1' : ∀ b ∈ DM, b.1 < D.nx + 1 := fun b hb => by
    rw [hDM] at hb
    obtain ⟨a, b⟩ := b
    exact b1 _ a b (by simpa using hb)
   have b2' : ∀ b ∈ DM, nx ≤ b.1 := fun b hb => by
    rw [hDM] at hb
    obtain ⟨a, b⟩ := b
    exact b2 _ a b (by simpa using hb)
   have g6 := g5
   unfold devL at g4
   unfold scL at g6
   simp only at g6
   let NB : Nat := D.nx
   let K1 : St → Prop := fun D' => D'.s 1 = .int .i64 rd ∧ D'.s 2 = .im pm A cap ms.length (msV ms) ∧ D'.s 3 = .bptr nx 0 ∧ D'.s 31 = .im dpm dA dcap devs.length (devsV devs) ∧ D'.s 32 = .int .i64 (devs.length : Int) ∧ D'.s 33 = .int .i64 (i : Int) ∧ D'.m = DM ∧ D'.nx = D.nx + 1
   refine EvP.seqG (fun D' => K1 D' ∧ ∃ CS, D'.s 7 = .own .nil 0 ms.length CS ∧ Rows2 CS ((devs.take (i + 1)).foldl (stepM p corrupt rd ms.length out) out)) (EvP.block ?_) ?_
   ·refine EvP.seqG (fun D' => K1 D' ∧ D'.s 7 = .own .nil 0 ms.length CS ∧ D'.s 11 = .bptr D.nx 0) (EvP.region ?_) ?_
    ·simp [d1, d2, d3, d7, d31, d32, d33, hlt, h8, h88, devL, e1, e2, e3, K1, hDM]
    rintro D1 ⟨⟨d1, d2, d3, d31, d32, d33, dm, dx⟩, d7, d11⟩
    have c0i := c0 devs[i]
    refine EvP.seq (EvP.seq (EvP.region ?_))
    by_cases hno : ¬ (devs[i].round = rd ∧ devs[i].from_ ∈ corrupt)
    ·simp only [hno, decide_false] at c0i
     simp [d1, d3, d11, dm, dx, g4, g6, c0i]
     refine EvP.cond (t := true) (by simp) (fun _ => EvP.exit ?_) (fun h => by cases h)
     simp [d1, d2, d3, d31, d32, d33, dm, dx, d7, K1]
     rw [hstep, stepM, if_neg hno]; exact hR
    ·have hyes : (devs[i].round = rd ∧ devs[i].from_ ∈ corrupt) := by
      by_cases h : devs[i].round = rd ∧ devs[i].from_ ∈ corrupt
      ·exact h
      ·exact absurd h hno
     rw [decide_eq_true hyes] at c0i
     obtain ⟨fr, hfr0⟩ : ∃ fr : Nat, devs[i].from_ = (fr : Int) + 1 := ⟨(devs[i].from_ - 1).toNat, by have := hx.from1; omega⟩
     have hfr : IntKind.i64.wrap (devs[i].from_ - 1) = (fr : Int) := by rw [hfr0, wrap_nat (by omega) (by have := hx.from2; omega)]; omega
     have hfrl : fr < ms.length := by have := hx.from2; omega
     have hfrs : fr < ls.length := by rw [hlsok.1]; exact hfrl
     have hrow := hlsok.2 ls[fr] (List.getElem_mem hfrs)
     simp [d1, d3, d11, dm, dx, g4, g6, c0i]
     refine EvP.cond (t := false) (by simp) (fun h => by cases h) (fun _ => EvP.skip ?_)
     simp only [thenE_norm]
     let K2 : St → Prop := fun D' => K1 D' ∧ D'.s 11 = .bptr D.nx 0
     refine EvP.seqG (fun D' => K2 D' ∧ D'.s 7 = .own .nil 0 ms.length CS ∧ D'.s 12 = .own .nil 0 0 []) (EvP.region ?_) ?_
     ·simp [d1, d2, d3, d31, d32, d33, dm, dx, d7, d11, K1, K2]
     rintro D1 ⟨⟨⟨d1, d2, d3, d31, d32, d33, dm, dx⟩, d11⟩, d7, d12⟩
     refine EvP.seqG (fun D' => K2 D' ∧ D'.s 7 = .own .nil 0 ms.length CS ∧ IsRow (D'.s 12) (saidS out devs[i])) (EvP.seq (EvP.region ?_)) ?_
     ·simp [d11, dm, g4]
      by_cases k3 : devs[i].kind = 3
      ·refine EvP.cond (t := true) (by simp [k3]) (fun _ => ?_) (fun h => by cases h)
       obtain ⟨og, hog0⟩ : ∃ og : Nat, devs[i].of_ = (og : Int) + 1 := ⟨(devs[i].of_ - 1).toNat, by have := hx.echo k3; omega⟩
       have hog : IntKind.i64.wrap (devs[i].of_ - 1) = (og : Int) := by rw [hog0, wrap_nat (by omega) (by have := hx.of2; omega)]; omega
       have hogl : og < ms.length := by have := hx.of2; omega
       have hol := hrl og hogl
       refine EvP.draw ?_
       simp [d1, d2, d3, d31, d32, d33, dm, dx, d7, d11, g4, hog, hogl, hfr, hol, hfrl, K1, K2]
       have : saidS out devs[i] = (ms[og].l[fr]'(by omega)).l := by
        have ho : out[og]? = some (ms[og].l.map (·.l)) := by rw [← hout]; simp [mls, hogl]
        rw [saidS, if_pos k3, show (devs[i].of_ - 1).toNat = og by omega, show (devs[i].from_ - 1).toNat = fr by omega, ho]
        simp [hol, hfrl]
       rw [this]
       exact IsRow.im _ _ _ _
      ·refine EvP.cond (t := false) (by simp [k3]) (fun h => by cases h) (fun _ => EvP.skip ?_)
       simp [d1, d2, d3, d31, d32, d33, dm, dx, d7, d11, d12, K1, K2]
       have : saidS out devs[i] = [] := by rw [saidS, if_neg k3]
       rw [this]
       exact IsRow.own 0 []
     rintro D1 ⟨⟨⟨d1, d2, d3, d31, d32, d33, dm, dx⟩, d11⟩, d7, h12⟩
     have hsaidlt := said_lt hp0 hw devs[i]
     generalize hsaid : saidS out devs[i] = said at *
     have hRowJ : ∀ j, ∃ l, l = (List.range j).foldl (stepJ p corrupt devs[i] said) ls[fr] ∧ LsOk p l ∧ l.length = ms.length := fun j => by
      obtain ⟨q1, q2⟩ := foldJ_ok (js := List.range j) (c := corrupt) (x := devs[i]) (said := said) hp0 hrow.2
      exact ⟨_, rfl, q1, by rw [q2]; exact hrow.1⟩
     have hCf := hR.2 fr
     have hCSl : CS.length = ms.length := by rw [hR.1, hlsok.1]
     obtain ⟨rc0, hrc0, hrr0⟩ := hCf _ _ (List.getElem?_eq_getElem (by omega)) (List.getElem?_eq_getElem hfrs)
     rw [hrow.1] at hrc0
     refine EvP.seq (EvP.region ?_)
     simp [d7, d11, dm, g4, hfr, hfrl, hCSl, hrc0]
     refine EvP.block (EvP.loop (fun q D' => ∃ (j : Nat) (CS : List V), q = ms.length - j ∧ j ≤ ms.length ∧ Rows2 CS (ls.set fr ((List.range j).foldl (stepJ p corrupt devs[i] said) ls[fr])) ∧ D'.s 7 = .own .nil 0 ms.length CS ∧ IsRow (D'.s 12) said ∧ D'.s 62 = .int .i64 (ms.length : Int) ∧ D'.s 63 = .int .i64 (j : Int) ∧ K2 D') (n := ms.length) ⟨0, CS, by simp [d1, d2, d3, d31, d32, d33, dm, dx, d7, d11, h12, K1, K2, hR]⟩ (by omega) ?_)
     rintro q D2 ⟨j, CS2, hn', hj, hR2, d7, h12, d62, d63, ⟨d1, d2, d3, d31, d32, d33, dm, dx⟩, d11⟩
     simp only [liveOf14, clear_none]
     refine EvP.seq (EvP.region ?_)
     simp [d62, d63]
     refine EvP.seq (EvP.cond (t := decide (j < ms.length)) (by simp) (fun h => EvP.skip ?_) (fun h => EvP.exit ?_))
     ·have hjl : j < ms.length := by simpa using h
      simp only [thenE_norm]
      obtain ⟨row, hrowj, hrowok, hrowl⟩ := hRowJ j
      rw [← hrowj] at hR2
      have hnext : (List.range (j + 1)).foldl (stepJ p corrupt devs[i] said) ls[fr] = stepJ p corrupt devs[i] said row j := by rw [foldl_range_succ, ← hrowj]
      have hw1 : IntKind.i64.wrap ((j : Int) + 1) = (j : Int) + 1 := by rw [wrap_succ (by omega)]; omega
      let K3 : St → Prop := fun D' => K2 D' ∧ D'.s 62 = .int .i64 (ms.length : Int) ∧ D'.s 63 = .int .i64 (j : Int)
      refine EvP.seqG (fun D' => K3 D' ∧ ∃ CS, D'.s 7 = .own .nil 0 ms.length CS ∧ Rows2 CS (ls.set fr (stepJ p corrupt devs[i] said row j)) ∧ IsRow (D'.s 12) said) (EvP.block ?_) ?_
      ·refine EvP.seqG (fun D' => K3 D' ∧ D'.s 13 = .int .i64 (j : Int) ∧ D'.s 7 = .own .nil 0 ms.length CS2 ∧ IsRow (D'.s 12) said) (EvP.region ?_) ?_
       ·simp [d1, d2, d3, d31, d32, d33, dm, dx, d7, d11, d62, d63, K1, K2, K3, h12]
       rintro D2 ⟨⟨⟨⟨d1, d2, d3, d31, d32, d33, dm, dx⟩, d11⟩, d62, d63⟩, d13, d7, h12⟩
       refine EvP.seqG (fun D' => K3 D' ∧ D'.s 82 = .bool (decide ((j : Int) + 1 ≠ devs[i].from_ ∧ (devs[i].to = 0 ∨ devs[i].to = (j : Int) + 1))) ∧ D'.s 13 = .int .i64 (j : Int) ∧ D'.s 7 = .own .nil 0 ms.length CS2 ∧ IsRow (D'.s 12) said) (EvP.region ?_) ?_
       ·by_cases j1 : (j : Int) + 1 = devs[i].from_
        ·have j1' : ((j : Int) + 1 != devs[i].from_) = false := by simp [bne, j1]
         simp [d1, d2, d3, d31, d32, d33, dm, dx, d7, d11, d62, d63, K1, K2, K3, h12, d13, g4, hw1, j1']
         simp [j1]
        ·have j1' : ((j : Int) + 1 != devs[i].from_) = true := by simp [bne, j1]
         by_cases j2 : devs[i].to = 0
         ·have j2' : (devs[i].to == 0) = true := by simp [j2]
          simp [d1, d2, d3, d31, d32, d33, dm, dx, d7, d11, d62, d63, K1, K2, K3, h12, d13, g4, hw1, j1', j2']
          simp [j1, j2]
         ·have j2' : (devs[i].to == 0) = false := by simp [j2]
          simp [d1, d2, d3, d31, d32, d33, dm, dx, d7, d11, d62, d63, K1, K2, K3, h12, d13, g4, hw1, j1', j2']
          simp [j1, j2]
          rfl
       rintro D2 ⟨⟨⟨⟨d1, d2, d3, d31, d32, d33, dm, dx⟩, d11⟩, d62, d63⟩, d82, d13, d7, h12⟩
       refine EvP.cond (t := decide ((j : Int) + 1 ≠ devs[i].from_ ∧ (devs[i].to = 0 ∨ devs[i].to = (j : Int) + 1))) (by simp [d82]) (fun hgo => ?_) (fun hgo => EvP.skip ?_)
       ·have hgo : (j : Int) + 1 ≠ devs[i].from_ ∧ (devs[i].to = 0 ∨ devs[i].to = (j : Int) + 1) := by simpa using hgo
        have hC2l : CS2.length = ms.length := by rw [hR2.1, List.length_set, hlsok.1]
        obtain ⟨rc, hrc, hrr⟩ := hR2.2 fr _ _ (List.getElem?_eq_getElem (by omega)) (by rw [List.getElem?_set_self (by omega)])
        rw [hrowl] at hrc
        have hrcl : rc.length = ms.length := by rw [hrr.1, hrowl]
        have hjrow : j < row.length := by omega
        have hvrow := hrr.2 j _ _ (List.getElem?_eq_getElem (by omega)) (List.getElem?_eq_getElem hjrow)
        have hok := hrowok row[j] (List.getElem_mem hjrow)
        have fin : ∀ v, IsRow v (uponS p corrupt devs[i] row[j] said) → Rows2 (CS2.set fr (.own .nil 0 ms.length (rc.set j v))) (ls.set fr (stepJ p corrupt devs[i] said row j)) := by
         intro v hv
         rw [stepJ, if_pos hgo, List.getElem?_eq_getElem hjrow, Option.getD_some]
         have := hR2.set fr (hrr.set j hv)
         rw [List.set_set] at this
         rw [show ms.length = (row.set j (uponS p corrupt devs[i] row[j] said)).length by simp [hrowl]]
         exact this
        generalize hl : row[j] = l at *
        generalize hv0 : rc[j] = v0 at *
        generalize hw12 : D2.s 12 = w12 at *
        refine EvP.draw ?_
        cases h12 with
        | im pmS AS capS =>
          cases hvrow with
          | im pm' A' cap' =>
            obtain ⟨v, hv, hvr⟩ := h1 devs[i] false false A' AS cap' capS l said hx.at_ (hk64 _ (List.getElem_mem hlt)) hok.1 hok.2 hsaidlt
            have hv := hv k (by omega)
            simp only [scV, scL, lentS, devV, List.length_map] at hv
            have hR' := fin v hvr
            cases hvr with
            | im pm2 A2 cap2 =>
              simp [d1, d2, d3, d31, d32, d33, dm, dx, d7, d11, d62, d63, d13, hw12, g4, g6, hfr, hfrl, hC2l, hrc, hrcl, hjl, hv0, hv, K1, K2, K3]
              exact ⟨hR', by first | exact IsRow.im _ _ _ _ | exact IsRow.own _ _⟩
            | own k2 =>
              simp [d1, d2, d3, d31, d32, d33, dm, dx, d7, d11, d62, d63, d13, hw12, g4, g6, hfr, hfrl, hC2l, hrc, hrcl, hjl, hv0, hv, K1, K2, K3]
              exact ⟨hR', by first | exact IsRow.im _ _ _ _ | exact IsRow.own _ _⟩
          | own k' =>
            obtain ⟨v, hv, hvr⟩ := h1 devs[i] false false none AS 0 capS l said hx.at_ (hk64 _ (List.getElem_mem hlt)) hok.1 hok.2 hsaidlt
            have hv := hv k (by omega)
            simp only [scV, scL, lentS, devV, List.length_map] at hv
            have hR' := fin v hvr
            cases hvr with
            | im pm2 A2 cap2 =>
              simp [d1, d2, d3, d31, d32, d33, dm, dx, d7, d11, d62, d63, d13, hw12, g4, g6, hfr, hfrl, hC2l, hrc, hrcl, hjl, hv0, hv, K1, K2, K3]
              exact ⟨hR', by first | exact IsRow.im _ _ _ _ | exact IsRow.own _ _⟩
            | own k2 =>
              simp [d1, d2, d3, d31, d32, d33, dm, dx, d7, d11, d62, d63, d13, hw12, g4, g6, hfr, hfrl, hC2l, hrc, hrcl, hjl, hv0, hv, K1, K2, K3]
              exact ⟨hR', by first | exact IsRow.im _ _ _ _ | exact IsRow.own _ _⟩
        | own kS =>
          cases hvrow with
          | im pm' A' cap' =>
            obtain ⟨v, hv, hvr⟩ := h1 devs[i] false false A' none cap' 0 l said hx.at_ (hk64 _ (List.getElem_mem hlt)) hok.1 hok.2 hsaidlt
            have hv := hv k (by omega)
            simp only [scV, scL, lentS, devV, List.length_map] at hv
            have hR' := fin v hvr
            cases hvr with
            | im pm2 A2 cap2 =>
              simp [d1, d2, d3, d31, d32, d33, dm, dx, d7, d11, d62, d63, d13, hw12, g4, g6, hfr, hfrl, hC2l, hrc, hrcl, hjl, hv0, hv, K1, K2, K3]
              exact ⟨hR', by first | exact IsRow.im _ _ _ _ | exact IsRow.own _ _⟩
            | own k2 =>
              simp [d1, d2, d3, d31, d32, d33, dm, dx, d7, d11, d62, d63, d13, hw12, g4, g6, hfr, hfrl, hC2l, hrc, hrcl, hjl, hv0, hv, K1, K2, K3]
              exact ⟨hR', by first | exact IsRow.im _ _ _ _ | exact IsRow.own _ _⟩
          | own k' =>
            obtain ⟨v, hv, hvr⟩ := h1 devs[i] false false none none 0 0 l said hx.at_ (hk64 _ (List.getElem_mem hlt)) hok.1 hok.2 hsaidlt
            have hv := hv k (by omega)
            simp only [scV, scL, lentS, devV, List.length_map] at hv
            have hR' := fin v hvr
            cases hvr with
            | im pm2 A2 cap2 =>
              simp [d1, d2, d3, d31, d32, d33, dm, dx, d7, d11, d62, d63, d13, hw12, g4, g6, hfr, hfrl, hC2l, hrc, hrcl, hjl, hv0, hv, K1, K2, K3]
              exact ⟨hR', by first | exact IsRow.im _ _ _ _ | exact IsRow.own _ _⟩
            | own k2 =>
              simp [d1, d2, d3, d31, d32, d33, dm, dx, d7, d11, d62, d63, d13, hw12, g4, g6, hfr, hfrl, hC2l, hrc, hrcl, hjl, hv0, hv, K1, K2, K3]
              exact ⟨hR', by first | exact IsRow.im _ _ _ _ | exact IsRow.own _ _⟩
       ·have hgo : ¬ ((j : Int) + 1 ≠ devs[i].from_ ∧ (devs[i].to = 0 ∨ devs[i].to = (j : Int) + 1)) := by simpa using hgo
        simp only [blockE_norm]
        exact ⟨⟨⟨⟨d1, d2, d3, d31, d32, d33, dm, dx⟩, d11⟩, d62, d63⟩, CS2, d7, by rw [stepJ, if_neg hgo]; exact hR2, h12⟩
      rintro D2 ⟨⟨⟨⟨d1, d2, d3, d31, d32, d33, dm, dx⟩, d11⟩, d62, d63⟩, CS3, d7, hR3, h12⟩
      have hR3' : Rows2 CS3 (ls.set fr ((List.range (j + 1)).foldl (stepJ p corrupt devs[i] said) ls[fr])) := by rw [hnext]; exact hR3
      refine EvP.region ?_
      simp [d1, d2, d3, d31, d32, d33, dm, dx, d7, d11, d62, d63, h12, K1, K2]
      exact ⟨_, by omega, j + 1, rfl, by omega, CS3, hR3', rfl, wrap_succ (by omega)⟩
     ·have hjl : j = ms.length := by have : ¬ j < ms.length := by simpa using h
                                     omega
      subst hjl
      simp [d1, d2, d3, d31, d32, d33, dm, dx, d7, K1]
      rw [hstep, stepM, if_pos hyes, show (devs[i].from_ - 1).toNat = fr by omega, hsaid, List.getElem?_eq_getElem hfrs, Option.getD_some]
      exact hR2
   rintro D1 ⟨⟨d1, d2, d3, d31, d32, d33, dm, dx⟩, CS3, d7, hR3⟩
   refine EvP.region ?_
   simp [d1, d2, d3, d31, d32, d33, dm, dx, d7]
   exact ⟨_, by omega, i + 1, rfl, by omega, CS3, hR3, rfl, wrap_succ (by omega), g5, fun a b h => b1' _ h, fun a b h => b2' _ h, by omega⟩
  ·have hlt : i = devs.length := by have : ¬ i < devs.length := by simpa using h
                                    omega
   subst hlt
   rw [List.take_length] at hR
   simp [d7]
   exact ⟨hR, fun a b h => g2 _ h⟩
 rintro D ⟨CS, d7, hR, hb⟩
 refine EvP.seq (EvP.region ?_)
 simp [d7]
 refine EvP.ret ?_
 simp [plainV, hR.ptrs]
 exact ⟨hR, fun a b h => hb _ h⟩
end Go.Abs
end
