/- Joined: AbsPNSR AbsPNSS. -/
import Derived.Test.YtbkhamjlfadfoaaDoorAbs311
set_option linter.all false
set_option maxHeartbeats 16000000
noncomputable section
namespace Go.Abs
open Go Go.Proofs
attribute [local simp] intOp shOp
set_option maxRecDepth 100000
theorem tmod_nat (a b : Nat) : (a : Int).tmod (b : Int) = ((a % b : Nat) : Int) := rfl
theorem tdiv_nat (a b : Nat) : (a : Int).tdiv (b : Int) = ((a / b : Nat) : Int) := rfl
theorem add38 (p x y : Nat) (hp : 0 < p) (h : x + y < 18446744073709551616) : AnsN 1 Tryd.prog H14 103 [.int .u64 (p : Int), .int .u64 (x : Int), .int .u64 (y : Int)] (.int .u64 (((x + y) % p : Nat) : Int)) := by
 refine AnsN.of (N := 0) (fn := Tryd.f103) (t := 6) (by rfl) Tryd.func103 rfl rfl (by rfl) (by rfl) fun k hk nx => ?_
 obtain ⟨z, hz⟩ : ∃ z, z = x + y := ⟨_, rfl⟩
 obtain ⟨r, hr⟩ : ∃ r, r = z % p := ⟨_, rfl⟩
 rw [← hz, ← hr]
 have hw : IntKind.u64.wrap ((x : Int) + (y : Int)) = (z : Int) := by rw [wrapu (by omega) (by omega)]; omega
 have hm : (z : Int).tmod (p : Int) = (r : Int) := by rw [tmod_nat, hr]
 have hp0 : ¬ p = 0 := by omega
 refine EvP.seq (EvP.region ?_)
 simp [entryS]
 refine EvP.seq (EvP.region ?_)
 simp [hw, hm, hp0]
 refine EvP.ret ?_
 simp
theorem mul39 (p x y : Nat) (hp : 0 < p) (hp2 : p < 9223372036854775808) (hx : x < p) (hy : y < 18446744073709551616) : AnsN (18446744073709551616 + 1 + 1) Tryd.prog H14 104 [.int .u64 (p : Int), .int .u64 (x : Int), .int .u64 (y : Int)] (.int .u64 ((x * y % p : Nat) : Int)) := by
 refine AnsN.of (fn := Tryd.f104) (t := 6) (by rfl) Tryd.func104 rfl rfl (by rfl) (by rfl) fun k hk nx => ?_
 have hp0 : ¬ p = 0 := by omega
 obtain ⟨z, hz⟩ : ∃ z, z = x * y % p := ⟨_, rfl⟩
 rw [← hz]
 refine EvP.seq (EvP.region ?_)
 simp [entryS]
 refine EvP.seq (EvP.region ?_)
 simp
 refine EvP.seq (EvP.block (EvP.loop (fun b D => ∃ o a : Nat, o < p ∧ a < p ∧ b ≤ y ∧ (o + a * b) % p = z ∧ D.s 0 = .int .u64 (p : Int) ∧ D.s 1 = .int .u64 (a : Int) ∧ D.s 2 = .int .u64 (b : Int) ∧ D.s 7 = .int .u64 (o : Int) ∧ D.m = []) (n := y) ⟨0, x, by simp [hp, hx, hz]⟩ (by omega) ?_))
 rintro b D ⟨o, a, ho, ha, hb, hI, d0, d1, d2, d7, dm⟩
 simp only [liveOf14, clear_none]
 refine EvP.seq (EvP.seq (EvP.region ?_))
 simp [d2]
 refine EvP.cond (t := decide (0 < b)) (by simp) (fun h => EvP.skip ?_) (fun h => EvP.exit ?_)
 ·have hb0 : 0 < b := by simpa using h
  simp only [thenE_norm]
  obtain ⟨bm, hbm⟩ : ∃ bm, bm = b % 2 := ⟨_, rfl⟩
  obtain ⟨bh, hbh⟩ : ∃ bh, bh = b / 2 := ⟨_, rfl⟩
  obtain ⟨oa, hoa⟩ : ∃ oa, oa = o + a := ⟨_, rfl⟩
  obtain ⟨om, hom⟩ : ∃ om, om = oa % p := ⟨_, rfl⟩
  obtain ⟨a2, ha2⟩ : ∃ a2, a2 = a + a := ⟨_, rfl⟩
  obtain ⟨am, ham⟩ : ∃ am, am = a2 % p := ⟨_, rfl⟩
  have f1 : (b : Int).tmod 2 = (bm : Int) := by rw [show (2 : Int) = ((2 : Nat) : Int) by rfl, tmod_nat, hbm]
  have f2 : IntKind.u64.wrap ((o : Int) + (a : Int)) = (oa : Int) := by rw [wrapu (by omega) (by omega)]; omega
  have f3 : (oa : Int).tmod (p : Int) = (om : Int) := by rw [tmod_nat, hom]
  have f4 : IntKind.u64.wrap ((a : Int) + (a : Int)) = (a2 : Int) := by rw [wrapu (by omega) (by omega)]; omega
  have f5 : (a2 : Int).tmod (p : Int) = (am : Int) := by rw [tmod_nat, ham]
  have f6 : (b : Int).tdiv 2 = (bh : Int) := by rw [show (2 : Int) = ((2 : Nat) : Int) by rfl, tdiv_nat, hbh]
  have f7 : IntKind.u64.wrap (bh : Int) = (bh : Int) := by rw [wrapu (by omega) (by omega)]
  have hamp : am < p := by rw [ham]; exact Nat.mod_lt _ hp
  have homp : om < p := by rw [hom]; exact Nat.mod_lt _ hp
  refine EvP.block (EvP.seq (EvP.seq (EvP.region ?_)))
  by_cases hodd : bm = 1
  ·have hI' : (om + am * bh) % p = z := by
    rw [← hI, hom, ham, Nat.add_mod, Nat.mod_mod, Nat.mul_mod, Nat.mod_mod, ← Nat.mul_mod, ← Nat.add_mod, ha2, hoa]
    congr 1
    rw [show b = 1 + 2 * bh by omega, Nat.mul_add, Nat.mul_one, ← Nat.mul_assoc, Nat.mul_two, Nat.add_assoc]
   simp [d2, f1, hodd]
   refine EvP.cond (t := true) (by simp) (fun _ => ?_) (fun h => by cases h)
   refine EvP.region ?_
   simp [d0, d1, d7, hp0, f2, f3]
   refine EvP.seq (EvP.region ?_)
   simp [d0, d1, hp0, f4, f5]
   refine EvP.region ?_
   simp [d2, f6, f7, d0, dm]
   exact ⟨bh, by omega, om, homp, am, hamp, by omega, hI', by simp⟩
  ·have hev : bm = 0 := by omega
   have hI' : (o + am * bh) % p = z := by
    rw [← hI, ham, Nat.add_mod, Nat.mul_mod, Nat.mod_mod, ← Nat.mul_mod, ← Nat.add_mod, ha2]
    congr 1
    rw [show b = 2 * bh by omega, ← Nat.mul_assoc, Nat.mul_two]
   simp [d2, f1, hev]
   refine EvP.cond (t := false) (by simp) (fun h => by cases h) (fun _ => EvP.skip ?_)
   simp
   refine EvP.seq (EvP.region ?_)
   simp [d0, d1, hp0, f4, f5]
   refine EvP.region ?_
   simp [d2, f6, f7, d0, d7, dm]
   exact ⟨bh, by omega, o, ho, am, hamp, by omega, hI', by simp⟩
 ·have hb0 : b = 0 := by
   have : ¬ 0 < b := by simpa using h
   omega
  subst hb0
  simp
  refine EvP.seq (EvP.region ?_)
  simp [d7]
  refine EvP.ret ?_
  simp [dm]
  rw [Nat.mul_zero, Nat.add_zero, Nat.mod_eq_of_lt ho] at hI
  rw [hI]
theorem word40N (pm : Bool) (A : Option Addr) (cap : Nat) (l : List Nat) (i : Int) : AnsN 1 Tryd.prog H14 105 [.im pm A cap l.length (uL l), .int .i64 i] (.int .u64 ((wordS l i : Nat) : Int)) := by
 refine AnsN.of (N := 0) (fn := Tryd.f105) (t := 4) (by rfl) Tryd.func105 rfl rfl (by rfl) (by rfl) fun k hk nx => ?_
 refine EvP.seq (EvP.region ?_)
 simp [entryS]
 refine EvP.seq (EvP.seq (EvP.region ?_))
 by_cases h0 : i < 0
 ·have hn : ¬ 0 ≤ i := by omega
  simp [h0]
  refine EvP.cond (t := true) (by simp) (fun _ => ?_) (fun h => by cases h)
  refine EvP.seq (EvP.region ?_)
  simp
  refine EvP.ret ?_
  simp [wordS, hn]
 ·obtain ⟨j, rfl⟩ : ∃ j : Nat, i = j := ⟨i.toNat, by omega⟩
  have hn : (0 : Int) ≤ (j : Int) := by omega
  by_cases h1 : j < l.length
  ·have h2 : ¬ l.length ≤ j := by omega
   simp [h0, h2]
   refine EvP.cond (t := false) (by simp [h2]) (fun h => by cases h) (fun _ => EvP.skip ?_)
   simp
   refine EvP.seq (EvP.region ?_)
   simp [h1]
   refine EvP.ret ?_
   simp [wordS, h1, hn]
  ·have h2 : l.length ≤ j := by omega
   simp [h0, h2]
   refine EvP.cond (t := true) (by simp [h2]) (fun _ => ?_) (fun h => by cases h)
   refine EvP.seq (EvP.region ?_)
   simp
   refine EvP.ret ?_
   simp [wordS, h1, hn]
theorem bad25 (s : Scn) (hs : ScnOk s) (v : Int) : AnsN (s.corrupt.length + 1 + 1) Tryd.prog H14 92 [scV s, .int .i64 v] (.bool (decide (v ∈ s.corrupt))) := by
 have hml : maxLen = 9223372036854775807 := rfl
 obtain ⟨p, n, t, cpm, cA, ccap, l, dpm, dA, dcap, devs, tpm, tA, tcap, tapes⟩ := s
 obtain ⟨hl, hs2, hs3, hs4⟩ := hs
 simp only at *
 refine AnsN.of (fn := Tryd.f92) (t := 4) (by rfl) Tryd.func92 rfl rfl (by rfl) (by rfl) fun k hk nx => ?_
 refine EvP.seq (EvP.region ?_)
 simp [entryS, scV, scL]
 refine EvP.seq (EvP.seq (EvP.region ?_))
 simp
 refine EvP.block (EvP.loop (fun q D => ∃ i : Nat, q = l.length - i ∧ i ≤ l.length ∧ (∀ j x, j < i → l[j]? = some x → x ≠ v) ∧ D.s 1 = .int .i64 v ∧ D.s 2 = .bptr nx 0 ∧ D.s 5 = .int .i64 (i : Int) ∧ D.m = [(nx, ⟨0, [.int .u64 (p : Int), .int .i64 n, .int .i64 t, .im cpm cA ccap l.length (iL l), .im dpm dA dcap devs.length (devsV devs), .im tpm tA tcap tapes.length (rsV tapes)]⟩)]) (n := l.length) ⟨0, by simp⟩ (by omega) ?_)
 rintro q D ⟨i, hn, hi, hpre, d1, d2, d5, dm⟩
 simp only [liveOf14, clear_none]
 refine EvP.seq (EvP.seq (EvP.region ?_))
 simp [d2, d5, dm]
 refine EvP.cond (t := decide (i < l.length)) (by simp) (fun h => EvP.skip ?_) (fun h => EvP.exit ?_)
 ·have hlt : i < l.length := by simpa using h
  simp only [thenE_norm]
  refine EvP.seq (EvP.block (EvP.seq (EvP.region ?_)))
  by_cases hv : l[i] = v
  ·simp [d1, d2, d5, dm, hlt, hv]
   refine EvP.cond (t := true) (by simp) (fun _ => ?_) (fun h => by cases h)
   refine EvP.seq (EvP.region ?_)
   simp
   refine EvP.ret ?_
   simp [dm]
   rw [← hv]; exact List.getElem_mem hlt
  ·simp [d1, d2, d5, dm, hlt, hv]
   refine EvP.cond (t := false) (by simp [hv]) (fun h => by cases h) (fun _ => EvP.skip ?_)
   simp
   refine EvP.region ?_
   simp [d1, d2, d5, dm]
   refine ⟨_, by omega, i + 1, rfl, by omega, fun j x hj hx => ?_, wrap_succ (by omega)⟩
   by_cases hji : j = i
   ·subst hji
    rw [List.getElem?_eq_getElem hlt] at hx; cases hx; exact hv
   ·exact hpre j x (by omega) hx
 ·have hlt : ¬ i < l.length := by simpa using h
  simp
  refine EvP.seq (EvP.region ?_)
  simp
  refine EvP.ret ?_
  simp [dm]
  intro hm
  obtain ⟨j, hj, he⟩ := List.getElem_of_mem hm
  exact hpre j _ (by omega) (List.getElem?_eq_getElem hj) he
theorem told26 (s : Scn) (hs : ScnOk s) {q : Nat} (hq : (s.p, q) ∈ pq7) : ∃ N, ∀ (x : Dev) (pm pm2 : Bool) (A A2 : Option Addr) (cap cap2 : Nat) (l said : List Nat), 0 ≤ x.at_ → x.k < 18446744073709551616 → l.length ≤ 1000 → (∀ y ∈ l, y < s.p) → (∀ y ∈ said, y < s.p) →
 ∃ v, AnsN N Tryd.prog H14 93 [scV s, devV x, .im pm A cap l.length (uL l), .im pm2 A2 cap2 said.length (uL said)] v ∧ IsRow v (uponS s.p s.corrupt x l said) := by
 obtain ⟨hp1, hq1, hq2⟩ := pq_facts hq
 have h5 : ∀ v, AnsN (s.corrupt.length + 1 + 1) Tryd.prog H14 92 [scV (lentS s), .int .i64 v] (.bool (decide (v ∈ s.corrupt))) := fun v => bad25 (lentS s) (lentS_ok hs) v
 obtain ⟨p, n, t, cpm, cA, ccap, corrupt, dpm, dA, dcap, devs, tpm, tA, tcap, tapes⟩ := s
 obtain ⟨hs1, hs2, hs3, hs4⟩ := hs
 simp only at *
 have hp61 : p < 2305843009213693952 := by
  have : 2 ^ q ≤ 2 ^ 61 := Nat.pow_le_pow_right (by omega) hq2
  omega
 have hp0 : 0 < p := by
  have : 2 ^ 5 ≤ 2 ^ q := Nat.pow_le_pow_right (by omega) hq1
  omega
 have hp00 : ¬ p = 0 := by omega
 simp only [scV, scL, lentS, List.length_map] at h5
 refine ⟨18446744073709551616 + corrupt.length + 5 + 1, fun x pm pm2 A A2 cap cap2 l said hat hk64 hl hlp hsp => ?_⟩
 obtain ⟨round, from_, to, at_, kind, xk, of_, src⟩ := x
 simp only at hat hk64
 obtain ⟨j, rfl⟩ : ∃ j : Nat, at_ = j := ⟨at_.toNat, by omega⟩
 have mk : ∀ v, plainV v = true → (∀ k, 18446744073709551616 + corrupt.length + 5 ≤ k → ∀ nx, EvP Tryd.prog H14 (evCall Tryd.prog H14 k) 93 k (Tryd.f93.body.getD .skip) (entryS [scV ⟨p, n, t, cpm, cA, ccap, corrupt, dpm, dA, dcap, devs, tpm, tA, tcap, tapes⟩, devV ⟨round, from_, to, j, kind, xk, of_, src⟩, .im pm A cap l.length (uL l), .im pm2 A2 cap2 said.length (uL said)] [] nx) (fun e D => (e = .norm ∨ e = .ret) ∧ D.s 8 = v ∧ ∀ b ∈ D.m, nx ≤ b.1)) → AnsN (18446744073709551616 + corrupt.length + 5 + 1) Tryd.prog H14 93 [scV ⟨p, n, t, cpm, cA, ccap, corrupt, dpm, dA, dcap, devs, tpm, tA, tcap, tapes⟩, devV ⟨round, from_, to, j, kind, xk, of_, src⟩, .im pm A cap l.length (uL l), .im pm2 A2 cap2 said.length (uL said)] v :=
  fun v hv h => AnsN.of (fn := Tryd.f93) (t := 8) (by rfl) Tryd.func93 rfl rfl (by rfl) hv h
 by_cases k4 : kind = 4
 ·refine ⟨.own .nil 0 0 [], mk _ (by rfl) fun k hk nx => ?_, by simp only [uponS, k4, if_true]; exact IsRow.own 0 []⟩
  refine EvP.seq (EvP.region ?_)
  simp [entryS, scV, scL, devV]
  refine EvP.seq (EvP.seq (EvP.region ?_))
  simp [k4]
  refine EvP.cond (t := true) (by simp) (fun _ => ?_) (fun h => by cases h)
  refine EvP.seq (EvP.region ?_)
  simp
  refine EvP.ret ?_
  simp
  rintro a b (⟨rfl, _⟩ | ⟨rfl, _⟩) <;> omega
 ·by_cases hj : l.length ≤ j
  ·refine ⟨.im pm A cap l.length (uL l), mk _ (by simp [plainV]) fun k hk nx => ?_, by simp only [uponS, k4, if_false, if_pos (show (l.length : Int) ≤ (j : Int) by omega)]; exact IsRow.im _ _ _ _⟩
   have hj00 : ¬ ((j : Int) < 0) := by omega
   refine EvP.seq (EvP.region ?_)
   simp [entryS, scV, scL, devV]
   refine EvP.seq (EvP.seq (EvP.region ?_))
   simp [k4]
   refine EvP.cond (t := false) (by simp [k4]) (fun h => by cases h) (fun _ => EvP.skip ?_)
   simp
   refine EvP.seq (EvP.seq (EvP.region ?_))
   simp [hj, hj00]
   refine EvP.cond (t := true) (by simp [hj]) (fun _ => ?_) (fun h => by cases h)
   refine EvP.seq (EvP.region ?_)
   simp
   refine EvP.ret ?_
   simp
   rintro a b (⟨rfl, _⟩ | ⟨rfl, _⟩) <;> omega
  ·have hjl : j < l.length := by omega
   have hj2 : ¬ ((l.length : Int) ≤ (j : Int)) := by omega
   have hj00 : ¬ ((j : Int) < 0) := by omega
   have hlj := hlp _ (List.getElem_mem hjl)
   have hn1 : l.length * 8 ≤ 140737488355328 := by omega
   have hn2 : l.length ≤ 140737488355328 := by omega
   obtain ⟨kk, hkk⟩ : ∃ kk, kk = xk % p := ⟨_, rfl⟩
   have hkp : kk < p := by rw [hkk]; exact Nat.mod_lt _ hp0
   have f1 : (xk : Int).tmod (p : Int) = (kk : Int) := by rw [tmod_nat, hkk]
   have hget : l[j]?.getD 0 = l[j] := by rw [List.getElem?_eq_getElem hjl]; rfl
   have pre : ∀ lst : List Nat, lst.length = l.length → plainV (.own .nil 0 l.length (uL lst)) = true := fun lst _ => by simp [plainV]
   have isr : ∀ lst : List Nat, lst.length = l.length → IsRow (.own .nil 0 l.length (uL lst)) lst := fun lst h => by rw [← h]; exact IsRow.own _ _
   by_cases k1 : kind = 1
   ·refine ⟨.own .nil 0 l.length (uL (l.set j kk)), mk _ (pre _ (by simp)) fun k hk nx => ?_, ?_⟩
    ·refine EvP.seq (EvP.region ?_)
     simp [entryS, scV, scL, devV]
     refine EvP.seq (EvP.seq (EvP.region ?_))
     simp [k4]
     refine EvP.cond (t := false) (by simp [k4]) (fun h => by cases h) (fun _ => EvP.skip ?_)
     simp
     refine EvP.seq (EvP.seq (EvP.region ?_))
     simp [hj, hj00]
     refine EvP.cond (t := false) (by simp [hj]) (fun h => by cases h) (fun _ => EvP.skip ?_)
     simp
     refine EvP.seq (EvP.region ?_)
     simp
     refine EvP.seq (EvP.region ?_)
     simp [hn1, hn2]
     refine EvP.seq (EvP.region ?_)
     simp [f1, hp00]
     refine EvP.seq (EvP.seq (EvP.region ?_))
     simp
     refine EvP.block (EvP.seq (EvP.region ?_))
     simp [k1]
     refine EvP.cond (t := true) (by simp [k1]) (fun _ => ?_) (fun h => by cases h)
     refine EvP.region ?_
     simp [k1, hjl]
     refine EvP.seq (EvP.region ?_)
     simp [uL_set]
     refine EvP.ret ?_
     simp
     rintro a b (⟨rfl, _⟩ | ⟨rfl, _⟩) <;> omega
    ·have hU : uponS p corrupt ⟨round, from_, to, j, kind, xk, of_, src⟩ l said = l.set j kk := by simp [uponS, hj, hj2, hget, k1, hkk]
     rw [hU]
     exact isr _ (by simp)
   ·by_cases k2 : kind = 2
    ·obtain ⟨r2, hr2⟩ : ∃ r2, r2 = (l[j] + kk) % p := ⟨_, rfl⟩
     have c2 := add38 p l[j] kk hp0 (by omega)
     rw [← hr2] at c2
     refine ⟨.own .nil 0 l.length (uL (l.set j r2)), mk _ (pre _ (by simp)) fun k hk nx => ?_, ?_⟩
     ·have c2 := c2 k (by omega)
      refine EvP.seq (EvP.region ?_)
      simp [entryS, scV, scL, devV]
      refine EvP.seq (EvP.seq (EvP.region ?_))
      simp [k4]
      refine EvP.cond (t := false) (by simp [k4]) (fun h => by cases h) (fun _ => EvP.skip ?_)
      simp
      refine EvP.seq (EvP.seq (EvP.region ?_))
      simp [hj, hj00]
      refine EvP.cond (t := false) (by simp [hj]) (fun h => by cases h) (fun _ => EvP.skip ?_)
      simp
      refine EvP.seq (EvP.region ?_)
      simp
      refine EvP.seq (EvP.region ?_)
      simp [hn1, hn2]
      refine EvP.seq (EvP.region ?_)
      simp [f1, hp00]
      refine EvP.seq (EvP.seq (EvP.region ?_))
      simp
      refine EvP.block (EvP.seq (EvP.region ?_))
      simp [k2]
      refine EvP.cond (t := false) (by simp [k2]) (fun h => by cases h) (fun _ => ?_)
      refine EvP.seq (EvP.region ?_)
      simp [k2]
      refine EvP.cond (t := true) (by simp [k2]) (fun _ => ?_) (fun h => by cases h)
      refine EvP.draw ?_
      simp [k2, hjl, c2]
      refine EvP.seq (EvP.region ?_)
      simp [uL_set]
      refine EvP.ret ?_
      simp
      rintro a b (⟨rfl, _⟩ | ⟨rfl, _⟩) <;> omega
     ·have hU : uponS p corrupt ⟨round, from_, to, j, kind, xk, of_, src⟩ l said = l.set j r2 := by simp [uponS, hj, hj2, hget, k2, hkk, hr2]
      rw [hU]
      exact isr _ (by simp)
    ·by_cases k3 : kind = 3
     ·by_cases hof : of_ ∈ corrupt
      ·have hlmod : l[j] % p = l[j] := Nat.mod_eq_of_lt hlj
       refine ⟨.own .nil 0 l.length (uL (l)), mk _ (pre _ (by simp)) fun k hk nx => ?_, ?_⟩
       ·have c5 := h5 of_ k (by omega)
        refine EvP.seq (EvP.region ?_)
        simp [entryS, scV, scL, devV]
        refine EvP.seq (EvP.seq (EvP.region ?_))
        simp [k4]
        refine EvP.cond (t := false) (by simp [k4]) (fun h => by cases h) (fun _ => EvP.skip ?_)
        simp
        refine EvP.seq (EvP.seq (EvP.region ?_))
        simp [hj, hj00]
        refine EvP.cond (t := false) (by simp [hj]) (fun h => by cases h) (fun _ => EvP.skip ?_)
        simp
        refine EvP.seq (EvP.region ?_)
        simp
        refine EvP.seq (EvP.region ?_)
        simp [hn1, hn2]
        refine EvP.seq (EvP.region ?_)
        simp [f1, hp00]
        refine EvP.seq (EvP.seq (EvP.region ?_))
        simp
        refine EvP.block (EvP.seq (EvP.region ?_))
        simp [k3]
        refine EvP.cond (t := false) (by simp [k3]) (fun h => by cases h) (fun _ => ?_)
        refine EvP.seq (EvP.region ?_)
        simp [k3]
        refine EvP.cond (t := false) (by simp [k3]) (fun h => by cases h) (fun _ => ?_)
        refine EvP.seq (EvP.region ?_)
        simp [k3]
        refine EvP.cond (t := true) (by simp [k3]) (fun _ => ?_) (fun h => by cases h)
        refine EvP.seq (EvP.region ?_)
        simp [c5, hof]
        refine EvP.cond (t := false) (by simp [hof]) (fun h => by cases h) (fun _ => ?_)
        refine EvP.skip ?_
        simp
        refine EvP.seq (EvP.region ?_)
        simp [uL_set]
        refine EvP.ret ?_
        simp
        rintro a b (⟨rfl, _⟩ | ⟨rfl, _⟩) <;> omega
       ·have hU : uponS p corrupt ⟨round, from_, to, j, kind, xk, of_, src⟩ l said = l := by simp [uponS, hj, hj2, hget, k3, hof, hlmod]
        rw [hU]
        exact isr _ (by simp)
      ·have hw := wordS_lt hp0 hsp src
       obtain ⟨hd1, hhd⟩ : ∃ hd1 : Nat, hd1 = wordS said src := ⟨_, rfl⟩
       obtain ⟨r3, hr3⟩ : ∃ r3, r3 = kk * hd1 % p := ⟨_, rfl⟩
       have hr3p : r3 < p := by rw [hr3]; exact Nat.mod_lt _ hp0
       obtain ⟨r2, hr2⟩ : ∃ r2, r2 = (l[j] + r3) % p := ⟨_, rfl⟩
       have c3 := mul39 p kk hd1 hp0 (by omega) hkp (by omega)
       rw [← hr3] at c3
       have c2 := add38 p l[j] r3 hp0 (by omega)
       rw [← hr2] at c2
       have c6 := word40N false A2 cap2 said src
       rw [← hhd] at c6 hw
       have f2 : (hd1 : Int).tmod (p : Int) = (hd1 : Int) := by rw [tmod_nat, Nat.mod_eq_of_lt hw]
       refine ⟨.own .nil 0 l.length (uL (l.set j r2)), mk _ (pre _ (by simp)) fun k hk nx => ?_, ?_⟩
       ·have c5 := h5 of_ k (by omega)
        have c2 := c2 k (by omega)
        have c3 := c3 k (by omega)
        have c6 := c6 k (by omega)
        refine EvP.seq (EvP.region ?_)
        simp [entryS, scV, scL, devV]
        refine EvP.seq (EvP.seq (EvP.region ?_))
        simp [k4]
        refine EvP.cond (t := false) (by simp [k4]) (fun h => by cases h) (fun _ => EvP.skip ?_)
        simp
        refine EvP.seq (EvP.seq (EvP.region ?_))
        simp [hj, hj00]
        refine EvP.cond (t := false) (by simp [hj]) (fun h => by cases h) (fun _ => EvP.skip ?_)
        simp
        refine EvP.seq (EvP.region ?_)
        simp
        refine EvP.seq (EvP.region ?_)
        simp [hn1, hn2]
        refine EvP.seq (EvP.region ?_)
        simp [f1, hp00]
        refine EvP.seq (EvP.seq (EvP.region ?_))
        simp
        refine EvP.block (EvP.seq (EvP.region ?_))
        simp [k3]
        refine EvP.cond (t := false) (by simp [k3]) (fun h => by cases h) (fun _ => ?_)
        refine EvP.seq (EvP.region ?_)
        simp [k3]
        refine EvP.cond (t := false) (by simp [k3]) (fun h => by cases h) (fun _ => ?_)
        refine EvP.seq (EvP.region ?_)
        simp [k3]
        refine EvP.cond (t := true) (by simp [k3]) (fun _ => ?_) (fun h => by cases h)
        refine EvP.seq (EvP.region ?_)
        simp [c5, hof]
        refine EvP.cond (t := true) (by simp [hof]) (fun _ => ?_) (fun h => by cases h)
        refine EvP.draw ?_
        simp [k3, hjl, c6, f2, hp00, c3, c2]
        refine EvP.seq (EvP.region ?_)
        simp [uL_set]
        refine EvP.ret ?_
        simp
        rintro a b (⟨rfl, _⟩ | ⟨rfl, _⟩) <;> omega
       ·have hU : uponS p corrupt ⟨round, from_, to, j, kind, xk, of_, src⟩ l said = l.set j r2 := by simp [uponS, hj, hj2, hget, k3, hof, hkk, hr2, hr3, hhd]
        rw [hU]
        exact isr _ (by simp)
     ·refine ⟨.own .nil 0 l.length (uL (l)), mk _ (pre _ (by simp)) fun k hk nx => ?_, ?_⟩
      ·refine EvP.seq (EvP.region ?_)
       simp [entryS, scV, scL, devV]
       refine EvP.seq (EvP.seq (EvP.region ?_))
       simp [k4]
       refine EvP.cond (t := false) (by simp [k4]) (fun h => by cases h) (fun _ => EvP.skip ?_)
       simp
       refine EvP.seq (EvP.seq (EvP.region ?_))
       simp [hj, hj00]
       refine EvP.cond (t := false) (by simp [hj]) (fun h => by cases h) (fun _ => EvP.skip ?_)
       simp
       refine EvP.seq (EvP.region ?_)
       simp
       refine EvP.seq (EvP.region ?_)
       simp [hn1, hn2]
       refine EvP.seq (EvP.region ?_)
       simp [f1, hp00]
       refine EvP.seq (EvP.seq (EvP.region ?_))
       simp
       refine EvP.block (EvP.seq (EvP.region ?_))
       simp [k1]
       refine EvP.cond (t := false) (by simp [k1]) (fun h => by cases h) (fun _ => ?_)
       refine EvP.seq (EvP.region ?_)
       simp [k2]
       refine EvP.cond (t := false) (by simp [k2]) (fun h => by cases h) (fun _ => ?_)
       refine EvP.seq (EvP.region ?_)
       simp [k3]
       refine EvP.cond (t := false) (by simp [k3]) (fun h => by cases h) (fun _ => ?_)
       refine EvP.skip ?_
       simp
       refine EvP.seq (EvP.region ?_)
       simp [uL_set]
       refine EvP.ret ?_
       simp
       rintro a b (⟨rfl, _⟩ | ⟨rfl, _⟩) <;> omega
      ·have hU : uponS p corrupt ⟨round, from_, to, j, kind, xk, of_, src⟩ l said = l := by simp [uponS, hj, hj2, hget, k1, k2, k3, k4]
       rw [hU]
       exact isr _ (by simp)
end Go.Abs
end
noncomputable section
namespace Go.Abs
open Go Go.Proofs
attribute [local simp] intOp shOp
set_option maxRecDepth 100000
theorem uponS_said {p : Nat} {c : List Int} {x : Dev} {l a b : List Nat} (h : x.kind ≠ 3) : uponS p c x l a = uponS p c x l b := by
 unfold uponS; simp [h]
end Go.Abs
end
