/- Joined: AbsNSR AbsNSS. -/
import Derived.Test.YtjdgcblikhkioaaDoorAbs9
set_option linter.all false
/- The seat of privitylaw14: the reference's field and coalition. -/
set_option linter.unusedVariables false
noncomputable section
namespace Go.Abs
open Go Go.Proofs
attribute [local simp] intOp shOp
set_option maxRecDepth 100000

theorem tmod_nat (a b : Nat) : (a : Int).tmod (b : Int) = ((a % b : Nat) : Int) := rfl
theorem tdiv_nat (a b : Nat) : (a : Int).tdiv (b : Int) = ((a / b : Nat) : Int) := rfl
set_option maxHeartbeats 8000000 in
theorem add38 (p x y : Nat) (hp : 0 < p) (h : x + y < 18446744073709551616) : AnsN 1 Tryd.prog H14 83 [.int .u64 (p : Int), .int .u64 (x : Int), .int .u64 (y : Int)] (.int .u64 (((x + y) % p : Nat) : Int)) := by
  refine AnsN.of (N := 0) (fn := Tryd.f83) (t := 6) (by rfl) Tryd.func83 rfl rfl (by rfl) (by rfl) fun k hk nx => ?_
  obtain ⟨z, hz⟩ : ∃ z, z = x + y := ⟨_, rfl⟩
  obtain ⟨r, hr⟩ : ∃ r, r = z % p := ⟨_, rfl⟩
  rw [← hz, ← hr]
  have hw : IntKind.u64.wrap ((x : Int) + (y : Int)) = (z : Int) := by rw [wrapu (by omega) (by omega)]; omega
  have hm : (z : Int).tmod (p : Int) = (r : Int) := by rw [tmod_nat, hr]
  have hp0 : ¬ p = 0 := by omega
  refine EvP.seq (EvP.region ?_)
  simp [entryS]
  refine EvP.seq (EvP.region ?_)
  simp [hw, hm, hp0]
  refine EvP.ret ?_
  simp
set_option maxHeartbeats 8000000 in
theorem mul39 (p x y : Nat) (hp : 0 < p) (hp2 : p < 9223372036854775808) (hx : x < p) (hy : y < 18446744073709551616) : AnsN (18446744073709551616 + 1 + 1) Tryd.prog H14 84 [.int .u64 (p : Int), .int .u64 (x : Int), .int .u64 (y : Int)] (.int .u64 ((x * y % p : Nat) : Int)) := by
  refine AnsN.of (fn := Tryd.f84) (t := 6) (by rfl) Tryd.func84 rfl rfl (by rfl) (by rfl) fun k hk nx => ?_
  have hp0 : ¬ p = 0 := by omega
  obtain ⟨z, hz⟩ : ∃ z, z = x * y % p := ⟨_, rfl⟩
  rw [← hz]
  refine EvP.seq (EvP.region ?_)
  simp [entryS]
  refine EvP.seq (EvP.region ?_)
  simp
  refine EvP.seq (EvP.block (EvP.loop (fun b D => ∃ o a : Nat, o < p ∧ a < p ∧ b ≤ y ∧ (o + a * b) % p = z ∧ D.s 0 = .int .u64 (p : Int) ∧ D.s 1 = .int .u64 (a : Int) ∧ D.s 2 = .int .u64 (b : Int) ∧ D.s 7 = .int .u64 (o : Int) ∧ D.m = []) (n := y) ⟨0, x, by simp [hp, hx, hz]⟩ (by omega) ?_))
  rintro b D ⟨o, a, ho, ha, hb, hI, d0, d1, d2, d7, dm⟩
  simp only [liveOf14, clear_none]
  refine EvP.seq (EvP.seq (EvP.region ?_))
  simp [d2]
  refine EvP.cond (t := decide (0 < b)) (by simp) (fun h => EvP.skip ?_) (fun h => EvP.exit ?_)
  · have hb0 : 0 < b := by simpa using h
    simp only [thenE_norm]
    obtain ⟨bm, hbm⟩ : ∃ bm, bm = b % 2 := ⟨_, rfl⟩
    obtain ⟨bh, hbh⟩ : ∃ bh, bh = b / 2 := ⟨_, rfl⟩
    obtain ⟨oa, hoa⟩ : ∃ oa, oa = o + a := ⟨_, rfl⟩
    obtain ⟨om, hom⟩ : ∃ om, om = oa % p := ⟨_, rfl⟩
    obtain ⟨a2, ha2⟩ : ∃ a2, a2 = a + a := ⟨_, rfl⟩
    obtain ⟨am, ham⟩ : ∃ am, am = a2 % p := ⟨_, rfl⟩
    have f1 : (b : Int).tmod 2 = (bm : Int) := by rw [show (2 : Int) = ((2 : Nat) : Int) by rfl, tmod_nat, hbm]
    have f2 : IntKind.u64.wrap ((o : Int) + (a : Int)) = (oa : Int) := by rw [wrapu (by omega) (by omega)]; omega
    have f3 : (oa : Int).tmod (p : Int) = (om : Int) := by rw [tmod_nat, hom]
    have f4 : IntKind.u64.wrap ((a : Int) + (a : Int)) = (a2 : Int) := by rw [wrapu (by omega) (by omega)]; omega
    have f5 : (a2 : Int).tmod (p : Int) = (am : Int) := by rw [tmod_nat, ham]
    have f6 : (b : Int).tdiv 2 = (bh : Int) := by rw [show (2 : Int) = ((2 : Nat) : Int) by rfl, tdiv_nat, hbh]
    have f7 : IntKind.u64.wrap (bh : Int) = (bh : Int) := by rw [wrapu (by omega) (by omega)]
    have hamp : am < p := by rw [ham]; exact Nat.mod_lt _ hp
    have homp : om < p := by rw [hom]; exact Nat.mod_lt _ hp
    refine EvP.block (EvP.seq (EvP.seq (EvP.region ?_)))
    by_cases hodd : bm = 1
    · have hI' : (om + am * bh) % p = z := by
        rw [← hI, hom, ham, Nat.add_mod, Nat.mod_mod, Nat.mul_mod, Nat.mod_mod, ← Nat.mul_mod, ← Nat.add_mod, ha2, hoa]
        congr 1
        rw [show b = 1 + 2 * bh by omega, Nat.mul_add, Nat.mul_one, ← Nat.mul_assoc, Nat.mul_two, Nat.add_assoc]
      simp [d2, f1, hodd]
      refine EvP.cond (t := true) (by simp) (fun _ => ?_) (fun h => by cases h)
      refine EvP.region ?_
      simp [d0, d1, d7, hp0, f2, f3]
      refine EvP.seq (EvP.region ?_)
      simp [d0, d1, hp0, f4, f5]
      refine EvP.region ?_
      simp [d2, f6, f7, d0, dm]
      exact ⟨bh, by omega, om, homp, am, hamp, by omega, hI', by simp⟩
    · have hev : bm = 0 := by omega
      have hI' : (o + am * bh) % p = z := by
        rw [← hI, ham, Nat.add_mod, Nat.mul_mod, Nat.mod_mod, ← Nat.mul_mod, ← Nat.add_mod, ha2]
        congr 1
        rw [show b = 2 * bh by omega, ← Nat.mul_assoc, Nat.mul_two]
      simp [d2, f1, hev]
      refine EvP.cond (t := false) (by simp) (fun h => by cases h) (fun _ => EvP.skip ?_)
      simp
      refine EvP.seq (EvP.region ?_)
      simp [d0, d1, hp0, f4, f5]
      refine EvP.region ?_
      simp [d2, f6, f7, d0, d7, dm]
      exact ⟨bh, by omega, o, ho, am, hamp, by omega, hI', by simp⟩
  · have hb0 : b = 0 := by
      have : ¬ 0 < b := by simpa using h
      omega
    subst hb0
    simp
    refine EvP.seq (EvP.region ?_)
    simp [d7]
    refine EvP.ret ?_
    simp [dm]
    rw [Nat.mul_zero, Nat.add_zero, Nat.mod_eq_of_lt ho] at hI
    rw [hI]
set_option maxHeartbeats 8000000 in
theorem word40N (pm : Bool) (A : Option Addr) (cap : Nat) (l : List Nat) (i : Int) : AnsN 1 Tryd.prog H14 85 [.im pm A cap l.length (uL l), .int .i64 i] (.int .u64 ((wordS l i : Nat) : Int)) := by
  refine AnsN.of (N := 0) (fn := Tryd.f85) (t := 4) (by rfl) Tryd.func85 rfl rfl (by rfl) (by rfl) fun k hk nx => ?_
  refine EvP.seq (EvP.region ?_)
  simp [entryS]
  refine EvP.seq (EvP.seq (EvP.region ?_))
  by_cases h0 : i < 0
  · have hn : ¬ 0 ≤ i := by omega
    simp [h0]
    refine EvP.cond (t := true) (by simp) (fun _ => ?_) (fun h => by cases h)
    refine EvP.seq (EvP.region ?_)
    simp
    refine EvP.ret ?_
    simp [wordS, hn]
  · obtain ⟨j, rfl⟩ : ∃ j : Nat, i = j := ⟨i.toNat, by omega⟩
    have hn : (0 : Int) ≤ (j : Int) := by omega
    by_cases h1 : j < l.length
    · have h2 : ¬ l.length ≤ j := by omega
      simp [h0, h2]
      refine EvP.cond (t := false) (by simp [h2]) (fun h => by cases h) (fun _ => EvP.skip ?_)
      simp
      refine EvP.seq (EvP.region ?_)
      simp [h1]
      refine EvP.ret ?_
      simp [wordS, h1, hn]
    · have h2 : l.length ≤ j := by omega
      simp [h0, h2]
      refine EvP.cond (t := true) (by simp [h2]) (fun _ => ?_) (fun h => by cases h)
      refine EvP.seq (EvP.region ?_)
      simp
      refine EvP.ret ?_
      simp [wordS, h1, hn]
set_option maxHeartbeats 8000000 in
set_option maxRecDepth 100000 in
theorem bad25 (s : Scn) (hs : ScnOk s) (v : Int) : AnsN (s.corrupt.length + 1 + 1) Tryd.prog H14 75 [scV s, .int .i64 v] (.bool (decide (v ∈ s.corrupt))) := by
  have hml : maxLen = 9223372036854775807 := rfl
  obtain ⟨p, n, t, cpm, cA, ccap, l, dpm, dA, dcap, devs, tpm, tA, tcap, tapes⟩ := s
  obtain ⟨hl, hs2, hs3, hs4⟩ := hs
  simp only at *
  refine AnsN.of (fn := Tryd.f75) (t := 4) (by rfl) Tryd.func75 rfl rfl (by rfl) (by rfl) fun k hk nx => ?_
  refine EvP.seq (EvP.region ?_)
  simp [entryS, scV, scL]
  refine EvP.seq (EvP.seq (EvP.region ?_))
  simp
  refine EvP.block (EvP.loop (fun q D => ∃ i : Nat, q = l.length - i ∧ i ≤ l.length ∧ (∀ j x, j < i → l[j]? = some x → x ≠ v) ∧ D.s 1 = .int .i64 v ∧ D.s 2 = .bptr nx 0 ∧ D.s 5 = .int .i64 (i : Int) ∧ D.m = [(nx, ⟨0, [.int .u64 (p : Int), .int .i64 n, .int .i64 t, .im cpm cA ccap l.length (iL l), .im dpm dA dcap devs.length (devsV devs), .im tpm tA tcap tapes.length (rsV tapes)]⟩)]) (n := l.length) ⟨0, by simp⟩ (by omega) ?_)
  rintro q D ⟨i, hn, hi, hpre, d1, d2, d5, dm⟩
  simp only [liveOf14, clear_none]
  refine EvP.seq (EvP.seq (EvP.region ?_))
  simp [d2, d5, dm]
  refine EvP.cond (t := decide (i < l.length)) (by simp) (fun h => EvP.skip ?_) (fun h => EvP.exit ?_)
  · have hlt : i < l.length := by simpa using h
    simp only [thenE_norm]
    refine EvP.seq (EvP.block (EvP.seq (EvP.region ?_)))
    by_cases hv : l[i] = v
    · simp [d1, d2, d5, dm, hlt, hv]
      refine EvP.cond (t := true) (by simp) (fun _ => ?_) (fun h => by cases h)
      refine EvP.seq (EvP.region ?_)
      simp
      refine EvP.ret ?_
      simp [dm]
      rw [← hv]; exact List.getElem_mem hlt
    · simp [d1, d2, d5, dm, hlt, hv]
      refine EvP.cond (t := false) (by simp [hv]) (fun h => by cases h) (fun _ => EvP.skip ?_)
      simp
      refine EvP.region ?_
      simp [d1, d2, d5, dm]
      refine ⟨_, by omega, i + 1, rfl, by omega, fun j x hj hx => ?_, wrap_succ (by omega)⟩
      by_cases hji : j = i
      · subst hji
        rw [List.getElem?_eq_getElem hlt] at hx; cases hx; exact hv
      · exact hpre j x (by omega) hx
  · have hlt : ¬ i < l.length := by simpa using h
    simp
    refine EvP.seq (EvP.region ?_)
    simp
    refine EvP.ret ?_
    simp [dm]
    intro hm
    obtain ⟨j, hj, he⟩ := List.getElem_of_mem hm
    exact hpre j _ (by omega) (List.getElem?_eq_getElem hj) he
set_option maxHeartbeats 16000000 in
set_option maxRecDepth 100000 in
theorem told26 (s : Scn) (hs : ScnOk s) {q : Nat} (hq : (s.p, q) ∈ pq7) : ∃ N, ∀ (x : Dev) (pm pm2 : Bool) (A A2 : Option Addr) (cap cap2 : Nat) (l said : List Nat), 0 ≤ x.at_ → x.k < 18446744073709551616 → l.length ≤ 1000 → (∀ y ∈ l, y < s.p) → (∀ y ∈ said, y < s.p) →
    ∃ v, AnsN N Tryd.prog H14 76 [scV s, devV x, .im pm A cap l.length (uL l), .im pm2 A2 cap2 said.length (uL said)] v ∧ IsRow v (uponS s.p s.corrupt x l said) := by
  obtain ⟨hp1, hq1, hq2⟩ := pq_facts hq
  have h5 : ∀ v, AnsN (s.corrupt.length + 1 + 1) Tryd.prog H14 75 [scV (lentS s), .int .i64 v] (.bool (decide (v ∈ s.corrupt))) := fun v => bad25 (lentS s) (lentS_ok hs) v
  obtain ⟨p, n, t, cpm, cA, ccap, corrupt, dpm, dA, dcap, devs, tpm, tA, tcap, tapes⟩ := s
  obtain ⟨hs1, hs2, hs3, hs4⟩ := hs
  simp only at *
  have hp61 : p < 2305843009213693952 := by
    have : 2 ^ q ≤ 2 ^ 61 := Nat.pow_le_pow_right (by omega) hq2
    omega
  have hp0 : 0 < p := by
    have : 2 ^ 5 ≤ 2 ^ q := Nat.pow_le_pow_right (by omega) hq1
    omega
  have hp00 : ¬ p = 0 := by omega
  simp only [scV, scL, lentS, List.length_map] at h5
  refine ⟨18446744073709551616 + corrupt.length + 5 + 1, fun x pm pm2 A A2 cap cap2 l said hat hk64 hl hlp hsp => ?_⟩
  obtain ⟨round, from_, to, at_, kind, xk, of_, src⟩ := x
  simp only at hat hk64
  obtain ⟨j, rfl⟩ : ∃ j : Nat, at_ = j := ⟨at_.toNat, by omega⟩
  have mk : ∀ v, plainV v = true → (∀ k, 18446744073709551616 + corrupt.length + 5 ≤ k → ∀ nx, EvP Tryd.prog H14 (evCall Tryd.prog H14 k) 76 k (Tryd.f76.body.getD .skip) (entryS [scV ⟨p, n, t, cpm, cA, ccap, corrupt, dpm, dA, dcap, devs, tpm, tA, tcap, tapes⟩, devV ⟨round, from_, to, j, kind, xk, of_, src⟩, .im pm A cap l.length (uL l), .im pm2 A2 cap2 said.length (uL said)] [] nx) (fun e D => (e = .norm ∨ e = .ret) ∧ D.s 8 = v ∧ ∀ b ∈ D.m, nx ≤ b.1)) → AnsN (18446744073709551616 + corrupt.length + 5 + 1) Tryd.prog H14 76 [scV ⟨p, n, t, cpm, cA, ccap, corrupt, dpm, dA, dcap, devs, tpm, tA, tcap, tapes⟩, devV ⟨round, from_, to, j, kind, xk, of_, src⟩, .im pm A cap l.length (uL l), .im pm2 A2 cap2 said.length (uL said)] v :=
    fun v hv h => AnsN.of (fn := Tryd.f76) (t := 8) (by rfl) Tryd.func76 rfl rfl (by rfl) hv h
  by_cases k4 : kind = 4
  · refine ⟨.own .nil 0 0 [], mk _ (by rfl) fun k hk nx => ?_, by simp only [uponS, k4, if_true]; exact IsRow.own 0 []⟩
    refine EvP.seq (EvP.region ?_)
    simp [entryS, scV, scL, devV]
    refine EvP.seq (EvP.seq (EvP.region ?_))
    simp [k4]
    refine EvP.cond (t := true) (by simp) (fun _ => ?_) (fun h => by cases h)
    refine EvP.seq (EvP.region ?_)
    simp
    refine EvP.ret ?_
    simp
    rintro a b (⟨rfl, _⟩ | ⟨rfl, _⟩) <;> omega
  · by_cases hj : l.length ≤ j
    · refine ⟨.im pm A cap l.length (uL l), mk _ (by simp [plainV]) fun k hk nx => ?_, by simp only [uponS, k4, if_false, if_pos (show (l.length : Int) ≤ (j : Int) by omega)]; exact IsRow.im _ _ _ _⟩
      have hj00 : ¬ ((j : Int) < 0) := by omega
      refine EvP.seq (EvP.region ?_)
      simp [entryS, scV, scL, devV]
      refine EvP.seq (EvP.seq (EvP.region ?_))
      simp [k4]
      refine EvP.cond (t := false) (by simp [k4]) (fun h => by cases h) (fun _ => EvP.skip ?_)
      simp
      refine EvP.seq (EvP.seq (EvP.region ?_))
      simp [hj, hj00]
      refine EvP.cond (t := true) (by simp [hj]) (fun _ => ?_) (fun h => by cases h)
      refine EvP.seq (EvP.region ?_)
      simp
      refine EvP.ret ?_
      simp
      rintro a b (⟨rfl, _⟩ | ⟨rfl, _⟩) <;> omega
    · have hjl : j < l.length := by omega
      have hj2 : ¬ ((l.length : Int) ≤ (j : Int)) := by omega
      have hj00 : ¬ ((j : Int) < 0) := by omega
      have hlj := hlp _ (List.getElem_mem hjl)
      have hn1 : l.length * 8 ≤ 140737488355328 := by omega
      have hn2 : l.length ≤ 140737488355328 := by omega
      obtain ⟨kk, hkk⟩ : ∃ kk, kk = xk % p := ⟨_, rfl⟩
      have hkp : kk < p := by rw [hkk]; exact Nat.mod_lt _ hp0
      have f1 : (xk : Int).tmod (p : Int) = (kk : Int) := by rw [tmod_nat, hkk]
      have hget : l[j]?.getD 0 = l[j] := by rw [List.getElem?_eq_getElem hjl]; rfl
      have pre : ∀ lst : List Nat, lst.length = l.length → plainV (.own .nil 0 l.length (uL lst)) = true := fun lst _ => by simp [plainV]
      have isr : ∀ lst : List Nat, lst.length = l.length → IsRow (.own .nil 0 l.length (uL lst)) lst := fun lst h => by rw [← h]; exact IsRow.own _ _
      by_cases k1 : kind = 1
      · refine ⟨.own .nil 0 l.length (uL (l.set j kk)), mk _ (pre _ (by simp)) fun k hk nx => ?_, ?_⟩
        · refine EvP.seq (EvP.region ?_)
          simp [entryS, scV, scL, devV]
          refine EvP.seq (EvP.seq (EvP.region ?_))
          simp [k4]
          refine EvP.cond (t := false) (by simp [k4]) (fun h => by cases h) (fun _ => EvP.skip ?_)
          simp
          refine EvP.seq (EvP.seq (EvP.region ?_))
          simp [hj, hj00]
          refine EvP.cond (t := false) (by simp [hj]) (fun h => by cases h) (fun _ => EvP.skip ?_)
          simp
          refine EvP.seq (EvP.region ?_)
          simp
          refine EvP.seq (EvP.region ?_)
          simp [hn1, hn2]
          refine EvP.seq (EvP.region ?_)
          simp [f1, hp00]
          refine EvP.seq (EvP.seq (EvP.region ?_))
          simp
          refine EvP.block (EvP.seq (EvP.region ?_))
          simp [k1]
          refine EvP.cond (t := true) (by simp [k1]) (fun _ => ?_) (fun h => by cases h)
          refine EvP.region ?_
          simp [k1, hjl]
          refine EvP.seq (EvP.region ?_)
          simp [uL_set]
          refine EvP.ret ?_
          simp
          rintro a b (⟨rfl, _⟩ | ⟨rfl, _⟩) <;> omega
        · have hU : uponS p corrupt ⟨round, from_, to, j, kind, xk, of_, src⟩ l said = l.set j kk := by simp [uponS, hj, hj2, hget, k1, hkk]
          rw [hU]
          exact isr _ (by simp)
      · by_cases k2 : kind = 2
        · obtain ⟨r2, hr2⟩ : ∃ r2, r2 = (l[j] + kk) % p := ⟨_, rfl⟩
          have c2 := add38 p l[j] kk hp0 (by omega)
          rw [← hr2] at c2
          refine ⟨.own .nil 0 l.length (uL (l.set j r2)), mk _ (pre _ (by simp)) fun k hk nx => ?_, ?_⟩
          · have c2 := c2 k (by omega)
            refine EvP.seq (EvP.region ?_)
            simp [entryS, scV, scL, devV]
            refine EvP.seq (EvP.seq (EvP.region ?_))
            simp [k4]
            refine EvP.cond (t := false) (by simp [k4]) (fun h => by cases h) (fun _ => EvP.skip ?_)
            simp
            refine EvP.seq (EvP.seq (EvP.region ?_))
            simp [hj, hj00]
            refine EvP.cond (t := false) (by simp [hj]) (fun h => by cases h) (fun _ => EvP.skip ?_)
            simp
            refine EvP.seq (EvP.region ?_)
            simp
            refine EvP.seq (EvP.region ?_)
            simp [hn1, hn2]
            refine EvP.seq (EvP.region ?_)
            simp [f1, hp00]
            refine EvP.seq (EvP.seq (EvP.region ?_))
            simp
            refine EvP.block (EvP.seq (EvP.region ?_))
            simp [k2]
            refine EvP.cond (t := false) (by simp [k2]) (fun h => by cases h) (fun _ => ?_)
            refine EvP.seq (EvP.region ?_)
            simp [k2]
            refine EvP.cond (t := true) (by simp [k2]) (fun _ => ?_) (fun h => by cases h)
            refine EvP.draw ?_
            simp [k2, hjl, c2]
            refine EvP.seq (EvP.region ?_)
            simp [uL_set]
            refine EvP.ret ?_
            simp
            rintro a b (⟨rfl, _⟩ | ⟨rfl, _⟩) <;> omega
          · have hU : uponS p corrupt ⟨round, from_, to, j, kind, xk, of_, src⟩ l said = l.set j r2 := by simp [uponS, hj, hj2, hget, k2, hkk, hr2]
            rw [hU]
            exact isr _ (by simp)
        · by_cases k3 : kind = 3
          · by_cases hof : of_ ∈ corrupt
            · have hlmod : l[j] % p = l[j] := Nat.mod_eq_of_lt hlj
              refine ⟨.own .nil 0 l.length (uL (l)), mk _ (pre _ (by simp)) fun k hk nx => ?_, ?_⟩
              · have c5 := h5 of_ k (by omega)
                refine EvP.seq (EvP.region ?_)
                simp [entryS, scV, scL, devV]
                refine EvP.seq (EvP.seq (EvP.region ?_))
                simp [k4]
                refine EvP.cond (t := false) (by simp [k4]) (fun h => by cases h) (fun _ => EvP.skip ?_)
                simp
                refine EvP.seq (EvP.seq (EvP.region ?_))
                simp [hj, hj00]
                refine EvP.cond (t := false) (by simp [hj]) (fun h => by cases h) (fun _ => EvP.skip ?_)
                simp
                refine EvP.seq (EvP.region ?_)
                simp
                refine EvP.seq (EvP.region ?_)
                simp [hn1, hn2]
                refine EvP.seq (EvP.region ?_)
                simp [f1, hp00]
                refine EvP.seq (EvP.seq (EvP.region ?_))
                simp
                refine EvP.block (EvP.seq (EvP.region ?_))
                simp [k3]
                refine EvP.cond (t := false) (by simp [k3]) (fun h => by cases h) (fun _ => ?_)
                refine EvP.seq (EvP.region ?_)
                simp [k3]
                refine EvP.cond (t := false) (by simp [k3]) (fun h => by cases h) (fun _ => ?_)
                refine EvP.seq (EvP.region ?_)
                simp [k3]
                refine EvP.cond (t := true) (by simp [k3]) (fun _ => ?_) (fun h => by cases h)
                refine EvP.seq (EvP.region ?_)
                simp [c5, hof]
                refine EvP.cond (t := false) (by simp [hof]) (fun h => by cases h) (fun _ => ?_)
                refine EvP.skip ?_
                simp
                refine EvP.seq (EvP.region ?_)
                simp [uL_set]
                refine EvP.ret ?_
                simp
                rintro a b (⟨rfl, _⟩ | ⟨rfl, _⟩) <;> omega
              · have hU : uponS p corrupt ⟨round, from_, to, j, kind, xk, of_, src⟩ l said = l := by simp [uponS, hj, hj2, hget, k3, hof, hlmod]
                rw [hU]
                exact isr _ (by simp)
            · have hw := wordS_lt hp0 hsp src
              obtain ⟨hd1, hhd⟩ : ∃ hd1 : Nat, hd1 = wordS said src := ⟨_, rfl⟩
              obtain ⟨r3, hr3⟩ : ∃ r3, r3 = kk * hd1 % p := ⟨_, rfl⟩
              have hr3p : r3 < p := by rw [hr3]; exact Nat.mod_lt _ hp0
              obtain ⟨r2, hr2⟩ : ∃ r2, r2 = (l[j] + r3) % p := ⟨_, rfl⟩
              have c3 := mul39 p kk hd1 hp0 (by omega) hkp (by omega)
              rw [← hr3] at c3
              have c2 := add38 p l[j] r3 hp0 (by omega)
              rw [← hr2] at c2
              have c6 := word40N false A2 cap2 said src
              rw [← hhd] at c6 hw
              have f2 : (hd1 : Int).tmod (p : Int) = (hd1 : Int) := by rw [tmod_nat, Nat.mod_eq_of_lt hw]
              refine ⟨.own .nil 0 l.length (uL (l.set j r2)), mk _ (pre _ (by simp)) fun k hk nx => ?_, ?_⟩
              · have c5 := h5 of_ k (by omega)
                have c2 := c2 k (by omega)
                have c3 := c3 k (by omega)
                have c6 := c6 k (by omega)
                refine EvP.seq (EvP.region ?_)
                simp [entryS, scV, scL, devV]
                refine EvP.seq (EvP.seq (EvP.region ?_))
                simp [k4]
                refine EvP.cond (t := false) (by simp [k4]) (fun h => by cases h) (fun _ => EvP.skip ?_)
                simp
                refine EvP.seq (EvP.seq (EvP.region ?_))
                simp [hj, hj00]
                refine EvP.cond (t := false) (by simp [hj]) (fun h => by cases h) (fun _ => EvP.skip ?_)
                simp
                refine EvP.seq (EvP.region ?_)
                simp
                refine EvP.seq (EvP.region ?_)
                simp [hn1, hn2]
                refine EvP.seq (EvP.region ?_)
                simp [f1, hp00]
                refine EvP.seq (EvP.seq (EvP.region ?_))
                simp
                refine EvP.block (EvP.seq (EvP.region ?_))
                simp [k3]
                refine EvP.cond (t := false) (by simp [k3]) (fun h => by cases h) (fun _ => ?_)
                refine EvP.seq (EvP.region ?_)
                simp [k3]
                refine EvP.cond (t := false) (by simp [k3]) (fun h => by cases h) (fun _ => ?_)
                refine EvP.seq (EvP.region ?_)
                simp [k3]
                refine EvP.cond (t := true) (by simp [k3]) (fun _ => ?_) (fun h => by cases h)
                refine EvP.seq (EvP.region ?_)
                simp [c5, hof]
                refine EvP.cond (t := true) (by simp [hof]) (fun _ => ?_) (fun h => by cases h)
                refine EvP.draw ?_
                simp [k3, hjl, c6, f2, hp00, c3, c2]
                refine EvP.seq (EvP.region ?_)
                simp [uL_set]
                refine EvP.ret ?_
                simp
                rintro a b (⟨rfl, _⟩ | ⟨rfl, _⟩) <;> omega
              · have hU : uponS p corrupt ⟨round, from_, to, j, kind, xk, of_, src⟩ l said = l.set j r2 := by simp [uponS, hj, hj2, hget, k3, hof, hkk, hr2, hr3, hhd]
                rw [hU]
                exact isr _ (by simp)
          · refine ⟨.own .nil 0 l.length (uL (l)), mk _ (pre _ (by simp)) fun k hk nx => ?_, ?_⟩
            · refine EvP.seq (EvP.region ?_)
              simp [entryS, scV, scL, devV]
              refine EvP.seq (EvP.seq (EvP.region ?_))
              simp [k4]
              refine EvP.cond (t := false) (by simp [k4]) (fun h => by cases h) (fun _ => EvP.skip ?_)
              simp
              refine EvP.seq (EvP.seq (EvP.region ?_))
              simp [hj, hj00]
              refine EvP.cond (t := false) (by simp [hj]) (fun h => by cases h) (fun _ => EvP.skip ?_)
              simp
              refine EvP.seq (EvP.region ?_)
              simp
              refine EvP.seq (EvP.region ?_)
              simp [hn1, hn2]
              refine EvP.seq (EvP.region ?_)
              simp [f1, hp00]
              refine EvP.seq (EvP.seq (EvP.region ?_))
              simp
              refine EvP.block (EvP.seq (EvP.region ?_))
              simp [k1]
              refine EvP.cond (t := false) (by simp [k1]) (fun h => by cases h) (fun _ => ?_)
              refine EvP.seq (EvP.region ?_)
              simp [k2]
              refine EvP.cond (t := false) (by simp [k2]) (fun h => by cases h) (fun _ => ?_)
              refine EvP.seq (EvP.region ?_)
              simp [k3]
              refine EvP.cond (t := false) (by simp [k3]) (fun h => by cases h) (fun _ => ?_)
              refine EvP.skip ?_
              simp
              refine EvP.seq (EvP.region ?_)
              simp [uL_set]
              refine EvP.ret ?_
              simp
              rintro a b (⟨rfl, _⟩ | ⟨rfl, _⟩) <;> omega
            · have hU : uponS p corrupt ⟨round, from_, to, j, kind, xk, of_, src⟩ l said = l := by simp [uponS, hj, hj2, hget, k1, k2, k3, k4]
              rw [hU]
              exact isr _ (by simp)
end Go.Abs
end
/- The seat of privitylaw14: the reference's ApplyToBroadcasts. -/
set_option linter.unusedVariables false
noncomputable section
namespace Go.Abs
open Go Go.Proofs
attribute [local simp] intOp shOp
set_option maxRecDepth 100000

theorem uponS_said {p : Nat} {c : List Int} {x : Dev} {l a b : List Nat} (h : x.kind ≠ 3) : uponS p c x l a = uponS p c x l b := by
  unfold uponS; simp [h]
set_option maxHeartbeats 16000000 in
set_option maxRecDepth 100000 in
theorem broad14 (s : Scn) (hs : ScnOk s) {q : Nat} (hq : (s.p, q) ∈ pq7) (hd : ∀ x ∈ s.devs, DevP s.n x) (hk64 : ∀ x ∈ s.devs, x.k < 18446744073709551616) (rd : Int) : ∃ N, ∀ (pm : Bool) (A : Option Addr) (cap : Nat) (rs : List RD), (rs.length : Int) = s.n → s.n ≤ 13 → LsOk s.p (rs.map (·.l)) →
    AnsP N Tryd.prog H14 61 [scV s, .int .i64 rd, .im pm A cap rs.length (rsV rs)] (fun v => ∃ cs, v = .own .nil 0 rs.length cs ∧ Rows cs (broadS s.p s.corrupt rd (rs.map (·.l)) s.devs)) := by
  have hml : maxLen = 9223372036854775807 := rfl
  obtain ⟨hp1, hq1, hq2⟩ := pq_facts hq
  have hp0 : 0 < s.p := by
    have : 2 ^ 5 ≤ 2 ^ q := Nat.pow_le_pow_right (by omega) hq1
    omega
  obtain ⟨N1, h1⟩ := told26 (lentS s) (lentS_ok hs) hq
  have h0 : ∀ v, AnsN (s.corrupt.length + 1 + 1) Tryd.prog H14 75 [scV (lentS s), .int .i64 v] (.bool (decide (v ∈ s.corrupt))) := fun v => bad25 (lentS s) (lentS_ok hs) v
  obtain ⟨p, n, t, cpm, cA, ccap, corrupt, dpm, dA, dcap, devs, tpm, tA, tcap, tapes⟩ := s
  obtain ⟨hs1, hs2, hs3, hs4⟩ := hs
  simp only at *
  refine ⟨N1 + corrupt.length + 4 + devs.length + 1 + 1, fun pm A cap rs hlen hn13 hw => ?_⟩
  refine AnsP.of (fn := Tryd.f61) (t := 6) (by rfl) Tryd.func61 rfl rfl (by rfl) fun k hk nx => ?_
  have hn1 : rs.length * 24 ≤ 140737488355328 := by omega
  have hn2 : rs.length ≤ 140737488355328 := by omega
  have c0 := fun x => h0 x k (by omega)
  simp only [scV, scL, lentS, devV, List.length_map] at c0
  refine EvP.seq (EvP.region ?_)
  simp [entryS, scV, scL]
  refine EvP.seq (EvP.region ?_)
  simp [hn1, hn2]
  refine EvP.seq (EvP.seq (EvP.region ?_))
  simp
  generalize hout : rs.map (·.l) = out at *
  refine EvP.block (EvP.loop (fun q D => ∃ (i : Nat) (cs : List V), q = devs.length - i ∧ i ≤ devs.length ∧ Rows cs ((devs.take i).foldl (stepB p corrupt rd out) out) ∧ D.s 1 = .int .i64 rd ∧ D.s 2 = .im pm A cap rs.length (rsV rs) ∧ D.s 3 = .bptr nx 0 ∧ D.s 7 = .own .nil 0 rs.length cs ∧ D.s 8 = .int .i64 (i : Int)
    ∧ getBox D.m nx = some ⟨0, scL ⟨p, n, t, cpm, cA, ccap, corrupt, dpm, dA, dcap, devs, tpm, tA, tcap, tapes⟩⟩ ∧ (∀ b ∈ D.m, b.1 < D.nx) ∧ (∀ b ∈ D.m, nx ≤ b.1) ∧ nx < D.nx) (n := devs.length) ?_ (by omega) ?_)
  · refine ⟨0, rsV rs, by simp, by simp, ?_⟩
    simp [scL, getBox]
    rw [← hout]
    exact rows_rsV _
  rintro q D ⟨i, cs, hn, hi, hR, d1, d2, d3, d7, d8, g0, g1, g2, g3⟩
  simp only [liveOf14, clear_none]
  refine EvP.seq (EvP.seq (EvP.region ?_))
  have e0 := g0
  unfold scL at e0
  simp only at e0
  simp [d3, d8, e0]
  refine EvP.cond (t := decide (i < devs.length)) (by simp) (fun h => EvP.skip ?_) (fun h => EvP.exit ?_)
  · have hlt : i < devs.length := by simpa using h
    simp only [thenE_norm]
    refine EvP.seq (EvP.block (EvP.seq (EvP.region ?_)))
    have h8 : i * 8 + 8 ≤ devs.length * 8 := by omega
    have h88 : 8 ≤ devs.length * 8 - i * 8 := by omega
    have e1 : ∀ c, getBox (D.m ++ [(D.nx, c)]) D.nx = some c := fun c => getBox_app_new g1
    have e2' : ∀ c, getBox (D.m ++ [(D.nx, c)]) nx = some ⟨0, scL ⟨p, n, t, cpm, cA, ccap, corrupt, dpm, dA, dcap, devs, tpm, tA, tcap, tapes⟩⟩ := fun c => getBox_app_old g0
    have e3 : ∀ c c', setBox (D.m ++ [(D.nx, c)]) D.nx c' = D.m ++ [(D.nx, c')] := fun c c' => setBox_app_new g1
    have b1 : ∀ (c : Box) (a : Nat) (b : Box), (a, b) ∈ D.m ∨ a = D.nx ∧ b = c → a < D.nx + 1 := by
      rintro c a b (h | ⟨rfl, _⟩)
      · have := g1 _ h; simp at this; omega
      · omega
    have b2 : ∀ (c : Box) (a : Nat) (b : Box), (a, b) ∈ D.m ∨ a = D.nx ∧ b = c → nx ≤ a := by
      rintro c a b (h | ⟨rfl, _⟩)
      · exact g2 _ h
      · omega
    have e2 := e2'
    unfold scL at e2
    simp only at e2
    have hx := hd devs[i] (List.getElem_mem hlt)
    obtain ⟨hlsok, hlslen⟩ := fold_ok (c := corrupt) (rd := rd) (out := out) (devs := devs.take i) hp0 hw
    have houtl : out.length = rs.length := by rw [← hout]; simp
    generalize hls : (devs.take i).foldl (stepB p corrupt rd out) out = ls at *
    have hstep : (devs.take (i + 1)).foldl (stepB p corrupt rd out) out = stepB p corrupt rd out ls devs[i] := by
      rw [foldl_take_succ _ _ hlt, hls]
    simp [d1, d2, d3, d7, d8, e0, hlt, h8, h88, devL, e1, e2, e3]
    refine EvP.seq (EvP.region ?_)
    have c0i := c0 devs[i].from_
    by_cases hb : devs[i].round = rd ∧ devs[i].from_ ∈ corrupt
    · obtain ⟨fr, hfr0⟩ : ∃ fr : Nat, devs[i].from_ = (fr : Int) + 1 := ⟨(devs[i].from_ - 1).toNat, by have := hx.from1; omega⟩
      have hfr : IntKind.i64.wrap (devs[i].from_ - 1) = (fr : Int) := by rw [hfr0, wrap_nat (by omega) (by have := hx.from2; omega)]; omega
      have hfrl : fr < rs.length := by have := hx.from2; omega
      have hcs : cs.length = rs.length := by rw [hR.1, hlslen, houtl]
      have hfrc : fr < cs.length := by omega
      have hfrs : fr < ls.length := by omega
      have hvrow := hR.2 fr _ _ (List.getElem?_eq_getElem hfrc) (List.getElem?_eq_getElem hfrs)
      have hok := hlsok ls[fr] (List.getElem_mem hfrs)
      have hb1 : (devs[i].round == rd) = true := by simp [hb.1]
      simp [d1, d3, e1, e2, c0i, hb1, hb.2]
      refine EvP.cond (t := true) (by simp) (fun _ => ?_) (fun h => by cases h)
      refine EvP.seq (EvP.region ?_)
      simp
      refine EvP.seq (EvP.seq (EvP.region ?_))
      simp [e1, d2, d3]
      have fin : ∀ (v : V) (said : List Nat), (devs[i].kind = 3 → said = out[(devs[i].of_ - 1).toNat]?.getD []) → IsRow v (uponS p corrupt devs[i] ls[fr] said) → Rows (cs.set fr v) ((devs.take (i + 1)).foldl (stepB p corrupt rd out) out) := by
        intro v said hsaid hv
        rw [hstep, stepB, if_pos hb, show (devs[i].from_ - 1).toNat = fr by omega, List.getElem?_eq_getElem hfrs]
        refine hR.set fr ?_
        by_cases k3 : devs[i].kind = 3
        · rw [if_pos k3, ← hsaid k3]; exact hv
        · rw [uponS_said (b := said) k3]; exact hv
      by_cases k3 : 1 ≤ devs[i].of_
      · refine EvP.cond (t := true) (by simp [k3]) (fun _ => ?_) (fun h => by cases h)
        obtain ⟨og, hog0⟩ : ∃ og : Nat, devs[i].of_ = (og : Int) + 1 := ⟨(devs[i].of_ - 1).toNat, by omega⟩
        have hog : IntKind.i64.wrap (devs[i].of_ - 1) = (og : Int) := by rw [hog0, wrap_nat (by omega) (by have := hx.of2; omega)]; omega
        have hogl : og < rs.length := by have := hx.of2; omega
        have hsaid : devs[i].kind = 3 → rs[og].l = out[(devs[i].of_ - 1).toNat]?.getD [] := fun _ => by
          rw [show (devs[i].of_ - 1).toNat = og by omega, ← hout, List.getElem?_map, List.getElem?_eq_getElem hogl]; rfl
        have hsok : ∀ y ∈ rs[og].l, y < p := (hw rs[og].l (by rw [← hout]; exact List.mem_map_of_mem (List.getElem_mem hogl))).2
        refine EvP.region ?_
        simp [e1, d2, d3, hog, hogl]
        refine EvP.draw ?_
        generalize hl : ls[fr] = l at *
        generalize hv0 : cs[fr] = v0 at *
        cases hvrow with
        | im pm' A' cap' =>
          obtain ⟨v, hv, hvr⟩ := h1 devs[i] false false A' rs[og].A cap' rs[og].cap l rs[og].l hx.at_ (hk64 _ (List.getElem_mem hlt)) hok.1 hok.2 hsok
          have hv := hv k (by omega)
          simp only [scV, scL, lentS, devV, List.length_map] at hv
          have hR' := fin v _ hsaid hvr
          cases hvr with
          | im pm2 A2 cap2 =>
            simp [e1, e2, d1, d2, d3, d7, hfr, hfrl, hfrc, hcs, hv0, hv]
            refine EvP.region ?_
            simp [d1, d2, d3, d8]
            exact ⟨_, by omega, i + 1, rfl, by omega, _, hR', rfl, wrap_succ (by omega), e2' _, b1 _, b2 _, by omega⟩
          | own k2 =>
            simp [e1, e2, d1, d2, d3, d7, hfr, hfrl, hfrc, hcs, hv0, hv]
            refine EvP.region ?_
            simp [d1, d2, d3, d8]
            exact ⟨_, by omega, i + 1, rfl, by omega, _, hR', rfl, wrap_succ (by omega), e2' _, b1 _, b2 _, by omega⟩
        | own k' =>
          obtain ⟨v, hv, hvr⟩ := h1 devs[i] false false none rs[og].A 0 rs[og].cap l rs[og].l hx.at_ (hk64 _ (List.getElem_mem hlt)) hok.1 hok.2 hsok
          have hv := hv k (by omega)
          simp only [scV, scL, lentS, devV, List.length_map] at hv
          have hR' := fin v _ hsaid hvr
          cases hvr with
          | im pm2 A2 cap2 =>
            simp [e1, e2, d1, d2, d3, d7, hfr, hfrl, hfrc, hcs, hv0, hv]
            refine EvP.region ?_
            simp [d1, d2, d3, d8]
            exact ⟨_, by omega, i + 1, rfl, by omega, _, hR', rfl, wrap_succ (by omega), e2' _, b1 _, b2 _, by omega⟩
          | own k2 =>
            simp [e1, e2, d1, d2, d3, d7, hfr, hfrl, hfrc, hcs, hv0, hv]
            refine EvP.region ?_
            simp [d1, d2, d3, d8]
            exact ⟨_, by omega, i + 1, rfl, by omega, _, hR', rfl, wrap_succ (by omega), e2' _, b1 _, b2 _, by omega⟩
      · refine EvP.cond (t := false) (by simp [k3]) (fun h => by cases h) (fun _ => EvP.skip ?_)
        simp
        have hsaid : devs[i].kind = 3 → ([] : List Nat) = out[(devs[i].of_ - 1).toNat]?.getD [] := fun h => absurd (hx.echo h) k3
        have hsok : ∀ y ∈ ([] : List Nat), y < p := fun y hy => by cases hy
        have hnl : uL [] = [] := rfl
        refine EvP.draw ?_
        generalize hl : ls[fr] = l at *
        generalize hv0 : cs[fr] = v0 at *
        cases hvrow with
        | im pm' A' cap' =>
          obtain ⟨v, hv, hvr⟩ := h1 devs[i] false false A' none cap' 0 l [] hx.at_ (hk64 _ (List.getElem_mem hlt)) hok.1 hok.2 hsok
          have hv := hv k (by omega)
          simp only [scV, scL, lentS, devV, List.length_map, List.length_nil, hnl] at hv
          have hR' := fin v _ hsaid hvr
          cases hvr with
          | im pm2 A2 cap2 =>
            simp [e1, e2, d1, d2, d3, d7, hfr, hfrl, hfrc, hcs, hv0, hv]
            refine EvP.region ?_
            simp [d1, d2, d3, d8]
            exact ⟨_, by omega, i + 1, rfl, by omega, _, hR', rfl, wrap_succ (by omega), e2' _, b1 _, b2 _, by omega⟩
          | own k2 =>
            simp [e1, e2, d1, d2, d3, d7, hfr, hfrl, hfrc, hcs, hv0, hv]
            refine EvP.region ?_
            simp [d1, d2, d3, d8]
            exact ⟨_, by omega, i + 1, rfl, by omega, _, hR', rfl, wrap_succ (by omega), e2' _, b1 _, b2 _, by omega⟩
        | own k' =>
          obtain ⟨v, hv, hvr⟩ := h1 devs[i] false false none none 0 0 l [] hx.at_ (hk64 _ (List.getElem_mem hlt)) hok.1 hok.2 hsok
          have hv := hv k (by omega)
          simp only [scV, scL, lentS, devV, List.length_map, List.length_nil, hnl] at hv
          have hR' := fin v _ hsaid hvr
          cases hvr with
          | im pm2 A2 cap2 =>
            simp [e1, e2, d1, d2, d3, d7, hfr, hfrl, hfrc, hcs, hv0, hv]
            refine EvP.region ?_
            simp [d1, d2, d3, d8]
            exact ⟨_, by omega, i + 1, rfl, by omega, _, hR', rfl, wrap_succ (by omega), e2' _, b1 _, b2 _, by omega⟩
          | own k2 =>
            simp [e1, e2, d1, d2, d3, d7, hfr, hfrl, hfrc, hcs, hv0, hv]
            refine EvP.region ?_
            simp [d1, d2, d3, d8]
            exact ⟨_, by omega, i + 1, rfl, by omega, _, hR', rfl, wrap_succ (by omega), e2' _, b1 _, b2 _, by omega⟩
    · have hR' : Rows cs ((devs.take (i + 1)).foldl (stepB p corrupt rd out) out) := by rw [hstep, stepB, if_neg hb]; exact hR
      by_cases hr : devs[i].round = rd
      · have hb1 : (devs[i].round == rd) = true := by simp [hr]
        have hb2 : devs[i].from_ ∉ corrupt := fun h => hb ⟨hr, h⟩
        simp [d1, d3, e1, e2, c0i, hb1, hb2]
        refine EvP.cond (t := false) (by simp) (fun h => by cases h) (fun _ => EvP.skip ?_)
        simp
        refine EvP.region ?_
        simp [d1, d2, d3, d7, d8]
        exact ⟨_, by omega, i + 1, rfl, by omega, cs, hR', rfl, wrap_succ (by omega), e2' _, b1 _, b2 _, by omega⟩
      · have hb1 : (devs[i].round == rd) = false := by simp [hr]
        simp [d1, d3, e1, e2, c0i, hb1]
        refine EvP.cond (t := false) (by simp) (fun h => by cases h) (fun _ => EvP.skip ?_)
        simp
        refine EvP.region ?_
        simp [d1, d2, d3, d7, d8]
        exact ⟨_, by omega, i + 1, rfl, by omega, cs, hR', rfl, wrap_succ (by omega), e2' _, b1 _, b2 _, by omega⟩
  · have hlt : i = devs.length := by have : ¬ i < devs.length := by simpa using h
                                     omega
    subst hlt
    rw [List.take_length] at hR
    simp
    refine EvP.seq (EvP.region ?_)
    simp [d7]
    refine EvP.ret ?_
    simp [plainV, hR.ptrs]
    exact ⟨hR, fun a b h => g2 _ h⟩
end Go.Abs
end
