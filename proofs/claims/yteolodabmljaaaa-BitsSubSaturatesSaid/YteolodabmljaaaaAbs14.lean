/- Joined: AbsRG AbsRH. -/
import Derived.Test.YteolodabmljaaaaAbs13
set_option linter.all false
/- The seat of privitylaw02: Mul of the reference; awake. -/
set_option linter.unusedVariables false
noncomputable section
namespace Go.Abs
open Go Go.Proofs Go.Bits
set_option maxHeartbeats 4000000 in
set_option maxRecDepth 100000 in
/-- Mul(a, b), the reference -/
theorem mul29 (pm pm2 : Bool) (A A2 : Option Addr) (cap cap2 : Nat) (a b : List Nat) (ha : a.length ≤ 500) (hb : b.length ≤ 500) (Ba : Bit a) (Bb : Bit b) : AnsN 2001 Try.prog H02 29 [.im pm A cap a.length (uL a), .im pm2 A2 cap2 b.length (uL b)] (.own .nil 0 (a.length + b.length) (uL (bitsOf (num a * num b) (a.length + b.length)))) := by
  rw [Nat.add_comm a.length, Nat.mul_comm (num a)]
  refine AnsN.of (fn := Try.f29) (t := 4) (by rfl) Try.func29 rfl rfl (by rfl) (by simp [plainV]) fun k hk nx => ?_
  obtain ⟨I, hI⟩ : ∃ I : Nat → St → Prop, I = fun q D => ∃ (i : Nat) (o : List Nat), q = b.length - i ∧ i ≤ b.length ∧ Bit o ∧ o.length = b.length + a.length ∧ num o = up (at_ b) i * num a ∧ D.s 0 = .im pm A cap a.length (uL a) ∧ D.s 1 = .im pm2 A2 cap2 b.length (uL b) ∧ D.s 6 = .int .i64 (i : Int) ∧ D.s 5 = .own .nil 0 (b.length + a.length) (uL o) ∧ D.m = [] := ⟨_, rfl⟩
  have w0 : IntKind.i64.wrap ((a.length : Int) + (b.length : Int)) = ((a.length + b.length : Nat) : Int) := by rw [wrap_nat (by omega) (by omega)]; omega
  have b0 : ((a.length : Int) + (b.length : Int)) ≤ 140737488355328 := by omega
  have b1 : ((a.length : Int) + (b.length : Int)) * 8 ≤ 140737488355328 := by omega
  have b00 : 0 ≤ ((a.length : Int) + (b.length : Int)) := by omega
  have tn : ((a.length : Int) + (b.length : Int)).toNat = b.length + a.length := by omega
  have z0 : ¬ (((a.length : Int) + (b.length : Int)) = 0 ∧ 0 < ((a.length : Int) + (b.length : Int))) := by omega
  simp [entryS, w0, b0, b1, b00, tn, z0, rep_zero]
  refine EvP.loop I (n := b.length) (by rw [hI]; exact ⟨0, List.replicate (b.length + a.length) 0, by simp [bit_zeros, num_zeros, up]⟩) (by omega) fun q D hD => ?_
  rw [hI] at hD
  obtain ⟨i, o, rfl, hi, hbo, hlo, hno, d0, d1, d6, d5, dm⟩ := hD
  by_cases hlt : i < b.length
  · have e3 := wrap_succ (q := i) (by omega)
    have hu := at_get hlt
    have fin : ∀ (o' : List Nat) (D1 : St), Bit o' → o'.length = b.length + a.length → num o' = up (at_ b) (i + 1) * num a → D1.s 0 = .im pm A cap a.length (uL a) → D1.s 1 = .im pm2 A2 cap2 b.length (uL b) → D1.s 6 = .int .i64 ((i : Int) + 1) → D1.s 5 = .own .nil 0 (b.length + a.length) (uL o') → D1.m = [] → ∃ n', n' < b.length - i ∧ I n' D1 := by
      intro o' D1 h1 h2 h3 h4 h5 h8 h9 hm
      subst hI
      exact ⟨b.length - (i + 1), by omega, i + 1, o', rfl, by omega, h1, h2, h3, h4, h5, by rw [h8]; simp, h9, hm⟩
    have hx01 := Bb.at_ i
    by_cases hx : at_ b i = 0
    · simp [d0, d1, d6, d5, hlt, hu, hx, e3]
      exact fin o _ hbo hlo (mul_skip hx hno) (by simp [d0]) (by simp [d1]) (by simp) (by simp [d5]) dm
    · have hx1 : at_ b i = 1 := by omega
      obtain ⟨J, hJ⟩ : ∃ J : Nat → St → Prop, J = fun q D => ∃ (j c : Nat) (o' : List Nat), q = b.length + a.length - (i + j) ∧ i + j ≤ b.length + a.length ∧ Row a o o' (b.length + a.length) i (i + j) c ∧ D.s 0 = .im pm A cap a.length (uL a) ∧ D.s 1 = .im pm2 A2 cap2 b.length (uL b) ∧ D.s 6 = .int .i64 (i : Int) ∧ D.s 7 = .int .u64 (c : Int) ∧ D.s 8 = .int .i64 (j : Int) ∧ D.s 5 = .own .nil 0 (b.length + a.length) (uL o') ∧ D.m = [] := ⟨_, rfl⟩
      simp [d0, d1, d6, d5, hlt, hu, hx1]
      refine EvP.loop J (n := b.length + a.length - i) (by rw [hJ]; exact ⟨0, 0, o, by omega, by omega, Row.start hbo hlo, by simp [d0, d1, d6, d5, dm]⟩) (by omega) fun q D hD => ?_
      rw [hJ] at hD
      obtain ⟨j, c, o', rfl, hj, hR, d0, d1, d6, d7, d8, d5, dm⟩ := hD
      have e4 : IntKind.i64.wrap ((i : Int) + (j : Int)) = ((i : Int) + (j : Int)) := wrap_nat (by omega) (by omega)
      have tj : ((i : Int) + (j : Int)).toNat = i + j := by omega
      by_cases hjl : i + j < b.length + a.length
      · have hjl' : (i : Int) + (j : Int) < (b.length : Int) + (a.length : Int) := by omega
        have hj0 : 0 ≤ (i : Int) + (j : Int) := by omega
        have hjo : i + j < o'.length := by rw [hR.len]; exact hjl
        have e5 := wrap_succ (q := j) (by omega)
        have hlo' := hR.len
        have hg := at_get hjo
        have c1 := hR.car
        have c2 := hR.bit.at_ (i + j)
        have c3 := Ba.at_ j
        have c4 := bit34 false A cap a j k (by omega)
        have hN := hR.step Ba hbo (by omega) hjl
        rw [Nat.add_sub_cancel_left] at hN
        obtain ⟨s, hs⟩ : ∃ s, s = at_ o' (i + j) + at_ a j + c := ⟨_, rfl⟩
        have w1 : IntKind.u64.wrap (((at_ o' (i + j) : Nat) : Int) + ((at_ a j : Nat) : Int)) = ((at_ o' (i + j) + at_ a j : Nat) : Int) := by rw [wrapu (by omega) (by omega)]; omega
        have w2 : IntKind.u64.wrap (((at_ o' (i + j) : Nat) : Int) + ((at_ a j : Nat) : Int) + (c : Int)) = (s : Int) := by rw [wrapu (by omega) (by omega)]; omega
        have s1 := int_rem2 (a := s)
        have s2 := int_quo2 (a := s) (by omega)
        have us := uL_set o' (i + j) (s % 2)
        rw [← hs] at hN
        generalize hsm : s % 2 = sm at s1 us hN
        generalize hsd : s / 2 = sd at s2 hN
        have hfin : b.length + a.length - (i + (j + 1)) < b.length + a.length - (i + j) := by omega
        generalize at_ o' (i + j) = x at *
        generalize at_ a j = y at *
        simp [d0, d1, d6, d7, d8, d5, hjl', hjl, hj0, hjo, hlo', e4, e5, tj, hg, c4, w1, w2, s1, s2, us, dm]
        subst hJ
        exact ⟨b.length + a.length - (i + (j + 1)), hfin, j + 1, sd, _, rfl, by omega, by rw [← Nat.add_assoc]; exact hN, by simp [d0], by simp [d1], by simp [d6], by simp, by simp, by simp [us], rfl⟩
      · have hje : i + j = b.length + a.length := by omega
        have hjl' : ¬ (i : Int) + (j : Int) < (b.length : Int) + (a.length : Int) := by omega
        rw [hje] at hR
        simp [d0, d1, d6, d7, d8, d5, hjl', hR.len, e3, e4]
        subst hI
        exact ⟨b.length - (i + 1), by omega, i + 1, o', rfl, by omega, hR.bit, hR.len, hR.fin Bb Ba hlt hlo hx1 hno, by simp [d0], by simp [d1], by simp, by simp [d5], dm⟩
  · have hia : i = b.length := by omega
    subst hia
    have : o = bitsOf (num b * num a) (b.length + a.length) := mul_done hbo hlo hno
    simp [d0, d1, d6, d5, dm, this]
theorem awF1 : fromV 6 4 = .tup [.own .nil 0 4 [.int .u64 0, .int .u64 1, .int .u64 1, .int .u64 0], .int .i64 0] := by kernel_rfl
theorem awF2 : fromV 6 2 = .tup [.own .nil 0 0 [], .int .i64 2] := by kernel_rfl
theorem awW0 : widthS 0 = 1 := by decide +kernel
theorem awW6 : widthS 6 = 3 := by decide +kernel
theorem awT1 : tuV [0, 1, 1, 0] = .tup [.int .u64 6, .int .i64 0] := by kernel_rfl
theorem awT2 : tuV [2] = .tup [.int .u64 0, .int .i64 7] := by kernel_rfl
theorem awA : addSpec [1] [1, 1] = [0, 0, 1] := by decide +kernel
theorem awS : subSpec [0, 1] [1, 1] = [0, 0] := by decide +kernel
set_option maxHeartbeats 4000000 in
set_option maxRecDepth 100000 in
theorem awake10 : AnsN 1102 Try.prog H02 10 [] (.bool true) := by
  refine AnsN.of (fn := Try.f10) (t := 0) (by rfl) Try.func10 rfl rfl (by rfl) (by rfl) fun k hk nx => ?_
  have c1 := from11 6 4 (by omega) k (by omega)
  have c2 := from11 6 2 (by omega) k (by omega)
  have c3 := width14S 0 (by omega) k (by omega)
  have c4 := width14S 6 (by omega) k (by omega)
  have c5 := same13 false false none none 0 0 [0, 1, 1, 0] [0, 1, 1, 0] (by simp) k (by omega)
  have c6 := same13 false false none none 0 0 [0, 0, 1] [0, 0, 1] (by simp) k (by omega)
  have c7 := same13 false false none none 0 0 [0, 0] [0, 0] (by simp) k (by omega)
  rw [awF1] at c1
  rw [awF2] at c2
  rw [awW0] at c3
  rw [awW6] at c4
  simp [uL] at c1 c2 c3 c4 c5 c6 c7
  simp [entryS, X02, c1, c2, c3, c4, c5, c6, c7, wordsOf, awT1, awT2, awA, awS, wd, uL]
end Go.Abs
end
/- The seat of privitylaw02: the contracts as equations. -/
set_option linter.unusedVariables false
noncomputable section
namespace Go.Bits
theorem numU_eq {l : List Nat} (hl : l.length ≤ 60) (hb : Bit l) : Abs.numU l = num l := if_pos ⟨hl, hb⟩
theorem num_pow {l : List Nat} {m : Nat} (hb : Bit l) (hl : l.length ≤ m) : num l < 2 ^ m := Nat.lt_of_lt_of_le (num_lt hb) (Nat.pow_le_pow_right (by omega) hl)
theorem num_self {n w : Nat} (h : n < 2 ^ w) : num (bitsOf n w) = n := by rw [bitsOf_num, Nat.mod_eq_of_lt h]
theorem add_lt {a b : List Nat} (Ba : Bit a) (Bb : Bit b) : num a + num b < 2 ^ (max a.length b.length + 1) := by
  have h1 := num_pow (m := max a.length b.length) Ba (by omega)
  have h2 := num_pow (m := max a.length b.length) Bb (by omega)
  rw [Nat.pow_succ]; omega
theorem mul_lt {a b : List Nat} (Ba : Bit a) (Bb : Bit b) : num a * num b < 2 ^ (a.length + b.length) := by
  rw [Nat.pow_add]
  exact Nat.mul_lt_mul_of_lt_of_le (num_lt Ba) (Nat.le_of_lt (num_lt Bb)) (Nat.pos_of_ne_zero (by simp))
theorem bitsOf_back {l : List Nat} (hb : Bit l) : bitsOf (num l) l.length = l := (eq_bitsOf hb rfl rfl).symm
end Go.Bits
namespace Go.Abs
open Go Go.Proofs Go.Bits

section
variable {pm pm2 : Bool} {A A2 : Option Addr} {cap cap2 n m : Nat} {a b : List Nat}
theorem x16 (hn : a.length = n) (hl : n ≤ 1000) : X02 16 [.im pm A cap n (uL a)] = some (tuV a) := by
  subst hn; simp [X02, hl]
theorem x19 (hn : a.length = n) (hm : b.length = m) (hl : n ≤ 1000) (hl2 : m ≤ 1000) (Ba : Bit a) (Bb : Bit b) : X02 19 [.im pm A cap n (uL a), .im pm2 A2 cap2 m (uL b)] = some (.own .nil 0 (max n m + 1) (uL (bitsOf (num a + num b) (max n m + 1)))) := by
  subst hn hm; simp [X02, hl, hl2, addSpec_eq Ba Bb]
theorem x22 (hn : a.length = n) (hm : b.length = m) (hl : n ≤ 1000) (hl2 : m ≤ 1000) (Ba : Bit a) (Bb : Bit b) : X02 22 [.im pm A cap n (uL a), .im pm2 A2 cap2 m (uL b)] = some (.own .nil 0 n (uL (bitsOf (num a - num b) n))) := by
  subst hn hm; simp [X02, hl, hl2, subSpec_eq Ba Bb]
theorem x24 (hn : a.length = n) (hm : b.length = m) (hl : n ≤ 1000) (hl2 : m ≤ 1000) (Ba : Bit a) (Bb : Bit b) : X02 24 [.im pm A cap n (uL a), .im pm2 A2 cap2 m (uL b)] = some (.int .u64 (if num a < num b then 1 else 0)) := by
  subst hn hm
  have := lessSpec_eq Ba Bb
  unfold X02 im2
  simp only [wordsOf_uL, -Nat.reduceEqDiff]
  rw [if_neg (by decide), if_neg (by decide), if_neg (by decide), if_pos trivial, if_pos ⟨trivial, hl, trivial, hl2⟩, this]
  split <;> rfl
theorem x25 (hn : a.length = n) (hm : b.length = m) (hl : n ≤ 1000) (hl2 : m ≤ 1000) (Ba : Bit a) (Bb : Bit b) : X02 25 [.im pm A cap n (uL a), .im pm2 A2 cap2 m (uL b)] = some (.int .u64 (if num a = num b then 1 else 0)) := by
  subst hn hm
  have := eqSpec_eq Ba Bb
  unfold X02 im2
  simp only [wordsOf_uL, -Nat.reduceEqDiff]
  rw [if_neg (by decide), if_neg (by decide), if_neg (by decide), if_neg (by decide), if_pos trivial, if_pos ⟨trivial, hl, trivial, hl2⟩, this]
  split <;> rfl
end
theorem same13S (pm pm2 : Bool) (A A2 : Option Addr) (cap cap2 n : Nat) (a : List Nat) (hn : a.length = n) (ha : n ≤ 1000) : AnsN 1101 Try.prog H02 13 [.im pm A cap n (uL a), .im pm2 A2 cap2 n (uL a)] (.bool true) := by
  subst hn
  have := same13 pm pm2 A A2 cap cap2 a a ha
  simpa using this
theorem number21S (pm : Bool) (A : Option Addr) (cap n : Nat) (l : List Nat) (hn : l.length = n) (hl : n ≤ 60) (hb : Bit l) : AnsN 1103 Try.prog H02 21 [.im pm A cap n (uL l)] (.int .u64 ((num l : Nat) : Int)) := by
  subst hn
  have := number21 pm A cap l (by omega)
  rwa [numU_eq hl hb] at this
end Go.Abs
end
