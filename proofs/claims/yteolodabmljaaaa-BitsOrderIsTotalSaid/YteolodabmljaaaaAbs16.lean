/- Joined: AbsRM AbsRN AbsRO. -/
import Derived.Test.YteolodabmljaaaaAbs15
set_option linter.all false
/- The seat of privitylaw02: laws. -/
set_option linter.unusedVariables false
noncomputable section
namespace Go.Abs
open Go Go.Proofs Go.Bits
set_option maxHeartbeats 4000000 in
set_option maxRecDepth 100000 in
theorem law7 (pm pm2 : Bool) (A A2 : Option Addr) (cap cap2 : Nat) (a b : List Nat) : AnsN 2201 Try.prog H02 7 [.im pm A cap a.length (uL a), .im pm2 A2 cap2 b.length (uL b)] (.bool true) := by
  refine AnsN.of (fn := Try.f7) (t := 4) (by rfl) Try.func7 rfl rfl (by rfl) (by rfl) fun k hk nx => ?_
  have c10 := awake10 k (by omega)
  have c18 := small18 false A cap a 100 (by omega) k (by omega)
  have c18b := small18 false A2 cap2 b 100 (by omega) k (by omega)
  by_cases ha : a.length ≤ 100 ∧ ∀ x ∈ a, x ≤ 1
  case neg => rw [decide_eq_false ha] at c18; simp at c18; simp [entryS, c10, c18]
  rw [decide_eq_true ha] at c18
  by_cases hb : b.length ≤ 100 ∧ ∀ x ∈ b, x ≤ 1
  case neg => rw [decide_eq_false hb] at c18b; simp at c18 c18b; simp [entryS, c10, c18, c18b]
  rw [decide_eq_true hb] at c18b
  obtain ⟨hal, Ba⟩ := ha
  obtain ⟨hbl, Bb⟩ := hb
  have c24 := x24 (pm := false) (pm2 := false) (A := A) (A2 := A2) (cap := cap) (cap2 := cap2) (rfl : a.length = _) (rfl : b.length = _) (by omega) (by omega) Ba Bb
  have c24b := x24 (pm := false) (pm2 := false) (A := A2) (A2 := A) (cap := cap2) (cap2 := cap) (rfl : b.length = _) (rfl : a.length = _) (by omega) (by omega) Bb Ba
  have c25 := x25 (pm := false) (pm2 := false) (A := A) (A2 := A2) (cap := cap) (cap2 := cap2) (rfl : a.length = _) (rfl : b.length = _) (by omega) (by omega) Ba Bb
  have c26 := less26 false false A A2 cap cap2 a b (by omega) (by omega) k (by omega)
  have c26b := less26 false false A2 A cap2 cap b a (by omega) (by omega) k (by omega)
  have c27 := equal27 false false A A2 cap cap2 a b (by omega) (by omega) k (by omega)
  have e1 : lessL (prs a b (max a.length b.length)) = _ := lessSpec_eq Ba Bb
  have e2 : lessL (prs b a (max b.length a.length)) = _ := lessSpec_eq Bb Ba
  have e3 : eqL (prs a b (max a.length b.length)) = _ := eqSpec_eq Ba Bb
  rw [e1] at c26
  rw [e2] at c26b
  rw [e3] at c27
  simp at c18 c18b
  have w01 : IntKind.u64.wrap 1 = 1 := rfl
  have w00 : IntKind.u64.wrap 0 = 0 := rfl
  have w2 : IntKind.u64.wrap (0 + 1) = 1 := rfl
  have w3 : IntKind.u64.wrap (1 + 0) = 1 := rfl
  rcases Nat.lt_trichotomy (num a) (num b) with h | h | h
  · have q1 : ¬ num b < num a := by omega
    have q2 : ¬ num a = num b := by omega
    simp only [h, q1, q2, if_true, if_false] at c24 c24b c25 c26 c26b c27
    simp [entryS, c10, c18, c18b, c24, c24b, c25, c26, c26b, c27, w01, w00, w2, w3]
  · have q1 : ¬ num b < num a := by omega
    have q2 : ¬ num a < num b := by omega
    rw [if_neg q2] at c24 c26
    rw [if_neg q1] at c24b c26b
    rw [if_pos h] at c25 c27
    simp [entryS, c10, c18, c18b, c24, c24b, c25, c26, c26b, c27, w01, w00, w2, w3]
  · have q1 : ¬ num a < num b := by omega
    have q2 : ¬ num a = num b := by omega
    simp only [h, q1, q2, if_true, if_false] at c24 c24b c25 c26 c26b c27
    simp [entryS, c10, c18, c18b, c24, c24b, c25, c26, c26b, c27, w01, w00, w2, w3]
end Go.Abs
end
/- The seat of privitylaw02: laws. -/
set_option linter.unusedVariables false
noncomputable section
namespace Go.Abs
open Go Go.Proofs Go.Bits
set_option maxHeartbeats 4000000 in
set_option maxRecDepth 100000 in
theorem law8 (pm pm2 : Bool) (A A2 : Option Addr) (cap cap2 : Nat) (a b : List Nat) : AnsN 2201 Try.prog H02 8 [.im pm A cap a.length (uL a), .im pm2 A2 cap2 b.length (uL b)] (.bool true) := by
  refine AnsN.of (fn := Try.f8) (t := 4) (by rfl) Try.func8 rfl rfl (by rfl) (by rfl) fun k hk nx => ?_
  have c10 := awake10 k (by omega)
  have c18 := small18 false A cap a 60 (by omega) k (by omega)
  have c18b := small18 false A2 cap2 b 60 (by omega) k (by omega)
  by_cases ha : a.length ≤ 60 ∧ ∀ x ∈ a, x ≤ 1
  case neg => rw [decide_eq_false ha] at c18; simp at c18; simp [entryS, c10, c18]
  rw [decide_eq_true ha] at c18
  by_cases hb : b.length ≤ 60 ∧ ∀ x ∈ b, x ≤ 1
  case neg => rw [decide_eq_false hb] at c18b; simp at c18 c18b; simp [entryS, c10, c18, c18b]
  rw [decide_eq_true hb] at c18b
  obtain ⟨hal, Ba⟩ := ha
  obtain ⟨hbl, Bb⟩ := hb
  have c28 := mul28 false false A A2 cap cap2 a b (by omega) (by omega) Ba Bb k (by omega)
  have c28b := mul28 false false A2 A cap2 cap b a (by omega) (by omega) Bb Ba k (by omega)
  have c29 := mul29 false false A A2 cap cap2 a b (by omega) (by omega) Ba Bb k (by omega)
  rw [Nat.add_comm b.length, Nat.mul_comm (num b)] at c28b
  have c13 := same13S false false none none 0 0 _ _ (bitsOf_length (num a * num b) (a.length + b.length)) (by omega) k (by omega)
  have hnum := num_self (mul_lt Ba Bb)
  have hl := bitsOf_length (num a * num b) (a.length + b.length)
  have hB := bitsOf_bit (num a * num b) (a.length + b.length)
  generalize bitsOf (num a * num b) (a.length + b.length) = S at *
  simp at c18 c18b
  by_cases h1 : 25 < a.length
  · have h1' : (25 : Int) < a.length := by omega
    simp [entryS, c10, c18, c18b, c28, c28b, c29, c13, h1, h1']
  have h1' : ¬ (25 : Int) < a.length := by omega
  by_cases h2 : 25 < b.length
  · have h2' : (25 : Int) < b.length := by omega
    simp [entryS, c10, c18, c18b, c28, c28b, c29, c13, h1, h1', h2, h2']
  have h2' : ¬ (25 : Int) < b.length := by omega
  have c21 := number21S false none 0 _ S hl (by omega) hB k (by omega)
  have c21a := number21S false A cap _ a rfl (by omega) Ba k (by omega)
  have c21b := number21S false A2 cap2 _ b rfl (by omega) Bb k (by omega)
  have p1 := num_pow (m := 50) hB (by omega)
  rw [hnum] at c21 p1
  have hc : (num a : Int) * (num b : Int) = ((num a * num b : Nat) : Int) := by simp
  have hwr : IntKind.u64.wrap ((num a : Int) * (num b : Int)) = (num a : Int) * (num b : Int) := wrapu (by omega) (by omega)
  simp [entryS, c10, c18, c18b, c28, c28b, c29, c13, h1, h1', h2, h2', c21, c21a, c21b, hwr]
end Go.Abs
end
/- The seat of privitylaw02: laws. -/
set_option linter.unusedVariables false
noncomputable section
namespace Go.Abs
open Go Go.Proofs Go.Bits
set_option maxHeartbeats 4000000 in
set_option maxRecDepth 100000 in
theorem law9 (pm pm2 pm3 : Bool) (A A2 A3 : Option Addr) (cap cap2 cap3 : Nat) (a b c : List Nat) : AnsN 2201 Try.prog H02 9 [.im pm A cap a.length (uL a), .im pm2 A2 cap2 b.length (uL b), .im pm3 A3 cap3 c.length (uL c)] (.bool true) := by
  refine AnsN.of (fn := Try.f9) (t := 6) (by rfl) Try.func9 rfl rfl (by rfl) (by rfl) fun k hk nx => ?_
  have c10 := awake10 k (by omega)
  have c18 := small18 false A cap a 20 (by omega) k (by omega)
  have c18b := small18 false A2 cap2 b 20 (by omega) k (by omega)
  have c18c := small18 false A3 cap3 c 20 (by omega) k (by omega)
  by_cases ha : a.length ≤ 20 ∧ ∀ x ∈ a, x ≤ 1
  case neg => rw [decide_eq_false ha] at c18; simp at c18; simp [entryS, c10, c18]
  rw [decide_eq_true ha] at c18
  by_cases hb : b.length ≤ 20 ∧ ∀ x ∈ b, x ≤ 1
  case neg => rw [decide_eq_false hb] at c18b; simp at c18 c18b; simp [entryS, c10, c18, c18b]
  rw [decide_eq_true hb] at c18b
  by_cases hc : c.length ≤ 20 ∧ ∀ x ∈ c, x ≤ 1
  case neg => rw [decide_eq_false hc] at c18c; simp at c18 c18b c18c; simp [entryS, c10, c18, c18b, c18c]
  rw [decide_eq_true hc] at c18c
  obtain ⟨hal, Ba⟩ := ha
  obtain ⟨hbl, Bb⟩ := hb
  obtain ⟨hcl, Bc⟩ := hc
  have c19 := x19 (pm := false) (pm2 := false) (A := A2) (A2 := A3) (cap := cap2) (cap2 := cap3) (rfl : b.length = _) (rfl : c.length = _) (by omega) (by omega) Bb Bc
  have hn1 := num_self (add_lt Bb Bc)
  have hl1 := bitsOf_length (num b + num c) (max b.length c.length + 1)
  have hB1 := bitsOf_bit (num b + num c) (max b.length c.length + 1)
  generalize bitsOf (num b + num c) (max b.length c.length + 1) = S at *
  have c28 := mul28 false false A none cap 0 a S (by omega) (by omega) Ba hB1 k (by omega)
  have c28b := mul28 false false A A2 cap cap2 a b (by omega) (by omega) Ba Bb k (by omega)
  have c28c := mul28 false false A A3 cap cap3 a c (by omega) (by omega) Ba Bc k (by omega)
  have hn2 := num_self (mul_lt Ba hB1)
  have hl2 := bitsOf_length (num a * num S) (a.length + S.length)
  have hB2 := bitsOf_bit (num a * num S) (a.length + S.length)
  have hn3 := num_self (mul_lt Ba Bb)
  have hl3 := bitsOf_length (num a * num b) (a.length + b.length)
  have hB3 := bitsOf_bit (num a * num b) (a.length + b.length)
  have hn4 := num_self (mul_lt Ba Bc)
  have hl4 := bitsOf_length (num a * num c) (a.length + c.length)
  have hB4 := bitsOf_bit (num a * num c) (a.length + c.length)
  generalize bitsOf (num a * num S) (a.length + S.length) = R at *
  generalize bitsOf (num a * num b) (a.length + b.length) = T at *
  generalize bitsOf (num a * num c) (a.length + c.length) = U at *
  have c19b := x19 (pm := false) (pm2 := false) (A := none) (A2 := none) (cap := 0) (cap2 := 0) hl3 hl4 (by omega) (by omega) hB3 hB4
  have had := add_lt hB3 hB4
  rw [hl3, hl4] at had
  have hn5 := num_self had
  have hl5 := bitsOf_length (num T + num U) (max (a.length + b.length) (a.length + c.length) + 1)
  have hB5 := bitsOf_bit (num T + num U) (max (a.length + b.length) (a.length + c.length) + 1)
  generalize bitsOf (num T + num U) (max (a.length + b.length) (a.length + c.length) + 1) = Z at *
  have c25 := x25 (pm := false) (pm2 := false) (A := none) (A2 := none) (cap := 0) (cap2 := 0) hl2 hl5 (by omega) (by omega) hB2 hB5
  rw [if_pos (by rw [hn2, hn5, hn3, hn4, hn1, Nat.mul_add])] at c25
  rw [hl1] at c28 c25
  simp only [Nat.add_max_add_left] at c19b c25
  simp at c18 c18b c18c
  simp [entryS, c10, c18, c18b, c18c, c19, c28, c28b, c28c, c19b, c25]
end Go.Abs
end
