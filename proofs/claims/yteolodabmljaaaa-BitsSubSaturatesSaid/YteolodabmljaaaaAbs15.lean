/- Joined: AbsRI AbsRJ AbsRK. -/
import Derived.Test.YteolodabmljaaaaAbs14
set_option linter.all false
/- The seat of privitylaw02: laws. -/
set_option linter.unusedVariables false
noncomputable section
namespace Go.Abs
open Go Go.Proofs Go.Bits
set_option maxHeartbeats 4000000 in
set_option maxRecDepth 100000 in
theorem law3 (n : Nat) (w : Int) (hn : n < 18446744073709551616) : AnsN 2201 Try.prog H02 3 [.int .u64 (n : Int), .int .i64 w] (.bool true) := by
  refine AnsN.of (fn := Try.f3) (t := 4) (by rfl) Try.func3 rfl rfl (by rfl) (by rfl) fun k hk nx => ?_
  have c10 := awake10 k (by omega)
  have c11 := from11 n w hn k (by omega)
  have c12 := from12 n w hn k (by omega)
  have c14 := width14S n hn k (by omega)
  have c15 := width15 n hn k (by omega)
  by_cases hx : 1 ≤ w ∧ w ≤ 60 ∧ (widthS n : Int) ≤ w
  · obtain ⟨v, rfl⟩ : ∃ v : Nat, w = (v : Int) := ⟨w.toNat, by omega⟩
    have hf : fromV n v = .tup [.own .nil 0 v (uL (bitsOf n v)), .int .i64 0] := by unfold fromV; rw [if_pos hx]; simp
    rw [hf] at c11 c12
    have c13 := same13S false false none none 0 0 v (bitsOf n v) (by simp) (by omega) k (by omega)
    have hlt : n < 2 ^ v := ((widthS_ok hn).le_iff (by omega)).1 (by omega)
    have c16 := x16 (pm := false) (A := none) (cap := 0) (bitsOf_length n v) (by omega)
    rw [tuV_eq, numU_eq (by simp; omega) (bitsOf_bit _ _), num_self hlt, if_pos ⟨by simp; omega, bitsOf_bit _ _⟩] at c16
    simp [entryS, c10, c11, c12, c13, c14, c15, c16]
  · have hf : fromV n w = .tup [.own .nil 0 0 [], .int .i64 2] := if_neg hx
    rw [hf] at c11 c12
    have c13 := same13S false false none none 0 0 0 [] (by simp) (by omega) k (by omega)
    simp [uL] at c13
    simp [entryS, c10, c11, c12, c13, c14, c15]
set_option maxHeartbeats 4000000 in
set_option maxRecDepth 100000 in
theorem law4 (pm : Bool) (A : Option Addr) (cap : Nat) (b : List Nat) (hw : ∀ x ∈ b, x < 18446744073709551616) : AnsN 2201 Try.prog H02 4 [.im pm A cap b.length (uL b)] (.bool true) := by
  refine AnsN.of (fn := Try.f4) (t := 2) (by rfl) Try.func4 rfl rfl (by rfl) (by rfl) fun k hk nx => ?_
  have c10 := awake10 k (by omega)
  by_cases hl : 100 < b.length
  · have hl' : (100 : Int) < b.length := by omega
    simp [entryS, c10, hl, hl']
  have hl' : ¬ (100 : Int) < b.length := by omega
  have c16 := x16 (pm := false) (A := A) (cap := cap) (a := b) rfl (by omega)
  have c17 := tu17 false A cap b (by omega) k (by omega)
  by_cases hx : b.length ≤ 60 ∧ ∀ x ∈ b, x ≤ 1
  · rw [tuV_eq, if_pos hx, numU_eq hx.1 hx.2] at c16 c17
    by_cases h0 : b.length = 0
    · obtain rfl : b = [] := List.eq_nil_of_length_eq_zero h0
      simp at c16 c17
      simp [entryS, c10, c16, c17]
    · have hlt := num_lt hx.2
      have h60 : 2 ^ b.length ≤ 2 ^ 60 := Nat.pow_le_pow_right (by omega) hx.1
      have hnn : num b < 18446744073709551616 := by omega
      have hwid : widthS (num b) ≤ b.length := ((widthS_ok hnn).le_iff (by omega)).2 hlt
      have c11 := from11 (num b) (b.length : Int) hnn k (by omega)
      have hf : fromV (num b) (b.length : Int) = .tup [.own .nil 0 b.length (uL b), .int .i64 0] := by
        unfold fromV; rw [if_pos ⟨by omega, by omega, by omega⟩]; simp [bitsOf_back hx.2]
      rw [hf] at c11
      have c13 := same13S false false A none cap 0 b.length b rfl (by omega) k (by omega)
      generalize num b = nb at *
      simp [entryS, c10, hl, hl', c11, c13, c16, c17, h0]
  · rw [tuV_eq, if_neg hx] at c16 c17
    generalize numU b = nb at *
    simp [entryS, c10, hl, hl', c16, c17]
end Go.Abs
end
/- The seat of privitylaw02: laws. -/
set_option linter.unusedVariables false
noncomputable section
namespace Go.Abs
open Go Go.Proofs Go.Bits
set_option maxHeartbeats 4000000 in
set_option maxRecDepth 100000 in
theorem law5 (pm pm2 : Bool) (A A2 : Option Addr) (cap cap2 : Nat) (a b : List Nat) : AnsN 2201 Try.prog H02 5 [.im pm A cap a.length (uL a), .im pm2 A2 cap2 b.length (uL b)] (.bool true) := by
  refine AnsN.of (fn := Try.f5) (t := 4) (by rfl) Try.func5 rfl rfl (by rfl) (by rfl) fun k hk nx => ?_
  have c10 := awake10 k (by omega)
  have c18 := small18 false A cap a 100 (by omega) k (by omega)
  have c18b := small18 false A2 cap2 b 100 (by omega) k (by omega)
  by_cases ha : a.length ≤ 100 ∧ ∀ x ∈ a, x ≤ 1
  case neg => rw [decide_eq_false ha] at c18; simp at c18; simp [entryS, c10, c18]
  rw [decide_eq_true ha] at c18
  by_cases hb : b.length ≤ 100 ∧ ∀ x ∈ b, x ≤ 1
  case neg => rw [decide_eq_false hb] at c18b; simp at c18 c18b; simp [entryS, c10, c18, c18b]
  rw [decide_eq_true hb] at c18b
  obtain ⟨hal, Ba⟩ := ha
  obtain ⟨hbl, Bb⟩ := hb
  have c19 := x19 (pm := false) (pm2 := false) (A := A) (A2 := A2) (cap := cap) (cap2 := cap2) (rfl : a.length = _) (rfl : b.length = _) (by omega) (by omega) Ba Bb
  have c19b := x19 (pm := false) (pm2 := false) (A := A2) (A2 := A) (cap := cap2) (cap2 := cap) (rfl : b.length = _) (rfl : a.length = _) (by omega) (by omega) Bb Ba
  have c20 := add20 false false A A2 cap cap2 a b (by omega) (by omega) k (by omega)
  rw [addSpec_eq Ba Bb, bitsOf_length] at c20
  rw [Nat.max_comm, Nat.add_comm (num b)] at c19b
  have c13 := same13S false false none none 0 0 _ _ (bitsOf_length (num a + num b) (max a.length b.length + 1)) (by omega) k (by omega)
  have hnum := num_self (add_lt Ba Bb)
  have hl := bitsOf_length (num a + num b) (max a.length b.length + 1)
  have hB := bitsOf_bit (num a + num b) (max a.length b.length + 1)
  generalize bitsOf (num a + num b) (max a.length b.length + 1) = S at *
  simp at c18 c18b
  by_cases h1 : 50 < a.length
  · have h1' : (50 : Int) < a.length := by omega
    simp [entryS, c10, c18, c18b, c19, c19b, c20, c13, h1, h1']
  have h1' : ¬ (50 : Int) < a.length := by omega
  by_cases h2 : 50 < b.length
  · have h2' : (50 : Int) < b.length := by omega
    simp [entryS, c10, c18, c18b, c19, c19b, c20, c13, h1, h1', h2, h2']
  have h2' : ¬ (50 : Int) < b.length := by omega
  have c21 := number21S false none 0 _ S hl (by omega) hB k (by omega)
  have c21a := number21S false A cap _ a rfl (by omega) Ba k (by omega)
  have c21b := number21S false A2 cap2 _ b rfl (by omega) Bb k (by omega)
  have p1 := num_pow (m := 50) Ba (by omega)
  have p2 := num_pow (m := 50) Bb (by omega)
  have hwr : IntKind.u64.wrap ((num a : Int) + (num b : Int)) = (num a : Int) + (num b : Int) := wrapu (by omega) (by omega)
  rw [hnum] at c21
  simp [entryS, c10, c18, c18b, c19, c19b, c20, c13, h1, h1', h2, h2', c21, c21a, c21b, hwr]
end Go.Abs
end
/- The seat of privitylaw02: laws. -/
set_option linter.unusedVariables false
noncomputable section
namespace Go.Abs
open Go Go.Proofs Go.Bits
set_option maxHeartbeats 4000000 in
set_option maxRecDepth 100000 in
theorem law6 (pm pm2 : Bool) (A A2 : Option Addr) (cap cap2 : Nat) (a b : List Nat) : AnsN 2201 Try.prog H02 6 [.im pm A cap a.length (uL a), .im pm2 A2 cap2 b.length (uL b)] (.bool true) := by
  refine AnsN.of (fn := Try.f6) (t := 4) (by rfl) Try.func6 rfl rfl (by rfl) (by rfl) fun k hk nx => ?_
  have c10 := awake10 k (by omega)
  have c18 := small18 false A cap a 100 (by omega) k (by omega)
  have c18b := small18 false A2 cap2 b 100 (by omega) k (by omega)
  by_cases ha : a.length ≤ 100 ∧ ∀ x ∈ a, x ≤ 1
  case neg => rw [decide_eq_false ha] at c18; simp at c18; simp [entryS, c10, c18]
  rw [decide_eq_true ha] at c18
  by_cases hb : b.length ≤ 100 ∧ ∀ x ∈ b, x ≤ 1
  case neg => rw [decide_eq_false hb] at c18b; simp at c18 c18b; simp [entryS, c10, c18, c18b]
  rw [decide_eq_true hb] at c18b
  obtain ⟨hal, Ba⟩ := ha
  obtain ⟨hbl, Bb⟩ := hb
  have c22 := x22 (pm := false) (pm2 := false) (A := A) (A2 := A2) (cap := cap) (cap2 := cap2) (rfl : a.length = _) (rfl : b.length = _) (by omega) (by omega) Ba Bb
  have c23 := sub23 false false A A2 cap cap2 a b (by omega) (by omega) Ba Bb k (by omega)
  rw [subSpec_eq Ba Bb] at c23
  have c24 := x24 (pm := false) (pm2 := false) (A := A) (A2 := A2) (cap := cap) (cap2 := cap2) (rfl : a.length = _) (rfl : b.length = _) (by omega) (by omega) Ba Bb
  have c13 := same13S false false none none 0 0 _ _ (bitsOf_length (num a - num b) a.length) (by omega) k (by omega)
  have hal2 := num_lt Ba
  have hnum := num_self (n := num a - num b) (w := a.length) (by omega)
  have hl := bitsOf_length (num a - num b) a.length
  have hB := bitsOf_bit (num a - num b) a.length
  generalize bitsOf (num a - num b) a.length = S at *
  simp at c18 c18b
  by_cases hlt : num a < num b
  · rw [if_pos hlt] at c24
    have c25 := x25 (pm := false) (pm2 := false) (A := none) (A2 := none) (cap := 0) (cap2 := 0) hl (m := 0) (rfl : ([] : List Nat).length = 0) (by omega) (by omega) hB Bit.nil
    have hz : num S = num [] := by rw [hnum]; show _ = 0; omega
    rw [if_pos hz] at c25
    rw [show uL [] = ([] : List V) from rfl] at c25
    simp [entryS, c10, c18, c18b, c22, c23, c24, c13, c25]
  rw [if_neg hlt] at c24
  have c19 := x19 (pm := false) (pm2 := false) (A := none) (A2 := A2) (cap := 0) (cap2 := cap2) hl (rfl : b.length = _) (by omega) (by omega) hB Bb
  have hadd := add_lt hB Bb
  rw [hl] at hadd
  have hnum2 := num_self hadd
  have hl2 := bitsOf_length (num S + num b) (max a.length b.length + 1)
  have hB2 := bitsOf_bit (num S + num b) (max a.length b.length + 1)
  generalize bitsOf (num S + num b) (max a.length b.length + 1) = R at *
  have c25 := x25 (pm := false) (pm2 := false) (A := none) (A2 := A) (cap := 0) (cap2 := cap) hl2 (rfl : a.length = _) (by omega) (by omega) hB2 Ba
  rw [if_pos (by rw [hnum2, hnum]; omega)] at c25
  by_cases h1 : 50 < a.length
  · have h1' : (50 : Int) < a.length := by omega
    simp [entryS, c10, c18, c18b, c22, c23, c24, c13, c19, c25, h1, h1']
  have h1' : ¬ (50 : Int) < a.length := by omega
  by_cases h2 : 50 < b.length
  · have h2' : (50 : Int) < b.length := by omega
    simp [entryS, c10, c18, c18b, c22, c23, c24, c13, c19, c25, h1, h1', h2, h2']
  have h2' : ¬ (50 : Int) < b.length := by omega
  have c21 := number21S false none 0 _ S hl (by omega) hB k (by omega)
  have c21a := number21S false A cap _ a rfl (by omega) Ba k (by omega)
  have c21b := number21S false A2 cap2 _ b rfl (by omega) Bb k (by omega)
  have p1 := num_pow (m := 50) Ba (by omega)
  have hwr : IntKind.u64.wrap ((num a : Int) - (num b : Int)) = (num S : Int) := by rw [wrapu (by omega) (by omega)]; omega
  simp [entryS, c10, c18, c18b, c22, c23, c24, c13, c19, c25, h1, h1', h2, h2', c21, c21a, c21b, hwr]
end Go.Abs
end
