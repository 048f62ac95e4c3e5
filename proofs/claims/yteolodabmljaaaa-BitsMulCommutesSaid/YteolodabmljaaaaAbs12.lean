/- Joined: AbsRC AbsRD. -/
import Derived.Test.YteolodabmljaaaaAbs11
import Derived.Lib.ItoaNum
set_option linter.all false
/- The seat of privitylaw02: the functions with a loop, first part. -/
set_option linter.unusedVariables false
noncomputable section
namespace Go.Abs
open Go Go.Proofs Go.Bits

def widthS (n : Nat) : Nat := max (Lib.bitLen n) 1
theorem widthS_ok {n : Nat} (hn : n < 18446744073709551616) : IsWidth n (widthS n) := by
  unfold widthS
  by_cases h0 : n = 0
  · subst h0
    have : Lib.bitLen 0 = 0 := Lib.bitLenAux_zero 64
    rw [this]
    exact ⟨by omega, by decide, .inl rfl⟩
  · obtain ⟨h1, h2, h3⟩ := Lib.bitLenAux_bounds 64 n (by omega) h0
    have e : max (Lib.bitLen n) 1 = Lib.bitLenAux 64 n := by unfold Lib.bitLen; omega
    rw [e]
    exact ⟨h1, h3, .inr h2⟩
set_option maxHeartbeats 1000000 in
set_option maxRecDepth 100000 in
/-- Width(n), the reference -/
theorem width15 (n : Nat) (hn : n < 18446744073709551616) : AnsN 101 Try.prog H02 15 [.int .u64 (n : Int)] (.int .i64 (widthS n : Nat)) := by
  refine AnsN.of (fn := Try.f15) (t := 2) (by rfl) Try.func15 rfl rfl (by rfl) (by rfl) fun k hk nx => ?_
  obtain ⟨I, hI⟩ : ∃ I : Nat → St → Prop, I = fun q D => ∃ m w : Nat, q = 65 - w ∧ 1 ≤ w ∧ w ≤ 64 ∧ n / 2 ^ (w - 1) = m ∧ (w = 1 ∨ 1 ≤ m) ∧ D.s 0 = .int .u64 (m : Int) ∧ D.s 3 = .int .i64 (w : Int) ∧ D.m = [] := ⟨_, rfl⟩
  simp [entryS]
  refine EvP.loop I (n := 64) (by rw [hI]; exact ⟨n, 1, by simp⟩) (by omega) fun q D hD => ?_
  rw [hI] at hD
  obtain ⟨m, w, rfl, h1, h2, h3, h4, d0, d3, dm⟩ := hD
  have hp : 2 ^ w = 2 * 2 ^ (w - 1) := by
    obtain ⟨v, rfl⟩ : ∃ v, w = v + 1 := ⟨w - 1, by omega⟩
    simp [Nat.pow_succ]; omega
  have hpos : 0 < 2 ^ (w - 1) := Nat.pos_of_ne_zero (by simp)
  by_cases hm : 1 < m
  · have hm' : (1 : Int) < m := by omega
    have hml : m ≤ n := by rw [← h3]; exact Nat.div_le_self _ _
    have hw64 : w < 64 := by
      rcases Nat.lt_or_ge w 64 with h | h
      · exact h
      · have : w = 64 := by omega
        subst this
        have : n / 2 ^ 63 ≤ 1 := by omega
        omega
    have e1 := int_quo2 (a := m) (by omega)
    have e2 := wrap_succ (q := w) (by omega)
    simp [d0, d3, hm, hm', e1, e2]
    subst hI
    refine ⟨64 - w, by omega, m / 2, w + 1, by omega, by omega, by omega, ?_, by omega, rfl, rfl, dm⟩
    rw [← h3, Nat.div_div_eq_div_mul, Nat.add_sub_cancel, hp, Nat.mul_comm]
  · have hm' : ¬ (1 : Int) < m := by omega
    simp [d0, d3, hm, hm', dm]
    refine congrArg Nat.cast ((widthS_ok hn).unique ?_).symm
    refine ⟨h1, ?_, ?_⟩
    · rw [hp]
      have : n < (m + 1) * 2 ^ (w - 1) := by
        rw [← h3, Nat.mul_comm]; exact Nat.lt_mul_div_succ n hpos
      have : (m + 1) * 2 ^ (w - 1) ≤ 2 * 2 ^ (w - 1) := Nat.mul_le_mul_right _ (by omega)
      omega
    · rcases h4 with h4 | h4
      · exact .inl h4
      · right
        have := (Nat.le_div_iff_mul_le hpos (x := 1) (y := n)).1 (by omega)
        omega
theorem width14S (n : Nat) (hn : n < 18446744073709551616) : AnsN 1 Try.prog H02 14 [.int .u64 (n : Int)] (.int .i64 (widthS n : Nat)) := width14 n hn
/-- The answer of FromUint. -/
def fromV (n : Nat) (w : Int) : V := if 1 ≤ w ∧ w ≤ 60 ∧ (widthS n : Int) ≤ w then .tup [.own .nil 0 w.toNat (uL (bitsOf n w.toNat)), .int .i64 0] else .tup [.own .nil 0 0 [], .int .i64 2]
theorem ptrs_fromV (n : Nat) (w : Int) : ptrs (fromV n w) = [] := by unfold fromV; split <;> simp
theorem uL_bits_succ (n i : Nat) : uL (bitsOf n i) ++ [V.int .u64 ((n / 2 ^ i % 2 : Nat) : Int)] = uL (bitsOf n (i + 1)) := by rw [bitsOf_succ, uL_append]; rfl
set_option maxHeartbeats 1000000 in
set_option maxRecDepth 100000 in
/-- FromUint(n, w) -/
theorem from11 (n : Nat) (w : Int) (hn : n < 18446744073709551616) : AnsN 101 Try.prog H02 11 [.int .u64 (n : Int), .int .i64 w] (fromV n w) := by
  refine AnsN.gen (fn := Try.f11) (by rfl) Try.func11 rfl (by rfl) (ptrs_fromV n w) fun k hk nx => ?_
  have c0 := width14S n hn k (by omega)
  by_cases h1 : w < 1
  · have hx : ¬ (1 ≤ w ∧ w ≤ 60 ∧ (widthS n : Int) ≤ w) := by omega
    have hf : fromV n w = .tup [.own .nil 0 0 [], .int .i64 2] := if_neg hx
    simp [entryS, h1, hf]
  by_cases h2 : 60 < w
  · have hx : ¬ (1 ≤ w ∧ w ≤ 60 ∧ (widthS n : Int) ≤ w) := by omega
    have hf : fromV n w = .tup [.own .nil 0 0 [], .int .i64 2] := if_neg hx
    simp [entryS, h1, h2, hf]
  by_cases h3 : w < (widthS n : Int)
  · have hx : ¬ (1 ≤ w ∧ w ≤ 60 ∧ (widthS n : Int) ≤ w) := by omega
    have hf : fromV n w = .tup [.own .nil 0 0 [], .int .i64 2] := if_neg hx
    simp [entryS, h1, h2, h3, c0, hf]
  have hx : (1 ≤ w ∧ w ≤ 60 ∧ (widthS n : Int) ≤ w) := by omega
  obtain ⟨v, rfl⟩ : ∃ v : Nat, w = (v : Int) := ⟨w.toNat, by omega⟩
  have hf : fromV n v = .tup [.own .nil 0 v (uL (bitsOf n v)), .int .i64 0] := by unfold fromV; rw [if_pos hx]; simp
  obtain ⟨I, hI⟩ : ∃ I : Nat → St → Prop, I = fun q D => ∃ i : Nat, q = v - i ∧ i ≤ v ∧ D.s 0 = .int .u64 (n : Int) ∧ D.s 20 = .int .i64 (v : Int) ∧ D.s 21 = .int .i64 (i : Int) ∧ D.s 6 = .own .nil 0 i (uL (bitsOf n i)) ∧ D.m = [] := ⟨_, rfl⟩
  rw [hf]
  simp [entryS, h1, h2, h3, c0]
  refine EvP.loop I (n := v) (by rw [hI]; exact ⟨0, by simp [bitsOf, uL]⟩) (by omega) fun q D hD => ?_
  rw [hI] at hD
  obtain ⟨i, rfl, hi, d0, d20, d21, d6, dm⟩ := hD
  by_cases hlt : i < v
  · have e1 := sh_shr (a := n) (i := i) (by omega)
    have e2 := int_and1 (a := n / 2 ^ i) (Nat.lt_of_le_of_lt (Nat.div_le_self _ _) hn)
    have e3 := wrap_succ (q := i) (by omega)
    have b2 : (i + 1) * 8 ≤ 140737488355328 := by omega
    have b3 : (i + 1) ≤ 140737488355328 := by omega
    generalize hm : n / 2 ^ i = m at e1 e2
    simp [d0, d20, d21, d6, hlt, e1, e2, e3, b2, b3]
    subst hI
    refine ⟨v - (i + 1), by omega, i + 1, rfl, by omega, ?_, ?_, ?_, ?_, dm⟩
    · simp [d0]
    · simp [d20]
    · simp
    · simp [← uL_bits_succ, hm]
  · have hiv : i = v := by omega
    subst hiv
    simp [d0, d20, d21, d6, hlt, dm]
set_option maxHeartbeats 1000000 in
set_option maxRecDepth 100000 in
/-- FromUint(n, w), the reference -/
theorem from12 (n : Nat) (w : Int) (hn : n < 18446744073709551616) : AnsN 102 Try.prog H02 12 [.int .u64 (n : Int), .int .i64 w] (fromV n w) := by
  refine AnsN.gen (fn := Try.f12) (by rfl) Try.func12 rfl (by rfl) (ptrs_fromV n w) fun k hk nx => ?_
  have c0 := width15 n hn k (by omega)
  by_cases h1 : w < 1
  · have hx : ¬ (1 ≤ w ∧ w ≤ 60 ∧ (widthS n : Int) ≤ w) := by omega
    have hf : fromV n w = .tup [.own .nil 0 0 [], .int .i64 2] := if_neg hx
    simp [entryS, h1, hf]
  by_cases h2 : 60 < w
  · have hx : ¬ (1 ≤ w ∧ w ≤ 60 ∧ (widthS n : Int) ≤ w) := by omega
    have hf : fromV n w = .tup [.own .nil 0 0 [], .int .i64 2] := if_neg hx
    simp [entryS, h1, h2, hf]
  by_cases h3 : w < (widthS n : Int)
  · have hx : ¬ (1 ≤ w ∧ w ≤ 60 ∧ (widthS n : Int) ≤ w) := by omega
    have hf : fromV n w = .tup [.own .nil 0 0 [], .int .i64 2] := if_neg hx
    simp [entryS, h1, h2, h3, c0, hf]
  have hx : (1 ≤ w ∧ w ≤ 60 ∧ (widthS n : Int) ≤ w) := by omega
  obtain ⟨v, rfl⟩ : ∃ v : Nat, w = (v : Int) := ⟨w.toNat, by omega⟩
  have hf : fromV n v = .tup [.own .nil 0 v (uL (bitsOf n v)), .int .i64 0] := by unfold fromV; rw [if_pos hx]; simp
  obtain ⟨I, hI⟩ : ∃ I : Nat → St → Prop, I = fun q D => ∃ i : Nat, q = v - i ∧ i ≤ v ∧ D.s 0 = .int .u64 ((n / 2 ^ i : Nat) : Int) ∧ D.s 1 = .int .i64 (v : Int) ∧ D.s 7 = .int .i64 (i : Int) ∧ D.s 6 = .own .nil 0 i (uL (bitsOf n i)) ∧ D.m = [] := ⟨_, rfl⟩
  rw [hf]
  simp [entryS, h1, h2, h3, c0]
  refine EvP.loop I (n := v) (by rw [hI]; exact ⟨0, by simp [bitsOf, uL]⟩) (by omega) fun q D hD => ?_
  rw [hI] at hD
  obtain ⟨i, rfl, hi, d0, d1, d7, d6, dm⟩ := hD
  by_cases hlt : i < v
  · have hlt64 : n / 2 ^ i < 18446744073709551616 := Nat.lt_of_le_of_lt (Nat.div_le_self _ _) hn
    have e1 := int_rem2 (a := n / 2 ^ i)
    have e2 := int_quo2 (a := n / 2 ^ i) hlt64
    have e3 := wrap_succ (q := i) (by omega)
    have b2 : (i + 1) * 8 ≤ 140737488355328 := by omega
    have b3 : (i + 1) ≤ 140737488355328 := by omega
    generalize hm : n / 2 ^ i = m at *
    simp [d0, d1, d7, d6, hlt, e1, e2, e3, b2, b3]
    subst hI
    refine ⟨v - (i + 1), by omega, i + 1, rfl, by omega, ?_, ?_, ?_, ?_, dm⟩
    · simp [Nat.pow_succ, ← Nat.div_div_eq_div_mul, hm]
    · simp [d1]
    · simp
    · simp [← uL_bits_succ, hm]
  · have hiv : i = v := by omega
    subst hiv
    simp [d0, d1, d7, d6, hlt, dm]
set_option maxHeartbeats 1000000 in
set_option maxRecDepth 100000 in
/-- Same(a, b) -/
theorem same13 (pm pm2 : Bool) (A A2 : Option Addr) (cap cap2 : Nat) (a b : List Nat) (ha : a.length ≤ 1000) : AnsN 1101 Try.prog H02 13 [.im pm A cap a.length (uL a), .im pm2 A2 cap2 b.length (uL b)] (.bool (decide (a = b))) := by
  refine AnsN.of (fn := Try.f13) (t := 4) (by rfl) Try.func13 rfl rfl (by rfl) (by rfl) fun k hk nx => ?_
  by_cases hl : a.length = b.length
  · have hl' : (((a.length : Nat) : Int) != ((b.length : Nat) : Int)) = false := by simp [hl]
    obtain ⟨I, hI⟩ : ∃ I : Nat → St → Prop, I = fun q D => ∃ i : Nat, q = a.length - i ∧ i ≤ a.length ∧ (∀ j, j < i → a[j]? = b[j]?) ∧ D.s 0 = .im pm A cap a.length (uL a) ∧ D.s 1 = .im pm2 A2 cap2 b.length (uL b) ∧ D.s 5 = .int .i64 (i : Int) ∧ D.m = [] := ⟨_, rfl⟩
    simp [entryS, hl']
    refine EvP.loop I (n := a.length) (by rw [hI]; exact ⟨0, by simp⟩) (by omega) fun q D hD => ?_
    rw [hI] at hD
    obtain ⟨i, rfl, hi, hpre, d0, d1, d5, dm⟩ := hD
    by_cases hlt : i < a.length
    · have hlt2 : i < b.length := by omega
      have e3 := wrap_succ (q := i) (by omega)
      by_cases hw : a[i] = b[i]
      · simp [d0, d1, d5, hlt, hlt2, hw, e3]
        subst hI
        refine ⟨a.length - (i + 1), by omega, i + 1, rfl, by omega, fun j hj => ?_, by simp [d0], by simp [d1], by simp, dm⟩
        by_cases hji : j = i
        · subst hji; simp [hlt, hlt2, hw]
        · exact hpre j (by omega)
      · have hw' : (((a[i] : Nat) : Int) != ((b[i] : Nat) : Int)) = true := by simp [bne]; omega
        have hne : ¬ a = b := fun he => hw (by subst he; rfl)
        simp [d0, d1, d5, hlt, hlt2, hw', dm, hne]
    · have hil : i = a.length := by omega
      have he : a = b := List.ext_getElem? fun j => by
        by_cases hj : j < i
        · exact hpre j hj
        · rw [List.getElem?_eq_none (by omega), List.getElem?_eq_none (by omega)]
      have hlt' : ¬ ((i : Int) < a.length) := by omega
      simp [d0, d1, d5, hlt, hlt', dm]
      exact he
  · have hl' : (((a.length : Nat) : Int) != ((b.length : Nat) : Int)) = true := by simp [bne]; omega
    have hne : ¬ a = b := fun he => hl (by rw [he])
    simp [entryS, hl', hne]
end Go.Abs
end
/- The seat of privitylaw02: the functions with a loop, second part. -/
set_option linter.unusedVariables false
noncomputable section
namespace Go.Abs
open Go Go.Proofs Go.Bits

set_option maxHeartbeats 1000000 in
set_option maxRecDepth 100000 in
/-- Are(b) -/
theorem are32 (pm : Bool) (A : Option Addr) (cap : Nat) (l : List Nat) (hl : l.length ≤ 1000) : AnsN 1101 Try.prog H02 32 [.im pm A cap l.length (uL l)] (.bool (decide (∀ x ∈ l, x ≤ 1))) := by
  refine AnsN.of (fn := Try.f32) (t := 2) (by rfl) Try.func32 rfl rfl (by rfl) (by rfl) fun k hk nx => ?_
  obtain ⟨I, hI⟩ : ∃ I : Nat → St → Prop, I = fun q D => ∃ i : Nat, q = l.length - i ∧ i ≤ l.length ∧ (∀ x ∈ l.take i, x ≤ 1) ∧ D.s 0 = .im pm A cap l.length (uL l) ∧ D.s 3 = .int .i64 (i : Int) ∧ D.m = [] := ⟨_, rfl⟩
  simp [entryS]
  refine EvP.loop I (n := l.length) (by rw [hI]; exact ⟨0, by simp⟩) (by omega) fun q D hD => ?_
  rw [hI] at hD
  obtain ⟨i, rfl, hi, hpre, d0, d3, dm⟩ := hD
  by_cases hlt : i < l.length
  · have e3 := wrap_succ (q := i) (by omega)
    by_cases hw : l[i] ≤ 1
    · have hw' : ¬ (1 : Int) < l[i] := by omega
      simp [d0, d3, hlt, hw', hw, e3]
      subst hI
      refine ⟨l.length - (i + 1), by omega, i + 1, rfl, by omega, fun x hx => ?_, by simp [d0], by simp, dm⟩
      rw [List.take_succ_eq_append_getElem hlt] at hx
      rcases List.mem_append.1 hx with hx | hx
      · exact hpre x hx
      · simp at hx; omega
    · have hw' : (1 : Int) < l[i] := by omega
      have hw2 : 1 < l[i] := by omega
      simp [d0, d3, hlt, hw', hw2, dm]
      exact ⟨l[i], List.getElem_mem hlt, hw2⟩
  · have hil : i = l.length := by omega
    have hlt' : ¬ ((i : Int) < l.length) := by omega
    subst hil
    rw [List.take_length] at hpre
    simp [d0, d3, hlt', dm]
    exact hpre
set_option maxHeartbeats 1000000 in
set_option maxRecDepth 100000 in
/-- ToUint(b), the reference -/
theorem tu17 (pm : Bool) (A : Option Addr) (cap : Nat) (l : List Nat) (hl : l.length ≤ 1000) : AnsN 1102 Try.prog H02 17 [.im pm A cap l.length (uL l)] (tuV l) := by
  refine AnsN.gen (fn := Try.f17) (by rfl) Try.func17 rfl (by rfl) (by unfold tuV; split <;> simp) fun k hk nx => ?_
  have c0 := are32 false A cap l hl k (by omega)
  by_cases h1 : 60 < l.length
  · have hf : tuV l = .tup [.int .u64 0, .int .i64 7] := if_neg fun hx => by omega
    have h1' : (60 : Int) < l.length := by omega
    simp [entryS, h1, h1', hf]
  have h1' : ¬ (60 : Int) < l.length := by omega
  by_cases h2 : ∀ x ∈ l, x ≤ 1
  · have hf : tuV l = .tup [.int .u64 ((numL (down l l.length) : Nat) : Int), .int .i64 0] := if_pos ⟨by omega, h2⟩
    have hnb : ∀ j, j ≤ l.length → numL (down l j) < 2 ^ j := fun j hj => by
      have hN : NoBig (down l j) := fun p hp => h2 _ (mem_down hj hp)
      have := hN.lt
      rwa [down_length] at this
    have hp60 : ∀ j, j ≤ l.length → 2 ^ j ≤ 2 ^ 60 := fun j hj => Nat.pow_le_pow_right (by omega) (by omega)
    rw [decide_eq_true h2] at c0
    have ew : IntKind.i64.wrap ((l.length : Int) - 1) = (l.length : Int) - 1 := by
      unfold IntKind.wrap; simp [IntKind.signed, IntKind.bits]; omega
    obtain ⟨I, hI⟩ : ∃ I : Nat → St → Prop, I = fun q D => ∃ j : Nat, q = l.length - j ∧ j ≤ l.length ∧ D.s 0 = .im pm A cap l.length (uL l) ∧ D.s 4 = .int .u64 ((numL (down l j) : Nat) : Int) ∧ D.s 5 = .int .i64 ((l.length : Int) - 1 - j) ∧ D.m = [] := ⟨_, rfl⟩
    rw [hf]
    simp [entryS, h1, h1', c0, ew]
    refine EvP.loop I (n := l.length) (by rw [hI]; exact ⟨0, by simp [down, numL]⟩) (by omega) fun q D hD => ?_
    rw [hI] at hD
    obtain ⟨j, rfl, hj, d0, d4, d5, dm⟩ := hD
    by_cases hlt : j < l.length
    · have b1 := hnb j hj
      have b2 := hp60 j hj
      have b3 := hnb (j + 1) hlt
      have b4 := hp60 (j + 1) hlt
      obtain ⟨i, hi⟩ : ∃ i : Nat, l.length = j + i + 1 := ⟨l.length - 1 - j, by omega⟩
      have ei : (l.length : Int) - 1 - j = (i : Int) := by omega
      have hil : i < l.length := by omega
      have hx : l[i] ≤ 1 := h2 _ (List.getElem_mem hil)
      have e1 : IntKind.u64.wrap (2 * ((numL (down l j) : Nat) : Int)) = ((2 * numL (down l j) : Nat) : Int) := by rw [wrapu (by omega) (by omega)]; omega
      have e2 : IntKind.u64.wrap (2 * ((numL (down l j) : Nat) : Int) + (l[i] : Int)) = ((2 * numL (down l j) + l[i] : Nat) : Int) := by rw [wrapu (by omega) (by omega)]; omega
      have e3 : IntKind.i64.wrap ((i : Int) - 1) = (i : Int) - 1 := by
        unfold IntKind.wrap; simp [IntKind.signed, IntKind.bits]; omega
      have e4 : numL (down l (j + 1)) = 2 * numL (down l j) + l[i] := by
        rw [down_succ, numL_snoc]
        have : l.length - 1 - j = i := by omega
        simp [this, hil]
      rw [ei] at d5
      simp [d0, d4, d5, hil, e1, e2, e3]
      subst hI
      refine ⟨l.length - (j + 1), by omega, j + 1, rfl, by omega, by simp [d0], ?_, ?_, dm⟩
      · rw [e4]; simp
      · simp; omega
    · have hjl : j = l.length := by omega
      subst hjl
      have e5 : (l.length : Int) - 1 - l.length = -1 := by omega
      rw [e5] at d5
      simp [d0, d4, d5, dm]
  · have hf : tuV l = .tup [.int .u64 0, .int .i64 7] := if_neg fun hx => h2 hx.2
    rw [decide_eq_false h2] at c0
    simp [entryS, h1, h1', c0, hf]
set_option maxHeartbeats 1000000 in
set_option maxRecDepth 100000 in
/-- small(b, most) -/
theorem small18 (pm : Bool) (A : Option Addr) (cap : Nat) (l : List Nat) (m : Nat) (hm : m ≤ 1000) : AnsN 1102 Try.prog H02 18 [.im pm A cap l.length (uL l), .int .i64 (m : Int)] (.bool (decide (l.length ≤ m ∧ ∀ x ∈ l, x ≤ 1))) := by
  refine AnsN.of (fn := Try.f18) (t := 4) (by rfl) Try.func18 rfl rfl (by rfl) (by rfl) fun k hk nx => ?_
  by_cases h : l.length ≤ m
  · have c0 := are32 false A cap l (by omega) k (by omega)
    have h' : (l.length : Int) ≤ m := by omega
    simp [entryS, h, h', c0]
  · have h' : ¬ (l.length : Int) ≤ m := by omega
    simp [entryS, h, h']
/-- The value as the program reads it. -/
def numU (l : List Nat) : Nat := if l.length ≤ 60 ∧ ∀ x ∈ l, x ≤ 1 then num l else 0
theorem tuV_eq (l : List Nat) : tuV l = .tup [.int .u64 ((numU l : Nat) : Int), .int .i64 (if l.length ≤ 60 ∧ ∀ x ∈ l, x ≤ 1 then 0 else 7)] := by
  unfold tuV numU
  split
  · rw [numL_num]
  · rfl
set_option maxHeartbeats 1000000 in
set_option maxRecDepth 100000 in
/-- number(b) -/
theorem number21 (pm : Bool) (A : Option Addr) (cap : Nat) (l : List Nat) (hl : l.length ≤ 1000) : AnsN 1103 Try.prog H02 21 [.im pm A cap l.length (uL l)] (.int .u64 ((numU l : Nat) : Int)) := by
  refine AnsN.of (fn := Try.f21) (t := 2) (by rfl) Try.func21 rfl rfl (by rfl) (by rfl) fun k hk nx => ?_
  have c0 := tu17 false A cap l hl k (by omega)
  rw [tuV_eq] at c0
  simp [entryS, c0]
def prs (a b : List Nat) (k : Nat) : List (Nat × Nat) := upto (fun j => (a[j]?.getD 0, b[j]?.getD 0)) k
theorem prs_succ (a b : List Nat) (k : Nat) : prs a b (k + 1) = prs a b k ++ [(at_ a k, at_ b k)] := upto_succ _ _
theorem sum_int (c : Nat) (p : Nat × Nat) : IntKind.u64.wrap (IntKind.u64.wrap ((p.1 : Int) + (p.2 : Int)) + (c : Int)) = ((addS c p : Nat) : Int) := addS_int c p
set_option maxHeartbeats 1000000 in
set_option maxRecDepth 100000 in
/-- Add(a, b), the reference -/
theorem add20 (pm pm2 : Bool) (A A2 : Option Addr) (cap cap2 : Nat) (a b : List Nat) (ha : a.length ≤ 1000) (hb : b.length ≤ 1000) : AnsN 1102 Try.prog H02 20 [.im pm A cap a.length (uL a), .im pm2 A2 cap2 b.length (uL b)] (.own .nil 0 (addSpec a b).length (uL (addSpec a b))) := by
  refine AnsN.of (fn := Try.f20) (t := 4) (by rfl) Try.func20 rfl rfl (by rfl) (by simp [plainV]) fun k hk nx => ?_
  obtain ⟨I, hI⟩ : ∃ I : Nat → St → Prop, I = fun q D => ∃ i : Nat, q = max a.length b.length - i ∧ i ≤ max a.length b.length ∧ D.s 0 = .im pm A cap a.length (uL a) ∧ D.s 1 = .im pm2 A2 cap2 b.length (uL b) ∧ D.s 5 = .own .nil 0 i (uL (addL (prs a b i)).1) ∧ D.s 6 = .int .u64 (((addL (prs a b i)).2 : Nat) : Int) ∧ D.s 7 = .int .i64 (i : Int) ∧ D.m = [] := ⟨_, rfl⟩
  simp [entryS]
  refine EvP.loop I (n := max a.length b.length) (by rw [hI]; exact ⟨0, by simp [prs, upto, addL, uL]⟩) (by omega) fun q D hD => ?_
  rw [hI] at hD
  obtain ⟨i, rfl, hi, d0, d1, d5, d6, d7, dm⟩ := hD
  have hol : (addL (prs a b i)).1.length = i := by rw [addL_length]; exact upto_length _ _
  have c1 := bit34 false A cap a i k (by omega)
  have c2 := bit34 false A2 cap2 b i k (by omega)
  have b2 : (i + 1) * 8 ≤ 140737488355328 := by omega
  have b3 : (i + 1) ≤ 140737488355328 := by omega
  by_cases hlt : i < max a.length b.length
  · have e3 := wrap_succ (q := i) (by omega)
    have e0 := sum_int (addL (prs a b i)).2 (at_ a i, at_ b i)
    have e1 := int_rem2 (a := addS (addL (prs a b i)).2 (at_ a i, at_ b i))
    have hs : addL (prs a b (i + 1)) = _ := (congrArg addL (prs_succ a b i)).trans (addL_snoc _ _)
    have e2 := int_quo2 (a := addS (addL (prs a b i)).2 (at_ a i, at_ b i)) (addS_lt _ _)
    have done : ∃ n', n' < max a.length b.length - i ∧ ∃ i_1 : Nat, n' = max a.length b.length - i_1 ∧ i_1 ≤ max a.length b.length ∧ i_1 = i + 1 := ⟨max a.length b.length - (i + 1), by omega, i + 1, rfl, by omega, rfl⟩
    by_cases hla : i < a.length
    · simp only at e0
      generalize addS (addL (prs a b i)).2 (at_ a i, at_ b i) = s at *
      simp [d0, d1, d5, d6, d7, hla, c1, c2, e0, e1, e2, e3, b2, b3, hol, dm]
      subst hI
      obtain ⟨n', h1, i1, h2, h3, rfl⟩ := done
      refine ⟨n', h1, i + 1, h2, h3, by simp [d0], by simp [d1], ?_, ?_, by simp, rfl⟩
      · rw [hs, uL_append]; simp [uL]
      · rw [hs]; simp
    · have hlb : i < b.length := by omega
      simp only at e0
      generalize addS (addL (prs a b i)).2 (at_ a i, at_ b i) = s at *
      simp [d0, d1, d5, d6, d7, hla, hlb, c1, c2, e0, e1, e2, e3, b2, b3, hol, dm]
      subst hI
      obtain ⟨n', h1, i1, h2, h3, rfl⟩ := done
      refine ⟨n', h1, i + 1, h2, h3, by simp [d0], by simp [d1], ?_, ?_, by simp, rfl⟩
      · rw [hs, uL_append]; simp [uL]
      · rw [hs]; simp
  · have hie : i = max a.length b.length := by omega
    have hla : ¬ i < a.length := by omega
    have hlb : ¬ i < b.length := by omega
    have hsp : addSpec a b = (addL (prs a b i)).1 ++ [(addL (prs a b i)).2] := by rw [hie]; rfl
    simp [d0, d1, d5, d6, d7, hla, hlb, b2, b3, hol, dm]
    rw [hsp, uL_append]
    simp [uL, hol]
end Go.Abs
end
