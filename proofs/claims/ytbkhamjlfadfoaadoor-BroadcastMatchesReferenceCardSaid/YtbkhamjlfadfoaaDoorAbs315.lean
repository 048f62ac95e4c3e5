/- Joined: AbsPNVA AbsPNVB AbsPNVC AbsPNVE AbsPNVF AbsPNVG AbsPNVH. -/
import Derived.Test.YtbkhamjlfadfoaaDoorAbs306
import Derived.Test.YtbkhamjlfadfoaaDoorAbs307
import Derived.Test.YtbkhamjlfadfoaaDoorAbs310
set_option linter.all false
set_option maxHeartbeats 16000000
noncomputable section
namespace Go.Abs
open Go Go.Proofs
@[simp] theorem draw14 {C : Callee} {f k : Nat} {ops : Array Oper} (id : Nat) (D : St) (Φ : Ex → St → Prop) (h : tree14 f id = none) : EvP Tryd.prog H14 C f k (.region id ops true) D Φ = optE (evDraw Tryd.prog H14 C ops (H14.fz f id) (muOf H14 f id ops) (planOf H14 f id ops) D) (Φ .norm) := by
 refine propext ⟨fun ⟨e, D', h1, h2⟩ => ?_, fun h1 => EvP.draw h1 h⟩
 unfold evCode at h1
 have ht : H14.tree f id = none := h
 simp only [ht, if_true] at h1
 split at h1
 ·rename_i hx; cases h1; rw [hx]; exact h2
 ·cases h1
def ValidS (p : Nat) (n t : Int) : Prop := 0 < expOf p ∧ 4 ≤ n ∧ n ≤ 13 ∧ n < p ∧ 1 ≤ t ∧ t < n ∧ 3 * t < n
theorem ValidS.P {p : Nat} {n t : Int} (h : ValidS p n t) : ValidP p n t := ⟨expOf_mem h.1, h.2.1, h.2.2.1, h.2.2.2.1, h.2.2.2.2.1, h.2.2.2.2.2.1⟩
instance (p : Nat) (n t : Int) : Decidable (ValidS p n t) := by unfold ValidS; infer_instance
set_option maxRecDepth 100000 in
theorem exp86 (p : Nat) : AnsN 10 Tryd.prog H14 110 [.int .u64 (p : Int)] (.int .i64 (expOf p : Int)) := by
 refine AnsN.of (fn := Tryd.f110) (t := 2) (by rfl) Tryd.func110 rfl rfl (by rfl) (by rfl) fun k hk nx => ?_
 have s5 : shOp .shl .u64 1 5 = some (.int .u64 32) := rfl
 have s7 : shOp .shl .u64 1 7 = some (.int .u64 128) := rfl
 have s13 : shOp .shl .u64 1 13 = some (.int .u64 8192) := rfl
 have s17 : shOp .shl .u64 1 17 = some (.int .u64 131072) := rfl
 have s19 : shOp .shl .u64 1 19 = some (.int .u64 524288) := rfl
 have s31 : shOp .shl .u64 1 31 = some (.int .u64 2147483648) := rfl
 have s61 : shOp .shl .u64 1 61 = some (.int .u64 2305843009213693952) := rfl
 have x5 : IntKind.u64.wrap 31 = 31 := rfl
 have x7 : IntKind.u64.wrap 127 = 127 := rfl
 have x13 : IntKind.u64.wrap 8191 = 8191 := rfl
 have x17 : IntKind.u64.wrap 131071 = 131071 := rfl
 have x19 : IntKind.u64.wrap 524287 = 524287 := rfl
 have x31 : IntKind.u64.wrap 2147483647 = 2147483647 := rfl
 have x61 : IntKind.u64.wrap 2305843009213693951 = 2305843009213693951 := rfl
 have w1 : IntKind.i64.wrap 1 = 1 := rfl
 have w2 : IntKind.i64.wrap 2 = 2 := rfl
 have w3 : IntKind.i64.wrap 3 = 3 := rfl
 have w4 : IntKind.i64.wrap 4 = 4 := rfl
 have w5 : IntKind.i64.wrap 5 = 5 := rfl
 have w6 : IntKind.i64.wrap 6 = 6 := rfl
 have w7 : IntKind.i64.wrap 7 = 7 := rfl
 obtain ⟨I, hI⟩ : ∃ I : Nat → St → Prop, I = fun q D => ∃ i : Nat, q = 7 - i ∧ i ≤ 7 ∧ (∀ t, t < i → primes7[t]? ≠ some p) ∧ D.s 0 = .int .u64 (p : Int) ∧ D.s 5 = .agg [.int .i64 5, .int .i64 7, .int .i64 13, .int .i64 17, .int .i64 19, .int .i64 31, .int .i64 61] ∧ D.s 6 = .int .i64 (i : Int) ∧ D.m = [] := ⟨_, rfl⟩
 simp [entryS]
 refine EvP.loop I (n := 7) (by rw [hI]; exact ⟨0, by simp⟩) (by omega) fun q D hD => ?_
 rw [hI] at hD
 obtain ⟨i, rfl, hi, hpre, d0, d5, d6, dm⟩ := hD
 by_cases hlt : i < 7
 ·have hcase : i = 0 ∨ i = 1 ∨ i = 2 ∨ i = 3 ∨ i = 4 ∨ i = 5 ∨ i = 6 := by omega
  by_cases hp : primes7[i]? = some p
  ·rcases hcase with rfl | rfl | rfl | rfl | rfl | rfl | rfl <;>
   ·simp [primes7] at hp
    subst hp
    simp [d0, d5, d6, dm, s5, s7, s13, s17, s19, s31, s61, x5, x7, x13, x17, x19, x31, x61, w1, w2, w3, w4, w5, w6, w7, expOf]
  ·have fin : ∀ D1 : St, D1.s 0 = .int .u64 (p : Int) → D1.s 5 = .agg [.int .i64 5, .int .i64 7, .int .i64 13, .int .i64 17, .int .i64 19, .int .i64 31, .int .i64 61] → D1.s 6 = .int .i64 ((i : Int) + 1) → D1.m = [] → ∃ n', n' < 7 - i ∧ I n' D1 := by
    intro D1 q0 q5 q6 qm
    subst hI
    refine ⟨7 - (i + 1), by omega, i + 1, rfl, by omega, fun t ht => ?_, q0, q5, by rw [q6]; simp, qm⟩
    by_cases hti : t = i
    ·subst hti; exact hp
    ·exact hpre t (by omega)
   rcases hcase with rfl | rfl | rfl | rfl | rfl | rfl | rfl
   ·simp [primes7] at hp
    have hne : ((p : Int) == 31) = false := by simp; omega
    simp [d0, d5, d6, dm, s5, s7, s13, s17, s19, s31, s61, x5, x7, x13, x17, x19, x31, x61, w1, w2, w3, w4, w5, w6, w7, hne]
    exact fin _ (by simp [d0]) (by simp [d5]) (by first | rfl | simp) (by first | exact dm | simp [dm])
   ·simp [primes7] at hp
    have hne : ((p : Int) == 127) = false := by simp; omega
    simp [d0, d5, d6, dm, s5, s7, s13, s17, s19, s31, s61, x5, x7, x13, x17, x19, x31, x61, w1, w2, w3, w4, w5, w6, w7, hne]
    exact fin _ (by simp [d0]) (by simp [d5]) (by first | rfl | simp) (by first | exact dm | simp [dm])
   ·simp [primes7] at hp
    have hne : ((p : Int) == 8191) = false := by simp; omega
    simp [d0, d5, d6, dm, s5, s7, s13, s17, s19, s31, s61, x5, x7, x13, x17, x19, x31, x61, w1, w2, w3, w4, w5, w6, w7, hne]
    exact fin _ (by simp [d0]) (by simp [d5]) (by first | rfl | simp) (by first | exact dm | simp [dm])
   ·simp [primes7] at hp
    have hne : ((p : Int) == 131071) = false := by simp; omega
    simp [d0, d5, d6, dm, s5, s7, s13, s17, s19, s31, s61, x5, x7, x13, x17, x19, x31, x61, w1, w2, w3, w4, w5, w6, w7, hne]
    exact fin _ (by simp [d0]) (by simp [d5]) (by first | rfl | simp) (by first | exact dm | simp [dm])
   ·simp [primes7] at hp
    have hne : ((p : Int) == 524287) = false := by simp; omega
    simp [d0, d5, d6, dm, s5, s7, s13, s17, s19, s31, s61, x5, x7, x13, x17, x19, x31, x61, w1, w2, w3, w4, w5, w6, w7, hne]
    exact fin _ (by simp [d0]) (by simp [d5]) (by first | rfl | simp) (by first | exact dm | simp [dm])
   ·simp [primes7] at hp
    have hne : ((p : Int) == 2147483647) = false := by simp; omega
    simp [d0, d5, d6, dm, s5, s7, s13, s17, s19, s31, s61, x5, x7, x13, x17, x19, x31, x61, w1, w2, w3, w4, w5, w6, w7, hne]
    exact fin _ (by simp [d0]) (by simp [d5]) (by first | rfl | simp) (by first | exact dm | simp [dm])
   ·simp [primes7] at hp
    have hne : ((p : Int) == 2305843009213693951) = false := by simp; omega
    simp [d0, d5, d6, dm, s5, s7, s13, s17, s19, s31, s61, x5, x7, x13, x17, x19, x31, x61, w1, w2, w3, w4, w5, w6, w7, hne]
    have key : ∀ D1 : St, D1.s 0 = .int .u64 (p : Int) → D1.s 5 = .agg [.int .i64 5, .int .i64 7, .int .i64 13, .int .i64 17, .int .i64 19, .int .i64 31, .int .i64 61] → D1.s 6 = .int .i64 7 → D1.m = [] → I 0 D1 := fun D1 q0 q5 q6 qm => by
     obtain ⟨n', hn', h⟩ := fin D1 q0 q5 q6 qm
     obtain rfl : n' = 0 := by omega
     exact h
    exact key _ (by simp [d0]) (by simp [d5]) (by simp) (by first | rfl | simp [dm])
 ·have hi7 : i = 7 := by omega
  subst hi7
  have q0 := hpre 0 (by omega); have q1 := hpre 1 (by omega); have q2 := hpre 2 (by omega); have q3 := hpre 3 (by omega); have q4 := hpre 4 (by omega); have q5 := hpre 5 (by omega); have q6 := hpre 6 (by omega)
  simp [primes7] at q0 q1 q2 q3 q4 q5 q6
  have h0 : expOf p = 0 := by
   unfold expOf
   rw [if_neg (by omega), if_neg (by omega), if_neg (by omega), if_neg (by omega), if_neg (by omega), if_neg (by omega), if_neg (by omega)]
  simp [d0, d5, d6, dm, h0]
set_option maxRecDepth 100000 in
theorem sup78 (p : Nat) : AnsN 11 Tryd.prog H14 102 [.int .u64 (p : Int)] (.bool (decide (0 < expOf p))) := by
 refine AnsN.of (fn := Tryd.f102) (t := 2) (by rfl) Tryd.func102 rfl rfl (by rfl) (by rfl) fun k hk nx => ?_
 have c0 := exp86 p k (by omega)
 by_cases h : expOf p = 0
 ·have hb : (((expOf p : Nat) : Int) != 0) = false := by simp [h]
  simp [entryS, c0, h]
 ·have hb : (((expOf p : Nat) : Int) != 0) = true := by simp [bne]; omega
  have h0 : 0 < expOf p := by omega
  simp [entryS, c0, hb, h0]
theorem sup68 (p : Nat) : AnsN 12 Tryd.prog H14 87 [.int .u64 (p : Int)] (.bool (decide (0 < expOf p))) := sup41 p
end Go.Abs
end
noncomputable section
namespace Go.Abs
open Go Go.Proofs
set_option maxRecDepth 100000 in
theorem valid54 (p : Nat) (n t : Int) : AnsN 13 Tryd.prog H14 64 [parV p n t] (.bool (decide (ValidS p n t))) := by
 refine AnsN.of (fn := Tryd.f64) (t := 2) (by rfl) Tryd.func64 rfl rfl (by rfl) (by rfl) fun k hk nx => ?_
 have hc := sup68 p k (by omega)
 by_cases c1 : 0 < expOf p
 case neg => simp [entryS, parV, hc, ValidS, c1]
 by_cases c2 : 4 ≤ n
 case neg => simp [entryS, parV, hc, ValidS, c1, c2]
 by_cases c3 : n ≤ 13
 case neg => simp [entryS, parV, hc, ValidS, c1, c2, c3]
 have hw : IntKind.u64.wrap n = n := wrapu (by omega) (by omega)
 by_cases c4 : n < p
 case neg => simp [entryS, parV, hc, ValidS, c1, c2, c3, hw, c4]
 by_cases c5 : 1 ≤ t
 case neg => simp [entryS, parV, hc, ValidS, c1, c2, c3, hw, c4, c5]
 by_cases c6 : t < n
 case neg => simp [entryS, parV, hc, ValidS, c1, c2, c3, hw, c4, c5, c6]
 have hw7 : IntKind.i64.wrap (3 * t) = 3 * t := wrap_nat (by omega) (by omega)
 by_cases c7 : 3 * t < n
 case neg => simp [entryS, parV, hc, ValidS, c1, c2, c3, hw, c4, c5, c6, hw7, c7]
 simp [entryS, parV, hc, ValidS, c1, c2, c3, hw, c4, c5, c6, hw7, c7]
theorem valid64 (p : Nat) (n t : Int) : AnsN 13 Tryd.prog H14 88 [parV p n t] (.bool (decide (ValidS p n t))) := by
 refine AnsN.of (fn := Tryd.f88) (t := 2) (by rfl) Tryd.func88 rfl rfl (by rfl) (by rfl) fun k hk nx => ?_
 have hc := sup78 p k (by omega)
 by_cases c1 : 0 < expOf p
 case neg => simp [entryS, parV, hc, ValidS, c1]
 by_cases c2 : 4 ≤ n
 case neg => simp [entryS, parV, hc, ValidS, c1, c2]
 by_cases c3 : n ≤ 13
 case neg => simp [entryS, parV, hc, ValidS, c1, c2, c3]
 have hw : IntKind.u64.wrap n = n := wrapu (by omega) (by omega)
 by_cases c4 : n < p
 case neg => simp [entryS, parV, hc, ValidS, c1, c2, c3, hw, c4]
 by_cases c5 : 1 ≤ t
 case neg => simp [entryS, parV, hc, ValidS, c1, c2, c3, hw, c4, c5]
 by_cases c6 : t < n
 case neg => simp [entryS, parV, hc, ValidS, c1, c2, c3, hw, c4, c5, c6]
 have hw7 : IntKind.i64.wrap (3 * t) = 3 * t := wrap_nat (by omega) (by omega)
 by_cases c7 : 3 * t < n
 case neg => simp [entryS, parV, hc, ValidS, c1, c2, c3, hw, c4, c5, c6, hw7, c7]
 simp [entryS, parV, hc, ValidS, c1, c2, c3, hw, c4, c5, c6, hw7, c7]
theorem below57 (p : Nat) (pm : Bool) (A : Option Addr) (cap : Nat) (l : List Nat) (hl : l.length ≤ 1000) : AnsN 1101 Tryd.prog H14 54 [.int .u64 (p : Int), .im pm A cap l.length (uL l)] (.bool (decide (∀ x ∈ l, x < p))) := by
 refine AnsN.of (fn := Tryd.f54) (t := 4) (by rfl) Tryd.func54 rfl rfl (by rfl) (by rfl) fun k hk nx => ?_
 obtain ⟨I, hI⟩ : ∃ I : Nat → St → Prop, I = fun q D => ∃ i : Nat, q = l.length - i ∧ i ≤ l.length ∧ (∀ x ∈ l.take i, x < p) ∧ D.s 0 = .int .u64 (p : Int) ∧ D.s 1 = .im pm A cap l.length (uL l) ∧ D.s 5 = .int .i64 (i : Int) ∧ D.m = [] := ⟨_, rfl⟩
 simp [entryS]
 refine EvP.loop I (n := l.length) (by rw [hI]; exact ⟨0, by simp⟩) (by omega) fun q D hD => ?_
 rw [hI] at hD
 obtain ⟨i, rfl, hi, hpre, d0, d1, d5, dm⟩ := hD
 by_cases hlt : i < l.length
 ·have e3 := wrap_succ (q := i) (by omega)
  by_cases hw : l[i] < p
  ·have hw' : ¬ (p : Int) ≤ l[i] := by omega
   have hw2 : ¬ p ≤ l[i] := by omega
   simp [d0, d1, d5, hlt, hw', hw2, e3]
   subst hI
   refine ⟨l.length - (i + 1), by omega, i + 1, rfl, by omega, fun x hx => ?_, by simp [d0], by simp [d1], by simp, dm⟩
   rw [List.take_succ_eq_append_getElem hlt] at hx
   rcases List.mem_append.1 hx with hx | hx
   ·exact hpre x hx
   ·simp at hx; omega
  ·have hw' : (p : Int) ≤ l[i] := by omega
   have hw2 : p ≤ l[i] := by omega
   simp [d0, d1, d5, hlt, hw', hw2, dm]
   exact ⟨l[i], List.getElem_mem hlt, hw2⟩
 ·have hil : i = l.length := by omega
  have hlt' : ¬ ((i : Int) < l.length) := by omega
  subst hil
  rw [List.take_length] at hpre
  simp [d0, d1, d5, hlt', dm]
  exact hpre
def CoalS (p : Nat) (n t : Int) (l : List Int) : Prop := ValidS p n t ∧ CoalP n t l
theorem coal_bad {n t : Int} {l : List Int} {i : Nat} (h : i < l.length) (hb : ¬ CoalGood n l i) : ¬ CoalP n t l := fun hc => hb (hc.2 i h)
theorem good_iff {n : Int} {l : List Int} {i : Nat} (h : i < l.length) : CoalGood n l i ↔ 1 ≤ l[i] ∧ l[i] ≤ n ∧ ∀ (h0 : 0 < i), l[i - 1] < l[i] := by
 unfold CoalGood
 rw [List.getElem?_eq_getElem h]
 constructor
 ·intro hx
  obtain ⟨h1, h2, h3⟩ := hx _ rfl
  exact ⟨h1, h2, fun h0 => h3 _ h0 (List.getElem?_eq_getElem (by omega))⟩
 ·rintro ⟨h1, h2, h3⟩ x hx
  cases hx
  refine ⟨h1, h2, fun y h0 hy => ?_⟩
  rw [List.getElem?_eq_getElem (by omega)] at hy
  cases hy
  exact h3 h0
open Classical in
set_option maxRecDepth 100000 in
theorem coal46 (p : Nat) (n t : Int) (pm : Bool) (A : Option Addr) (cap : Nat) (l : List Int) : AnsN 1101 Tryd.prog H14 71 [parV p n t, .im pm A cap l.length (iL l)] (.bool (decide (CoalS p n t l))) := by
 refine AnsN.of (fn := Tryd.f71) (t := 4) (by rfl) Tryd.func71 rfl rfl (by rfl) (by rfl) fun k hk nx => ?_
 have c0 := valid64 p n t k (by omega)
 by_cases hv : ValidS p n t
 case neg =>
  have hc : ¬ CoalS p n t l := fun h => hv h.1
  rw [decide_eq_false hv] at c0
  simp [parV] at c0
  simp [entryS, parV, c0, hc]
 rw [decide_eq_true hv] at c0
 simp [parV] at c0
 by_cases hlt : t < (l.length : Int)
 ·have hc : ¬ CoalS p n t l := fun h => by have := h.2.1; omega
  simp [entryS, parV, c0, hlt, hc]
 have ht13 : l.length ≤ 13 := by have := hv.2.2.1; have := hv.2.2.2.2.2.1; omega
 obtain ⟨I, hI⟩ : ∃ I : Nat → St → Prop, I = fun q D => ∃ i : Nat, q = l.length - i ∧ i ≤ l.length ∧ (∀ j, j < i → CoalGood n l j) ∧ D.s 1 = .im pm A cap l.length (iL l) ∧ D.s 2 = .bptr nx 0 ∧ D.s 17 = .im pm A cap l.length (iL l) ∧ D.s 18 = .int .i64 (l.length : Int) ∧ D.s 19 = .int .i64 (i : Int) ∧ D.m = [(nx, ⟨0, [.int .u64 (p : Int), .int .i64 n, .int .i64 t]⟩)] := ⟨_, rfl⟩
 simp [entryS, parV, c0, hlt]
 refine EvP.loop I (n := l.length) (by rw [hI]; exact ⟨0, by simp⟩) (by omega) fun q D hD => ?_
 rw [hI] at hD
 obtain ⟨i, rfl, hi, hpre, d1, d2, d17, d18, d19, dm⟩ := hD
 by_cases hil : i < l.length
 ·have e3 := wrap_succ (q := i) (by omega)
  have hlast : CoalGood n l i → ∀ D1 : St, D1.s 1 = .im pm A cap l.length (iL l) → D1.s 2 = .bptr nx 0 → D1.s 17 = .im pm A cap l.length (iL l) → D1.s 18 = .int .i64 (l.length : Int) → D1.s 19 = .int .i64 ((i : Int) + 1) → D1.m = [(nx, ⟨0, [.int .u64 (p : Int), .int .i64 n, .int .i64 t]⟩)] → ∃ n', n' < l.length - i ∧ I n' D1 := by
   intro hg D1 q1 q2 q17 q18 q19 qm
   subst hI
   refine ⟨l.length - (i + 1), by omega, i + 1, rfl, by omega, fun j hj => ?_, q1, q2, q17, q18, by rw [q19]; simp, qm⟩
   by_cases hji : j = i
   ·subst hji; exact hg
   ·exact hpre j (by omega)
  have hbad : ¬ CoalGood n l i → ¬ CoalS p n t l := fun h hc => coal_bad hil h hc.2
  rw [good_iff hil] at hlast hbad
  by_cases h1 : l[i] < 1
  ·have hc := hbad (by omega)
   simp [d1, d2, d17, d18, d19, dm, hil, h1, hc]
  by_cases h2 : n < l[i]
  ·have hc := hbad (by omega)
   simp [d1, d2, d17, d18, d19, dm, hil, h1, h2, hc]
  by_cases h0 : 0 < i
  ·have hi1 : i - 1 < l.length := by omega
   have e4 : IntKind.i64.wrap ((i : Int) - 1) = ((i - 1 : Nat) : Int) := by rw [wrap_nat (by omega) (by omega)]; omega
   by_cases h3 : l[i] ≤ l[i - 1]
   ·have hc := hbad (fun h => by have := h.2.2 h0; omega)
    generalize hx : l[i - 1] = y at *
    simp [d1, d2, d17, d18, d19, dm, hil, h1, h2, h0, e4, hi1, hx, h3, hc]
   ·have hl2 := hlast ⟨by omega, by omega, fun _ => by omega⟩
    generalize hx : l[i - 1] = y at *
    simp [d1, d2, d17, d18, d19, dm, hil, h1, h2, h0, e4, hi1, hx, h3, e3]
    exact hl2 _ (by simp [d1]) (by simp [d2]) (by simp [d17]) (by simp [d18]) (by simp) (by simp [dm])
  ·have hl2 := hlast ⟨by omega, by omega, fun h => absurd h h0⟩
   simp [d1, d2, d17, d18, d19, dm, hil, h1, h2, h0, e3]
   exact hl2 _ (by simp [d1]) (by simp [d2]) (by simp [d17]) (by simp [d18]) (by simp) (by simp [dm])
 ·have hil' : i = l.length := by omega
  have hc : CoalS p n t l := ⟨hv, by omega, fun j hj => hpre j (by omega)⟩
  subst hil'
  simp [d1, d2, d17, d18, d19, dm, hc]
end Go.Abs
end
noncomputable section
namespace Go.Abs
open Go Go.Proofs
open Classical in
set_option maxRecDepth 100000 in
theorem coal55 (p : Nat) (n t : Int) (pm : Bool) (A : Option Addr) (cap : Nat) (l : List Int) : AnsN 1101 Tryd.prog H14 65 [parV p n t, .im pm A cap l.length (iL l)] (.bool (decide (CoalS p n t l))) := by
 refine AnsN.of (fn := Tryd.f65) (t := 4) (by rfl) Tryd.func65 rfl rfl (by rfl) (by rfl) fun k hk nx => ?_
 have c0 := valid54 p n t k (by omega)
 by_cases hv : ValidS p n t
 case neg =>
  have hc : ¬ CoalS p n t l := fun h => hv h.1
  rw [decide_eq_false hv] at c0
  simp [parV] at c0
  simp [entryS, parV, c0, hc]
 rw [decide_eq_true hv] at c0
 simp [parV] at c0
 by_cases hlt : t < (l.length : Int)
 ·have hc : ¬ CoalS p n t l := fun h => by have := h.2.1; omega
  simp [entryS, parV, c0, hlt, hc]
 have ht13 : l.length ≤ 13 := by have := hv.2.2.1; have := hv.2.2.2.2.2.1; omega
 obtain ⟨I, hI⟩ : ∃ I : Nat → St → Prop, I = fun q D => ∃ i : Nat, q = l.length - i ∧ i ≤ l.length ∧ (∀ j, j < i → CoalGood n l j) ∧ D.s 1 = .im pm A cap l.length (iL l) ∧ D.s 2 = .bptr nx 0 ∧ D.s 5 = .int .i64 (i : Int) ∧ D.m = [(nx, ⟨0, [.int .u64 (p : Int), .int .i64 n, .int .i64 t]⟩)] := ⟨_, rfl⟩
 simp [entryS, parV, c0, hlt]
 refine EvP.loop I (n := l.length) (by rw [hI]; exact ⟨0, by simp⟩) (by omega) fun q D hD => ?_
 rw [hI] at hD
 obtain ⟨i, rfl, hi, hpre, d1, d2, d5, dm⟩ := hD
 by_cases hil : i < l.length
 ·have e3 := wrap_succ (q := i) (by omega)
  have hlast : CoalGood n l i → ∀ D1 : St, D1.s 1 = .im pm A cap l.length (iL l) → D1.s 2 = .bptr nx 0 → D1.s 5 = .int .i64 ((i : Int) + 1) → D1.m = [(nx, ⟨0, [.int .u64 (p : Int), .int .i64 n, .int .i64 t]⟩)] → ∃ n', n' < l.length - i ∧ I n' D1 := by
   intro hg D1 q1 q2 q5 qm
   subst hI
   refine ⟨l.length - (i + 1), by omega, i + 1, rfl, by omega, fun j hj => ?_, q1, q2, by rw [q5]; simp, qm⟩
   by_cases hji : j = i
   ·subst hji; exact hg
   ·exact hpre j (by omega)
  have hbad : ¬ CoalGood n l i → ¬ CoalS p n t l := fun h hc => coal_bad hil h hc.2
  rw [good_iff hil] at hlast hbad
  by_cases h1 : l[i] < 1
  ·have hc := hbad (by omega)
   simp [d1, d2, d5, dm, hil, h1, hc]
  by_cases h2 : n < l[i]
  ·have hc := hbad (by omega)
   simp [d1, d2, d5, dm, hil, h1, h2, hc]
  by_cases h0 : 0 < i
  ·have hi1 : i - 1 < l.length := by omega
   have e4 : IntKind.i64.wrap ((i : Int) - 1) = ((i - 1 : Nat) : Int) := by rw [wrap_nat (by omega) (by omega)]; omega
   by_cases h3 : l[i] ≤ l[i - 1]
   ·have hc := hbad (fun h => by have := h.2.2 h0; omega)
    generalize hx : l[i - 1] = y at *
    simp [d1, d2, d5, dm, hil, h1, h2, h0, e4, hi1, hx, h3, hc]
   ·have hl2 := hlast ⟨by omega, by omega, fun _ => by omega⟩
    generalize hx : l[i - 1] = y at *
    simp [d1, d2, d5, dm, hil, h1, h2, h0, e4, hi1, hx, h3, e3]
    exact hl2 _ (by simp [d1]) (by simp [d2]) (by simp) (by simp [dm])
  ·have hl2 := hlast ⟨by omega, by omega, fun h => absurd h h0⟩
   simp [d1, d2, d5, dm, hil, h1, h2, h0, e3]
   exact hl2 _ (by simp [d1]) (by simp [d2]) (by simp) (by simp [dm])
 ·have hil' : i = l.length := by omega
  have hc : CoalS p n t l := ⟨hv, by omega, fun j hj => hpre j (by omega)⟩
  subst hil'
  simp [d1, d2, d5, dm, hc]
end Go.Abs
end
noncomputable section
namespace Go.Abs
open Go Go.Proofs
theorem first_or {α : Type} (q : α → Prop) : ∀ l : List α, (∃ i : Nat, ∃ h : i < l.length, q l[i] ∧ ∀ j (hj : j < i), ¬ q l[j]) ∨ (∀ x ∈ l, ¬ q x)
 | [] => .inr fun x hx => by cases hx
 | a :: l => by
   by_cases ha : q a
   ·exact .inl ⟨0, by simp, ha, fun j hj => absurd hj (Nat.not_lt_zero j)⟩
   ·rcases first_or q l with ⟨i, h, h1, h2⟩ | h
    ·refine .inl ⟨i + 1, by simp; exact h, by simpa using h1, fun j hj => ?_⟩
     cases j with
     | zero => exact ha
     | succ j => simpa using h2 j (by omega)
    ·refine .inr fun x hx => ?_
     rcases List.mem_cons.1 hx with rfl | hx
     ·exact ha
     ·exact h x hx
theorem ed_one (b : Nat) : [b].eraseDups = [b] := rfl
def scB (g b : Nat) (s : Scn) : List (Nat × Box) := [(b, ⟨g, scL s⟩)]
theorem scB_lt {g b : Nat} {s : Scn} {nx : Nat} (h : ∀ e ∈ scB g b s, e.1 < nx) : b < nx := h (b, ⟨g, scL s⟩) (by simp [scB])
theorem ptrsL_scL (s : Scn) : ptrsL (scL s) = [] := by simp [scL]
theorem reach_scB (g b : Nat) (s : Scn) (k : Nat) : reach [(b, (⟨g, scL s⟩ : Box))] k [b] = [b] := reach_one (c := ⟨g, scL s⟩) (ptrsL_scL s) (by simp [getBox])
set_option maxRecDepth 100000 in
theorem big53 (g b : Nat) (s : Scn) (x : Nat) : AnsM 1 Tryd.prog H14 78 [.int .u64 (x : Int), .bptr b 0] (scB g b s) (.bool (decide (s.p ≤ x))) (scB g b s) := by
 refine AnsM.gen (fn := Tryd.f78) (by rfl) Tryd.func78 rfl (by rfl) (fun nx h c hc => ?_) fun k hk nx h => ?_
 ·simp [scB, ptrs, ptrsL_scL] at hc
 ·have hb := scB_lt h
  by_cases hx : s.p ≤ x
  ·simp [entryS, scB, scL, hx, hb]
  ·simp [entryS, scB, scL, hx, hb]
set_option maxRecDepth 100000 in
theorem idx67 (g b : Nat) (s : Scn) (pm : Bool) (A : Option Addr) (cap : Nat) (l : List Nat) (hl : l.length ≤ 1000) (v : Int)
 (hv : (∃ i : Nat, v = i ∧ ∃ h : i < l.length, s.p ≤ l[i] ∧ ∀ j (hj : j < i), ¬ s.p ≤ l[j]) ∨ (v = -1 ∧ ∀ x ∈ l, ¬ s.p ≤ x)) :
 AnsM 1101 Tryd.prog H14 91 [.im pm A cap l.length (uL l), .fn (.func 78) [] [.bptr b 0]] (scB g b s) (.int .i64 v) (scB g b s) := by
 refine AnsM.gen (fn := Tryd.f91) (by rfl) Tryd.func91 rfl (by rfl) (fun nx h c hc => ?_) fun k hk nx h => ?_
 ·simp [scB, ptrs, ptrsL_scL] at hc
 have hb := scB_lt h
 obtain ⟨I, hI⟩ : ∃ I : Nat → St → Prop, I = fun q D => ∃ i : Nat, q = l.length - i ∧ i ≤ l.length ∧ (∀ j (hj : j < i) (hjl : j < l.length), ¬ s.p ≤ l[j]) ∧ D.s 0 = .im pm A cap l.length (uL l) ∧ D.s 1 = .fn (.func 78) [] [.bptr b 0] ∧ D.s 7 = .int .i64 (l.length : Int) ∧ D.s 8 = .int .i64 (i : Int) ∧ D.m = [(b, ⟨g, scL s⟩)] ∧ D.nx = nx := ⟨_, rfl⟩
 simp [entryS, scB]
 refine EvP.loop I (n := l.length) (by rw [hI]; exact ⟨0, by simp⟩) (by omega) fun q D hD => ?_
 rw [hI] at hD
 obtain ⟨i, rfl, hi, hpre, d0, d1, d7, d8, dm, dx⟩ := hD
 by_cases hil : i < l.length
 ·have e3 := wrap_succ (q := i) (by omega)
  have c0 := big53 g b s l[i] k (by omega) nx h
  simp only [scB] at c0
  have hr := reach_scB g b s 1
  by_cases hw : s.p ≤ l[i]
  ·rw [decide_eq_true hw] at c0
   have hvi : v = i := by
    rcases hv with ⟨i2, rfl, h2, h3, h4⟩ | ⟨_, h2⟩
    ·have : ¬ i2 < i := fun hlt => hpre i2 hlt h2 h3
     have : ¬ i < i2 := fun hlt => h4 i hlt hw
     omega
    ·exact absurd hw (h2 _ (List.getElem_mem hil))
   simp [-reach, d0, d1, d7, d8, dm, dx, hil, c0, hr, ed_one, hb, hvi]
  ·rw [decide_eq_false hw] at c0
   simp [-reach, d0, d1, d7, d8, dm, dx, hil, c0, hr, ed_one, hb, e3]
   subst hI
   refine ⟨l.length - (i + 1), by omega, i + 1, rfl, by omega, fun j hj hjl => ?_, by simp [d0], by simp [d1], by simp [d7], by simp, rfl, rfl⟩
   by_cases hji : j = i
   ·subst hji; exact hw
   ·exact hpre j (by omega) hjl
 ·have hil' : i = l.length := by omega
  have hvm : v = -1 := by
   rcases hv with ⟨i2, rfl, h2, h3, h4⟩ | ⟨h1, _⟩
   ·exact absurd h3 (hpre i2 (by omega) h2)
   ·exact h1
  subst hil'
  simp [d0, d1, d7, d8, dm, dx, hb, hvm]
set_option maxRecDepth 100000 in
theorem any52 (g b : Nat) (s : Scn) (pm : Bool) (A : Option Addr) (cap : Nat) (l : List Nat) (hl : l.length ≤ 1000) :
 AnsM 1102 Tryd.prog H14 77 [.im pm A cap l.length (uL l), .fn (.func 78) [] [.bptr b 0]] (scB g b s) (.bool (decide (∃ x ∈ l, s.p ≤ x))) (scB g b s) := by
 refine AnsM.gen (fn := Tryd.f77) (by rfl) Tryd.func77 rfl (by rfl) (fun nx h c hc => ?_) fun k hk nx h => ?_
 ·simp [scB, ptrs, ptrsL_scL] at hc
 have hb := scB_lt h
 have hr := reach_scB g b s 1
 rcases first_or (fun x => s.p ≤ x) l with ⟨i, h1, h2, h3⟩ | hno
 ·have c0 := idx67 g b s false A cap l hl i (.inl ⟨i, rfl, h1, h2, h3⟩) k (by omega) nx h
  simp only [scB] at c0
  have hx : ∃ x ∈ l, s.p ≤ x := ⟨_, List.getElem_mem h1, h2⟩
  rw [decide_eq_true hx]
  simp [-reach, entryS, scB, c0, hr, ed_one, hb]
 ·have c0 := idx67 g b s false A cap l hl (-1) (.inr ⟨rfl, hno⟩) k (by omega) nx h
  simp only [scB] at c0
  have hx : ¬ ∃ x ∈ l, s.p ≤ x := fun ⟨x, h1, h2⟩ => hno x h1 h2
  rw [decide_eq_false hx]
  simp [-reach, entryS, scB, c0, hr, ed_one, hb]
end Go.Abs
end
noncomputable section
namespace Go.Abs
open Go Go.Proofs
set_option maxRecDepth 100000 in
theorem big51 (g b : Nat) (s : Scn) (pm : Bool) (A : Option Addr) (cap : Nat) (l : List Nat) (hl : l.length ≤ 1000) : AnsM 1103 Tryd.prog H14 76 [.im pm A cap l.length (uL l), .bptr b 0] (scB g b s) (.bool (decide (∃ x ∈ l, s.p ≤ x))) (scB g b s) := by
 refine AnsM.gen (fn := Tryd.f76) (by rfl) Tryd.func76 rfl (by rfl) (fun nx h c hc => ?_) fun k hk nx h => ?_
 ·simp [scB, ptrs, ptrsL_scL] at hc
 ·have hb := scB_lt h
  have hr := reach_scB g b s 1
  have c0 := any52 g b s false A cap l hl k (by omega) nx h
  simp only [scB] at c0
  simp [-reach, entryS, scB, c0, hr, ed_one, hb]
def RB (p : Nat) (r : RD) : Prop := ∃ x ∈ r.l, p ≤ x
set_option maxRecDepth 100000 in
theorem idx66 (g b : Nat) (s : Scn) (pm : Bool) (A : Option Addr) (cap : Nat) (l : List RD) (hl : l.length ≤ 1000) (hr0 : ∀ r ∈ l, r.l.length ≤ 1000) (v : Int)
 (hv : (∃ i : Nat, v = i ∧ ∃ h : i < l.length, RB s.p l[i] ∧ ∀ j (hj : j < i), ¬ RB s.p l[j]) ∨ (v = -1 ∧ ∀ x ∈ l, ¬ RB s.p x)) :
 AnsM 1104 Tryd.prog H14 90 [.im pm A cap l.length (rsV l), .fn (.func 76) [] [.bptr b 0]] (scB g b s) (.int .i64 v) (scB g b s) := by
 refine AnsM.gen (fn := Tryd.f90) (by rfl) Tryd.func90 rfl (by rfl) (fun nx h c hc => ?_) fun k hk nx h => ?_
 ·simp [scB, ptrs, ptrsL_scL] at hc
 have hb := scB_lt h
 obtain ⟨I, hI⟩ : ∃ I : Nat → St → Prop, I = fun q D => ∃ i : Nat, q = l.length - i ∧ i ≤ l.length ∧ (∀ j (hj : j < i) (hjl : j < l.length), ¬ RB s.p l[j]) ∧ D.s 0 = .im pm A cap l.length (rsV l) ∧ D.s 1 = .fn (.func 76) [] [.bptr b 0] ∧ D.s 7 = .int .i64 (l.length : Int) ∧ D.s 8 = .int .i64 (i : Int) ∧ D.m = [(b, ⟨g, scL s⟩)] ∧ D.nx = nx := ⟨_, rfl⟩
 simp [entryS, scB]
 refine EvP.loop I (n := l.length) (by rw [hI]; exact ⟨0, by simp⟩) (by omega) fun q D hD => ?_
 rw [hI] at hD
 obtain ⟨i, rfl, hi, hpre, d0, d1, d7, d8, dm, dx⟩ := hD
 by_cases hil : i < l.length
 ·have e3 := wrap_succ (q := i) (by omega)
  have c0 := big51 g b s false l[i].A l[i].cap l[i].l (hr0 _ (List.getElem_mem hil)) k (by omega) nx h
  simp only [scB] at c0
  have hr := reach_scB g b s 1
  by_cases hw : RB s.p l[i]
  ·have hw' : ∃ x ∈ (l[i]'hil).l, s.p ≤ x := hw
   rw [decide_eq_true hw'] at c0
   have hvi : v = i := by
    rcases hv with ⟨i2, rfl, h2, h3, h4⟩ | ⟨_, h2⟩
    ·have : ¬ i2 < i := fun hlt => hpre i2 hlt h2 h3
     have : ¬ i < i2 := fun hlt => h4 i hlt hw
     omega
    ·exact absurd hw (h2 _ (List.getElem_mem hil))
   simp [-reach, d0, d1, d7, d8, dm, dx, hil, c0, hr, ed_one, hb, hvi]
  ·have hw' : ¬ ∃ x ∈ (l[i]'hil).l, s.p ≤ x := hw
   rw [decide_eq_false hw'] at c0
   simp [-reach, d0, d1, d7, d8, dm, dx, hil, c0, hr, ed_one, hb, e3]
   subst hI
   refine ⟨l.length - (i + 1), by omega, i + 1, rfl, by omega, fun j hj hjl => ?_, by simp [d0], by simp [d1], by simp [d7], by simp, rfl, rfl⟩
   by_cases hji : j = i
   ·subst hji; exact hw
   ·exact hpre j (by omega) hjl
 ·have hil' : i = l.length := by omega
  have hvm : v = -1 := by
   rcases hv with ⟨i2, rfl, h2, h3, h4⟩ | ⟨h1, _⟩
   ·exact absurd h3 (hpre i2 (by omega) h2)
   ·exact h1
  subst hil'
  simp [d0, d1, d7, d8, dm, dx, hb, hvm]
open Classical in
set_option maxRecDepth 100000 in
theorem any50 (g b : Nat) (s : Scn) (pm : Bool) (A : Option Addr) (cap : Nat) (l : List RD) (hl : l.length ≤ 1000) (hr0 : ∀ r ∈ l, r.l.length ≤ 1000) :
 AnsM 1105 Tryd.prog H14 75 [.im pm A cap l.length (rsV l), .fn (.func 76) [] [.bptr b 0]] (scB g b s) (.bool (decide (∃ r ∈ l, RB s.p r))) (scB g b s) := by
 refine AnsM.gen (fn := Tryd.f75) (by rfl) Tryd.func75 rfl (by rfl) (fun nx h c hc => ?_) fun k hk nx h => ?_
 ·simp [scB, ptrs, ptrsL_scL] at hc
 have hb := scB_lt h
 have hr := reach_scB g b s 1
 have hll : (l.map lent).length = l.length := by simp
 have hrl : ∀ r ∈ l.map lent, r.l.length ≤ 1000 := fun r hr => by
  obtain ⟨x, hx, rfl⟩ := List.mem_map.1 hr
  exact hr0 x hx
 rcases first_or (RB s.p) l with ⟨i, h1, h2, h3⟩ | hno
 ·have c0 := idx66 g b s false A cap (l.map lent) (by omega) hrl i (.inl ⟨i, rfl, by simpa using h1, by simpa [RB] using h2, fun j hj => by simpa [RB] using h3 j hj⟩) k (by omega) nx h
  simp only [scB, hll] at c0
  have hx : ∃ r ∈ l, RB s.p r := ⟨_, List.getElem_mem h1, h2⟩
  rw [decide_eq_true hx]
  simp [-reach, entryS, scB, c0, hr, ed_one, hb]
 ·have c0 := idx66 g b s false A cap (l.map lent) (by omega) hrl (-1) (.inr ⟨rfl, fun x hx => by
   obtain ⟨y, hy, rfl⟩ := List.mem_map.1 hx
   exact hno y hy⟩) k (by omega) nx h
  simp only [scB, hll] at c0
  have hx : ¬ ∃ r ∈ l, RB s.p r := fun ⟨x, h1, h2⟩ => hno x h1 h2
  rw [decide_eq_false hx]
  simp [-reach, entryS, scB, c0, hr, ed_one, hb]
end Go.Abs
end
