/- Joined: AbsRE AbsRF. -/
import Derived.Test.YteolodabmljaaaaAbs12
set_option linter.all false
/- The seat of privitylaw02: the functions with a loop, third part. -/
set_option linter.unusedVariables false
noncomputable section
namespace Go.Abs
open Go Go.Proofs Go.Bits

set_option maxHeartbeats 1000000 in
set_option maxRecDepth 100000 in
/-- Less(a, b), the reference -/
theorem less26 (pm pm2 : Bool) (A A2 : Option Addr) (cap cap2 : Nat) (a b : List Nat) (ha : a.length ≤ 1000) (hb : b.length ≤ 1000) : AnsN 1102 Try.prog H02 26 [.im pm A cap a.length (uL a), .im pm2 A2 cap2 b.length (uL b)] (.int .u64 ((lessL (prs a b (max a.length b.length)) : Nat) : Int)) := by
  refine AnsN.of (fn := Try.f26) (t := 4) (by rfl) Try.func26 rfl rfl (by rfl) (by simp [plainV]) fun k hk nx => ?_
  obtain ⟨I, hI⟩ : ∃ I : Nat → St → Prop, I = fun q D => ∃ i : Nat, q = max a.length b.length - i ∧ i ≤ max a.length b.length ∧ D.s 0 = .im pm A cap a.length (uL a) ∧ D.s 1 = .im pm2 A2 cap2 b.length (uL b) ∧ D.s 5 = .int .u64 ((lessL (prs a b i) : Nat) : Int) ∧ D.s 6 = .int .i64 (i : Int) ∧ D.m = [] := ⟨_, rfl⟩
  simp [entryS]
  refine EvP.loop I (n := max a.length b.length) (by rw [hI]; exact ⟨0, by simp [prs, upto, lessL]⟩) (by omega) fun q D hD => ?_
  rw [hI] at hD
  obtain ⟨i, rfl, hi, d0, d1, d5, d6, dm⟩ := hD
  have c1 := bit34 false A cap a i k (by omega)
  have c2 := bit34 false A2 cap2 b i k (by omega)
  by_cases hlt : i < max a.length b.length
  · have e3 := wrap_succ (q := i) (by omega)
    have hs : lessL (prs a b (i + 1)) = if at_ a i = at_ b i then lessL (prs a b i) else at_ b i := (congrArg lessL (prs_succ a b i)).trans (lessL_snoc _ _)
    have fin : ∀ D1 : St, D1.s 0 = .im pm A cap a.length (uL a) → D1.s 1 = .im pm2 A2 cap2 b.length (uL b) → D1.s 5 = .int .u64 ((lessL (prs a b (i + 1)) : Nat) : Int) → D1.s 6 = .int .i64 ((i : Int) + 1) → D1.m = [] → ∃ n', n' < max a.length b.length - i ∧ I n' D1 := by
      intro D1 h0 h1 h5 h6 hm
      subst hI
      exact ⟨max a.length b.length - (i + 1), by omega, i + 1, rfl, by omega, h0, h1, h5, by rw [h6]; simp, hm⟩
    by_cases heq : at_ a i = at_ b i
    · rw [if_pos heq] at hs
      by_cases hla : i < a.length
      · simp [d0, d1, d5, d6, hla, c1, c2, heq, e3, dm]
        exact fin _ (by simp [d0]) (by simp [d1]) (by simp [d5, hs]) (by simp) rfl
      · have hlb : i < b.length := by omega
        simp [d0, d1, d5, d6, hla, hlb, c1, c2, heq, e3, dm]
        exact fin _ (by simp [d0]) (by simp [d1]) (by simp [d5, hs]) (by simp) rfl
    · rw [if_neg heq] at hs
      have heq' : (((at_ a i : Nat) : Int) != ((at_ b i : Nat) : Int)) = true := by simp [bne]; omega
      by_cases hla : i < a.length
      · simp [d0, d1, d5, d6, hla, c1, c2, heq', e3, dm]
        exact fin _ (by simp [d0]) (by simp [d1]) (by simp [hs]) (by simp) rfl
      · have hlb : i < b.length := by omega
        simp [d0, d1, d5, d6, hla, hlb, c1, c2, heq', e3, dm]
        exact fin _ (by simp [d0]) (by simp [d1]) (by simp [hs]) (by simp) rfl
  · have hie : i = max a.length b.length := by omega
    have hla : ¬ i < a.length := by omega
    have hlb : ¬ i < b.length := by omega
    rw [hie] at d5
    simp [d0, d1, d5, d6, hla, hlb, dm]
theorem eqL_snoc (pre : List (Nat × Nat)) (x : Nat × Nat) : eqL (pre ++ [x]) = if x.1 = x.2 then eqL pre else 0 := by
  unfold eqL
  by_cases h : x.1 = x.2
  · rw [if_pos h]
    by_cases h2 : ∀ p ∈ pre, p.1 = p.2
    · rw [if_pos h2, if_pos fun p hp => ?_]
      rcases List.mem_append.1 hp with hp | hp
      · exact h2 p hp
      · simp at hp; rw [hp]; exact h
    · rw [if_neg h2, if_neg fun h3 => h2 fun p hp => h3 p (List.mem_append_left _ hp)]
  · rw [if_neg h, if_neg fun h3 => h (h3 x (by simp))]
theorem eqL_zero {a b : List Nat} {i m : Nat} (hi : i < m) (h : ¬ at_ a i = at_ b i) : eqL (prs a b m) = 0 := by
  unfold eqL
  rw [if_neg]
  intro h3
  exact h (h3 (at_ a i, at_ b i) (List.mem_map.2 ⟨i, List.mem_range.2 hi, rfl⟩))
set_option maxHeartbeats 1000000 in
set_option maxRecDepth 100000 in
/-- Equal(a, b), the reference -/
theorem equal27 (pm pm2 : Bool) (A A2 : Option Addr) (cap cap2 : Nat) (a b : List Nat) (ha : a.length ≤ 1000) (hb : b.length ≤ 1000) : AnsN 1102 Try.prog H02 27 [.im pm A cap a.length (uL a), .im pm2 A2 cap2 b.length (uL b)] (.int .u64 ((eqL (prs a b (max a.length b.length)) : Nat) : Int)) := by
  refine AnsN.of (fn := Try.f27) (t := 4) (by rfl) Try.func27 rfl rfl (by rfl) (by simp [plainV]) fun k hk nx => ?_
  obtain ⟨I, hI⟩ : ∃ I : Nat → St → Prop, I = fun q D => ∃ i : Nat, q = max a.length b.length - i ∧ i ≤ max a.length b.length ∧ D.s 0 = .im pm A cap a.length (uL a) ∧ D.s 1 = .im pm2 A2 cap2 b.length (uL b) ∧ eqL (prs a b i) = 1 ∧ D.s 5 = .int .i64 (i : Int) ∧ D.m = [] := ⟨_, rfl⟩
  simp [entryS]
  refine EvP.loop I (n := max a.length b.length) (by rw [hI]; exact ⟨0, by simp [prs, upto, eqL]⟩) (by omega) fun q D hD => ?_
  rw [hI] at hD
  obtain ⟨i, rfl, hi, d0, d1, he, d5, dm⟩ := hD
  have c1 := bit34 false A cap a i k (by omega)
  have c2 := bit34 false A2 cap2 b i k (by omega)
  by_cases hlt : i < max a.length b.length
  · have e3 := wrap_succ (q := i) (by omega)
    have hs : eqL (prs a b (i + 1)) = if at_ a i = at_ b i then eqL (prs a b i) else 0 := (congrArg eqL (prs_succ a b i)).trans (eqL_snoc _ _)
    have fin : ∀ D1 : St, D1.s 0 = .im pm A cap a.length (uL a) → D1.s 1 = .im pm2 A2 cap2 b.length (uL b) → eqL (prs a b (i + 1)) = 1 → D1.s 5 = .int .i64 ((i : Int) + 1) → D1.m = [] → ∃ n', n' < max a.length b.length - i ∧ I n' D1 := by
      intro D1 h0 h1 h5 h6 hm
      subst hI
      exact ⟨max a.length b.length - (i + 1), by omega, i + 1, rfl, by omega, h0, h1, h5, by rw [h6]; simp, hm⟩
    by_cases heq : at_ a i = at_ b i
    · rw [if_pos heq] at hs
      by_cases hla : i < a.length
      · simp [d0, d1, d5, hla, c1, c2, heq, e3, dm]
        exact fin _ (by simp [d0]) (by simp [d1]) (by rw [hs, he]) (by simp) rfl
      · have hlb : i < b.length := by omega
        simp [d0, d1, d5, hla, hlb, c1, c2, heq, e3, dm]
        exact fin _ (by simp [d0]) (by simp [d1]) (by rw [hs, he]) (by simp) rfl
    · have heq' : (((at_ a i : Nat) : Int) != ((at_ b i : Nat) : Int)) = true := by simp [bne]; omega
      have hz := eqL_zero hlt heq
      by_cases hla : i < a.length
      · simp [d0, d1, d5, hla, c1, c2, heq', e3, dm, hz]
      · have hlb : i < b.length := by omega
        simp [d0, d1, d5, hla, hlb, c1, c2, heq', e3, dm, hz]
  · have hie : i = max a.length b.length := by omega
    have hla : ¬ i < a.length := by omega
    have hlb : ¬ i < b.length := by omega
    rw [hie] at he
    simp [d0, d1, d5, hla, hlb, dm, he]
theorem sub_step {x y c : Nat} (hx : x ≤ 1) (hy : y ≤ 1) (hc : c ≤ 1) : (2 + x - y - c) % 2 = subS c (x, y) % 2 ∧ 1 - (2 + x - y - c) / 2 = subS c (x, y) / 9223372036854775808 := by
  rcases (by omega : x = 0 ∨ x = 1) with rfl | rfl <;> rcases (by omega : y = 0 ∨ y = 1) with rfl | rfl <;> rcases (by omega : c = 0 ∨ c = 1) with rfl | rfl <;> decide
set_option maxHeartbeats 2000000 in
set_option maxRecDepth 100000 in
/-- SaturatingSub(a, b), the reference -/
theorem sub23 (pm pm2 : Bool) (A A2 : Option Addr) (cap cap2 : Nat) (a b : List Nat) (ha : a.length ≤ 1000) (hb : b.length ≤ 1000) (Ba : Bit a) (Bb : Bit b) : AnsN 1103 Try.prog H02 23 [.im pm A cap a.length (uL a), .im pm2 A2 cap2 b.length (uL b)] (.own .nil 0 a.length (uL (subSpec a b))) := by
  refine AnsN.of (fn := Try.f23) (t := 4) (by rfl) Try.func23 rfl rfl (by rfl) (by simp [plainV]) fun k hk nx => ?_
  have c0 := less26 false false A A2 cap cap2 a b ha hb k (by omega)
  have hls : lessL (prs a b (max a.length b.length)) = 1 ∨ lessL (prs a b (max a.length b.length)) = 0 := by
    have : lessL (prs a b (max a.length b.length)) = _ := lessSpec_eq Ba Bb
    rw [this]; split <;> simp
  obtain ⟨none_, hnone⟩ : ∃ o : Bool, o = decide (lessL (prs a b (max a.length b.length)) = 1) := ⟨_, rfl⟩
  obtain ⟨out, hout⟩ : ∃ out : Nat → List Nat, out = fun i => if none_ then List.replicate i 0 else (Proofs.subL (prs a b i)).1 := ⟨_, rfl⟩
  have houtl : ∀ i, (out i).length = i := fun i => by
    rw [hout]; simp only; split
    · simp
    · rw [Proofs.subL_length]; exact upto_length _ _
  have hsp : subSpec a b = out a.length := by
    rw [hout]; simp only
    unfold subSpec
    rw [hnone]
    by_cases h : lessL (prs a b (max a.length b.length)) = 1
    · rw [if_pos (show lessL (pairs a b (max a.length b.length)) = 1 from h), if_pos (by simpa using h)]
    · rw [if_neg (show ¬ lessL (pairs a b (max a.length b.length)) = 1 from h), if_neg (by simpa using h)]; rfl
  obtain ⟨I, hI⟩ : ∃ I : Nat → St → Prop, I = fun q D => ∃ i : Nat, q = a.length - i ∧ i ≤ a.length ∧ D.s 0 = .im pm A cap a.length (uL a) ∧ D.s 1 = .im pm2 A2 cap2 b.length (uL b) ∧ D.s 5 = .own .nil 0 i (uL (out i)) ∧ D.s 6 = .bool none_ ∧ D.s 7 = .int .u64 (((Proofs.subL (prs a b i)).2 : Nat) : Int) ∧ D.s 8 = .int .i64 (i : Int) ∧ D.m = [] := ⟨_, rfl⟩
  have hout0 : out 0 = [] := List.eq_nil_of_length_eq_zero (houtl 0)
  have hn1 : (((lessL (prs a b (max a.length b.length)) : Nat) : Int) == 1) = none_ := by
    rw [hnone]
    rcases hls with h | h <;> rw [h] <;> rfl
  rw [hsp]
  generalize lessL (prs a b (max a.length b.length)) = ls at c0 hn1
  simp [entryS, c0, hn1]
  refine EvP.loop I (n := a.length) (by rw [hI]; exact ⟨0, by simp [prs, upto, Proofs.subL, hout0, uL]⟩) (by omega) fun q D hD => ?_
  rw [hI] at hD
  obtain ⟨i, rfl, hi, d0, d1, d5, d6, d7, d8, dm⟩ := hD
  have c1 := bit34 false A cap a i k (by omega)
  have c2 := bit34 false A2 cap2 b i k (by omega)
  have b2 : (i + 1) * 8 ≤ 140737488355328 := by omega
  have b3 : (i + 1) ≤ 140737488355328 := by omega
  have hoi := houtl i
  by_cases hlt : i < a.length
  · have e3 := wrap_succ (q := i) (by omega)
    have hx := Ba.at_ i
    have hy := Bb.at_ i
    have hc : (Proofs.subL (prs a b i)).2 ≤ 1 := (subL_ok (bits2_pairs Ba Bb) i).2.2.1
    obtain ⟨s1, s2⟩ := sub_step hx hy hc
    have hs : Proofs.subL (prs a b (i + 1)) = _ := (congrArg Proofs.subL (prs_succ a b i)).trans (subL_snoc _ _)
    obtain ⟨s, hsd⟩ : ∃ s, s = 2 + at_ a i - at_ b i - (Proofs.subL (prs a b i)).2 := ⟨_, rfl⟩
    have w1 : IntKind.u64.wrap (2 + ((at_ a i : Nat) : Int)) = 2 + ((at_ a i : Nat) : Int) := wrapu (by omega) (by omega)
    have w2 : IntKind.u64.wrap (2 + ((at_ a i : Nat) : Int) - ((at_ b i : Nat) : Int)) = 2 + ((at_ a i : Nat) : Int) - ((at_ b i : Nat) : Int) := wrapu (by omega) (by omega)
    have w3 : IntKind.u64.wrap (2 + ((at_ a i : Nat) : Int) - ((at_ b i : Nat) : Int) - (((Proofs.subL (prs a b i)).2 : Nat) : Int)) = (s : Int) := by rw [wrapu (by omega) (by omega)]; omega
    have e1 := int_rem2 (a := s)
    have e2 := int_quo2 (a := s) (by omega)
    have w4 : IntKind.u64.wrap (1 - ((s / 2 : Nat) : Int)) = ((1 - s / 2 : Nat) : Int) := by rw [wrapu (by omega) (by omega)]; omega
    rw [← hsd] at s1 s2
    have fin : ∀ D1 : St, D1.s 0 = .im pm A cap a.length (uL a) → D1.s 1 = .im pm2 A2 cap2 b.length (uL b) → D1.s 5 = .own .nil 0 (i + 1) (uL (out (i + 1))) → D1.s 6 = .bool none_ → D1.s 7 = .int .u64 (((Proofs.subL (prs a b (i + 1))).2 : Nat) : Int) → D1.s 8 = .int .i64 ((i : Int) + 1) → D1.m = [] → ∃ n', n' < a.length - i ∧ I n' D1 := by
      intro D1 h0 h1 h5 h6 h7 h8 hm
      subst hI
      exact ⟨a.length - (i + 1), by omega, i + 1, rfl, by omega, h0, h1, h5, h6, h7, by rw [h8]; simp, hm⟩
    have h7 : (Proofs.subL (prs a b (i + 1))).2 = 1 - s / 2 := by rw [hs]; exact s2.symm
    generalize hs2 : s / 2 = sh at e2 w4 h7
    generalize hss : s % 2 = sl at e1 s1
    cases hno : none_ with
    | true =>
      have ho1 : out (i + 1) = out i ++ [0] := by rw [hout]; simp only [hno, if_true]; exact List.replicate_succ'
      rw [hno] at d6 fin
      simp [d0, d1, d5, d6, d7, d8, hlt, c1, c2, w1, w2, w3, e1, e2, e3, w4, b2, b3, dm, hoi]
      exact fin _ (by simp [d0]) (by simp [d1]) (by simp [ho1, uL]) (by simp [d6]) (by simp [h7]) (by simp) rfl
    | false =>
      have ho1 : out (i + 1) = out i ++ [sl] := by
        rw [hout]; simp only [hno, Bool.false_eq_true, if_false]
        rw [hs, s1]
      rw [hno] at d6 fin
      simp [d0, d1, d5, d6, d7, d8, hlt, c1, c2, w1, w2, w3, e1, e2, e3, w4, b2, b3, dm, hoi]
      exact fin _ (by simp [d0]) (by simp [d1]) (by simp [ho1, uL]) (by simp [d6]) (by simp [h7]) (by simp) rfl
  · have hie : i = a.length := by omega
    rw [hie] at d5 d8
    simp [d0, d1, d5, d6, d7, d8, dm]
end Go.Abs
end
/- The seat of privitylaw02: Mul. -/
set_option linter.unusedVariables false
noncomputable section
namespace Go.Bits
/-- Midway through one row of a multiplication: b's bits are being added to o, from bit i on; j bits are done. -/
structure Row (b o o' : List Nat) (L i j c : Nat) : Prop where
  bit : Bit o'
  len : o'.length = L
  car : c ≤ 1
  eq : up (at_ o') j + c * 2 ^ j = up (at_ o) j + up (at_ b) (j - i) * 2 ^ i
  rest : ∀ q, j ≤ q → at_ o' q = at_ o q
theorem Row.start {b o : List Nat} {L i : Nat} (hb : Bit o) (hl : o.length = L) : Row b o o L i i 0 := ⟨hb, hl, by omega, by simp [up], fun _ _ => rfl⟩
theorem at_set {l : List Nat} {j x q : Nat} (hj : j < l.length) : at_ (l.set j x) q = if q = j then x else at_ l q := by
  unfold at_
  rw [List.getElem?_set]
  by_cases h : j = q
  · subst h; simp [hj]
  · have h' : ¬ q = j := fun e => h e.symm
    simp [h, h']
theorem Bit.set {l : List Nat} {j x : Nat} (h : Bit l) (hx : x ≤ 1) : Bit (l.set j x) := fun y hy => by
  rcases List.mem_or_eq_of_mem_set hy with hy | hy
  · exact h y hy
  · omega
theorem Row.step {b o o' : List Nat} {L i j c : Nat} (hB : Bit b) (hO : Bit o) (h : Row b o o' L i j c) (hij : i ≤ j) (hj : j < L) :
    Row b o (o'.set j ((at_ o' j + at_ b (j - i) + c) % 2)) L i (j + 1) ((at_ o' j + at_ b (j - i) + c) / 2) := by
  have h1 := hB.at_ (j - i)
  have h2 := h.bit.at_ j
  have h3 := h.car
  have hjl : j < o'.length := by rw [h.len]; exact hj
  refine ⟨h.bit.set (by omega), by rw [List.length_set, h.len], by omega, ?_, fun q hq => ?_⟩
  · have e1 : up (at_ (o'.set j ((at_ o' j + at_ b (j - i) + c) % 2))) (j + 1) = up (at_ o') j + (at_ o' j + at_ b (j - i) + c) % 2 * 2 ^ j := by
      rw [up, at_set hjl, if_pos rfl, up_congr (g := at_ o') fun q hq => by rw [at_set hjl, if_neg (by omega)]]
    have e2 : j + 1 - i = (j - i) + 1 := by omega
    have e3 : 2 ^ (j - i) * 2 ^ i = 2 ^ j := by rw [← Nat.pow_add]; congr 1; omega
    rw [e1, e2, up, up, Nat.add_mul, Nat.mul_assoc (at_ b (j - i)), e3]
    rw [← h.rest j (Nat.le_refl _)]
    exact add_round (o := 0) h.eq rfl
  · rw [at_set hjl, if_neg (by omega)]
    exact h.rest q (by omega)
/-- A row added. -/
theorem Row.fin {a b o o' : List Nat} {i c : Nat} (hA : Bit a) (hB : Bit b) (hi : i < a.length) (h : Row b o o' (a.length + b.length) i (a.length + b.length) c) (hl : o.length = a.length + b.length) (hx : at_ a i = 1) (ho : num o = up (at_ a) i * num b) : num o' = up (at_ a) (i + 1) * num b := by
  have e := h.eq
  have e1 : up (at_ b) (a.length + b.length - i) = num b := up_num (by omega)
  have e2 : up (at_ o') (a.length + b.length) = num o' := up_num (by rw [h.len]; omega)
  have e3 : up (at_ o) (a.length + b.length) = num o := up_num (by rw [hl]; omega)
  rw [e1, e2, e3, ho] at e
  have e4 : up (at_ a) (i + 1) * num b = up (at_ a) i * num b + num b * 2 ^ i := by
    rw [up, hx, Nat.one_mul, Nat.add_mul, Nat.mul_comm (2 ^ i)]
  have l1 : up (at_ a) (i + 1) < 2 ^ (i + 1) := up_lt hA.at_ _
  have l2 : 2 ^ (i + 1) ≤ 2 ^ a.length := Nat.pow_le_pow_right (by omega) (by omega)
  have l3 := num_lt hB
  have l4 : up (at_ a) (i + 1) * num b < 2 ^ (a.length + b.length) := by
    rw [Nat.pow_add]
    exact Nat.mul_lt_mul_of_lt_of_le (by omega) (by omega) (Nat.pos_of_ne_zero (by simp))
  have hc := h.car
  rcases (by omega : c = 0 ∨ c = 1) with rfl | rfl
  · omega
  · omega
theorem mul_done {a b o : List Nat} (hb : Bit o) (hl : o.length = a.length + b.length) (hn : num o = num a * num b) : o = bitsOf (num a * num b) (a.length + b.length) := eq_bitsOf hb hl hn
theorem mul_skip {a b o : List Nat} {i : Nat} (hx : at_ a i = 0) (ho : num o = up (at_ a) i * num b) : num o = up (at_ a) (i + 1) * num b := by
  rw [up, hx, Nat.zero_mul, Nat.add_zero, ho]
end Go.Bits
namespace Go.Abs
open Go Go.Proofs Go.Bits
theorem sh_shr1 {a : Nat} : shOp .shr .u64 (a : Int) 1 = some (.int .u64 ((a / 2 : Nat) : Int)) := by simpa using sh_shr (a := a) (i := 1) (by omega)
theorem uL_set (l : List Nat) (j x : Nat) : (uL l).set j (.int .u64 (x : Int)) = uL (l.set j x) := by simp [uL, List.map_set]
theorem rep_zero (n : Nat) : rep n [V.int .u64 0] = uL (List.replicate n 0) := by
  induction n with
  | zero => rfl
  | succ n ih => simp [rep, ih, uL, List.replicate_succ]
theorem at_get {l : List Nat} {j : Nat} (h : j < l.length) : l[j] = at_ l j := by simp [at_, h]
theorem uL_get? {l : List Nat} {j : Nat} (h : j < l.length) : (uL l)[j]? = some (V.int .u64 ((at_ l j : Nat) : Int)) := by
  simp [uL, at_, h]
set_option maxHeartbeats 4000000 in
set_option maxRecDepth 100000 in
/-- Mul(a, b) -/
theorem mul28 (pm pm2 : Bool) (A A2 : Option Addr) (cap cap2 : Nat) (a b : List Nat) (ha : a.length ≤ 500) (hb : b.length ≤ 500) (Ba : Bit a) (Bb : Bit b) : AnsN 2001 Try.prog H02 28 [.im pm A cap a.length (uL a), .im pm2 A2 cap2 b.length (uL b)] (.own .nil 0 (a.length + b.length) (uL (bitsOf (num a * num b) (a.length + b.length)))) := by
  refine AnsN.of (fn := Try.f28) (t := 4) (by rfl) Try.func28 rfl rfl (by rfl) (by simp [plainV]) fun k hk nx => ?_
  obtain ⟨I, hI⟩ : ∃ I : Nat → St → Prop, I = fun q D => ∃ (i : Nat) (o : List Nat), q = a.length - i ∧ i ≤ a.length ∧ Bit o ∧ o.length = a.length + b.length ∧ num o = up (at_ a) i * num b ∧ D.s 0 = .im pm A cap a.length (uL a) ∧ D.s 1 = .im pm2 A2 cap2 b.length (uL b) ∧ D.s 18 = .im pm A cap a.length (uL a) ∧ D.s 19 = .int .i64 (a.length : Int) ∧ D.s 20 = .int .i64 (i : Int) ∧ D.s 5 = .own .nil 0 (a.length + b.length) (uL o) ∧ D.m = [] := ⟨_, rfl⟩
  have w0 : IntKind.i64.wrap ((a.length : Int) + (b.length : Int)) = ((a.length + b.length : Nat) : Int) := by rw [wrap_nat (by omega) (by omega)]; omega
  have b0 : ((a.length : Int) + (b.length : Int)) ≤ 140737488355328 := by omega
  have b1 : ((a.length : Int) + (b.length : Int)) * 8 ≤ 140737488355328 := by omega
  have b00 : 0 ≤ ((a.length : Int) + (b.length : Int)) := by omega
  have tn : ((a.length : Int) + (b.length : Int)).toNat = a.length + b.length := by omega
  have z0 : ¬ (((a.length : Int) + (b.length : Int)) = 0 ∧ 0 < ((a.length : Int) + (b.length : Int))) := by omega
  simp [entryS, w0, b0, b1, b00, tn, z0, rep_zero]
  refine EvP.loop I (n := a.length) (by rw [hI]; exact ⟨0, List.replicate (a.length + b.length) 0, by simp [bit_zeros, num_zeros, up]⟩) (by omega) fun q D hD => ?_
  rw [hI] at hD
  obtain ⟨i, o, rfl, hi, hbo, hlo, hno, d0, d1, d18, d19, d20, d5, dm⟩ := hD
  by_cases hlt : i < a.length
  · have e3 := wrap_succ (q := i) (by omega)
    have hu := at_get hlt
    have fin : ∀ (o' : List Nat) (D1 : St), Bit o' → o'.length = a.length + b.length → num o' = up (at_ a) (i + 1) * num b → D1.s 0 = .im pm A cap a.length (uL a) → D1.s 1 = .im pm2 A2 cap2 b.length (uL b) → D1.s 18 = .im pm A cap a.length (uL a) → D1.s 19 = .int .i64 (a.length : Int) → D1.s 20 = .int .i64 ((i : Int) + 1) → D1.s 5 = .own .nil 0 (a.length + b.length) (uL o') → D1.m = [] → ∃ n', n' < a.length - i ∧ I n' D1 := by
      intro o' D1 h1 h2 h3 h4 h5 h6 h7 h8 h9 hm
      subst hI
      exact ⟨a.length - (i + 1), by omega, i + 1, o', rfl, by omega, h1, h2, h3, h4, h5, h6, h7, by rw [h8]; simp, h9, hm⟩
    have hx01 := Ba.at_ i
    by_cases hx : at_ a i = 0
    · simp [d0, d1, d18, d19, d20, d5, hlt, hu, hx, e3]
      exact fin o _ hbo hlo (mul_skip hx hno) (by simp [d0]) (by simp [d1]) (by simp [d18]) (by simp [d19]) (by simp) (by simp [d5]) dm
    · have hx1 : at_ a i = 1 := by omega
      obtain ⟨J, hJ⟩ : ∃ J : Nat → St → Prop, J = fun q D => ∃ (j c : Nat) (o' : List Nat), q = a.length + b.length - j ∧ i ≤ j ∧ j ≤ a.length + b.length ∧ Row b o o' (a.length + b.length) i j c ∧ D.s 0 = .im pm A cap a.length (uL a) ∧ D.s 1 = .im pm2 A2 cap2 b.length (uL b) ∧ D.s 18 = .im pm A cap a.length (uL a) ∧ D.s 19 = .int .i64 (a.length : Int) ∧ D.s 20 = .int .i64 (i : Int) ∧ D.s 6 = .int .i64 (i : Int) ∧ D.s 8 = .int .u64 (c : Int) ∧ D.s 9 = .int .i64 (j : Int) ∧ D.s 5 = .own .nil 0 (a.length + b.length) (uL o') ∧ D.m = [] := ⟨_, rfl⟩
      simp [d0, d1, d18, d19, d20, d5, hlt, hu, hx1]
      refine EvP.loop J (n := a.length + b.length - i) (by rw [hJ]; exact ⟨i, 0, o, by omega, by omega, by omega, Row.start hbo hlo, by simp [d0, d1, d18, d19, d20, d5, dm]⟩) (by omega) fun q D hD => ?_
      rw [hJ] at hD
      obtain ⟨j, c, o', rfl, hij, hj, hR, d0, d1, d18, d19, d20, d6, d8, d9, d5, dm⟩ := hD
      clear fin hu
      by_cases hjl : j < a.length + b.length
      · have hjl' : (j : Int) < (a.length : Int) + (b.length : Int) := by omega
        have hjo : j < o'.length := by rw [hR.len]; exact hjl
        have e4 : IntKind.i64.wrap ((j : Int) - (i : Int)) = ((j - i : Nat) : Int) := by rw [wrap_nat (by omega) (by omega)]; omega
        have e5 := wrap_succ (q := j) (by omega)
        have hlo' := hR.len
        have hg := at_get hjo
        have c1 := hR.car
        have c2 := hR.bit.at_ j
        have c3 := Bb.at_ (j - i)
        obtain ⟨s, hs⟩ : ∃ s, s = at_ o' j + at_ b (j - i) + c := ⟨_, rfl⟩
        have w1 : IntKind.u64.wrap (((at_ o' j : Nat) : Int) + ((at_ b (j - i) : Nat) : Int)) = ((at_ o' j + at_ b (j - i) : Nat) : Int) := by rw [wrapu (by omega) (by omega)]; omega
        have w2 : IntKind.u64.wrap (((at_ o' j : Nat) : Int) + ((at_ b (j - i) : Nat) : Int) + (c : Int)) = (s : Int) := by rw [wrapu (by omega) (by omega)]; omega
        have s1 := int_and1 (a := s) (by omega)
        have s2 := sh_shr1 (a := s)
        have us := uL_set o' j (s % 2)
        have hN := hR.step Bb hbo hij hjl
        rw [← hs] at hN
        generalize hsm : s % 2 = sm at s1 us hN
        generalize hsd : s / 2 = sd at s2 hN
        have tj : ((j : Int) - (i : Int)).toNat = j - i := by omega
        generalize hji : j - i = ji at *
        by_cases hbj : ji < b.length
        · have hbj' : (ji : Int) < b.length := by omega
          have hgb := at_get hbj
          simp [d0, d1, d18, d19, d20, d6, d8, d9, d5, hjl', hjl, hjo, hlo', e4, e5, hbj, hg, hgb, w1, w2, s1, s2, us]
          subst hJ
          exact ⟨a.length + b.length - (j + 1), by omega, j + 1, sd, _, rfl, by omega, by omega, hN, by simp [d0], by simp [d1], by simp [d18], by simp [d19], by simp [d20], by simp [d6], by simp, by simp, by simp [us], dm⟩
        · have hbz : at_ b ji = 0 := at_ge (by omega)
          rw [hbz] at w1 w2
          simp at w1 w2
          simp [d0, d1, d18, d19, d20, d6, d8, d9, d5, hjl', hjl, hjo, hlo', e4, e5, hbj, hg, w1, w2, s1, s2, us]
          subst hJ
          exact ⟨a.length + b.length - (j + 1), by omega, j + 1, sd, _, rfl, by omega, by omega, hN, by simp [d0], by simp [d1], by simp [d18], by simp [d19], by simp [d20], by simp [d6], by simp, by simp, by simp [us], dm⟩
      · have hje : j = a.length + b.length := by omega
        have hjl' : ¬ (j : Int) < (a.length : Int) + (b.length : Int) := by omega
        subst hje
        simp [d0, d1, d18, d19, d20, d6, d8, d9, d5, hR.len, e3]
        subst hI
        exact ⟨a.length - (i + 1), by omega, i + 1, o', rfl, by omega, hR.bit, hR.len, hR.fin Ba Bb hlt hlo hx1 hno, by simp [d0], by simp [d1], by simp [d18], by simp [d19], by simp, by simp [d5], dm⟩
  · have hia : i = a.length := by omega
    subst hia
    have : o = bitsOf (num a * num b) (a.length + b.length) := mul_done hbo hlo hno
    simp [d0, d1, d18, d19, d20, d5, dm, this]
end Go.Abs
end
