/- Joined: AbsNSO AbsNSQ AbsNSR AbsNSS AbsNSU AbsNUA AbsNUB. -/
import Derived.Test.YtjdgcblikhkioaaDoorAbs7
set_option linter.all false
/- The seat of privitylaw14: a deviation applied to a message. -/
set_option linter.unusedVariables false
noncomputable section
namespace Go.Abs
open Go Go.Proofs
attribute [local simp] intOp shOp
set_option maxRecDepth 100000

@[simp] theorem cellIn_uL (l : List Nat) : (uL l).all cellIn = true := by
  unfold uL; induction l with
  | nil => rfl
  | cons x l ih => simp [cellIn, solid]
@[simp] theorem noRowL_uL (l : List Nat) : noRowL (uL l) = true := by
  unfold uL; induction l with
  | nil => rfl
  | cons x l ih => simp only [List.map_cons, noRowL, noRow, ih, Bool.and_self]
/-- A value that holds the words l. -/
inductive IsRow : V → List Nat → Prop
  | im (pm : Bool) (A : Option Addr) (cap : Nat) (l : List Nat) : IsRow (.im pm A cap l.length (uL l)) l
  | own (k : Nat) (l : List Nat) : IsRow (.own .nil k l.length (uL l)) l
/-- What a deviation makes of a message. -/
def uponS (p : Nat) (c : List Int) (x : Dev) (l said : List Nat) : List Nat :=
  if x.kind = 4 then [] else
  if (l.length : Int) ≤ x.at_ then l else
  if x.kind = 1 then l.set x.at_.toNat (x.k % p) else
  if x.kind = 2 then l.set x.at_.toNat ((l[x.at_.toNat]?.getD 0 + x.k % p) % p) else
  if x.kind = 3 then l.set x.at_.toNat ((l[x.at_.toNat]?.getD 0 + (x.k % p) * (if x.of_ ∈ c then 0 else wordS said x.src) % p) % p) else l
theorem wordS_lt {l : List Nat} {p : Nat} (hp : 0 < p) (h : ∀ y ∈ l, y < p) (i : Int) : wordS l i < p := by
  unfold wordS
  split
  · cases hi : l[i.toNat]? with
    | none => simpa using hp
    | some y => simpa using h y (List.mem_of_getElem? hi)
  · exact hp
theorem uL_set (l : List Nat) (i v : Nat) : (uL l).set i (.int .u64 (v : Int)) = uL (l.set i v) := by
  unfold uL; rw [List.map_set]
set_option maxHeartbeats 16000000 in
set_option maxRecDepth 100000 in
theorem upon24 (s : Scn) (hs : ScnOk s) {q : Nat} (hq : (s.p, q) ∈ pq7) : ∃ N, ∀ (x : Dev) (pm pm2 : Bool) (A A2 : Option Addr) (cap cap2 : Nat) (l said : List Nat), 0 ≤ x.at_ → x.k < 18446744073709551616 → l.length ≤ 1000 → (∀ y ∈ l, y < s.p) → (∀ y ∈ said, y < s.p) →
    ∃ v, AnsN N Tryd.prog H14 60 [scV s, devV x, .im pm A cap l.length (uL l), .im pm2 A2 cap2 said.length (uL said)] v ∧ IsRow v (uponS s.p s.corrupt x l said) := by
  obtain ⟨hp1, hq1, hq2⟩ := pq_facts hq
  obtain ⟨N1, h1⟩ := reduce33 s.p q hq
  obtain ⟨N2, h2⟩ := add35 s.p q hq
  obtain ⟨N3, h3⟩ := mul37 s.p q hq
  obtain ⟨p, n, t, cpm, cA, ccap, corrupt, dpm, dA, dcap, devs, tpm, tA, tcap, tapes⟩ := s
  obtain ⟨hs1, hs2, hs3, hs4⟩ := hs
  simp only at *
  have hp61 : p < 2305843009213693952 := by
    have : 2 ^ q ≤ 2 ^ 61 := Nat.pow_le_pow_right (by omega) hq2
    omega
  have hp0 : 0 < p := by
    have : 2 ^ 5 ≤ 2 ^ q := Nat.pow_le_pow_right (by omega) hq1
    omega
  refine ⟨N1 + N2 + N3 + corrupt.length + 5 + 1, fun x pm pm2 A A2 cap cap2 l said hat hk64 hl hlp hsp => ?_⟩
  obtain ⟨round, from_, to, at_, kind, xk, of_, src⟩ := x
  simp only at hat hk64
  obtain ⟨j, rfl⟩ : ∃ j : Nat, at_ = j := ⟨at_.toNat, by omega⟩
  have mk : ∀ v, plainV v = true → (∀ k, N1 + N2 + N3 + corrupt.length + 5 ≤ k → ∀ nx, EvP Tryd.prog H14 (evCall Tryd.prog H14 k) 60 k (Tryd.f60.body.getD .skip) (entryS [scV ⟨p, n, t, cpm, cA, ccap, corrupt, dpm, dA, dcap, devs, tpm, tA, tcap, tapes⟩, devV ⟨round, from_, to, j, kind, xk, of_, src⟩, .im pm A cap l.length (uL l), .im pm2 A2 cap2 said.length (uL said)] [] nx) (fun e D => (e = .norm ∨ e = .ret) ∧ D.s 8 = v ∧ ∀ b ∈ D.m, nx ≤ b.1)) → AnsN (N1 + N2 + N3 + corrupt.length + 5 + 1) Tryd.prog H14 60 [scV ⟨p, n, t, cpm, cA, ccap, corrupt, dpm, dA, dcap, devs, tpm, tA, tcap, tapes⟩, devV ⟨round, from_, to, j, kind, xk, of_, src⟩, .im pm A cap l.length (uL l), .im pm2 A2 cap2 said.length (uL said)] v :=
    fun v hv h => AnsN.of (fn := Tryd.f60) (t := 8) (by rfl) Tryd.func60 rfl rfl (by rfl) hv h
  by_cases k4 : kind = 4
  · refine ⟨.own .nil 0 0 [], mk _ (by rfl) fun k hk nx => ?_, by simp only [uponS, k4, if_true]; exact IsRow.own 0 []⟩
    refine EvP.seq (EvP.region ?_)
    simp [entryS, scV, scL, devV]
    refine EvP.seq (EvP.seq (EvP.region ?_))
    simp [k4]
    refine EvP.cond (t := true) (by simp) (fun _ => ?_) (fun h => by cases h)
    refine EvP.seq (EvP.region ?_)
    simp
    refine EvP.ret ?_
    simp
    rintro a b (⟨rfl, _⟩ | ⟨rfl, _⟩) <;> omega
  · by_cases hj : l.length ≤ j
    · refine ⟨.im pm A cap l.length (uL l), mk _ (by simp [plainV]) fun k hk nx => ?_, by simp only [uponS, k4, if_false, if_pos (show (l.length : Int) ≤ (j : Int) by omega)]; exact IsRow.im _ _ _ _⟩
      refine EvP.seq (EvP.region ?_)
      simp [entryS, scV, scL, devV]
      refine EvP.seq (EvP.seq (EvP.region ?_))
      simp [k4]
      refine EvP.cond (t := false) (by simp [k4]) (fun h => by cases h) (fun _ => EvP.skip ?_)
      simp
      refine EvP.seq (EvP.seq (EvP.region ?_))
      simp [hj]
      refine EvP.cond (t := true) (by simp [hj]) (fun _ => ?_) (fun h => by cases h)
      refine EvP.seq (EvP.region ?_)
      simp
      refine EvP.ret ?_
      simp
      rintro a b (⟨rfl, _⟩ | ⟨rfl, _⟩) <;> omega
    · have hjl : j < l.length := by omega
      have hj2 : ¬ ((l.length : Int) ≤ (j : Int)) := by omega
      have hlj := hlp _ (List.getElem_mem hjl)
      obtain ⟨kk, hkk⟩ : ∃ kk, kk = xk % p := ⟨_, rfl⟩
      have hkp : kk < p := by rw [hkk]; exact Nat.mod_lt _ hp0
      have c1 := h1 xk hk64
      rw [← hkk] at c1
      have hget : l[j]?.getD 0 = l[j] := by rw [List.getElem?_eq_getElem hjl]; rfl
      have pre : ∀ lst : List Nat, lst.length = l.length → plainV (.own .nil 0 l.length (uL lst)) = true := fun lst _ => by simp [plainV]
      have isr : ∀ lst : List Nat, lst.length = l.length → IsRow (.own .nil 0 l.length (uL lst)) lst := fun lst h => by rw [← h]; exact IsRow.own _ _
      have hn1 : l.length * 8 ≤ 140737488355328 := by omega
      have hn2 : l.length ≤ 140737488355328 := by omega
      by_cases k1 : kind = 1
      · refine ⟨.own .nil 0 l.length (uL (l.set j kk)), mk _ (pre _ (by simp)) fun k hk nx => ?_, ?_⟩
        · refine EvP.seq (EvP.region ?_)
          simp [entryS, scV, scL, devV]
          refine EvP.seq (EvP.seq (EvP.region ?_))
          simp [k4]
          refine EvP.cond (t := false) (by simp [k4]) (fun h => by cases h) (fun _ => EvP.skip ?_)
          simp
          refine EvP.seq (EvP.seq (EvP.region ?_))
          simp [hj]
          refine EvP.cond (t := false) (by simp [hj]) (fun h => by cases h) (fun _ => EvP.skip ?_)
          simp
          refine EvP.seq (EvP.region ?_)
          simp
          have c1 := c1 k (by omega)
          refine EvP.seq (EvP.region ?_)
          simp [c1]
          refine EvP.seq (EvP.region ?_)
          simp [cloneX, hn1, hn2]
          refine EvP.seq (EvP.seq (EvP.region ?_))
          simp
          refine EvP.block (EvP.seq (EvP.region ?_))
          simp [k1]
          refine EvP.cond (t := true) (by simp [k1]) (fun _ => ?_) (fun h => by cases h)
          refine EvP.region ?_
          simp [k1, hjl]
          refine EvP.seq (EvP.region ?_)
          simp [uL_set]
          refine EvP.ret ?_
          simp
          rintro a b (⟨rfl, _⟩ | ⟨rfl, _⟩) <;> omega
        · have hU : uponS p corrupt ⟨round, from_, to, j, kind, xk, of_, src⟩ l said = l.set j kk := by simp [uponS, hj, hj2, hget, k1, hkk]
          rw [hU]
          exact isr _ (by simp)
      · by_cases k2 : kind = 2
        · obtain ⟨r2, hr2⟩ : ∃ r2, r2 = (l[j] + kk) % p := ⟨_, rfl⟩
          have c2 := h2 l[j] kk (by omega)
          rw [← hr2] at c2
          refine ⟨.own .nil 0 l.length (uL (l.set j r2)), mk _ (pre _ (by simp)) fun k hk nx => ?_, ?_⟩
          · have c2 := c2 k (by omega)
            refine EvP.seq (EvP.region ?_)
            simp [entryS, scV, scL, devV]
            refine EvP.seq (EvP.seq (EvP.region ?_))
            simp [k4]
            refine EvP.cond (t := false) (by simp [k4]) (fun h => by cases h) (fun _ => EvP.skip ?_)
            simp
            refine EvP.seq (EvP.seq (EvP.region ?_))
            simp [hj]
            refine EvP.cond (t := false) (by simp [hj]) (fun h => by cases h) (fun _ => EvP.skip ?_)
            simp
            refine EvP.seq (EvP.region ?_)
            simp
            have c1 := c1 k (by omega)
            refine EvP.seq (EvP.region ?_)
            simp [c1]
            refine EvP.seq (EvP.region ?_)
            simp [cloneX, hn1, hn2]
            refine EvP.seq (EvP.seq (EvP.region ?_))
            simp
            refine EvP.block (EvP.seq (EvP.region ?_))
            simp [k2]
            refine EvP.cond (t := false) (by simp [k2]) (fun h => by cases h) (fun _ => ?_)
            refine EvP.seq (EvP.region ?_)
            simp [k2]
            refine EvP.cond (t := true) (by simp [k2]) (fun _ => ?_) (fun h => by cases h)
            refine EvP.draw ?_
            simp [k2, hjl, c2]
            refine EvP.seq (EvP.region ?_)
            simp [uL_set]
            refine EvP.ret ?_
            simp
            rintro a b (⟨rfl, _⟩ | ⟨rfl, _⟩) <;> omega
          · have hU : uponS p corrupt ⟨round, from_, to, j, kind, xk, of_, src⟩ l said = l.set j r2 := by simp [uponS, hj, hj2, hget, k2, hkk, hr2]
            rw [hU]
            exact isr _ (by simp)
        · by_cases k3 : kind = 3
          · by_cases hof : of_ ∈ corrupt
            · obtain ⟨hd1, hhd⟩ : ∃ hd1 : Nat, hd1 = 0 := ⟨_, rfl⟩
              obtain ⟨r3, hr3⟩ : ∃ r3, r3 = kk * hd1 % p := ⟨_, rfl⟩
              have hr3p : r3 < p := by rw [hr3]; exact Nat.mod_lt _ hp0
              obtain ⟨r2, hr2⟩ : ∃ r2, r2 = (l[j] + r3) % p := ⟨_, rfl⟩
              have c3 := h3 kk hd1 (by omega) (by omega)
              rw [← hr3] at c3
              have c2 := h2 l[j] r3 (by omega)
              rw [← hr2] at c2
              have c5 := contains32 false cA ccap corrupt of_ hs1
              have c6 := word36 false A2 cap2 said src
              refine ⟨.own .nil 0 l.length (uL (l.set j r2)), mk _ (pre _ (by simp)) fun k hk nx => ?_, ?_⟩
              · have c2 := c2 k (by omega)
                have c3 := c3 k (by omega)
                have c3 : ∀ nx, evCall Tryd.prog H14 k 74 [.int .u64 (p : Int), .int .u64 (kk : Int), .int .u64 0] [] nx = some (.int .u64 (r3 : Int), [], nx) := by rw [hhd] at c3; exact c3
                have c5 := c5 k (by omega)
                have c6 := c6 k (by omega)
                refine EvP.seq (EvP.region ?_)
                simp [entryS, scV, scL, devV]
                refine EvP.seq (EvP.seq (EvP.region ?_))
                simp [k4]
                refine EvP.cond (t := false) (by simp [k4]) (fun h => by cases h) (fun _ => EvP.skip ?_)
                simp
                refine EvP.seq (EvP.seq (EvP.region ?_))
                simp [hj]
                refine EvP.cond (t := false) (by simp [hj]) (fun h => by cases h) (fun _ => EvP.skip ?_)
                simp
                refine EvP.seq (EvP.region ?_)
                simp
                have c1 := c1 k (by omega)
                refine EvP.seq (EvP.region ?_)
                simp [c1]
                refine EvP.seq (EvP.region ?_)
                simp [cloneX, hn1, hn2]
                refine EvP.seq (EvP.seq (EvP.region ?_))
                simp
                refine EvP.block (EvP.seq (EvP.region ?_))
                simp [k3]
                refine EvP.cond (t := false) (by simp [k3]) (fun h => by cases h) (fun _ => ?_)
                refine EvP.seq (EvP.region ?_)
                simp [k3]
                refine EvP.cond (t := false) (by simp [k3]) (fun h => by cases h) (fun _ => ?_)
                refine EvP.seq (EvP.region ?_)
                simp [k3]
                refine EvP.cond (t := true) (by simp [k3]) (fun _ => ?_) (fun h => by cases h)
                refine EvP.seq (EvP.region ?_)
                simp
                refine EvP.seq (EvP.seq (EvP.region ?_))
                simp [c5, hof]
                refine EvP.cond (t := false) (by simp [hof]) (fun h => by cases h) (fun _ => ?_)
                refine EvP.skip ?_
                simp
                refine EvP.draw ?_
                simp [k3, hjl, c3, c2]
                refine EvP.seq (EvP.region ?_)
                simp [uL_set]
                refine EvP.ret ?_
                simp
                rintro a b (⟨rfl, _⟩ | ⟨rfl, _⟩) <;> omega
              · have hU : uponS p corrupt ⟨round, from_, to, j, kind, xk, of_, src⟩ l said = l.set j r2 := by simp [uponS, hj, hj2, hget, k3, hof, hkk, hr2, hr3, hhd]
                rw [hU]
                exact isr _ (by simp)
            · obtain ⟨hd1, hhd⟩ : ∃ hd1 : Nat, hd1 = wordS said src := ⟨_, rfl⟩
              have := wordS_lt hp0 hsp src
              obtain ⟨r3, hr3⟩ : ∃ r3, r3 = kk * hd1 % p := ⟨_, rfl⟩
              have hr3p : r3 < p := by rw [hr3]; exact Nat.mod_lt _ hp0
              obtain ⟨r2, hr2⟩ : ∃ r2, r2 = (l[j] + r3) % p := ⟨_, rfl⟩
              have c3 := h3 kk hd1 (by omega) (by omega)
              rw [← hr3] at c3
              have c2 := h2 l[j] r3 (by omega)
              rw [← hr2] at c2
              have c5 := contains32 false cA ccap corrupt of_ hs1
              have c6 := word36 false A2 cap2 said src
              rw [← hhd] at c6
              refine ⟨.own .nil 0 l.length (uL (l.set j r2)), mk _ (pre _ (by simp)) fun k hk nx => ?_, ?_⟩
              · have c2 := c2 k (by omega)
                have c3 := c3 k (by omega)
                have c5 := c5 k (by omega)
                have c6 := c6 k (by omega)
                refine EvP.seq (EvP.region ?_)
                simp [entryS, scV, scL, devV]
                refine EvP.seq (EvP.seq (EvP.region ?_))
                simp [k4]
                refine EvP.cond (t := false) (by simp [k4]) (fun h => by cases h) (fun _ => EvP.skip ?_)
                simp
                refine EvP.seq (EvP.seq (EvP.region ?_))
                simp [hj]
                refine EvP.cond (t := false) (by simp [hj]) (fun h => by cases h) (fun _ => EvP.skip ?_)
                simp
                refine EvP.seq (EvP.region ?_)
                simp
                have c1 := c1 k (by omega)
                refine EvP.seq (EvP.region ?_)
                simp [c1]
                refine EvP.seq (EvP.region ?_)
                simp [cloneX, hn1, hn2]
                refine EvP.seq (EvP.seq (EvP.region ?_))
                simp
                refine EvP.block (EvP.seq (EvP.region ?_))
                simp [k3]
                refine EvP.cond (t := false) (by simp [k3]) (fun h => by cases h) (fun _ => ?_)
                refine EvP.seq (EvP.region ?_)
                simp [k3]
                refine EvP.cond (t := false) (by simp [k3]) (fun h => by cases h) (fun _ => ?_)
                refine EvP.seq (EvP.region ?_)
                simp [k3]
                refine EvP.cond (t := true) (by simp [k3]) (fun _ => ?_) (fun h => by cases h)
                refine EvP.seq (EvP.region ?_)
                simp
                refine EvP.seq (EvP.seq (EvP.region ?_))
                simp [c5, hof]
                refine EvP.cond (t := true) (by simp [hof]) (fun _ => ?_) (fun h => by cases h)
                refine EvP.region ?_
                simp [c6]
                refine EvP.draw ?_
                simp [k3, hjl, c3, c2]
                refine EvP.seq (EvP.region ?_)
                simp [uL_set]
                refine EvP.ret ?_
                simp
                rintro a b (⟨rfl, _⟩ | ⟨rfl, _⟩) <;> omega
              · have hU : uponS p corrupt ⟨round, from_, to, j, kind, xk, of_, src⟩ l said = l.set j r2 := by simp [uponS, hj, hj2, hget, k3, hof, hkk, hr2, hr3, hhd]
                rw [hU]
                exact isr _ (by simp)
          · refine ⟨.own .nil 0 l.length (uL (l)), mk _ (pre _ (by simp)) fun k hk nx => ?_, ?_⟩
            · refine EvP.seq (EvP.region ?_)
              simp [entryS, scV, scL, devV]
              refine EvP.seq (EvP.seq (EvP.region ?_))
              simp [k4]
              refine EvP.cond (t := false) (by simp [k4]) (fun h => by cases h) (fun _ => EvP.skip ?_)
              simp
              refine EvP.seq (EvP.seq (EvP.region ?_))
              simp [hj]
              refine EvP.cond (t := false) (by simp [hj]) (fun h => by cases h) (fun _ => EvP.skip ?_)
              simp
              refine EvP.seq (EvP.region ?_)
              simp
              have c1 := c1 k (by omega)
              refine EvP.seq (EvP.region ?_)
              simp [c1]
              refine EvP.seq (EvP.region ?_)
              simp [cloneX, hn1, hn2]
              refine EvP.seq (EvP.seq (EvP.region ?_))
              simp
              refine EvP.block (EvP.seq (EvP.region ?_))
              simp [k1]
              refine EvP.cond (t := false) (by simp [k1]) (fun h => by cases h) (fun _ => ?_)
              refine EvP.seq (EvP.region ?_)
              simp [k2]
              refine EvP.cond (t := false) (by simp [k2]) (fun h => by cases h) (fun _ => ?_)
              refine EvP.seq (EvP.region ?_)
              simp [k3]
              refine EvP.cond (t := false) (by simp [k3]) (fun h => by cases h) (fun _ => ?_)
              refine EvP.skip ?_
              simp
              refine EvP.seq (EvP.region ?_)
              simp [uL_set]
              refine EvP.ret ?_
              simp
              rintro a b (⟨rfl, _⟩ | ⟨rfl, _⟩) <;> omega
            · have hU : uponS p corrupt ⟨round, from_, to, j, kind, xk, of_, src⟩ l said = l := by simp [uponS, hj, hj2, hget, k1, k2, k3, k4]
              rw [hU]
              exact isr _ (by simp)
end Go.Abs
end
/- The seat of privitylaw14: ApplyToBroadcasts. -/
set_option linter.unusedVariables false
noncomputable section
namespace Go.Abs
open Go Go.Proofs
attribute [local simp] intOp shOp
set_option maxRecDepth 100000

section
variable {P : Program} {H : Hint} {f : Nat}
/-- A function answers with a value of this kind. -/
def AnsP (N : Nat) (P : Program) (H : Hint) (f : Nat) (xs : List V) (Q : V → Prop) : Prop := ∀ n, N ≤ n → ∀ nx, ∃ r, evCall P H n f xs [] nx = some (r, [], nx) ∧ Q r
theorem AnsN.p {N : Nat} {xs : List V} {r : V} (h : AnsN N P H f xs r) {Q : V → Prop} (hq : Q r) : AnsP N P H f xs Q := fun n hn nx => ⟨r, h n hn nx, hq⟩
theorem AnsP.of {N : Nat} {fn : Func} {c : Code} {xs : List V} {Q : V → Prop} {t : Nat} (hg : H.good f = true) (hf : P.funcs[f]? = some fn) (hb : fn.body = some c) (hres : fn.results = #[.tmp t]) (hfr : H.fr f = false)
    (h : ∀ k, N ≤ k → ∀ nx, EvP P H (evCall P H k) f k c (entryS xs [] nx) (fun e D => (e = .norm ∨ e = .ret) ∧ (plainV (D.s t) = true ∧ Q (D.s t)) ∧ ∀ b ∈ D.m, nx ≤ b.1)) : AnsP (N + 1) P H f xs Q := by
  intro n hn nx
  obtain ⟨k, rfl⟩ : ∃ k, n = k + 1 := ⟨n - 1, by omega⟩
  obtain ⟨e, D, h1, h2, ⟨hr, hQ⟩, h4⟩ := h k (by omega) nx
  obtain ⟨⟨D1, q1, q2, q3⟩, q4⟩ := plain_settle rfl hr
  refine ⟨D.s t, ?_, hQ⟩
  unfold evCall
  simp only [hg, hf, hb]
  have h1' : evCode P H (evCall P H k) f k c { s := fun i => match xs[i]? with | some v => v | none => .dead, m := [], nx := nx } = some (e, D) := h1
  have hres' : evRes P D fn.results.toList = some ([D.s t], D1) := by rw [hres]; simp [evRes, q1]
  have hfil : D1.m.filter (fun e => decide (e.1 < nx)) = [] := by
    rw [List.filter_eq_nil_iff, q2]
    intro b hb
    have := h4 b hb
    simp; omega
  rw [if_neg (by simp)]
  generalize hq : evCode P H (evCall P H k) f k c _ = q
  have : q = some (e, D) := by rw [← hq]; exact h1'
  subst this
  simp only [if_pos h2, hres', hfr, Bool.false_and, packRes, Bool.false_eq_true, if_false, hfil, q4, List.flatMap_nil, List.append_nil, List.any_nil]
end
theorem IsRow.ptrs {v : V} {l : List Nat} (h : IsRow v l) : Abs.ptrs v = [] := by
  cases h <;> simp [Abs.ptrs]
theorem getBox_app_new {n : Nat} {c : Box} : ∀ {m : List (Nat × Box)}, (∀ b ∈ m, b.1 < n) → getBox (m ++ [(n, c)]) n = some c
  | [], _ => by simp [getBox]
  | (i, d) :: l, h => by
    have hi : i ≠ n := by have := h _ List.mem_cons_self; simp at this; omega
    simp only [List.cons_append, getBox, if_neg hi]
    exact getBox_app_new fun b hb => h b (List.mem_cons_of_mem _ hb)
theorem getBox_app_old {n : Nat} {c : Box} {l : List (Nat × Box)} : ∀ {m : List (Nat × Box)}, getBox m n = some c → getBox (m ++ l) n = some c
  | [], h => by simp [getBox] at h
  | (i, d) :: m, h => by
    simp only [List.cons_append, getBox] at h ⊢
    split
    · rename_i hi; simpa [hi] using h
    · rename_i hi; rw [if_neg hi] at h; exact getBox_app_old h
theorem setBox_app_new {n : Nat} {c c' : Box} : ∀ {m : List (Nat × Box)}, (∀ b ∈ m, b.1 < n) → setBox (m ++ [(n, c)]) n c' = m ++ [(n, c')]
  | [], _ => by simp [setBox]
  | (i, d) :: l, h => by
    have hi : i ≠ n := by have := h _ List.mem_cons_self; simp at this; omega
    simp only [List.cons_append, setBox, if_neg hi]
    rw [setBox_app_new fun b hb => h b (List.mem_cons_of_mem _ hb)]
@[simp] theorem filter_fls {α : Type} (m : List α) : m.filter (fun _ => false) = [] := by induction m <;> simp_all
@[simp] theorem reach_nil (m : List (Nat × Box)) (k : Nat) : reach m k [] = [] := by cases k <;> simp [reach]
/-- Messages of some parties. -/
def Rows (cs : List V) (ls : List (List Nat)) : Prop := cs.length = ls.length ∧ ∀ (i : Nat) (v : V) (l : List Nat), cs[i]? = some v → ls[i]? = some l → IsRow v l
theorem Rows.set {cs : List V} {ls : List (List Nat)} (h : Rows cs ls) (i : Nat) {v : V} {l : List Nat} (hv : IsRow v l) : Rows (cs.set i v) (ls.set i l) := by
  refine ⟨by simp [h.1], fun j v' l' h1 h2 => ?_⟩
  rw [List.getElem?_set] at h1 h2
  split at h1
  · rename_i hij
    rw [if_pos hij] at h2
    split at h1
    · split at h2
      · cases h1; cases h2; exact hv
      · cases h2
    · cases h1
  · rename_i hij
    rw [if_neg hij] at h2
    exact h.2 j v' l' h1 h2
theorem rows_rsV (rs : List RD) : Rows (rsV rs) (rs.map (·.l)) := by
  refine ⟨by simp, fun i v l h1 h2 => ?_⟩
  unfold rsV at h1
  rw [List.getElem?_map] at h1 h2
  cases hr : rs[i]? with
  | none => rw [hr] at h1; cases h1
  | some r => rw [hr] at h1 h2; cases h1; cases h2; exact IsRow.im _ _ _ _
theorem Rows.tail {v : V} {cs : List V} {l : List Nat} {ls : List (List Nat)} (h : Rows (v :: cs) (l :: ls)) : IsRow v l ∧ Rows cs ls :=
  ⟨h.2 0 v l (by simp) (by simp), by simpa using h.1, fun i v' l' a b => h.2 (i + 1) v' l' (by simpa using a) (by simpa using b)⟩
theorem Rows.ptrs : ∀ {cs : List V} {ls : List (List Nat)}, Rows cs ls → ptrsL cs = []
  | [], _, _ => rfl
  | v :: cs, [], h => by have := h.1; simp at this
  | v :: cs, l :: ls, h => by simp [ptrsL, h.tail.1.ptrs, Rows.ptrs h.tail.2]
/-- Read-only again. -/
theorem Rows.frz (pm : Bool) : ∀ {cs : List V} {ls : List (List Nat)}, Rows cs ls → ∃ rs : List RD, frzL pm cs = rsV rs ∧ rs.map (·.l) = ls
  | [], ls, h => ⟨[], rfl, by cases ls with | nil => rfl | cons _ _ => have := h.1; simp at this⟩
  | v :: cs, [], h => by have := h.1; simp at this
  | v :: cs, l :: ls, h => by
    obtain ⟨rs, h1, h2⟩ := Rows.frz pm (cs := cs) (ls := ls) ⟨by simpa using h.1, fun i v' l' a b => h.2 (i + 1) v' l' (by simpa using a) (by simpa using b)⟩
    have hv : IsRow v l := h.2 0 v l (by simp) (by simp)
    cases hv with
    | im pm' A cap => exact ⟨⟨pm, A, cap, l⟩ :: rs, by simp [frzL, Abs.frz, h1, rsV, rV], by simp [h2]⟩
    | own k =>
      obtain ⟨A, cap, he⟩ : ∃ A cap, Abs.frz pm (.own .nil k l.length (uL l)) = .im pm A cap l.length (frzL pm (uL l)) := ⟨_, _, rfl⟩
      exact ⟨⟨pm, A, cap, l⟩ :: rs, by simp only [frzL, he, h1, rsV, rV, frzL_uL, List.map_cons], by simp [h2]⟩
@[simp] theorem cellIn_rsV (rs : List RD) : (rsV rs).all cellIn = true := by
  unfold rsV; induction rs with
  | nil => rfl
  | cons x l ih => simp [cellIn, solid, rV]
attribute [simp] hitRef hitLoc pre
@[simp] theorem lent_map (rs : List RD) : (rs.map lent).map (·.l) = rs.map (·.l) := by simp [List.map_map, Function.comp_def]
/-- A scenario that is lent. -/
def lentS (s : Scn) : Scn := { s with cpm := false, dpm := false, tpm := false, tapes := s.tapes.map lent }
theorem lentS_ok {s : Scn} (h : ScnOk s) : ScnOk (lentS s) := ⟨h.c, h.d, by simpa [lentS] using h.t, by
  intro x hx
  obtain ⟨y, hy, rfl⟩ := List.mem_map.1 (show x ∈ s.tapes.map lent from hx)
  exact h.r y hy⟩
theorem foldl_take_succ {α β : Type} (f : β → α → β) (a : β) {l : List α} {i : Nat} (h : i < l.length) : (l.take (i + 1)).foldl f a = f ((l.take i).foldl f a) l[i] := by
  rw [List.take_add_one, List.getElem?_eq_getElem h, List.foldl_append]; rfl
/-- One deviation of a round's broadcasts. -/
def stepB (p : Nat) (c : List Int) (rd : Int) (out all : List (List Nat)) (x : Dev) : List (List Nat) :=
  if x.round = rd ∧ x.from_ ∈ c then all.set (x.from_ - 1).toNat (uponS p c x (all[(x.from_ - 1).toNat]?.getD []) (if x.kind = 3 then out[(x.of_ - 1).toNat]?.getD [] else [])) else all
def broadS (p : Nat) (c : List Int) (rd : Int) (out : List (List Nat)) (devs : List Dev) : List (List Nat) := devs.foldl (stepB p c rd out) out
/-- Messages that a field's arithmetic can bear. -/
def LsOk (p : Nat) (ls : List (List Nat)) : Prop := ∀ l ∈ ls, l.length ≤ 1000 ∧ ∀ y ∈ l, y < p
theorem upon_ok {p : Nat} (hp : 0 < p) {c : List Int} {x : Dev} {l said : List Nat} (h : l.length ≤ 1000 ∧ ∀ y ∈ l, y < p) : (uponS p c x l said).length ≤ 1000 ∧ ∀ y ∈ uponS p c x l said, y < p := by
  have hset : ∀ (i v : Nat), v < p → (l.set i v).length ≤ 1000 ∧ ∀ y ∈ l.set i v, y < p := fun i v hv => ⟨by simpa using h.1, fun y hy => by
    rcases List.mem_or_eq_of_mem_set hy with hy | rfl
    · exact h.2 y hy
    · exact hv⟩
  unfold uponS
  split
  · exact ⟨by simp, by simp⟩
  · split
    · exact h
    · split
      · exact hset _ _ (Nat.mod_lt _ hp)
      · split
        · exact hset _ _ (Nat.mod_lt _ hp)
        · split
          · exact hset _ _ (Nat.mod_lt _ hp)
          · exact h
theorem stepB_ok {p : Nat} (hp : 0 < p) {c : List Int} {rd : Int} {out all : List (List Nat)} {x : Dev} (h : LsOk p all) : LsOk p (stepB p c rd out all x) := by
  unfold stepB
  split
  · intro l hl
    rcases List.mem_or_eq_of_mem_set hl with hl | rfl
    · exact h l hl
    · refine upon_ok hp ?_
      cases hi : all[(x.from_ - 1).toNat]? with
      | none => exact ⟨by simp, by simp⟩
      | some l => exact h l (List.mem_of_getElem? hi)
  · exact h
@[simp] theorem stepB_length {p : Nat} {c : List Int} {rd : Int} {out all : List (List Nat)} {x : Dev} : (stepB p c rd out all x).length = all.length := by
  unfold stepB; split <;> simp
theorem fold_ok {p : Nat} (hp : 0 < p) {c : List Int} {rd : Int} {out : List (List Nat)} : ∀ {devs : List Dev} {all : List (List Nat)}, LsOk p all → LsOk p (devs.foldl (stepB p c rd out) all) ∧ (devs.foldl (stepB p c rd out) all).length = all.length
  | [], all, h => ⟨h, rfl⟩
  | x :: l, all, h => by
    obtain ⟨h1, h2⟩ := fold_ok (devs := l) hp (stepB_ok (c := c) (rd := rd) (out := out) (x := x) hp h)
    exact ⟨h1, by rw [List.foldl_cons, h2, stepB_length]⟩
set_option maxHeartbeats 16000000 in
set_option maxRecDepth 100000 in
theorem broad13 (s : Scn) (hs : ScnOk s) {q : Nat} (hq : (s.p, q) ∈ pq7) (hd : ∀ x ∈ s.devs, DevP s.n x) (hk64 : ∀ x ∈ s.devs, x.k < 18446744073709551616) (rd : Int) : ∃ N, ∀ (pm : Bool) (A : Option Addr) (cap : Nat) (rs : List RD), (rs.length : Int) = s.n → s.n ≤ 13 → LsOk s.p (rs.map (·.l)) →
    AnsP N Tryd.prog H14 40 [scV s, .int .i64 rd, .im pm A cap rs.length (rsV rs)] (fun v => ∃ cs, v = .own .nil 0 rs.length cs ∧ Rows cs (broadS s.p s.corrupt rd (rs.map (·.l)) s.devs)) := by
  have hml : maxLen = 9223372036854775807 := rfl
  obtain ⟨hp1, hq1, hq2⟩ := pq_facts hq
  have hp0 : 0 < s.p := by
    have : 2 ^ 5 ≤ 2 ^ q := Nat.pow_le_pow_right (by omega) hq1
    omega
  obtain ⟨N1, h1⟩ := upon24 (lentS s) (lentS_ok hs) hq
  have h0 : ∀ x, AnsN (s.corrupt.length + 4) Tryd.prog H14 59 [scV (lentS s), devV x, .int .i64 rd] (.bool (decide (x.round = rd ∧ x.from_ ∈ s.corrupt))) := fun x => done23 (lentS s) (lentS_ok hs) x rd
  obtain ⟨p, n, t, cpm, cA, ccap, corrupt, dpm, dA, dcap, devs, tpm, tA, tcap, tapes⟩ := s
  obtain ⟨hs1, hs2, hs3, hs4⟩ := hs
  simp only at *
  refine ⟨N1 + corrupt.length + 4 + devs.length + 1 + 1, fun pm A cap rs hlen hn13 hw => ?_⟩
  refine AnsP.of (fn := Tryd.f40) (t := 6) (by rfl) Tryd.func40 rfl rfl (by rfl) fun k hk nx => ?_
  have hn1 : rs.length * 24 ≤ 140737488355328 := by omega
  have hn2 : rs.length ≤ 140737488355328 := by omega
  have c0 := fun x => h0 x k (by omega)
  simp only [scV, scL, lentS, devV, List.length_map] at c0
  refine EvP.seq (EvP.region ?_)
  simp [entryS, scV, scL]
  refine EvP.seq (EvP.region ?_)
  simp [cloneX, hn1, hn2]
  refine EvP.seq (EvP.seq (EvP.region ?_))
  simp
  generalize hout : rs.map (·.l) = out at *
  refine EvP.block (EvP.loop (fun q D => ∃ (i : Nat) (cs : List V), q = devs.length - i ∧ i ≤ devs.length ∧ Rows cs ((devs.take i).foldl (stepB p corrupt rd out) out) ∧ D.s 1 = .int .i64 rd ∧ D.s 2 = .im pm A cap rs.length (rsV rs) ∧ D.s 3 = .bptr nx 0 ∧ D.s 7 = .own .nil 0 rs.length cs ∧ D.s 14 = .im dpm dA dcap devs.length (devsV devs) ∧ D.s 15 = .int .i64 (devs.length : Int) ∧ D.s 16 = .int .i64 (i : Int)
    ∧ getBox D.m nx = some ⟨0, scL ⟨p, n, t, cpm, cA, ccap, corrupt, dpm, dA, dcap, devs, tpm, tA, tcap, tapes⟩⟩ ∧ (∀ b ∈ D.m, b.1 < D.nx) ∧ (∀ b ∈ D.m, nx ≤ b.1) ∧ nx < D.nx) (n := devs.length) ?_ (by omega) ?_)
  · refine ⟨0, rsV (rs.map lent), by simp, by simp, ?_⟩
    simp [scL, getBox]
    rw [← hout, ← lent_map]
    exact rows_rsV _
  rintro q D ⟨i, cs, hn, hi, hR, d1, d2, d3, d7, d14, d15, d16, g0, g1, g2, g3⟩
  simp only [liveOf14, clear_none]
  refine EvP.seq (EvP.region ?_)
  simp [d15, d16]
  refine EvP.seq (EvP.cond (t := decide (i < devs.length)) (by simp) (fun h => EvP.skip ?_) (fun h => EvP.exit ?_))
  · have hlt : i < devs.length := by simpa using h
    simp only [thenE_norm]
    refine EvP.seq (EvP.block (EvP.seq (EvP.region ?_)))
    have h8 : i * 8 + 8 ≤ devs.length * 8 := by omega
    have h88 : 8 ≤ devs.length * 8 - i * 8 := by omega
    have e1 : ∀ c, getBox (D.m ++ [(D.nx, c)]) D.nx = some c := fun c => getBox_app_new g1
    have e2' : ∀ c, getBox (D.m ++ [(D.nx, c)]) nx = some ⟨0, scL ⟨p, n, t, cpm, cA, ccap, corrupt, dpm, dA, dcap, devs, tpm, tA, tcap, tapes⟩⟩ := fun c => getBox_app_old g0
    have e3 : ∀ c c', setBox (D.m ++ [(D.nx, c)]) D.nx c' = D.m ++ [(D.nx, c')] := fun c c' => setBox_app_new g1
    have b1 : ∀ (c : Box) (a : Nat) (b : Box), (a, b) ∈ D.m ∨ a = D.nx ∧ b = c → a < D.nx + 1 := by
      rintro c a b (h | ⟨rfl, _⟩)
      · have := g1 _ h; simp at this; omega
      · omega
    have b2 : ∀ (c : Box) (a : Nat) (b : Box), (a, b) ∈ D.m ∨ a = D.nx ∧ b = c → nx ≤ a := by
      rintro c a b (h | ⟨rfl, _⟩)
      · exact g2 _ h
      · omega
    have e2 := e2'
    unfold scL at e2
    simp only at e2
    have hx := hd devs[i] (List.getElem_mem hlt)
    have hrow : Rows cs ((devs.take i).foldl (stepB p corrupt rd out) out) := hR
    obtain ⟨hlsok, hlslen⟩ := fold_ok (c := corrupt) (rd := rd) (out := out) (devs := devs.take i) hp0 hw
    have houtl : out.length = rs.length := by rw [← hout]; simp
    generalize hls : (devs.take i).foldl (stepB p corrupt rd out) out = ls at *
    have hstep : (devs.take (i + 1)).foldl (stepB p corrupt rd out) out = stepB p corrupt rd out ls devs[i] := by
      rw [foldl_take_succ _ _ hlt, hls]
    simp [d1, d2, d3, d7, d14, d15, d16, hlt, h8, h88, devL, e1, e2, e3]
    refine EvP.seq (EvP.seq (EvP.region ?_))
    obtain ⟨b, hb⟩ : ∃ b, b = decide (devs[i].round = rd ∧ devs[i].from_ ∈ corrupt) := ⟨_, rfl⟩
    have c0i := c0 devs[i]
    rw [← hb] at c0i
    cases b with
    | false =>
      simp [d1, d3, e1, e2, c0i]
      refine EvP.cond (t := true) (by simp) (fun _ => EvP.exit ?_) (fun h => by cases h)
      simp
      refine EvP.region ?_
      simp [d16, d1, d2, d3, d7, d14, d15]
      have hno : ¬ (devs[i].round = rd ∧ devs[i].from_ ∈ corrupt) := by simpa using hb.symm
      exact ⟨_, by omega, i + 1, rfl, by omega, cs, by rw [hstep, stepB, if_neg hno]; exact hR, rfl, wrap_succ (by omega), e2' _, b1 _, b2 _, by omega⟩
    | true =>
      have hyes : (devs[i].round = rd ∧ devs[i].from_ ∈ corrupt) := by simpa using hb.symm
      obtain ⟨fr, hfr0⟩ : ∃ fr : Nat, devs[i].from_ = (fr : Int) + 1 := ⟨(devs[i].from_ - 1).toNat, by have := hx.from1; omega⟩
      have hfr : IntKind.i64.wrap (devs[i].from_ - 1) = (fr : Int) := by rw [hfr0, wrap_nat (by omega) (by have := hx.from2; omega)]; omega
      have hfrl : fr < rs.length := by have := hx.from2; omega
      have hcs : cs.length = rs.length := by rw [hR.1, hlslen, houtl]
      have hfrc : fr < cs.length := by omega
      have hfrs : fr < ls.length := by omega
      have hvrow := hR.2 fr _ _ (List.getElem?_eq_getElem hfrc) (List.getElem?_eq_getElem hfrs)
      have hok := hlsok ls[fr] (List.getElem_mem hfrs)
      simp [d1, d3, e1, e2, c0i]
      refine EvP.cond (t := false) (by simp) (fun h => by cases h) (fun _ => EvP.skip ?_)
      simp
      refine EvP.seq (EvP.region ?_)
      simp
      refine EvP.seq (EvP.seq (EvP.region ?_))
      simp [e1, d2, d3]
      have fin : ∀ (v : V) (said : List Nat), said = (if devs[i].kind = 3 then out[(devs[i].of_ - 1).toNat]?.getD [] else []) → IsRow v (uponS p corrupt devs[i] ls[fr] said) → Rows (cs.set fr v) ((devs.take (i + 1)).foldl (stepB p corrupt rd out) out) := by
        intro v said hsaid hv
        rw [hstep, stepB, if_pos hyes, ← hsaid, show (devs[i].from_ - 1).toNat = fr by omega, List.getElem?_eq_getElem hfrs]
        exact hR.set fr hv
      by_cases k3 : devs[i].kind = 3
      · refine EvP.cond (t := true) (by simp [k3]) (fun _ => ?_) (fun h => by cases h)
        obtain ⟨og, hog0⟩ : ∃ og : Nat, devs[i].of_ = (og : Int) + 1 := ⟨(devs[i].of_ - 1).toNat, by have := hx.echo k3; omega⟩
        have hog : IntKind.i64.wrap (devs[i].of_ - 1) = (og : Int) := by rw [hog0, wrap_nat (by omega) (by have := hx.of2; omega)]; omega
        have hogl : og < rs.length := by have := hx.of2; omega
        have hsaid : rs[og].l = (if devs[i].kind = 3 then out[(devs[i].of_ - 1).toNat]?.getD [] else []) := by
          rw [if_pos k3, show (devs[i].of_ - 1).toNat = og by omega, ← hout, List.getElem?_map, List.getElem?_eq_getElem hogl]; rfl
        have hsok : ∀ y ∈ rs[og].l, y < p := (hw rs[og].l (by rw [← hout]; exact List.mem_map_of_mem (List.getElem_mem hogl))).2
        refine EvP.region ?_
        simp [e1, d2, d3, hog, hogl]
        refine EvP.draw ?_
        generalize hl : ls[fr] = l at *
        generalize hv0 : cs[fr] = v0 at *
        cases hvrow with
        | im pm' A' cap' =>
          obtain ⟨v, hv, hvr⟩ := h1 devs[i] false false A' rs[og].A cap' rs[og].cap l rs[og].l hx.at_ (hk64 _ (List.getElem_mem hlt)) hok.1 hok.2 hsok
          have hv := hv k (by omega)
          simp only [scV, scL, lentS, devV, List.length_map] at hv
          have hR' := fin v _ hsaid hvr
          cases hvr with
          | im pm2 A2 cap2 =>
            simp [e1, e2, d1, d2, d3, d7, hfr, hfrl, hfrc, hcs, hv0, hv]
            refine EvP.region ?_
            simp [d1, d2, d3, d14, d15, d16]
            exact ⟨_, by omega, i + 1, rfl, by omega, _, hR', rfl, wrap_succ (by omega), e2' _, b1 _, b2 _, by omega⟩
          | own k2 =>
            simp [e1, e2, d1, d2, d3, d7, hfr, hfrl, hfrc, hcs, hv0, hv]
            refine EvP.region ?_
            simp [d1, d2, d3, d14, d15, d16]
            exact ⟨_, by omega, i + 1, rfl, by omega, _, hR', rfl, wrap_succ (by omega), e2' _, b1 _, b2 _, by omega⟩
        | own k' =>
          obtain ⟨v, hv, hvr⟩ := h1 devs[i] false false none rs[og].A 0 rs[og].cap l rs[og].l hx.at_ (hk64 _ (List.getElem_mem hlt)) hok.1 hok.2 hsok
          have hv := hv k (by omega)
          simp only [scV, scL, lentS, devV, List.length_map] at hv
          have hR' := fin v _ hsaid hvr
          cases hvr with
          | im pm2 A2 cap2 =>
            simp [e1, e2, d1, d2, d3, d7, hfr, hfrl, hfrc, hcs, hv0, hv]
            refine EvP.region ?_
            simp [d1, d2, d3, d14, d15, d16]
            exact ⟨_, by omega, i + 1, rfl, by omega, _, hR', rfl, wrap_succ (by omega), e2' _, b1 _, b2 _, by omega⟩
          | own k2 =>
            simp [e1, e2, d1, d2, d3, d7, hfr, hfrl, hfrc, hcs, hv0, hv]
            refine EvP.region ?_
            simp [d1, d2, d3, d14, d15, d16]
            exact ⟨_, by omega, i + 1, rfl, by omega, _, hR', rfl, wrap_succ (by omega), e2' _, b1 _, b2 _, by omega⟩
      · refine EvP.cond (t := false) (by simp [k3]) (fun h => by cases h) (fun _ => EvP.skip ?_)
        simp
        have hsaid : ([] : List Nat) = (if devs[i].kind = 3 then out[(devs[i].of_ - 1).toNat]?.getD [] else []) := by rw [if_neg k3]
        have hsok : ∀ y ∈ ([] : List Nat), y < p := fun y hy => by cases hy
        have hnl : uL [] = [] := rfl
        refine EvP.draw ?_
        generalize hl : ls[fr] = l at *
        generalize hv0 : cs[fr] = v0 at *
        cases hvrow with
        | im pm' A' cap' =>
          obtain ⟨v, hv, hvr⟩ := h1 devs[i] false false A' none cap' 0 l [] hx.at_ (hk64 _ (List.getElem_mem hlt)) hok.1 hok.2 hsok
          have hv := hv k (by omega)
          simp only [scV, scL, lentS, devV, List.length_map, List.length_nil, hnl] at hv
          have hR' := fin v _ hsaid hvr
          cases hvr with
          | im pm2 A2 cap2 =>
            simp [e1, e2, d1, d2, d3, d7, hfr, hfrl, hfrc, hcs, hv0, hv]
            refine EvP.region ?_
            simp [d1, d2, d3, d14, d15, d16]
            exact ⟨_, by omega, i + 1, rfl, by omega, _, hR', rfl, wrap_succ (by omega), e2' _, b1 _, b2 _, by omega⟩
          | own k2 =>
            simp [e1, e2, d1, d2, d3, d7, hfr, hfrl, hfrc, hcs, hv0, hv]
            refine EvP.region ?_
            simp [d1, d2, d3, d14, d15, d16]
            exact ⟨_, by omega, i + 1, rfl, by omega, _, hR', rfl, wrap_succ (by omega), e2' _, b1 _, b2 _, by omega⟩
        | own k' =>
          obtain ⟨v, hv, hvr⟩ := h1 devs[i] false false none none 0 0 l [] hx.at_ (hk64 _ (List.getElem_mem hlt)) hok.1 hok.2 hsok
          have hv := hv k (by omega)
          simp only [scV, scL, lentS, devV, List.length_map, List.length_nil, hnl] at hv
          have hR' := fin v _ hsaid hvr
          cases hvr with
          | im pm2 A2 cap2 =>
            simp [e1, e2, d1, d2, d3, d7, hfr, hfrl, hfrc, hcs, hv0, hv]
            refine EvP.region ?_
            simp [d1, d2, d3, d14, d15, d16]
            exact ⟨_, by omega, i + 1, rfl, by omega, _, hR', rfl, wrap_succ (by omega), e2' _, b1 _, b2 _, by omega⟩
          | own k2 =>
            simp [e1, e2, d1, d2, d3, d7, hfr, hfrl, hfrc, hcs, hv0, hv]
            refine EvP.region ?_
            simp [d1, d2, d3, d14, d15, d16]
            exact ⟨_, by omega, i + 1, rfl, by omega, _, hR', rfl, wrap_succ (by omega), e2' _, b1 _, b2 _, by omega⟩
  · have hlt : i = devs.length := by have : ¬ i < devs.length := by simpa using h
                                     omega
    subst hlt
    rw [List.take_length] at hR
    simp
    refine EvP.seq (EvP.region ?_)
    simp [d7]
    refine EvP.ret ?_
    simp [plainV, hR.ptrs]
    exact ⟨hR, fun a b h => g2 _ h⟩
end Go.Abs
end
/- The seat of privitylaw14: the reference's field and coalition. -/
set_option linter.unusedVariables false
noncomputable section
namespace Go.Abs
open Go Go.Proofs
attribute [local simp] intOp shOp
set_option maxRecDepth 100000

theorem tmod_nat (a b : Nat) : (a : Int).tmod (b : Int) = ((a % b : Nat) : Int) := rfl
theorem tdiv_nat (a b : Nat) : (a : Int).tdiv (b : Int) = ((a / b : Nat) : Int) := rfl
set_option maxHeartbeats 8000000 in
theorem add38 (p x y : Nat) (hp : 0 < p) (h : x + y < 18446744073709551616) : AnsN 1 Tryd.prog H14 83 [.int .u64 (p : Int), .int .u64 (x : Int), .int .u64 (y : Int)] (.int .u64 (((x + y) % p : Nat) : Int)) := by
  refine AnsN.of (N := 0) (fn := Tryd.f83) (t := 6) (by rfl) Tryd.func83 rfl rfl (by rfl) (by rfl) fun k hk nx => ?_
  obtain ⟨z, hz⟩ : ∃ z, z = x + y := ⟨_, rfl⟩
  obtain ⟨r, hr⟩ : ∃ r, r = z % p := ⟨_, rfl⟩
  rw [← hz, ← hr]
  have hw : IntKind.u64.wrap ((x : Int) + (y : Int)) = (z : Int) := by rw [wrapu (by omega) (by omega)]; omega
  have hm : (z : Int).tmod (p : Int) = (r : Int) := by rw [tmod_nat, hr]
  have hp0 : ¬ p = 0 := by omega
  refine EvP.seq (EvP.region ?_)
  simp [entryS]
  refine EvP.seq (EvP.region ?_)
  simp [hw, hm, hp0]
  refine EvP.ret ?_
  simp
set_option maxHeartbeats 8000000 in
theorem mul39 (p x y : Nat) (hp : 0 < p) (hp2 : p < 9223372036854775808) (hx : x < p) (hy : y < 18446744073709551616) : AnsN (18446744073709551616 + 1 + 1) Tryd.prog H14 84 [.int .u64 (p : Int), .int .u64 (x : Int), .int .u64 (y : Int)] (.int .u64 ((x * y % p : Nat) : Int)) := by
  refine AnsN.of (fn := Tryd.f84) (t := 6) (by rfl) Tryd.func84 rfl rfl (by rfl) (by rfl) fun k hk nx => ?_
  have hp0 : ¬ p = 0 := by omega
  obtain ⟨z, hz⟩ : ∃ z, z = x * y % p := ⟨_, rfl⟩
  rw [← hz]
  refine EvP.seq (EvP.region ?_)
  simp [entryS]
  refine EvP.seq (EvP.region ?_)
  simp
  refine EvP.seq (EvP.block (EvP.loop (fun b D => ∃ o a : Nat, o < p ∧ a < p ∧ b ≤ y ∧ (o + a * b) % p = z ∧ D.s 0 = .int .u64 (p : Int) ∧ D.s 1 = .int .u64 (a : Int) ∧ D.s 2 = .int .u64 (b : Int) ∧ D.s 7 = .int .u64 (o : Int) ∧ D.m = []) (n := y) ⟨0, x, by simp [hp, hx, hz]⟩ (by omega) ?_))
  rintro b D ⟨o, a, ho, ha, hb, hI, d0, d1, d2, d7, dm⟩
  simp only [liveOf14, clear_none]
  refine EvP.seq (EvP.seq (EvP.region ?_))
  simp [d2]
  refine EvP.cond (t := decide (0 < b)) (by simp) (fun h => EvP.skip ?_) (fun h => EvP.exit ?_)
  · have hb0 : 0 < b := by simpa using h
    simp only [thenE_norm]
    obtain ⟨bm, hbm⟩ : ∃ bm, bm = b % 2 := ⟨_, rfl⟩
    obtain ⟨bh, hbh⟩ : ∃ bh, bh = b / 2 := ⟨_, rfl⟩
    obtain ⟨oa, hoa⟩ : ∃ oa, oa = o + a := ⟨_, rfl⟩
    obtain ⟨om, hom⟩ : ∃ om, om = oa % p := ⟨_, rfl⟩
    obtain ⟨a2, ha2⟩ : ∃ a2, a2 = a + a := ⟨_, rfl⟩
    obtain ⟨am, ham⟩ : ∃ am, am = a2 % p := ⟨_, rfl⟩
    have f1 : (b : Int).tmod 2 = (bm : Int) := by rw [show (2 : Int) = ((2 : Nat) : Int) by rfl, tmod_nat, hbm]
    have f2 : IntKind.u64.wrap ((o : Int) + (a : Int)) = (oa : Int) := by rw [wrapu (by omega) (by omega)]; omega
    have f3 : (oa : Int).tmod (p : Int) = (om : Int) := by rw [tmod_nat, hom]
    have f4 : IntKind.u64.wrap ((a : Int) + (a : Int)) = (a2 : Int) := by rw [wrapu (by omega) (by omega)]; omega
    have f5 : (a2 : Int).tmod (p : Int) = (am : Int) := by rw [tmod_nat, ham]
    have f6 : (b : Int).tdiv 2 = (bh : Int) := by rw [show (2 : Int) = ((2 : Nat) : Int) by rfl, tdiv_nat, hbh]
    have f7 : IntKind.u64.wrap (bh : Int) = (bh : Int) := by rw [wrapu (by omega) (by omega)]
    have hamp : am < p := by rw [ham]; exact Nat.mod_lt _ hp
    have homp : om < p := by rw [hom]; exact Nat.mod_lt _ hp
    refine EvP.block (EvP.seq (EvP.seq (EvP.region ?_)))
    by_cases hodd : bm = 1
    · have hI' : (om + am * bh) % p = z := by
        rw [← hI, hom, ham, Nat.add_mod, Nat.mod_mod, Nat.mul_mod, Nat.mod_mod, ← Nat.mul_mod, ← Nat.add_mod, ha2, hoa]
        congr 1
        rw [show b = 1 + 2 * bh by omega, Nat.mul_add, Nat.mul_one, ← Nat.mul_assoc, Nat.mul_two, Nat.add_assoc]
      simp [d2, f1, hodd]
      refine EvP.cond (t := true) (by simp) (fun _ => ?_) (fun h => by cases h)
      refine EvP.region ?_
      simp [d0, d1, d7, hp0, f2, f3]
      refine EvP.seq (EvP.region ?_)
      simp [d0, d1, hp0, f4, f5]
      refine EvP.region ?_
      simp [d2, f6, f7, d0, dm]
      exact ⟨bh, by omega, om, homp, am, hamp, by omega, hI', by simp⟩
    · have hev : bm = 0 := by omega
      have hI' : (o + am * bh) % p = z := by
        rw [← hI, ham, Nat.add_mod, Nat.mul_mod, Nat.mod_mod, ← Nat.mul_mod, ← Nat.add_mod, ha2]
        congr 1
        rw [show b = 2 * bh by omega, ← Nat.mul_assoc, Nat.mul_two]
      simp [d2, f1, hev]
      refine EvP.cond (t := false) (by simp) (fun h => by cases h) (fun _ => EvP.skip ?_)
      simp
      refine EvP.seq (EvP.region ?_)
      simp [d0, d1, hp0, f4, f5]
      refine EvP.region ?_
      simp [d2, f6, f7, d0, d7, dm]
      exact ⟨bh, by omega, o, ho, am, hamp, by omega, hI', by simp⟩
  · have hb0 : b = 0 := by
      have : ¬ 0 < b := by simpa using h
      omega
    subst hb0
    simp
    refine EvP.seq (EvP.region ?_)
    simp [d7]
    refine EvP.ret ?_
    simp [dm]
    rw [Nat.mul_zero, Nat.add_zero, Nat.mod_eq_of_lt ho] at hI
    rw [hI]
set_option maxHeartbeats 8000000 in
theorem word40N (pm : Bool) (A : Option Addr) (cap : Nat) (l : List Nat) (i : Int) : AnsN 1 Tryd.prog H14 85 [.im pm A cap l.length (uL l), .int .i64 i] (.int .u64 ((wordS l i : Nat) : Int)) := by
  refine AnsN.of (N := 0) (fn := Tryd.f85) (t := 4) (by rfl) Tryd.func85 rfl rfl (by rfl) (by rfl) fun k hk nx => ?_
  refine EvP.seq (EvP.region ?_)
  simp [entryS]
  refine EvP.seq (EvP.seq (EvP.region ?_))
  by_cases h0 : i < 0
  · have hn : ¬ 0 ≤ i := by omega
    simp [h0]
    refine EvP.cond (t := true) (by simp) (fun _ => ?_) (fun h => by cases h)
    refine EvP.seq (EvP.region ?_)
    simp
    refine EvP.ret ?_
    simp [wordS, hn]
  · obtain ⟨j, rfl⟩ : ∃ j : Nat, i = j := ⟨i.toNat, by omega⟩
    have hn : (0 : Int) ≤ (j : Int) := by omega
    by_cases h1 : j < l.length
    · have h2 : ¬ l.length ≤ j := by omega
      simp [h0, h2]
      refine EvP.cond (t := false) (by simp [h2]) (fun h => by cases h) (fun _ => EvP.skip ?_)
      simp
      refine EvP.seq (EvP.region ?_)
      simp [h1]
      refine EvP.ret ?_
      simp [wordS, h1, hn]
    · have h2 : l.length ≤ j := by omega
      simp [h0, h2]
      refine EvP.cond (t := true) (by simp [h2]) (fun _ => ?_) (fun h => by cases h)
      refine EvP.seq (EvP.region ?_)
      simp
      refine EvP.ret ?_
      simp [wordS, h1, hn]
set_option maxHeartbeats 8000000 in
set_option maxRecDepth 100000 in
theorem bad25 (s : Scn) (hs : ScnOk s) (v : Int) : AnsN (s.corrupt.length + 1 + 1) Tryd.prog H14 75 [scV s, .int .i64 v] (.bool (decide (v ∈ s.corrupt))) := by
  have hml : maxLen = 9223372036854775807 := rfl
  obtain ⟨p, n, t, cpm, cA, ccap, l, dpm, dA, dcap, devs, tpm, tA, tcap, tapes⟩ := s
  obtain ⟨hl, hs2, hs3, hs4⟩ := hs
  simp only at *
  refine AnsN.of (fn := Tryd.f75) (t := 4) (by rfl) Tryd.func75 rfl rfl (by rfl) (by rfl) fun k hk nx => ?_
  refine EvP.seq (EvP.region ?_)
  simp [entryS, scV, scL]
  refine EvP.seq (EvP.seq (EvP.region ?_))
  simp
  refine EvP.block (EvP.loop (fun q D => ∃ i : Nat, q = l.length - i ∧ i ≤ l.length ∧ (∀ j x, j < i → l[j]? = some x → x ≠ v) ∧ D.s 1 = .int .i64 v ∧ D.s 2 = .bptr nx 0 ∧ D.s 5 = .int .i64 (i : Int) ∧ D.m = [(nx, ⟨0, [.int .u64 (p : Int), .int .i64 n, .int .i64 t, .im cpm cA ccap l.length (iL l), .im dpm dA dcap devs.length (devsV devs), .im tpm tA tcap tapes.length (rsV tapes)]⟩)]) (n := l.length) ⟨0, by simp⟩ (by omega) ?_)
  rintro q D ⟨i, hn, hi, hpre, d1, d2, d5, dm⟩
  simp only [liveOf14, clear_none]
  refine EvP.seq (EvP.seq (EvP.region ?_))
  simp [d2, d5, dm]
  refine EvP.cond (t := decide (i < l.length)) (by simp) (fun h => EvP.skip ?_) (fun h => EvP.exit ?_)
  · have hlt : i < l.length := by simpa using h
    simp only [thenE_norm]
    refine EvP.seq (EvP.block (EvP.seq (EvP.region ?_)))
    by_cases hv : l[i] = v
    · simp [d1, d2, d5, dm, hlt, hv]
      refine EvP.cond (t := true) (by simp) (fun _ => ?_) (fun h => by cases h)
      refine EvP.seq (EvP.region ?_)
      simp
      refine EvP.ret ?_
      simp [dm]
      rw [← hv]; exact List.getElem_mem hlt
    · simp [d1, d2, d5, dm, hlt, hv]
      refine EvP.cond (t := false) (by simp [hv]) (fun h => by cases h) (fun _ => EvP.skip ?_)
      simp
      refine EvP.region ?_
      simp [d1, d2, d5, dm]
      refine ⟨_, by omega, i + 1, rfl, by omega, fun j x hj hx => ?_, wrap_succ (by omega)⟩
      by_cases hji : j = i
      · subst hji
        rw [List.getElem?_eq_getElem hlt] at hx; cases hx; exact hv
      · exact hpre j x (by omega) hx
  · have hlt : ¬ i < l.length := by simpa using h
    simp
    refine EvP.seq (EvP.region ?_)
    simp
    refine EvP.ret ?_
    simp [dm]
    intro hm
    obtain ⟨j, hj, he⟩ := List.getElem_of_mem hm
    exact hpre j _ (by omega) (List.getElem?_eq_getElem hj) he
set_option maxHeartbeats 16000000 in
set_option maxRecDepth 100000 in
theorem told26 (s : Scn) (hs : ScnOk s) {q : Nat} (hq : (s.p, q) ∈ pq7) : ∃ N, ∀ (x : Dev) (pm pm2 : Bool) (A A2 : Option Addr) (cap cap2 : Nat) (l said : List Nat), 0 ≤ x.at_ → x.k < 18446744073709551616 → l.length ≤ 1000 → (∀ y ∈ l, y < s.p) → (∀ y ∈ said, y < s.p) →
    ∃ v, AnsN N Tryd.prog H14 76 [scV s, devV x, .im pm A cap l.length (uL l), .im pm2 A2 cap2 said.length (uL said)] v ∧ IsRow v (uponS s.p s.corrupt x l said) := by
  obtain ⟨hp1, hq1, hq2⟩ := pq_facts hq
  have h5 : ∀ v, AnsN (s.corrupt.length + 1 + 1) Tryd.prog H14 75 [scV (lentS s), .int .i64 v] (.bool (decide (v ∈ s.corrupt))) := fun v => bad25 (lentS s) (lentS_ok hs) v
  obtain ⟨p, n, t, cpm, cA, ccap, corrupt, dpm, dA, dcap, devs, tpm, tA, tcap, tapes⟩ := s
  obtain ⟨hs1, hs2, hs3, hs4⟩ := hs
  simp only at *
  have hp61 : p < 2305843009213693952 := by
    have : 2 ^ q ≤ 2 ^ 61 := Nat.pow_le_pow_right (by omega) hq2
    omega
  have hp0 : 0 < p := by
    have : 2 ^ 5 ≤ 2 ^ q := Nat.pow_le_pow_right (by omega) hq1
    omega
  have hp00 : ¬ p = 0 := by omega
  simp only [scV, scL, lentS, List.length_map] at h5
  refine ⟨18446744073709551616 + corrupt.length + 5 + 1, fun x pm pm2 A A2 cap cap2 l said hat hk64 hl hlp hsp => ?_⟩
  obtain ⟨round, from_, to, at_, kind, xk, of_, src⟩ := x
  simp only at hat hk64
  obtain ⟨j, rfl⟩ : ∃ j : Nat, at_ = j := ⟨at_.toNat, by omega⟩
  have mk : ∀ v, plainV v = true → (∀ k, 18446744073709551616 + corrupt.length + 5 ≤ k → ∀ nx, EvP Tryd.prog H14 (evCall Tryd.prog H14 k) 76 k (Tryd.f76.body.getD .skip) (entryS [scV ⟨p, n, t, cpm, cA, ccap, corrupt, dpm, dA, dcap, devs, tpm, tA, tcap, tapes⟩, devV ⟨round, from_, to, j, kind, xk, of_, src⟩, .im pm A cap l.length (uL l), .im pm2 A2 cap2 said.length (uL said)] [] nx) (fun e D => (e = .norm ∨ e = .ret) ∧ D.s 8 = v ∧ ∀ b ∈ D.m, nx ≤ b.1)) → AnsN (18446744073709551616 + corrupt.length + 5 + 1) Tryd.prog H14 76 [scV ⟨p, n, t, cpm, cA, ccap, corrupt, dpm, dA, dcap, devs, tpm, tA, tcap, tapes⟩, devV ⟨round, from_, to, j, kind, xk, of_, src⟩, .im pm A cap l.length (uL l), .im pm2 A2 cap2 said.length (uL said)] v :=
    fun v hv h => AnsN.of (fn := Tryd.f76) (t := 8) (by rfl) Tryd.func76 rfl rfl (by rfl) hv h
  by_cases k4 : kind = 4
  · refine ⟨.own .nil 0 0 [], mk _ (by rfl) fun k hk nx => ?_, by simp only [uponS, k4, if_true]; exact IsRow.own 0 []⟩
    refine EvP.seq (EvP.region ?_)
    simp [entryS, scV, scL, devV]
    refine EvP.seq (EvP.seq (EvP.region ?_))
    simp [k4]
    refine EvP.cond (t := true) (by simp) (fun _ => ?_) (fun h => by cases h)
    refine EvP.seq (EvP.region ?_)
    simp
    refine EvP.ret ?_
    simp
    rintro a b (⟨rfl, _⟩ | ⟨rfl, _⟩) <;> omega
  · by_cases hj : l.length ≤ j
    · refine ⟨.im pm A cap l.length (uL l), mk _ (by simp [plainV]) fun k hk nx => ?_, by simp only [uponS, k4, if_false, if_pos (show (l.length : Int) ≤ (j : Int) by omega)]; exact IsRow.im _ _ _ _⟩
      have hj00 : ¬ ((j : Int) < 0) := by omega
      refine EvP.seq (EvP.region ?_)
      simp [entryS, scV, scL, devV]
      refine EvP.seq (EvP.seq (EvP.region ?_))
      simp [k4]
      refine EvP.cond (t := false) (by simp [k4]) (fun h => by cases h) (fun _ => EvP.skip ?_)
      simp
      refine EvP.seq (EvP.seq (EvP.region ?_))
      simp [hj, hj00]
      refine EvP.cond (t := true) (by simp [hj]) (fun _ => ?_) (fun h => by cases h)
      refine EvP.seq (EvP.region ?_)
      simp
      refine EvP.ret ?_
      simp
      rintro a b (⟨rfl, _⟩ | ⟨rfl, _⟩) <;> omega
    · have hjl : j < l.length := by omega
      have hj2 : ¬ ((l.length : Int) ≤ (j : Int)) := by omega
      have hj00 : ¬ ((j : Int) < 0) := by omega
      have hlj := hlp _ (List.getElem_mem hjl)
      have hn1 : l.length * 8 ≤ 140737488355328 := by omega
      have hn2 : l.length ≤ 140737488355328 := by omega
      obtain ⟨kk, hkk⟩ : ∃ kk, kk = xk % p := ⟨_, rfl⟩
      have hkp : kk < p := by rw [hkk]; exact Nat.mod_lt _ hp0
      have f1 : (xk : Int).tmod (p : Int) = (kk : Int) := by rw [tmod_nat, hkk]
      have hget : l[j]?.getD 0 = l[j] := by rw [List.getElem?_eq_getElem hjl]; rfl
      have pre : ∀ lst : List Nat, lst.length = l.length → plainV (.own .nil 0 l.length (uL lst)) = true := fun lst _ => by simp [plainV]
      have isr : ∀ lst : List Nat, lst.length = l.length → IsRow (.own .nil 0 l.length (uL lst)) lst := fun lst h => by rw [← h]; exact IsRow.own _ _
      by_cases k1 : kind = 1
      · refine ⟨.own .nil 0 l.length (uL (l.set j kk)), mk _ (pre _ (by simp)) fun k hk nx => ?_, ?_⟩
        · refine EvP.seq (EvP.region ?_)
          simp [entryS, scV, scL, devV]
          refine EvP.seq (EvP.seq (EvP.region ?_))
          simp [k4]
          refine EvP.cond (t := false) (by simp [k4]) (fun h => by cases h) (fun _ => EvP.skip ?_)
          simp
          refine EvP.seq (EvP.seq (EvP.region ?_))
          simp [hj, hj00]
          refine EvP.cond (t := false) (by simp [hj]) (fun h => by cases h) (fun _ => EvP.skip ?_)
          simp
          refine EvP.seq (EvP.region ?_)
          simp
          refine EvP.seq (EvP.region ?_)
          simp [hn1, hn2]
          refine EvP.seq (EvP.region ?_)
          simp [f1, hp00]
          refine EvP.seq (EvP.seq (EvP.region ?_))
          simp
          refine EvP.block (EvP.seq (EvP.region ?_))
          simp [k1]
          refine EvP.cond (t := true) (by simp [k1]) (fun _ => ?_) (fun h => by cases h)
          refine EvP.region ?_
          simp [k1, hjl]
          refine EvP.seq (EvP.region ?_)
          simp [uL_set]
          refine EvP.ret ?_
          simp
          rintro a b (⟨rfl, _⟩ | ⟨rfl, _⟩) <;> omega
        · have hU : uponS p corrupt ⟨round, from_, to, j, kind, xk, of_, src⟩ l said = l.set j kk := by simp [uponS, hj, hj2, hget, k1, hkk]
          rw [hU]
          exact isr _ (by simp)
      · by_cases k2 : kind = 2
        · obtain ⟨r2, hr2⟩ : ∃ r2, r2 = (l[j] + kk) % p := ⟨_, rfl⟩
          have c2 := add38 p l[j] kk hp0 (by omega)
          rw [← hr2] at c2
          refine ⟨.own .nil 0 l.length (uL (l.set j r2)), mk _ (pre _ (by simp)) fun k hk nx => ?_, ?_⟩
          · have c2 := c2 k (by omega)
            refine EvP.seq (EvP.region ?_)
            simp [entryS, scV, scL, devV]
            refine EvP.seq (EvP.seq (EvP.region ?_))
            simp [k4]
            refine EvP.cond (t := false) (by simp [k4]) (fun h => by cases h) (fun _ => EvP.skip ?_)
            simp
            refine EvP.seq (EvP.seq (EvP.region ?_))
            simp [hj, hj00]
            refine EvP.cond (t := false) (by simp [hj]) (fun h => by cases h) (fun _ => EvP.skip ?_)
            simp
            refine EvP.seq (EvP.region ?_)
            simp
            refine EvP.seq (EvP.region ?_)
            simp [hn1, hn2]
            refine EvP.seq (EvP.region ?_)
            simp [f1, hp00]
            refine EvP.seq (EvP.seq (EvP.region ?_))
            simp
            refine EvP.block (EvP.seq (EvP.region ?_))
            simp [k2]
            refine EvP.cond (t := false) (by simp [k2]) (fun h => by cases h) (fun _ => ?_)
            refine EvP.seq (EvP.region ?_)
            simp [k2]
            refine EvP.cond (t := true) (by simp [k2]) (fun _ => ?_) (fun h => by cases h)
            refine EvP.draw ?_
            simp [k2, hjl, c2]
            refine EvP.seq (EvP.region ?_)
            simp [uL_set]
            refine EvP.ret ?_
            simp
            rintro a b (⟨rfl, _⟩ | ⟨rfl, _⟩) <;> omega
          · have hU : uponS p corrupt ⟨round, from_, to, j, kind, xk, of_, src⟩ l said = l.set j r2 := by simp [uponS, hj, hj2, hget, k2, hkk, hr2]
            rw [hU]
            exact isr _ (by simp)
        · by_cases k3 : kind = 3
          · by_cases hof : of_ ∈ corrupt
            · have hlmod : l[j] % p = l[j] := Nat.mod_eq_of_lt hlj
              refine ⟨.own .nil 0 l.length (uL (l)), mk _ (pre _ (by simp)) fun k hk nx => ?_, ?_⟩
              · have c5 := h5 of_ k (by omega)
                refine EvP.seq (EvP.region ?_)
                simp [entryS, scV, scL, devV]
                refine EvP.seq (EvP.seq (EvP.region ?_))
                simp [k4]
                refine EvP.cond (t := false) (by simp [k4]) (fun h => by cases h) (fun _ => EvP.skip ?_)
                simp
                refine EvP.seq (EvP.seq (EvP.region ?_))
                simp [hj, hj00]
                refine EvP.cond (t := false) (by simp [hj]) (fun h => by cases h) (fun _ => EvP.skip ?_)
                simp
                refine EvP.seq (EvP.region ?_)
                simp
                refine EvP.seq (EvP.region ?_)
                simp [hn1, hn2]
                refine EvP.seq (EvP.region ?_)
                simp [f1, hp00]
                refine EvP.seq (EvP.seq (EvP.region ?_))
                simp
                refine EvP.block (EvP.seq (EvP.region ?_))
                simp [k3]
                refine EvP.cond (t := false) (by simp [k3]) (fun h => by cases h) (fun _ => ?_)
                refine EvP.seq (EvP.region ?_)
                simp [k3]
                refine EvP.cond (t := false) (by simp [k3]) (fun h => by cases h) (fun _ => ?_)
                refine EvP.seq (EvP.region ?_)
                simp [k3]
                refine EvP.cond (t := true) (by simp [k3]) (fun _ => ?_) (fun h => by cases h)
                refine EvP.seq (EvP.region ?_)
                simp [c5, hof]
                refine EvP.cond (t := false) (by simp [hof]) (fun h => by cases h) (fun _ => ?_)
                refine EvP.skip ?_
                simp
                refine EvP.seq (EvP.region ?_)
                simp [uL_set]
                refine EvP.ret ?_
                simp
                rintro a b (⟨rfl, _⟩ | ⟨rfl, _⟩) <;> omega
              · have hU : uponS p corrupt ⟨round, from_, to, j, kind, xk, of_, src⟩ l said = l := by simp [uponS, hj, hj2, hget, k3, hof, hlmod]
                rw [hU]
                exact isr _ (by simp)
            · have hw := wordS_lt hp0 hsp src
              obtain ⟨hd1, hhd⟩ : ∃ hd1 : Nat, hd1 = wordS said src := ⟨_, rfl⟩
              obtain ⟨r3, hr3⟩ : ∃ r3, r3 = kk * hd1 % p := ⟨_, rfl⟩
              have hr3p : r3 < p := by rw [hr3]; exact Nat.mod_lt _ hp0
              obtain ⟨r2, hr2⟩ : ∃ r2, r2 = (l[j] + r3) % p := ⟨_, rfl⟩
              have c3 := mul39 p kk hd1 hp0 (by omega) hkp (by omega)
              rw [← hr3] at c3
              have c2 := add38 p l[j] r3 hp0 (by omega)
              rw [← hr2] at c2
              have c6 := word40N false A2 cap2 said src
              rw [← hhd] at c6 hw
              have f2 : (hd1 : Int).tmod (p : Int) = (hd1 : Int) := by rw [tmod_nat, Nat.mod_eq_of_lt hw]
              refine ⟨.own .nil 0 l.length (uL (l.set j r2)), mk _ (pre _ (by simp)) fun k hk nx => ?_, ?_⟩
              · have c5 := h5 of_ k (by omega)
                have c2 := c2 k (by omega)
                have c3 := c3 k (by omega)
                have c6 := c6 k (by omega)
                refine EvP.seq (EvP.region ?_)
                simp [entryS, scV, scL, devV]
                refine EvP.seq (EvP.seq (EvP.region ?_))
                simp [k4]
                refine EvP.cond (t := false) (by simp [k4]) (fun h => by cases h) (fun _ => EvP.skip ?_)
                simp
                refine EvP.seq (EvP.seq (EvP.region ?_))
                simp [hj, hj00]
                refine EvP.cond (t := false) (by simp [hj]) (fun h => by cases h) (fun _ => EvP.skip ?_)
                simp
                refine EvP.seq (EvP.region ?_)
                simp
                refine EvP.seq (EvP.region ?_)
                simp [hn1, hn2]
                refine EvP.seq (EvP.region ?_)
                simp [f1, hp00]
                refine EvP.seq (EvP.seq (EvP.region ?_))
                simp
                refine EvP.block (EvP.seq (EvP.region ?_))
                simp [k3]
                refine EvP.cond (t := false) (by simp [k3]) (fun h => by cases h) (fun _ => ?_)
                refine EvP.seq (EvP.region ?_)
                simp [k3]
                refine EvP.cond (t := false) (by simp [k3]) (fun h => by cases h) (fun _ => ?_)
                refine EvP.seq (EvP.region ?_)
                simp [k3]
                refine EvP.cond (t := true) (by simp [k3]) (fun _ => ?_) (fun h => by cases h)
                refine EvP.seq (EvP.region ?_)
                simp [c5, hof]
                refine EvP.cond (t := true) (by simp [hof]) (fun _ => ?_) (fun h => by cases h)
                refine EvP.draw ?_
                simp [k3, hjl, c6, f2, hp00, c3, c2]
                refine EvP.seq (EvP.region ?_)
                simp [uL_set]
                refine EvP.ret ?_
                simp
                rintro a b (⟨rfl, _⟩ | ⟨rfl, _⟩) <;> omega
              · have hU : uponS p corrupt ⟨round, from_, to, j, kind, xk, of_, src⟩ l said = l.set j r2 := by simp [uponS, hj, hj2, hget, k3, hof, hkk, hr2, hr3, hhd]
                rw [hU]
                exact isr _ (by simp)
          · refine ⟨.own .nil 0 l.length (uL (l)), mk _ (pre _ (by simp)) fun k hk nx => ?_, ?_⟩
            · refine EvP.seq (EvP.region ?_)
              simp [entryS, scV, scL, devV]
              refine EvP.seq (EvP.seq (EvP.region ?_))
              simp [k4]
              refine EvP.cond (t := false) (by simp [k4]) (fun h => by cases h) (fun _ => EvP.skip ?_)
              simp
              refine EvP.seq (EvP.seq (EvP.region ?_))
              simp [hj, hj00]
              refine EvP.cond (t := false) (by simp [hj]) (fun h => by cases h) (fun _ => EvP.skip ?_)
              simp
              refine EvP.seq (EvP.region ?_)
              simp
              refine EvP.seq (EvP.region ?_)
              simp [hn1, hn2]
              refine EvP.seq (EvP.region ?_)
              simp [f1, hp00]
              refine EvP.seq (EvP.seq (EvP.region ?_))
              simp
              refine EvP.block (EvP.seq (EvP.region ?_))
              simp [k1]
              refine EvP.cond (t := false) (by simp [k1]) (fun h => by cases h) (fun _ => ?_)
              refine EvP.seq (EvP.region ?_)
              simp [k2]
              refine EvP.cond (t := false) (by simp [k2]) (fun h => by cases h) (fun _ => ?_)
              refine EvP.seq (EvP.region ?_)
              simp [k3]
              refine EvP.cond (t := false) (by simp [k3]) (fun h => by cases h) (fun _ => ?_)
              refine EvP.skip ?_
              simp
              refine EvP.seq (EvP.region ?_)
              simp [uL_set]
              refine EvP.ret ?_
              simp
              rintro a b (⟨rfl, _⟩ | ⟨rfl, _⟩) <;> omega
            · have hU : uponS p corrupt ⟨round, from_, to, j, kind, xk, of_, src⟩ l said = l := by simp [uponS, hj, hj2, hget, k1, k2, k3, k4]
              rw [hU]
              exact isr _ (by simp)
end Go.Abs
end
/- The seat of privitylaw14: the reference's ApplyToBroadcasts. -/
set_option linter.unusedVariables false
noncomputable section
namespace Go.Abs
open Go Go.Proofs
attribute [local simp] intOp shOp
set_option maxRecDepth 100000

theorem uponS_said {p : Nat} {c : List Int} {x : Dev} {l a b : List Nat} (h : x.kind ≠ 3) : uponS p c x l a = uponS p c x l b := by
  unfold uponS; simp [h]
set_option maxHeartbeats 16000000 in
set_option maxRecDepth 100000 in
theorem broad14 (s : Scn) (hs : ScnOk s) {q : Nat} (hq : (s.p, q) ∈ pq7) (hd : ∀ x ∈ s.devs, DevP s.n x) (hk64 : ∀ x ∈ s.devs, x.k < 18446744073709551616) (rd : Int) : ∃ N, ∀ (pm : Bool) (A : Option Addr) (cap : Nat) (rs : List RD), (rs.length : Int) = s.n → s.n ≤ 13 → LsOk s.p (rs.map (·.l)) →
    AnsP N Tryd.prog H14 61 [scV s, .int .i64 rd, .im pm A cap rs.length (rsV rs)] (fun v => ∃ cs, v = .own .nil 0 rs.length cs ∧ Rows cs (broadS s.p s.corrupt rd (rs.map (·.l)) s.devs)) := by
  have hml : maxLen = 9223372036854775807 := rfl
  obtain ⟨hp1, hq1, hq2⟩ := pq_facts hq
  have hp0 : 0 < s.p := by
    have : 2 ^ 5 ≤ 2 ^ q := Nat.pow_le_pow_right (by omega) hq1
    omega
  obtain ⟨N1, h1⟩ := told26 (lentS s) (lentS_ok hs) hq
  have h0 : ∀ v, AnsN (s.corrupt.length + 1 + 1) Tryd.prog H14 75 [scV (lentS s), .int .i64 v] (.bool (decide (v ∈ s.corrupt))) := fun v => bad25 (lentS s) (lentS_ok hs) v
  obtain ⟨p, n, t, cpm, cA, ccap, corrupt, dpm, dA, dcap, devs, tpm, tA, tcap, tapes⟩ := s
  obtain ⟨hs1, hs2, hs3, hs4⟩ := hs
  simp only at *
  refine ⟨N1 + corrupt.length + 4 + devs.length + 1 + 1, fun pm A cap rs hlen hn13 hw => ?_⟩
  refine AnsP.of (fn := Tryd.f61) (t := 6) (by rfl) Tryd.func61 rfl rfl (by rfl) fun k hk nx => ?_
  have hn1 : rs.length * 24 ≤ 140737488355328 := by omega
  have hn2 : rs.length ≤ 140737488355328 := by omega
  have c0 := fun x => h0 x k (by omega)
  simp only [scV, scL, lentS, devV, List.length_map] at c0
  refine EvP.seq (EvP.region ?_)
  simp [entryS, scV, scL]
  refine EvP.seq (EvP.region ?_)
  simp [hn1, hn2]
  refine EvP.seq (EvP.seq (EvP.region ?_))
  simp
  generalize hout : rs.map (·.l) = out at *
  refine EvP.block (EvP.loop (fun q D => ∃ (i : Nat) (cs : List V), q = devs.length - i ∧ i ≤ devs.length ∧ Rows cs ((devs.take i).foldl (stepB p corrupt rd out) out) ∧ D.s 1 = .int .i64 rd ∧ D.s 2 = .im pm A cap rs.length (rsV rs) ∧ D.s 3 = .bptr nx 0 ∧ D.s 7 = .own .nil 0 rs.length cs ∧ D.s 8 = .int .i64 (i : Int)
    ∧ getBox D.m nx = some ⟨0, scL ⟨p, n, t, cpm, cA, ccap, corrupt, dpm, dA, dcap, devs, tpm, tA, tcap, tapes⟩⟩ ∧ (∀ b ∈ D.m, b.1 < D.nx) ∧ (∀ b ∈ D.m, nx ≤ b.1) ∧ nx < D.nx) (n := devs.length) ?_ (by omega) ?_)
  · refine ⟨0, rsV rs, by simp, by simp, ?_⟩
    simp [scL, getBox]
    rw [← hout]
    exact rows_rsV _
  rintro q D ⟨i, cs, hn, hi, hR, d1, d2, d3, d7, d8, g0, g1, g2, g3⟩
  simp only [liveOf14, clear_none]
  refine EvP.seq (EvP.seq (EvP.region ?_))
  have e0 := g0
  unfold scL at e0
  simp only at e0
  simp [d3, d8, e0]
  refine EvP.cond (t := decide (i < devs.length)) (by simp) (fun h => EvP.skip ?_) (fun h => EvP.exit ?_)
  · have hlt : i < devs.length := by simpa using h
    simp only [thenE_norm]
    refine EvP.seq (EvP.block (EvP.seq (EvP.region ?_)))
    have h8 : i * 8 + 8 ≤ devs.length * 8 := by omega
    have h88 : 8 ≤ devs.length * 8 - i * 8 := by omega
    have e1 : ∀ c, getBox (D.m ++ [(D.nx, c)]) D.nx = some c := fun c => getBox_app_new g1
    have e2' : ∀ c, getBox (D.m ++ [(D.nx, c)]) nx = some ⟨0, scL ⟨p, n, t, cpm, cA, ccap, corrupt, dpm, dA, dcap, devs, tpm, tA, tcap, tapes⟩⟩ := fun c => getBox_app_old g0
    have e3 : ∀ c c', setBox (D.m ++ [(D.nx, c)]) D.nx c' = D.m ++ [(D.nx, c')] := fun c c' => setBox_app_new g1
    have b1 : ∀ (c : Box) (a : Nat) (b : Box), (a, b) ∈ D.m ∨ a = D.nx ∧ b = c → a < D.nx + 1 := by
      rintro c a b (h | ⟨rfl, _⟩)
      · have := g1 _ h; simp at this; omega
      · omega
    have b2 : ∀ (c : Box) (a : Nat) (b : Box), (a, b) ∈ D.m ∨ a = D.nx ∧ b = c → nx ≤ a := by
      rintro c a b (h | ⟨rfl, _⟩)
      · exact g2 _ h
      · omega
    have e2 := e2'
    unfold scL at e2
    simp only at e2
    have hx := hd devs[i] (List.getElem_mem hlt)
    obtain ⟨hlsok, hlslen⟩ := fold_ok (c := corrupt) (rd := rd) (out := out) (devs := devs.take i) hp0 hw
    have houtl : out.length = rs.length := by rw [← hout]; simp
    generalize hls : (devs.take i).foldl (stepB p corrupt rd out) out = ls at *
    have hstep : (devs.take (i + 1)).foldl (stepB p corrupt rd out) out = stepB p corrupt rd out ls devs[i] := by
      rw [foldl_take_succ _ _ hlt, hls]
    simp [d1, d2, d3, d7, d8, e0, hlt, h8, h88, devL, e1, e2, e3]
    refine EvP.seq (EvP.region ?_)
    have c0i := c0 devs[i].from_
    by_cases hb : devs[i].round = rd ∧ devs[i].from_ ∈ corrupt
    · obtain ⟨fr, hfr0⟩ : ∃ fr : Nat, devs[i].from_ = (fr : Int) + 1 := ⟨(devs[i].from_ - 1).toNat, by have := hx.from1; omega⟩
      have hfr : IntKind.i64.wrap (devs[i].from_ - 1) = (fr : Int) := by rw [hfr0, wrap_nat (by omega) (by have := hx.from2; omega)]; omega
      have hfrl : fr < rs.length := by have := hx.from2; omega
      have hcs : cs.length = rs.length := by rw [hR.1, hlslen, houtl]
      have hfrc : fr < cs.length := by omega
      have hfrs : fr < ls.length := by omega
      have hvrow := hR.2 fr _ _ (List.getElem?_eq_getElem hfrc) (List.getElem?_eq_getElem hfrs)
      have hok := hlsok ls[fr] (List.getElem_mem hfrs)
      have hb1 : (devs[i].round == rd) = true := by simp [hb.1]
      simp [d1, d3, e1, e2, c0i, hb1, hb.2]
      refine EvP.cond (t := true) (by simp) (fun _ => ?_) (fun h => by cases h)
      refine EvP.seq (EvP.region ?_)
      simp
      refine EvP.seq (EvP.seq (EvP.region ?_))
      simp [e1, d2, d3]
      have fin : ∀ (v : V) (said : List Nat), (devs[i].kind = 3 → said = out[(devs[i].of_ - 1).toNat]?.getD []) → IsRow v (uponS p corrupt devs[i] ls[fr] said) → Rows (cs.set fr v) ((devs.take (i + 1)).foldl (stepB p corrupt rd out) out) := by
        intro v said hsaid hv
        rw [hstep, stepB, if_pos hb, show (devs[i].from_ - 1).toNat = fr by omega, List.getElem?_eq_getElem hfrs]
        refine hR.set fr ?_
        by_cases k3 : devs[i].kind = 3
        · rw [if_pos k3, ← hsaid k3]; exact hv
        · rw [uponS_said (b := said) k3]; exact hv
      by_cases k3 : 1 ≤ devs[i].of_
      · refine EvP.cond (t := true) (by simp [k3]) (fun _ => ?_) (fun h => by cases h)
        obtain ⟨og, hog0⟩ : ∃ og : Nat, devs[i].of_ = (og : Int) + 1 := ⟨(devs[i].of_ - 1).toNat, by omega⟩
        have hog : IntKind.i64.wrap (devs[i].of_ - 1) = (og : Int) := by rw [hog0, wrap_nat (by omega) (by have := hx.of2; omega)]; omega
        have hogl : og < rs.length := by have := hx.of2; omega
        have hsaid : devs[i].kind = 3 → rs[og].l = out[(devs[i].of_ - 1).toNat]?.getD [] := fun _ => by
          rw [show (devs[i].of_ - 1).toNat = og by omega, ← hout, List.getElem?_map, List.getElem?_eq_getElem hogl]; rfl
        have hsok : ∀ y ∈ rs[og].l, y < p := (hw rs[og].l (by rw [← hout]; exact List.mem_map_of_mem (List.getElem_mem hogl))).2
        refine EvP.region ?_
        simp [e1, d2, d3, hog, hogl]
        refine EvP.draw ?_
        generalize hl : ls[fr] = l at *
        generalize hv0 : cs[fr] = v0 at *
        cases hvrow with
        | im pm' A' cap' =>
          obtain ⟨v, hv, hvr⟩ := h1 devs[i] false false A' rs[og].A cap' rs[og].cap l rs[og].l hx.at_ (hk64 _ (List.getElem_mem hlt)) hok.1 hok.2 hsok
          have hv := hv k (by omega)
          simp only [scV, scL, lentS, devV, List.length_map] at hv
          have hR' := fin v _ hsaid hvr
          cases hvr with
          | im pm2 A2 cap2 =>
            simp [e1, e2, d1, d2, d3, d7, hfr, hfrl, hfrc, hcs, hv0, hv]
            refine EvP.region ?_
            simp [d1, d2, d3, d8]
            exact ⟨_, by omega, i + 1, rfl, by omega, _, hR', rfl, wrap_succ (by omega), e2' _, b1 _, b2 _, by omega⟩
          | own k2 =>
            simp [e1, e2, d1, d2, d3, d7, hfr, hfrl, hfrc, hcs, hv0, hv]
            refine EvP.region ?_
            simp [d1, d2, d3, d8]
            exact ⟨_, by omega, i + 1, rfl, by omega, _, hR', rfl, wrap_succ (by omega), e2' _, b1 _, b2 _, by omega⟩
        | own k' =>
          obtain ⟨v, hv, hvr⟩ := h1 devs[i] false false none rs[og].A 0 rs[og].cap l rs[og].l hx.at_ (hk64 _ (List.getElem_mem hlt)) hok.1 hok.2 hsok
          have hv := hv k (by omega)
          simp only [scV, scL, lentS, devV, List.length_map] at hv
          have hR' := fin v _ hsaid hvr
          cases hvr with
          | im pm2 A2 cap2 =>
            simp [e1, e2, d1, d2, d3, d7, hfr, hfrl, hfrc, hcs, hv0, hv]
            refine EvP.region ?_
            simp [d1, d2, d3, d8]
            exact ⟨_, by omega, i + 1, rfl, by omega, _, hR', rfl, wrap_succ (by omega), e2' _, b1 _, b2 _, by omega⟩
          | own k2 =>
            simp [e1, e2, d1, d2, d3, d7, hfr, hfrl, hfrc, hcs, hv0, hv]
            refine EvP.region ?_
            simp [d1, d2, d3, d8]
            exact ⟨_, by omega, i + 1, rfl, by omega, _, hR', rfl, wrap_succ (by omega), e2' _, b1 _, b2 _, by omega⟩
      · refine EvP.cond (t := false) (by simp [k3]) (fun h => by cases h) (fun _ => EvP.skip ?_)
        simp
        have hsaid : devs[i].kind = 3 → ([] : List Nat) = out[(devs[i].of_ - 1).toNat]?.getD [] := fun h => absurd (hx.echo h) k3
        have hsok : ∀ y ∈ ([] : List Nat), y < p := fun y hy => by cases hy
        have hnl : uL [] = [] := rfl
        refine EvP.draw ?_
        generalize hl : ls[fr] = l at *
        generalize hv0 : cs[fr] = v0 at *
        cases hvrow with
        | im pm' A' cap' =>
          obtain ⟨v, hv, hvr⟩ := h1 devs[i] false false A' none cap' 0 l [] hx.at_ (hk64 _ (List.getElem_mem hlt)) hok.1 hok.2 hsok
          have hv := hv k (by omega)
          simp only [scV, scL, lentS, devV, List.length_map, List.length_nil, hnl] at hv
          have hR' := fin v _ hsaid hvr
          cases hvr with
          | im pm2 A2 cap2 =>
            simp [e1, e2, d1, d2, d3, d7, hfr, hfrl, hfrc, hcs, hv0, hv]
            refine EvP.region ?_
            simp [d1, d2, d3, d8]
            exact ⟨_, by omega, i + 1, rfl, by omega, _, hR', rfl, wrap_succ (by omega), e2' _, b1 _, b2 _, by omega⟩
          | own k2 =>
            simp [e1, e2, d1, d2, d3, d7, hfr, hfrl, hfrc, hcs, hv0, hv]
            refine EvP.region ?_
            simp [d1, d2, d3, d8]
            exact ⟨_, by omega, i + 1, rfl, by omega, _, hR', rfl, wrap_succ (by omega), e2' _, b1 _, b2 _, by omega⟩
        | own k' =>
          obtain ⟨v, hv, hvr⟩ := h1 devs[i] false false none none 0 0 l [] hx.at_ (hk64 _ (List.getElem_mem hlt)) hok.1 hok.2 hsok
          have hv := hv k (by omega)
          simp only [scV, scL, lentS, devV, List.length_map, List.length_nil, hnl] at hv
          have hR' := fin v _ hsaid hvr
          cases hvr with
          | im pm2 A2 cap2 =>
            simp [e1, e2, d1, d2, d3, d7, hfr, hfrl, hfrc, hcs, hv0, hv]
            refine EvP.region ?_
            simp [d1, d2, d3, d8]
            exact ⟨_, by omega, i + 1, rfl, by omega, _, hR', rfl, wrap_succ (by omega), e2' _, b1 _, b2 _, by omega⟩
          | own k2 =>
            simp [e1, e2, d1, d2, d3, d7, hfr, hfrl, hfrc, hcs, hv0, hv]
            refine EvP.region ?_
            simp [d1, d2, d3, d8]
            exact ⟨_, by omega, i + 1, rfl, by omega, _, hR', rfl, wrap_succ (by omega), e2' _, b1 _, b2 _, by omega⟩
    · have hR' : Rows cs ((devs.take (i + 1)).foldl (stepB p corrupt rd out) out) := by rw [hstep, stepB, if_neg hb]; exact hR
      by_cases hr : devs[i].round = rd
      · have hb1 : (devs[i].round == rd) = true := by simp [hr]
        have hb2 : devs[i].from_ ∉ corrupt := fun h => hb ⟨hr, h⟩
        simp [d1, d3, e1, e2, c0i, hb1, hb2]
        refine EvP.cond (t := false) (by simp) (fun h => by cases h) (fun _ => EvP.skip ?_)
        simp
        refine EvP.region ?_
        simp [d1, d2, d3, d7, d8]
        exact ⟨_, by omega, i + 1, rfl, by omega, cs, hR', rfl, wrap_succ (by omega), e2' _, b1 _, b2 _, by omega⟩
      · have hb1 : (devs[i].round == rd) = false := by simp [hr]
        simp [d1, d3, e1, e2, c0i, hb1]
        refine EvP.cond (t := false) (by simp) (fun h => by cases h) (fun _ => EvP.skip ?_)
        simp
        refine EvP.region ?_
        simp [d1, d2, d3, d7, d8]
        exact ⟨_, by omega, i + 1, rfl, by omega, cs, hR', rfl, wrap_succ (by omega), e2' _, b1 _, b2 _, by omega⟩
  · have hlt : i = devs.length := by have : ¬ i < devs.length := by simpa using h
                                     omega
    subst hlt
    rw [List.take_length] at hR
    simp
    refine EvP.seq (EvP.region ?_)
    simp [d7]
    refine EvP.ret ?_
    simp [plainV, hR.ptrs]
    exact ⟨hR, fun a b h => g2 _ h⟩
end Go.Abs
end
/- The seat of privitylaw14: may. -/
set_option linter.unusedVariables false
noncomputable section
namespace Go.Abs
open Go Go.Proofs
attribute [local simp] intOp shOp
set_option maxRecDepth 100000

/-- The messages of one party; of all. -/
structure MD where
  pm : Bool
  A : Option Addr
  cap : Nat
  l : List RD
def mV (m : MD) : V := .im m.pm m.A m.cap m.l.length (rsV m.l)
def msV (ms : List MD) : List V := ms.map mV
@[simp] theorem msV_length (ms : List MD) : (msV ms).length = ms.length := by simp [msV]
@[simp] theorem msV_getElem (ms : List MD) (i : Nat) (h : i < (msV ms).length) : (msV ms)[i] = .im (ms[i]'(by simpa using h)).pm (ms[i]'(by simpa using h)).A (ms[i]'(by simpa using h)).cap (ms[i]'(by simpa using h)).l.length (rsV (ms[i]'(by simpa using h)).l) := by simp [msV, mV]
def lentM (m : MD) : MD := { m with pm := false, l := m.l.map lent }
@[simp] theorem frzL_msV (ms : List MD) : frzL false (msV ms) = msV (ms.map lentM) := by
  unfold msV; induction ms with
  | nil => rfl
  | cons x l ih => simp only [List.map_cons, frzL, ih]; simp [mV, frz, lentM]
@[simp] theorem ptrsL_msV (ms : List MD) : ptrsL (msV ms) = [] := by
  unfold msV; induction ms with
  | nil => rfl
  | cons x l ih => simp only [List.map_cons, ptrsL, ih]; simp [mV, ptrs]
@[simp] theorem noRowL_rsV (rs : List RD) : noRowL (rsV rs) = true := by
  unfold rsV; induction rs with
  | nil => rfl
  | cons x l ih => simp [noRowL, noRow, rV, ih]
end Go.Abs
end
/- The seat of privitylaw14: ApplyToMessages, the plain side. -/
set_option linter.unusedVariables false
noncomputable section
namespace Go.Abs
open Go Go.Proofs
attribute [local simp] intOp shOp
set_option maxRecDepth 100000

/-- Rows of rows, all of the call's own. -/
def Rows2 (cs : List V) (ls : List (List (List Nat))) : Prop := cs.length = ls.length ∧ ∀ (i : Nat) (v : V) (l : List (List Nat)), cs[i]? = some v → ls[i]? = some l → ∃ rc, v = .own .nil 0 l.length rc ∧ Rows rc l
theorem Rows2.set {cs : List V} {ls : List (List (List Nat))} (h : Rows2 cs ls) (i : Nat) {rc : List V} {l : List (List Nat)} (hv : Rows rc l) : Rows2 (cs.set i (.own .nil 0 l.length rc)) (ls.set i l) := by
  refine ⟨by simp [h.1], fun j v' l' h1 h2 => ?_⟩
  rw [List.getElem?_set] at h1 h2
  split at h1
  · rename_i hij
    rw [if_pos hij] at h2
    split at h1
    · split at h2
      · cases h1; cases h2; exact ⟨rc, rfl, hv⟩
      · cases h2
    · cases h1
  · rename_i hij
    rw [if_neg hij] at h2
    exact h.2 j v' l' h1 h2
theorem Rows2.tail {v : V} {cs : List V} {l : List (List Nat)} {ls : List (List (List Nat))} (h : Rows2 (v :: cs) (l :: ls)) : (∃ rc, v = .own .nil 0 l.length rc ∧ Rows rc l) ∧ Rows2 cs ls :=
  ⟨h.2 0 v l (by simp) (by simp), by simpa using h.1, fun i v' l' a b => h.2 (i + 1) v' l' (by simpa using a) (by simpa using b)⟩
theorem Rows2.ptrs : ∀ {cs : List V} {ls : List (List (List Nat))}, Rows2 cs ls → ptrsL cs = []
  | [], _, _ => rfl
  | v :: cs, [], h => by have := h.1; simp at this
  | v :: cs, l :: ls, h => by
    obtain ⟨⟨rc, rfl, hr⟩, ht⟩ := h.tail
    simp [ptrsL, Abs.ptrs, hr.ptrs, Rows2.ptrs ht]
/-- What the messages say. -/
def mls (ms : List MD) : List (List (List Nat)) := ms.map fun m => m.l.map (·.l)
/-- Read-only again. -/
theorem Rows2.frz (pm : Bool) : ∀ {cs : List V} {ls : List (List (List Nat))}, Rows2 cs ls → ∃ ms : List MD, frzL pm cs = msV ms ∧ mls ms = ls
  | [], ls, h => ⟨[], rfl, by cases ls with | nil => rfl | cons _ _ => have := h.1; simp at this⟩
  | v :: cs, [], h => by have := h.1; simp at this
  | v :: cs, l :: ls, h => by
    obtain ⟨⟨rc, rfl, hr⟩, ht⟩ := h.tail
    obtain ⟨ms, h1, h2⟩ := Rows2.frz pm ht
    obtain ⟨rs, h3, h4⟩ := hr.frz pm
    obtain ⟨A, cap, he⟩ : ∃ A cap, Abs.frz pm (.own .nil 0 l.length rc) = .im pm A cap l.length (frzL pm rc) := ⟨_, _, rfl⟩
    have hlen : rs.length = l.length := by rw [← h4, List.length_map]
    exact ⟨⟨pm, A, cap, rs⟩ :: ms, by simp only [frzL, he, h1, h3, msV, mV, List.map_cons, hlen], by simp [mls, h4] at h2 ⊢; exact h2⟩
/-- One deviation at one message of a row (j: from 0). -/
def stepJ (p : Nat) (c : List Int) (x : Dev) (said : List Nat) (row : List (List Nat)) (j : Nat) : List (List Nat) :=
  if ((j : Int) + 1 ≠ x.from_ ∧ (x.to = 0 ∨ x.to = (j : Int) + 1)) then row.set j (uponS p c x (row[j]?.getD []) said) else row
def saidS (out : List (List (List Nat))) (x : Dev) : List Nat := if x.kind = 3 then (out[(x.of_ - 1).toNat]?.getD [])[(x.from_ - 1).toNat]?.getD [] else []
/-- One deviation of a round's messages. -/
def stepM (p : Nat) (c : List Int) (rd : Int) (n : Nat) (out all : List (List (List Nat))) (x : Dev) : List (List (List Nat)) :=
  if x.round = rd ∧ x.from_ ∈ c then all.set (x.from_ - 1).toNat ((List.range n).foldl (stepJ p c x (saidS out x)) (all[(x.from_ - 1).toNat]?.getD [])) else all
def msgS (p : Nat) (c : List Int) (rd : Int) (n : Nat) (out : List (List (List Nat))) (devs : List Dev) : List (List (List Nat)) := devs.foldl (stepM p c rd n out) out
@[simp] theorem stepJ_length {p : Nat} {c : List Int} {x : Dev} {said : List Nat} {row : List (List Nat)} {j : Nat} : (stepJ p c x said row j).length = row.length := by
  unfold stepJ; split <;> simp
theorem stepJ_ok {p : Nat} (hp : 0 < p) {c : List Int} {x : Dev} {said : List Nat} {row : List (List Nat)} {j : Nat} (h : LsOk p row) : LsOk p (stepJ p c x said row j) := by
  unfold stepJ
  split
  · intro l hl
    rcases List.mem_or_eq_of_mem_set hl with hl | rfl
    · exact h l hl
    · refine upon_ok hp ?_
      cases hi : row[j]? with
      | none => exact ⟨by simp, by simp⟩
      | some l => exact h l (List.mem_of_getElem? hi)
  · exact h
theorem foldJ_ok {p : Nat} (hp : 0 < p) {c : List Int} {x : Dev} {said : List Nat} : ∀ {js : List Nat} {row : List (List Nat)}, LsOk p row → LsOk p (js.foldl (stepJ p c x said) row) ∧ (js.foldl (stepJ p c x said) row).length = row.length
  | [], row, h => ⟨h, rfl⟩
  | j :: js, row, h => by
    obtain ⟨h1, h2⟩ := foldJ_ok (js := js) hp (stepJ_ok (c := c) (x := x) (said := said) (j := j) hp h)
    exact ⟨h1, by rw [List.foldl_cons, h2, stepJ_length]⟩
/-- All messages of n parties to n parties, that a field's arithmetic can bear. -/
def MsOk (p n : Nat) (ls : List (List (List Nat))) : Prop := ls.length = n ∧ ∀ l ∈ ls, l.length = n ∧ LsOk p l
theorem stepM_ok {p n : Nat} (hp : 0 < p) {c : List Int} {rd : Int} {out all : List (List (List Nat))} {x : Dev} (h : MsOk p n all) : MsOk p n (stepM p c rd n out all x) := by
  unfold stepM
  split
  · refine ⟨by simp [h.1], fun l hl => ?_⟩
    by_cases hi : (x.from_ - 1).toNat < all.length
    · rcases List.mem_or_eq_of_mem_set hl with hl | rfl
      · exact h.2 l hl
      · have := h.2 _ (List.getElem_mem hi)
        rw [List.getElem?_eq_getElem hi, Option.getD_some]
        obtain ⟨q1, q2⟩ := foldJ_ok (js := List.range n) (c := c) (x := x) (said := saidS out x) hp this.2
        exact ⟨by rw [q2]; exact this.1, q1⟩
    · rw [List.set_eq_of_length_le (by omega)] at hl
      exact h.2 l hl
  · exact h
theorem foldM_ok {p n : Nat} (hp : 0 < p) {c : List Int} {rd : Int} {out : List (List (List Nat))} : ∀ {devs : List Dev} {all : List (List (List Nat))}, MsOk p n all → MsOk p n (devs.foldl (stepM p c rd n out) all)
  | [], all, h => h
  | x :: l, all, h => foldM_ok (devs := l) hp (stepM_ok (c := c) (rd := rd) (out := out) (x := x) hp h)
theorem foldl_range_succ {β : Type} (f : β → Nat → β) (a : β) (j : Nat) : (List.range (j + 1)).foldl f a = f ((List.range j).foldl f a) j := by
  rw [List.range_succ, List.foldl_append]; rfl
@[simp] theorem cellIn_msV (ms : List MD) : (msV ms).all cellIn = true := by
  unfold msV; induction ms with
  | nil => rfl
  | cons x l ih => simp [cellIn, solid, mV]
end Go.Abs
end
/- The seat of privitylaw14: ApplyToMessages. -/
set_option linter.unusedVariables false
noncomputable section
namespace Go.Abs
open Go Go.Proofs
attribute [local simp] intOp shOp
set_option maxRecDepth 100000

theorem said_lt {p n : Nat} (hp : 0 < p) {out : List (List (List Nat))} (h : MsOk p n out) (x : Dev) : ∀ y ∈ saidS out x, y < p := by
  unfold saidS
  split
  · cases h1 : out[(x.of_ - 1).toNat]? with
    | none => intro y hy; simp at hy
    | some l =>
      rw [Option.getD_some]
      cases h2 : l[(x.from_ - 1).toNat]? with
      | none => intro y hy; simp at hy
      | some w =>
        rw [Option.getD_some]
        exact ((h.2 l (List.mem_of_getElem? h1)).2 w (List.mem_of_getElem? h2)).2
  · simp
set_option maxHeartbeats 32000000 in
set_option maxRecDepth 100000 in
theorem msgs16 (s : Scn) (hs : ScnOk s) {q : Nat} (hq : (s.p, q) ∈ pq7) (hd : ∀ x ∈ s.devs, DevP s.n x) (hk64 : ∀ x ∈ s.devs, x.k < 18446744073709551616) (rd : Int) : ∃ N, ∀ (pm : Bool) (A : Option Addr) (cap : Nat) (ms : List MD), (ms.length : Int) = s.n → s.n ≤ 13 → MsOk s.p ms.length (mls ms) →
    AnsP N Tryd.prog H14 41 [scV s, .int .i64 rd, .im pm A cap ms.length (msV ms)] (fun v => ∃ cs, v = .own .nil 0 ms.length cs ∧ Rows2 cs (msgS s.p s.corrupt rd ms.length (mls ms) s.devs)) := by
  have hml : maxLen = 9223372036854775807 := rfl
  obtain ⟨hp1, hq1, hq2⟩ := pq_facts hq
  have hp0 : 0 < s.p := by
    have : 2 ^ 5 ≤ 2 ^ q := Nat.pow_le_pow_right (by omega) hq1
    omega
  obtain ⟨N1, h1⟩ := upon24 (lentS s) (lentS_ok hs) hq
  have h0 : ∀ x, AnsN (s.corrupt.length + 4) Tryd.prog H14 59 [scV (lentS s), devV x, .int .i64 rd] (.bool (decide (x.round = rd ∧ x.from_ ∈ s.corrupt))) := fun x => done23 (lentS s) (lentS_ok hs) x rd
  obtain ⟨p, n, t, cpm, cA, ccap, corrupt, dpm, dA, dcap, devs, tpm, tA, tcap, tapes⟩ := s
  obtain ⟨hs1, hs2, hs3, hs4⟩ := hs
  simp only at *
  refine ⟨N1 + corrupt.length + 4 + devs.length + 14 + 1, fun pm A cap ms hlen hn13 hw => ?_⟩
  refine AnsP.of (fn := Tryd.f41) (t := 6) (by rfl) Tryd.func41 rfl rfl (by rfl) fun k hk nx => ?_
  have hn1 : ms.length * 24 ≤ 140737488355328 := by omega
  have hn2 : ms.length ≤ 140737488355328 := by omega
  have hn1i : (ms.length : Int) * 24 ≤ 140737488355328 := by omega
  have hn2i : (ms.length : Int) ≤ 140737488355328 := by omega
  have hne : ¬ (ms = [] ∧ 0 < ms.length) := by rintro ⟨rfl, h⟩; simp at h
  have hrl : ∀ i (h : i < ms.length), ms[i].l.length = ms.length := fun i h => by
    have := (hw.2 (ms[i].l.map (·.l)) (List.mem_map.2 ⟨ms[i], List.getElem_mem h, rfl⟩)).1
    simpa using this
  have c0 := fun x => h0 x k (by omega)
  simp only [scV, scL, lentS, devV, List.length_map] at c0
  let K0 : St → Prop := fun D => D.s 1 = .int .i64 rd ∧ D.s 2 = .im pm A cap ms.length (msV ms) ∧ D.s 3 = .bptr nx 0 ∧ D.m = [(nx, ⟨0, scL ⟨p, n, t, cpm, cA, ccap, corrupt, dpm, dA, dcap, devs, tpm, tA, tcap, tapes⟩⟩)] ∧ D.nx = nx + 1
  refine EvP.seqG K0 (EvP.region ?_) ?_
  · simp [entryS, scV, scL, K0]
  rintro D ⟨d1, d2, d3, dm, dx⟩
  refine EvP.seqG (fun D => K0 D ∧ ∃ CS, D.s 7 = .own .nil 0 ms.length CS ∧ CS.length = ms.length) (EvP.region ?_) ?_
  · simp [d1, d2, d3, dm, dx, hn1i, hn2i, hne, K0]
    have : ∀ n : Nat, (rep n [V.own .nil 0 0 []]).length = n := fun n => by
      induction n with
      | zero => rfl
      | succ n ih => simp [rep, ih, Nat.add_comm]
    exact this _
  rintro D ⟨⟨d1, d2, d3, dm, dx⟩, CS, d7, hCS⟩
  refine EvP.seqG (fun D => K0 D ∧ ∃ CS, D.s 7 = .own .nil 0 ms.length CS ∧ Rows2 CS (mls ms)) (EvP.seq (EvP.region ?_)) ?_
  · simp [d2]
    refine EvP.block (EvP.loop (fun q D => ∃ (i : Nat) (CS : List V), q = ms.length - i ∧ i ≤ ms.length ∧ D.s 7 = .own .nil 0 ms.length CS ∧ CS.length = ms.length ∧ (∀ j (h : j < ms.length), j < i → CS[j]? = some (.own .nil 0 ms.length (rsV (ms[j].l.map lent)))) ∧ D.s 17 = .im pm A cap ms.length (msV ms) ∧ D.s 18 = .int .i64 (ms.length : Int) ∧ D.s 19 = .int .i64 (i : Int) ∧ K0 D) (n := ms.length) ⟨0, CS, by simp [d1, d2, d3, dm, dx, d7, hCS, K0]⟩ (by omega) ?_)
    rintro q D ⟨i, CS, hn, hi, d7, hCS, hpre, d17, d18, d19, d1, d2, d3, dm, dx⟩
    simp only [liveOf14, clear_none]
    refine EvP.seq (EvP.region ?_)
    simp [d18, d19]
    refine EvP.seq (EvP.cond (t := decide (i < ms.length)) (by simp) (fun h => EvP.skip ?_) (fun h => EvP.exit ?_))
    · have hlt : i < ms.length := by simpa using h
      have hli := hrl i hlt
      simp only [thenE_norm]
      refine EvP.seq (EvP.block (EvP.seq (EvP.region ?_)))
      simp [d17, d19, hlt]
      refine EvP.region ?_
      simp [d7, d17, d19, hlt, cloneX, hli, hn1, hn2, hCS, dm, dx]
      refine EvP.region ?_
      simp [d19, d7, d17, d18, d1, d2, d3, dm, dx, K0, hli]
      refine ⟨_, by omega, i + 1, rfl, by omega, by simp [hCS], fun j h hj => ?_, wrap_succ (by omega)⟩
      by_cases hji : j = i
      · subst hji; simp [hCS, hlt]
      · rw [List.getElem?_set_ne (by omega)]
        exact hpre j h (by omega)
    · have hlt : i = ms.length := by have : ¬ i < ms.length := by simpa using h
                                     omega
      simp [d1, d2, d3, dm, dx, K0, d7]
      refine ⟨by simp [mls, hCS], fun j v l h1 h2 => ?_⟩
      have hj : j < ms.length := by
        have := (List.getElem?_eq_some_iff.1 h1).1
        omega
      rw [hpre j hj (by omega)] at h1
      unfold mls at h2
      rw [List.getElem?_map, List.getElem?_eq_getElem hj] at h2
      cases h1; cases h2
      refine ⟨rsV (ms[j].l.map lent), by simp [hrl j hj], ?_⟩
      show Rows _ (ms[j].l.map (·.l))
      rw [← lent_map]
      exact rows_rsV _
  rintro D ⟨⟨d1, d2, d3, dm, dx⟩, CS, d7, hR0⟩
  generalize hout : mls ms = out at *
  have houtl : out.length = ms.length := by rw [← hout]; simp [mls]
  unfold scL at dm
  simp only at dm
  refine EvP.seqG (fun D => ∃ CS, D.s 7 = .own .nil 0 ms.length CS ∧ Rows2 CS (msgS p corrupt rd ms.length out devs) ∧ ∀ b ∈ D.m, nx ≤ b.1) (EvP.seq (EvP.region ?_)) ?_
  · simp [d3, dm]
    refine EvP.block (EvP.loop (fun q D => ∃ (i : Nat) (CS : List V), q = devs.length - i ∧ i ≤ devs.length ∧ Rows2 CS ((devs.take i).foldl (stepM p corrupt rd ms.length out) out) ∧ D.s 1 = .int .i64 rd ∧ D.s 2 = .im pm A cap ms.length (msV ms) ∧ D.s 3 = .bptr nx 0 ∧ D.s 7 = .own .nil 0 ms.length CS ∧ D.s 31 = .im dpm dA dcap devs.length (devsV devs) ∧ D.s 32 = .int .i64 (devs.length : Int) ∧ D.s 33 = .int .i64 (i : Int)
      ∧ getBox D.m nx = some ⟨0, scL ⟨p, n, t, cpm, cA, ccap, corrupt, dpm, dA, dcap, devs, tpm, tA, tcap, tapes⟩⟩ ∧ (∀ b ∈ D.m, b.1 < D.nx) ∧ (∀ b ∈ D.m, nx ≤ b.1) ∧ nx < D.nx) (n := devs.length) ⟨0, CS, by simp [d1, d2, d3, dm, dx, d7, hR0, scL, getBox]⟩ (by omega) ?_)
    rintro q D ⟨i, CS, hn, hi, hR, d1, d2, d3, d7, d31, d32, d33, g0, g1, g2, g3⟩
    simp only [liveOf14, clear_none]
    refine EvP.seq (EvP.region ?_)
    simp [d32, d33]
    refine EvP.seq (EvP.cond (t := decide (i < devs.length)) (by simp) (fun h => EvP.skip ?_) (fun h => EvP.exit ?_))
    · have hlt : i < devs.length := by simpa using h
      simp only [thenE_norm]
      have h8 : i * 8 + 8 ≤ devs.length * 8 := by omega
      have h88 : 8 ≤ devs.length * 8 - i * 8 := by omega
      have e1 : ∀ c, getBox (D.m ++ [(D.nx, c)]) D.nx = some c := fun c => getBox_app_new g1
      have e2' : ∀ c, getBox (D.m ++ [(D.nx, c)]) nx = some ⟨0, scL ⟨p, n, t, cpm, cA, ccap, corrupt, dpm, dA, dcap, devs, tpm, tA, tcap, tapes⟩⟩ := fun c => getBox_app_old g0
      have e3 : ∀ c c', setBox (D.m ++ [(D.nx, c)]) D.nx c' = D.m ++ [(D.nx, c')] := fun c c' => setBox_app_new g1
      have b1 : ∀ (c : Box) (a : Nat) (b : Box), (a, b) ∈ D.m ∨ a = D.nx ∧ b = c → a < D.nx + 1 := by
        rintro c a b (h | ⟨rfl, _⟩)
        · have := g1 _ h; simp at this; omega
        · omega
      have b2 : ∀ (c : Box) (a : Nat) (b : Box), (a, b) ∈ D.m ∨ a = D.nx ∧ b = c → nx ≤ a := by
        rintro c a b (h | ⟨rfl, _⟩)
        · exact g2 _ h
        · omega
      have e2 := e2'
      unfold scL at e2
      simp only at e2
      have hx := hd devs[i] (List.getElem_mem hlt)
      have hlsok := foldM_ok (c := corrupt) (rd := rd) (out := out) (devs := devs.take i) hp0 hw
      have hstep : (devs.take (i + 1)).foldl (stepM p corrupt rd ms.length out) out = stepM p corrupt rd ms.length out ((devs.take i).foldl (stepM p corrupt rd ms.length out) out) devs[i] := foldl_take_succ _ _ hlt
      generalize hls : (devs.take i).foldl (stepM p corrupt rd ms.length out) out = ls at *
      obtain ⟨DM, hDM⟩ : ∃ DM, DM = D.m ++ [(D.nx, ⟨0, devL devs[i]⟩)] := ⟨_, rfl⟩
      have g4 : getBox DM D.nx = some ⟨0, devL devs[i]⟩ := by rw [hDM]; exact e1 _
      have g5 : getBox DM nx = some ⟨0, scL ⟨p, n, t, cpm, cA, ccap, corrupt, dpm, dA, dcap, devs, tpm, tA, tcap, tapes⟩⟩ := by rw [hDM]; exact e2' _
      have b1' : ∀ b ∈ DM, b.1 < D.nx + 1 := fun b hb => by
        rw [hDM] at hb
        obtain ⟨a, b⟩ := b
        exact b1 _ a b (by simpa using hb)
      have b2' : ∀ b ∈ DM, nx ≤ b.1 := fun b hb => by
        rw [hDM] at hb
        obtain ⟨a, b⟩ := b
        exact b2 _ a b (by simpa using hb)
      have g6 := g5
      unfold devL at g4
      unfold scL at g6
      simp only at g6
      let NB : Nat := D.nx
      let K1 : St → Prop := fun D' => D'.s 1 = .int .i64 rd ∧ D'.s 2 = .im pm A cap ms.length (msV ms) ∧ D'.s 3 = .bptr nx 0 ∧ D'.s 31 = .im dpm dA dcap devs.length (devsV devs) ∧ D'.s 32 = .int .i64 (devs.length : Int) ∧ D'.s 33 = .int .i64 (i : Int) ∧ D'.m = DM ∧ D'.nx = D.nx + 1
      refine EvP.seqG (fun D' => K1 D' ∧ ∃ CS, D'.s 7 = .own .nil 0 ms.length CS ∧ Rows2 CS ((devs.take (i + 1)).foldl (stepM p corrupt rd ms.length out) out)) (EvP.block ?_) ?_
      · refine EvP.seqG (fun D' => K1 D' ∧ D'.s 7 = .own .nil 0 ms.length CS ∧ D'.s 11 = .bptr D.nx 0) (EvP.region ?_) ?_
        · simp [d1, d2, d3, d7, d31, d32, d33, hlt, h8, h88, devL, e1, e2, e3, K1, hDM]
        rintro D1 ⟨⟨d1, d2, d3, d31, d32, d33, dm, dx⟩, d7, d11⟩
        have c0i := c0 devs[i]
        refine EvP.seq (EvP.seq (EvP.region ?_))
        by_cases hno : ¬ (devs[i].round = rd ∧ devs[i].from_ ∈ corrupt)
        · simp only [hno, decide_false] at c0i
          simp [d1, d3, d11, dm, dx, g4, g6, c0i]
          refine EvP.cond (t := true) (by simp) (fun _ => EvP.exit ?_) (fun h => by cases h)
          simp [d1, d2, d3, d31, d32, d33, dm, dx, d7, K1]
          rw [hstep, stepM, if_neg hno]; exact hR
        · have hyes : (devs[i].round = rd ∧ devs[i].from_ ∈ corrupt) := by
            by_cases h : devs[i].round = rd ∧ devs[i].from_ ∈ corrupt
            · exact h
            · exact absurd h hno
          rw [decide_eq_true hyes] at c0i
          obtain ⟨fr, hfr0⟩ : ∃ fr : Nat, devs[i].from_ = (fr : Int) + 1 := ⟨(devs[i].from_ - 1).toNat, by have := hx.from1; omega⟩
          have hfr : IntKind.i64.wrap (devs[i].from_ - 1) = (fr : Int) := by rw [hfr0, wrap_nat (by omega) (by have := hx.from2; omega)]; omega
          have hfrl : fr < ms.length := by have := hx.from2; omega
          have hfrs : fr < ls.length := by rw [hlsok.1]; exact hfrl
          have hrow := hlsok.2 ls[fr] (List.getElem_mem hfrs)
          simp [d1, d3, d11, dm, dx, g4, g6, c0i]
          refine EvP.cond (t := false) (by simp) (fun h => by cases h) (fun _ => EvP.skip ?_)
          simp only [thenE_norm]
          let K2 : St → Prop := fun D' => K1 D' ∧ D'.s 11 = .bptr D.nx 0
          refine EvP.seqG (fun D' => K2 D' ∧ D'.s 7 = .own .nil 0 ms.length CS ∧ D'.s 12 = .own .nil 0 0 []) (EvP.region ?_) ?_
          · simp [d1, d2, d3, d31, d32, d33, dm, dx, d7, d11, K1, K2]
          rintro D1 ⟨⟨⟨d1, d2, d3, d31, d32, d33, dm, dx⟩, d11⟩, d7, d12⟩
          refine EvP.seqG (fun D' => K2 D' ∧ D'.s 7 = .own .nil 0 ms.length CS ∧ IsRow (D'.s 12) (saidS out devs[i])) (EvP.seq (EvP.region ?_)) ?_
          · simp [d11, dm, g4]
            by_cases k3 : devs[i].kind = 3
            · refine EvP.cond (t := true) (by simp [k3]) (fun _ => ?_) (fun h => by cases h)
              obtain ⟨og, hog0⟩ : ∃ og : Nat, devs[i].of_ = (og : Int) + 1 := ⟨(devs[i].of_ - 1).toNat, by have := hx.echo k3; omega⟩
              have hog : IntKind.i64.wrap (devs[i].of_ - 1) = (og : Int) := by rw [hog0, wrap_nat (by omega) (by have := hx.of2; omega)]; omega
              have hogl : og < ms.length := by have := hx.of2; omega
              have hol := hrl og hogl
              refine EvP.draw ?_
              simp [d1, d2, d3, d31, d32, d33, dm, dx, d7, d11, g4, hog, hogl, hfr, hol, hfrl, K1, K2]
              have : saidS out devs[i] = (ms[og].l[fr]'(by omega)).l := by
                have ho : out[og]? = some (ms[og].l.map (·.l)) := by rw [← hout]; simp [mls, hogl]
                rw [saidS, if_pos k3, show (devs[i].of_ - 1).toNat = og by omega, show (devs[i].from_ - 1).toNat = fr by omega, ho]
                simp [hol, hfrl]
              rw [this]
              exact IsRow.im _ _ _ _
            · refine EvP.cond (t := false) (by simp [k3]) (fun h => by cases h) (fun _ => EvP.skip ?_)
              simp [d1, d2, d3, d31, d32, d33, dm, dx, d7, d11, d12, K1, K2]
              have : saidS out devs[i] = [] := by rw [saidS, if_neg k3]
              rw [this]
              exact IsRow.own 0 []
          rintro D1 ⟨⟨⟨d1, d2, d3, d31, d32, d33, dm, dx⟩, d11⟩, d7, h12⟩
          have hsaidlt := said_lt hp0 hw devs[i]
          generalize hsaid : saidS out devs[i] = said at *
          have hRowJ : ∀ j, ∃ l, l = (List.range j).foldl (stepJ p corrupt devs[i] said) ls[fr] ∧ LsOk p l ∧ l.length = ms.length := fun j => by
            obtain ⟨q1, q2⟩ := foldJ_ok (js := List.range j) (c := corrupt) (x := devs[i]) (said := said) hp0 hrow.2
            exact ⟨_, rfl, q1, by rw [q2]; exact hrow.1⟩
          have hCf := hR.2 fr
          have hCSl : CS.length = ms.length := by rw [hR.1, hlsok.1]
          obtain ⟨rc0, hrc0, hrr0⟩ := hCf _ _ (List.getElem?_eq_getElem (by omega)) (List.getElem?_eq_getElem hfrs)
          rw [hrow.1] at hrc0
          refine EvP.seq (EvP.region ?_)
          simp [d7, d11, dm, g4, hfr, hfrl, hCSl, hrc0]
          refine EvP.block (EvP.loop (fun q D' => ∃ (j : Nat) (CS : List V), q = ms.length - j ∧ j ≤ ms.length ∧ Rows2 CS (ls.set fr ((List.range j).foldl (stepJ p corrupt devs[i] said) ls[fr])) ∧ D'.s 7 = .own .nil 0 ms.length CS ∧ IsRow (D'.s 12) said ∧ D'.s 62 = .int .i64 (ms.length : Int) ∧ D'.s 63 = .int .i64 (j : Int) ∧ K2 D') (n := ms.length) ⟨0, CS, by simp [d1, d2, d3, d31, d32, d33, dm, dx, d7, d11, h12, K1, K2, hR]⟩ (by omega) ?_)
          rintro q D2 ⟨j, CS2, hn', hj, hR2, d7, h12, d62, d63, ⟨d1, d2, d3, d31, d32, d33, dm, dx⟩, d11⟩
          simp only [liveOf14, clear_none]
          refine EvP.seq (EvP.region ?_)
          simp [d62, d63]
          refine EvP.seq (EvP.cond (t := decide (j < ms.length)) (by simp) (fun h => EvP.skip ?_) (fun h => EvP.exit ?_))
          · have hjl : j < ms.length := by simpa using h
            simp only [thenE_norm]
            obtain ⟨row, hrowj, hrowok, hrowl⟩ := hRowJ j
            rw [← hrowj] at hR2
            have hnext : (List.range (j + 1)).foldl (stepJ p corrupt devs[i] said) ls[fr] = stepJ p corrupt devs[i] said row j := by rw [foldl_range_succ, ← hrowj]
            have hw1 : IntKind.i64.wrap ((j : Int) + 1) = (j : Int) + 1 := by rw [wrap_succ (by omega)]; omega
            let K3 : St → Prop := fun D' => K2 D' ∧ D'.s 62 = .int .i64 (ms.length : Int) ∧ D'.s 63 = .int .i64 (j : Int)
            refine EvP.seqG (fun D' => K3 D' ∧ ∃ CS, D'.s 7 = .own .nil 0 ms.length CS ∧ Rows2 CS (ls.set fr (stepJ p corrupt devs[i] said row j)) ∧ IsRow (D'.s 12) said) (EvP.block ?_) ?_
            · refine EvP.seqG (fun D' => K3 D' ∧ D'.s 13 = .int .i64 (j : Int) ∧ D'.s 7 = .own .nil 0 ms.length CS2 ∧ IsRow (D'.s 12) said) (EvP.region ?_) ?_
              · simp [d1, d2, d3, d31, d32, d33, dm, dx, d7, d11, d62, d63, K1, K2, K3, h12]
              rintro D2 ⟨⟨⟨⟨d1, d2, d3, d31, d32, d33, dm, dx⟩, d11⟩, d62, d63⟩, d13, d7, h12⟩
              refine EvP.seqG (fun D' => K3 D' ∧ D'.s 82 = .bool (decide ((j : Int) + 1 ≠ devs[i].from_ ∧ (devs[i].to = 0 ∨ devs[i].to = (j : Int) + 1))) ∧ D'.s 13 = .int .i64 (j : Int) ∧ D'.s 7 = .own .nil 0 ms.length CS2 ∧ IsRow (D'.s 12) said) (EvP.region ?_) ?_
              · by_cases j1 : (j : Int) + 1 = devs[i].from_
                · have j1' : ((j : Int) + 1 != devs[i].from_) = false := by simp [bne, j1]
                  simp [d1, d2, d3, d31, d32, d33, dm, dx, d7, d11, d62, d63, K1, K2, K3, h12, d13, g4, hw1, j1']
                  simp [j1]
                · have j1' : ((j : Int) + 1 != devs[i].from_) = true := by simp [bne, j1]
                  by_cases j2 : devs[i].to = 0
                  · have j2' : (devs[i].to == 0) = true := by simp [j2]
                    simp [d1, d2, d3, d31, d32, d33, dm, dx, d7, d11, d62, d63, K1, K2, K3, h12, d13, g4, hw1, j1', j2']
                    simp [j1, j2]
                  · have j2' : (devs[i].to == 0) = false := by simp [j2]
                    simp [d1, d2, d3, d31, d32, d33, dm, dx, d7, d11, d62, d63, K1, K2, K3, h12, d13, g4, hw1, j1', j2']
                    simp [j1, j2]
                    rfl
              rintro D2 ⟨⟨⟨⟨d1, d2, d3, d31, d32, d33, dm, dx⟩, d11⟩, d62, d63⟩, d82, d13, d7, h12⟩
              refine EvP.cond (t := decide ((j : Int) + 1 ≠ devs[i].from_ ∧ (devs[i].to = 0 ∨ devs[i].to = (j : Int) + 1))) (by simp [d82]) (fun hgo => ?_) (fun hgo => EvP.skip ?_)
              · have hgo : (j : Int) + 1 ≠ devs[i].from_ ∧ (devs[i].to = 0 ∨ devs[i].to = (j : Int) + 1) := by simpa using hgo
                have hC2l : CS2.length = ms.length := by rw [hR2.1, List.length_set, hlsok.1]
                obtain ⟨rc, hrc, hrr⟩ := hR2.2 fr _ _ (List.getElem?_eq_getElem (by omega)) (by rw [List.getElem?_set_self (by omega)])
                rw [hrowl] at hrc
                have hrcl : rc.length = ms.length := by rw [hrr.1, hrowl]
                have hjrow : j < row.length := by omega
                have hvrow := hrr.2 j _ _ (List.getElem?_eq_getElem (by omega)) (List.getElem?_eq_getElem hjrow)
                have hok := hrowok row[j] (List.getElem_mem hjrow)
                have fin : ∀ v, IsRow v (uponS p corrupt devs[i] row[j] said) → Rows2 (CS2.set fr (.own .nil 0 ms.length (rc.set j v))) (ls.set fr (stepJ p corrupt devs[i] said row j)) := by
                  intro v hv
                  rw [stepJ, if_pos hgo, List.getElem?_eq_getElem hjrow, Option.getD_some]
                  have := hR2.set fr (hrr.set j hv)
                  rw [List.set_set] at this
                  rw [show ms.length = (row.set j (uponS p corrupt devs[i] row[j] said)).length by simp [hrowl]]
                  exact this
                generalize hl : row[j] = l at *
                generalize hv0 : rc[j] = v0 at *
                generalize hw12 : D2.s 12 = w12 at *
                refine EvP.draw ?_
                cases h12 with
                | im pmS AS capS =>
                  cases hvrow with
                  | im pm' A' cap' =>
                    obtain ⟨v, hv, hvr⟩ := h1 devs[i] false false A' AS cap' capS l said hx.at_ (hk64 _ (List.getElem_mem hlt)) hok.1 hok.2 hsaidlt
                    have hv := hv k (by omega)
                    simp only [scV, scL, lentS, devV, List.length_map] at hv
                    have hR' := fin v hvr
                    cases hvr with
                    | im pm2 A2 cap2 =>
                      simp [d1, d2, d3, d31, d32, d33, dm, dx, d7, d11, d62, d63, d13, hw12, g4, g6, hfr, hfrl, hC2l, hrc, hrcl, hjl, hv0, hv, K1, K2, K3]
                      exact ⟨hR', by first | exact IsRow.im _ _ _ _ | exact IsRow.own _ _⟩
                    | own k2 =>
                      simp [d1, d2, d3, d31, d32, d33, dm, dx, d7, d11, d62, d63, d13, hw12, g4, g6, hfr, hfrl, hC2l, hrc, hrcl, hjl, hv0, hv, K1, K2, K3]
                      exact ⟨hR', by first | exact IsRow.im _ _ _ _ | exact IsRow.own _ _⟩
                  | own k' =>
                    obtain ⟨v, hv, hvr⟩ := h1 devs[i] false false none AS 0 capS l said hx.at_ (hk64 _ (List.getElem_mem hlt)) hok.1 hok.2 hsaidlt
                    have hv := hv k (by omega)
                    simp only [scV, scL, lentS, devV, List.length_map] at hv
                    have hR' := fin v hvr
                    cases hvr with
                    | im pm2 A2 cap2 =>
                      simp [d1, d2, d3, d31, d32, d33, dm, dx, d7, d11, d62, d63, d13, hw12, g4, g6, hfr, hfrl, hC2l, hrc, hrcl, hjl, hv0, hv, K1, K2, K3]
                      exact ⟨hR', by first | exact IsRow.im _ _ _ _ | exact IsRow.own _ _⟩
                    | own k2 =>
                      simp [d1, d2, d3, d31, d32, d33, dm, dx, d7, d11, d62, d63, d13, hw12, g4, g6, hfr, hfrl, hC2l, hrc, hrcl, hjl, hv0, hv, K1, K2, K3]
                      exact ⟨hR', by first | exact IsRow.im _ _ _ _ | exact IsRow.own _ _⟩
                | own kS =>
                  cases hvrow with
                  | im pm' A' cap' =>
                    obtain ⟨v, hv, hvr⟩ := h1 devs[i] false false A' none cap' 0 l said hx.at_ (hk64 _ (List.getElem_mem hlt)) hok.1 hok.2 hsaidlt
                    have hv := hv k (by omega)
                    simp only [scV, scL, lentS, devV, List.length_map] at hv
                    have hR' := fin v hvr
                    cases hvr with
                    | im pm2 A2 cap2 =>
                      simp [d1, d2, d3, d31, d32, d33, dm, dx, d7, d11, d62, d63, d13, hw12, g4, g6, hfr, hfrl, hC2l, hrc, hrcl, hjl, hv0, hv, K1, K2, K3]
                      exact ⟨hR', by first | exact IsRow.im _ _ _ _ | exact IsRow.own _ _⟩
                    | own k2 =>
                      simp [d1, d2, d3, d31, d32, d33, dm, dx, d7, d11, d62, d63, d13, hw12, g4, g6, hfr, hfrl, hC2l, hrc, hrcl, hjl, hv0, hv, K1, K2, K3]
                      exact ⟨hR', by first | exact IsRow.im _ _ _ _ | exact IsRow.own _ _⟩
                  | own k' =>
                    obtain ⟨v, hv, hvr⟩ := h1 devs[i] false false none none 0 0 l said hx.at_ (hk64 _ (List.getElem_mem hlt)) hok.1 hok.2 hsaidlt
                    have hv := hv k (by omega)
                    simp only [scV, scL, lentS, devV, List.length_map] at hv
                    have hR' := fin v hvr
                    cases hvr with
                    | im pm2 A2 cap2 =>
                      simp [d1, d2, d3, d31, d32, d33, dm, dx, d7, d11, d62, d63, d13, hw12, g4, g6, hfr, hfrl, hC2l, hrc, hrcl, hjl, hv0, hv, K1, K2, K3]
                      exact ⟨hR', by first | exact IsRow.im _ _ _ _ | exact IsRow.own _ _⟩
                    | own k2 =>
                      simp [d1, d2, d3, d31, d32, d33, dm, dx, d7, d11, d62, d63, d13, hw12, g4, g6, hfr, hfrl, hC2l, hrc, hrcl, hjl, hv0, hv, K1, K2, K3]
                      exact ⟨hR', by first | exact IsRow.im _ _ _ _ | exact IsRow.own _ _⟩
              · have hgo : ¬ ((j : Int) + 1 ≠ devs[i].from_ ∧ (devs[i].to = 0 ∨ devs[i].to = (j : Int) + 1)) := by simpa using hgo
                simp only [blockE_norm]
                exact ⟨⟨⟨⟨d1, d2, d3, d31, d32, d33, dm, dx⟩, d11⟩, d62, d63⟩, CS2, d7, by rw [stepJ, if_neg hgo]; exact hR2, h12⟩
            rintro D2 ⟨⟨⟨⟨d1, d2, d3, d31, d32, d33, dm, dx⟩, d11⟩, d62, d63⟩, CS3, d7, hR3, h12⟩
            have hR3' : Rows2 CS3 (ls.set fr ((List.range (j + 1)).foldl (stepJ p corrupt devs[i] said) ls[fr])) := by rw [hnext]; exact hR3
            refine EvP.region ?_
            simp [d1, d2, d3, d31, d32, d33, dm, dx, d7, d11, d62, d63, h12, K1, K2]
            exact ⟨_, by omega, j + 1, rfl, by omega, CS3, hR3', rfl, wrap_succ (by omega)⟩
          · have hjl : j = ms.length := by have : ¬ j < ms.length := by simpa using h
                                           omega
            subst hjl
            simp [d1, d2, d3, d31, d32, d33, dm, dx, d7, K1]
            rw [hstep, stepM, if_pos hyes, show (devs[i].from_ - 1).toNat = fr by omega, hsaid, List.getElem?_eq_getElem hfrs, Option.getD_some]
            exact hR2
      rintro D1 ⟨⟨d1, d2, d3, d31, d32, d33, dm, dx⟩, CS3, d7, hR3⟩
      refine EvP.region ?_
      simp [d1, d2, d3, d31, d32, d33, dm, dx, d7]
      exact ⟨_, by omega, i + 1, rfl, by omega, CS3, hR3, rfl, wrap_succ (by omega), g5, fun a b h => b1' _ h, fun a b h => b2' _ h, by omega⟩
    · have hlt : i = devs.length := by have : ¬ i < devs.length := by simpa using h
                                       omega
      subst hlt
      rw [List.take_length] at hR
      simp [d7]
      exact ⟨hR, fun a b h => g2 _ h⟩
  rintro D ⟨CS, d7, hR, hb⟩
  refine EvP.seq (EvP.region ?_)
  simp [d7]
  refine EvP.ret ?_
  simp [plainV, hR.ptrs]
  exact ⟨hR, fun a b h => hb _ h⟩
end Go.Abs
end
