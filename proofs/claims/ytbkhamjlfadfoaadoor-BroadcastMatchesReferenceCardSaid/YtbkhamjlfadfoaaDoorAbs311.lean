/- Joined: AbsPNSO AbsPNSQ. -/
import Derived.Test.YtbkhamjlfadfoaaDoorAbs307
set_option linter.all false
set_option maxHeartbeats 16000000
noncomputable section
namespace Go.Abs
open Go Go.Proofs
attribute [local simp] intOp shOp
set_option maxRecDepth 100000
@[simp] theorem cellIn_uL (l : List Nat) : (uL l).all cellIn = true := by
 unfold uL; induction l with
 | nil => rfl
 | cons x l ih => simp [cellIn, solid]
@[simp] theorem noRowL_uL (l : List Nat) : noRowL (uL l) = true := by
 unfold uL; induction l with
 | nil => rfl
 | cons x l ih => simp only [List.map_cons, noRowL, noRow, ih, Bool.and_self]
inductive IsRow : V → List Nat → Prop
 | im (pm : Bool) (A : Option Addr) (cap : Nat) (l : List Nat) : IsRow (.im pm A cap l.length (uL l)) l
 | own (k : Nat) (l : List Nat) : IsRow (.own .nil k l.length (uL l)) l
def uponS (p : Nat) (c : List Int) (x : Dev) (l said : List Nat) : List Nat :=
 if x.kind = 4 then [] else
 if (l.length : Int) ≤ x.at_ then l else
 if x.kind = 1 then l.set x.at_.toNat (x.k % p) else
 if x.kind = 2 then l.set x.at_.toNat ((l[x.at_.toNat]?.getD 0 + x.k % p) % p) else
 if x.kind = 3 then l.set x.at_.toNat ((l[x.at_.toNat]?.getD 0 + (x.k % p) * (if x.of_ ∈ c then 0 else wordS said x.src) % p) % p) else l
theorem wordS_lt {l : List Nat} {p : Nat} (hp : 0 < p) (h : ∀ y ∈ l, y < p) (i : Int) : wordS l i < p := by
 unfold wordS
 split
 ·cases hi : l[i.toNat]? with
  | none => simpa using hp
  | some y => simpa using h y (List.mem_of_getElem? hi)
 ·exact hp
theorem uL_set (l : List Nat) (i v : Nat) : (uL l).set i (.int .u64 (v : Int)) = uL (l.set i v) := by
 unfold uL; rw [List.map_set]
theorem upon24 (s : Scn) (hs : ScnOk s) {q : Nat} (hq : (s.p, q) ∈ pq7) : ∃ N, ∀ (x : Dev) (pm pm2 : Bool) (A A2 : Option Addr) (cap cap2 : Nat) (l said : List Nat), 0 ≤ x.at_ → x.k < 18446744073709551616 → l.length ≤ 1000 → (∀ y ∈ l, y < s.p) → (∀ y ∈ said, y < s.p) →
 ∃ v, AnsN N Tryd.prog H14 85 [scV s, devV x, .im pm A cap l.length (uL l), .im pm2 A2 cap2 said.length (uL said)] v ∧ IsRow v (uponS s.p s.corrupt x l said) := by
 obtain ⟨hp1, hq1, hq2⟩ := pq_facts hq
 obtain ⟨N1, h1⟩ := reduce33 s.p q hq
 obtain ⟨N2, h2⟩ := add35 s.p q hq
 obtain ⟨N3, h3⟩ := mul37 s.p q hq
 obtain ⟨p, n, t, cpm, cA, ccap, corrupt, dpm, dA, dcap, devs, tpm, tA, tcap, tapes⟩ := s
 obtain ⟨hs1, hs2, hs3, hs4⟩ := hs
 simp only at *
 have hp61 : p < 2305843009213693952 := by
  have : 2 ^ q ≤ 2 ^ 61 := Nat.pow_le_pow_right (by omega) hq2
  omega
 have hp0 : 0 < p := by
  have : 2 ^ 5 ≤ 2 ^ q := Nat.pow_le_pow_right (by omega) hq1
  omega
 refine ⟨N1 + N2 + N3 + corrupt.length + 5 + 1, fun x pm pm2 A A2 cap cap2 l said hat hk64 hl hlp hsp => ?_⟩
 obtain ⟨round, from_, to, at_, kind, xk, of_, src⟩ := x
 simp only at hat hk64
 obtain ⟨j, rfl⟩ : ∃ j : Nat, at_ = j := ⟨at_.toNat, by omega⟩
 have mk : ∀ v, plainV v = true → (∀ k, N1 + N2 + N3 + corrupt.length + 5 ≤ k → ∀ nx, EvP Tryd.prog H14 (evCall Tryd.prog H14 k) 85 k (Tryd.f85.body.getD .skip) (entryS [scV ⟨p, n, t, cpm, cA, ccap, corrupt, dpm, dA, dcap, devs, tpm, tA, tcap, tapes⟩, devV ⟨round, from_, to, j, kind, xk, of_, src⟩, .im pm A cap l.length (uL l), .im pm2 A2 cap2 said.length (uL said)] [] nx) (fun e D => (e = .norm ∨ e = .ret) ∧ D.s 8 = v ∧ ∀ b ∈ D.m, nx ≤ b.1)) → AnsN (N1 + N2 + N3 + corrupt.length + 5 + 1) Tryd.prog H14 85 [scV ⟨p, n, t, cpm, cA, ccap, corrupt, dpm, dA, dcap, devs, tpm, tA, tcap, tapes⟩, devV ⟨round, from_, to, j, kind, xk, of_, src⟩, .im pm A cap l.length (uL l), .im pm2 A2 cap2 said.length (uL said)] v :=
  fun v hv h => AnsN.of (fn := Tryd.f85) (t := 8) (by rfl) Tryd.func85 rfl rfl (by rfl) hv h
 by_cases k4 : kind = 4
 ·refine ⟨.own .nil 0 0 [], mk _ (by rfl) fun k hk nx => ?_, by simp only [uponS, k4, if_true]; exact IsRow.own 0 []⟩
  refine EvP.seq (EvP.region ?_)
  simp [entryS, scV, scL, devV]
  refine EvP.seq (EvP.seq (EvP.region ?_))
  simp [k4]
  refine EvP.cond (t := true) (by simp) (fun _ => ?_) (fun h => by cases h)
  refine EvP.seq (EvP.region ?_)
  simp
  refine EvP.ret ?_
  simp
  rintro a b (⟨rfl, _⟩ | ⟨rfl, _⟩) <;> omega
 ·by_cases hj : l.length ≤ j
  ·refine ⟨.im pm A cap l.length (uL l), mk _ (by simp [plainV]) fun k hk nx => ?_, by simp only [uponS, k4, if_false, if_pos (show (l.length : Int) ≤ (j : Int) by omega)]; exact IsRow.im _ _ _ _⟩
   refine EvP.seq (EvP.region ?_)
   simp [entryS, scV, scL, devV]
   refine EvP.seq (EvP.seq (EvP.region ?_))
   simp [k4]
   refine EvP.cond (t := false) (by simp [k4]) (fun h => by cases h) (fun _ => EvP.skip ?_)
   simp
   refine EvP.seq (EvP.seq (EvP.region ?_))
   simp [hj]
   refine EvP.cond (t := true) (by simp [hj]) (fun _ => ?_) (fun h => by cases h)
   refine EvP.seq (EvP.region ?_)
   simp
   refine EvP.ret ?_
   simp
   rintro a b (⟨rfl, _⟩ | ⟨rfl, _⟩) <;> omega
  ·have hjl : j < l.length := by omega
   have hj2 : ¬ ((l.length : Int) ≤ (j : Int)) := by omega
   have hlj := hlp _ (List.getElem_mem hjl)
   obtain ⟨kk, hkk⟩ : ∃ kk, kk = xk % p := ⟨_, rfl⟩
   have hkp : kk < p := by rw [hkk]; exact Nat.mod_lt _ hp0
   have c1 := h1 xk hk64
   rw [← hkk] at c1
   have hget : l[j]?.getD 0 = l[j] := by rw [List.getElem?_eq_getElem hjl]; rfl
   have pre : ∀ lst : List Nat, lst.length = l.length → plainV (.own .nil 0 l.length (uL lst)) = true := fun lst _ => by simp [plainV]
   have isr : ∀ lst : List Nat, lst.length = l.length → IsRow (.own .nil 0 l.length (uL lst)) lst := fun lst h => by rw [← h]; exact IsRow.own _ _
   have hn1 : l.length * 8 ≤ 140737488355328 := by omega
   have hn2 : l.length ≤ 140737488355328 := by omega
   by_cases k1 : kind = 1
   ·refine ⟨.own .nil 0 l.length (uL (l.set j kk)), mk _ (pre _ (by simp)) fun k hk nx => ?_, ?_⟩
    ·refine EvP.seq (EvP.region ?_)
     simp [entryS, scV, scL, devV]
     refine EvP.seq (EvP.seq (EvP.region ?_))
     simp [k4]
     refine EvP.cond (t := false) (by simp [k4]) (fun h => by cases h) (fun _ => EvP.skip ?_)
     simp
     refine EvP.seq (EvP.seq (EvP.region ?_))
     simp [hj]
     refine EvP.cond (t := false) (by simp [hj]) (fun h => by cases h) (fun _ => EvP.skip ?_)
     simp
     refine EvP.seq (EvP.region ?_)
     simp
     have c1 := c1 k (by omega)
     refine EvP.seq (EvP.region ?_)
     simp [c1]
     refine EvP.seq (EvP.region ?_)
     simp [cloneX, hn1, hn2]
     refine EvP.seq (EvP.seq (EvP.region ?_))
     simp
     refine EvP.block (EvP.seq (EvP.region ?_))
     simp [k1]
     refine EvP.cond (t := true) (by simp [k1]) (fun _ => ?_) (fun h => by cases h)
     refine EvP.region ?_
     simp [k1, hjl]
     refine EvP.seq (EvP.region ?_)
     simp [uL_set]
     refine EvP.ret ?_
     simp
     rintro a b (⟨rfl, _⟩ | ⟨rfl, _⟩) <;> omega
    ·have hU : uponS p corrupt ⟨round, from_, to, j, kind, xk, of_, src⟩ l said = l.set j kk := by simp [uponS, hj, hj2, hget, k1, hkk]
     rw [hU]
     exact isr _ (by simp)
   ·by_cases k2 : kind = 2
    ·obtain ⟨r2, hr2⟩ : ∃ r2, r2 = (l[j] + kk) % p := ⟨_, rfl⟩
     have c2 := h2 l[j] kk (by omega)
     rw [← hr2] at c2
     refine ⟨.own .nil 0 l.length (uL (l.set j r2)), mk _ (pre _ (by simp)) fun k hk nx => ?_, ?_⟩
     ·have c2 := c2 k (by omega)
      refine EvP.seq (EvP.region ?_)
      simp [entryS, scV, scL, devV]
      refine EvP.seq (EvP.seq (EvP.region ?_))
      simp [k4]
      refine EvP.cond (t := false) (by simp [k4]) (fun h => by cases h) (fun _ => EvP.skip ?_)
      simp
      refine EvP.seq (EvP.seq (EvP.region ?_))
      simp [hj]
      refine EvP.cond (t := false) (by simp [hj]) (fun h => by cases h) (fun _ => EvP.skip ?_)
      simp
      refine EvP.seq (EvP.region ?_)
      simp
      have c1 := c1 k (by omega)
      refine EvP.seq (EvP.region ?_)
      simp [c1]
      refine EvP.seq (EvP.region ?_)
      simp [cloneX, hn1, hn2]
      refine EvP.seq (EvP.seq (EvP.region ?_))
      simp
      refine EvP.block (EvP.seq (EvP.region ?_))
      simp [k2]
      refine EvP.cond (t := false) (by simp [k2]) (fun h => by cases h) (fun _ => ?_)
      refine EvP.seq (EvP.region ?_)
      simp [k2]
      refine EvP.cond (t := true) (by simp [k2]) (fun _ => ?_) (fun h => by cases h)
      refine EvP.draw ?_
      simp [k2, hjl, c2]
      refine EvP.seq (EvP.region ?_)
      simp [uL_set]
      refine EvP.ret ?_
      simp
      rintro a b (⟨rfl, _⟩ | ⟨rfl, _⟩) <;> omega
     ·have hU : uponS p corrupt ⟨round, from_, to, j, kind, xk, of_, src⟩ l said = l.set j r2 := by simp [uponS, hj, hj2, hget, k2, hkk, hr2]
      rw [hU]
      exact isr _ (by simp)
    ·by_cases k3 : kind = 3
     ·by_cases hof : of_ ∈ corrupt
      ·obtain ⟨hd1, hhd⟩ : ∃ hd1 : Nat, hd1 = 0 := ⟨_, rfl⟩
       obtain ⟨r3, hr3⟩ : ∃ r3, r3 = kk * hd1 % p := ⟨_, rfl⟩
       have hr3p : r3 < p := by rw [hr3]; exact Nat.mod_lt _ hp0
       obtain ⟨r2, hr2⟩ : ∃ r2, r2 = (l[j] + r3) % p := ⟨_, rfl⟩
       have c3 := h3 kk hd1 (by omega) (by omega)
       rw [← hr3] at c3
       have c2 := h2 l[j] r3 (by omega)
       rw [← hr2] at c2
       have c5 := contains32 false cA ccap corrupt of_ hs1
       have c6 := word36 false A2 cap2 said src
       refine ⟨.own .nil 0 l.length (uL (l.set j r2)), mk _ (pre _ (by simp)) fun k hk nx => ?_, ?_⟩
       ·have c2 := c2 k (by omega)
        have c3 := c3 k (by omega)
        have c3 : ∀ nx, evCall Tryd.prog H14 k 100 [.int .u64 (p : Int), .int .u64 (kk : Int), .int .u64 0] [] nx = some (.int .u64 (r3 : Int), [], nx) := by rw [hhd] at c3; exact c3
        have c5 := c5 k (by omega)
        have c6 := c6 k (by omega)
        refine EvP.seq (EvP.region ?_)
        simp [entryS, scV, scL, devV]
        refine EvP.seq (EvP.seq (EvP.region ?_))
        simp [k4]
        refine EvP.cond (t := false) (by simp [k4]) (fun h => by cases h) (fun _ => EvP.skip ?_)
        simp
        refine EvP.seq (EvP.seq (EvP.region ?_))
        simp [hj]
        refine EvP.cond (t := false) (by simp [hj]) (fun h => by cases h) (fun _ => EvP.skip ?_)
        simp
        refine EvP.seq (EvP.region ?_)
        simp
        have c1 := c1 k (by omega)
        refine EvP.seq (EvP.region ?_)
        simp [c1]
        refine EvP.seq (EvP.region ?_)
        simp [cloneX, hn1, hn2]
        refine EvP.seq (EvP.seq (EvP.region ?_))
        simp
        refine EvP.block (EvP.seq (EvP.region ?_))
        simp [k3]
        refine EvP.cond (t := false) (by simp [k3]) (fun h => by cases h) (fun _ => ?_)
        refine EvP.seq (EvP.region ?_)
        simp [k3]
        refine EvP.cond (t := false) (by simp [k3]) (fun h => by cases h) (fun _ => ?_)
        refine EvP.seq (EvP.region ?_)
        simp [k3]
        refine EvP.cond (t := true) (by simp [k3]) (fun _ => ?_) (fun h => by cases h)
        refine EvP.seq (EvP.region ?_)
        simp
        refine EvP.seq (EvP.seq (EvP.region ?_))
        simp [c5, hof]
        refine EvP.cond (t := false) (by simp [hof]) (fun h => by cases h) (fun _ => ?_)
        refine EvP.skip ?_
        simp
        refine EvP.draw ?_
        simp [k3, hjl, c3, c2]
        refine EvP.seq (EvP.region ?_)
        simp [uL_set]
        refine EvP.ret ?_
        simp
        rintro a b (⟨rfl, _⟩ | ⟨rfl, _⟩) <;> omega
       ·have hU : uponS p corrupt ⟨round, from_, to, j, kind, xk, of_, src⟩ l said = l.set j r2 := by simp [uponS, hj, hj2, hget, k3, hof, hkk, hr2, hr3, hhd]
        rw [hU]
        exact isr _ (by simp)
      ·obtain ⟨hd1, hhd⟩ : ∃ hd1 : Nat, hd1 = wordS said src := ⟨_, rfl⟩
       have := wordS_lt hp0 hsp src
       obtain ⟨r3, hr3⟩ : ∃ r3, r3 = kk * hd1 % p := ⟨_, rfl⟩
       have hr3p : r3 < p := by rw [hr3]; exact Nat.mod_lt _ hp0
       obtain ⟨r2, hr2⟩ : ∃ r2, r2 = (l[j] + r3) % p := ⟨_, rfl⟩
       have c3 := h3 kk hd1 (by omega) (by omega)
       rw [← hr3] at c3
       have c2 := h2 l[j] r3 (by omega)
       rw [← hr2] at c2
       have c5 := contains32 false cA ccap corrupt of_ hs1
       have c6 := word36 false A2 cap2 said src
       rw [← hhd] at c6
       refine ⟨.own .nil 0 l.length (uL (l.set j r2)), mk _ (pre _ (by simp)) fun k hk nx => ?_, ?_⟩
       ·have c2 := c2 k (by omega)
        have c3 := c3 k (by omega)
        have c5 := c5 k (by omega)
        have c6 := c6 k (by omega)
        refine EvP.seq (EvP.region ?_)
        simp [entryS, scV, scL, devV]
        refine EvP.seq (EvP.seq (EvP.region ?_))
        simp [k4]
        refine EvP.cond (t := false) (by simp [k4]) (fun h => by cases h) (fun _ => EvP.skip ?_)
        simp
        refine EvP.seq (EvP.seq (EvP.region ?_))
        simp [hj]
        refine EvP.cond (t := false) (by simp [hj]) (fun h => by cases h) (fun _ => EvP.skip ?_)
        simp
        refine EvP.seq (EvP.region ?_)
        simp
        have c1 := c1 k (by omega)
        refine EvP.seq (EvP.region ?_)
        simp [c1]
        refine EvP.seq (EvP.region ?_)
        simp [cloneX, hn1, hn2]
        refine EvP.seq (EvP.seq (EvP.region ?_))
        simp
        refine EvP.block (EvP.seq (EvP.region ?_))
        simp [k3]
        refine EvP.cond (t := false) (by simp [k3]) (fun h => by cases h) (fun _ => ?_)
        refine EvP.seq (EvP.region ?_)
        simp [k3]
        refine EvP.cond (t := false) (by simp [k3]) (fun h => by cases h) (fun _ => ?_)
        refine EvP.seq (EvP.region ?_)
        simp [k3]
        refine EvP.cond (t := true) (by simp [k3]) (fun _ => ?_) (fun h => by cases h)
        refine EvP.seq (EvP.region ?_)
        simp
        refine EvP.seq (EvP.seq (EvP.region ?_))
        simp [c5, hof]
        refine EvP.cond (t := true) (by simp [hof]) (fun _ => ?_) (fun h => by cases h)
        refine EvP.region ?_
        simp [c6]
        refine EvP.draw ?_
        simp [k3, hjl, c3, c2]
        refine EvP.seq (EvP.region ?_)
        simp [uL_set]
        refine EvP.ret ?_
        simp
        rintro a b (⟨rfl, _⟩ | ⟨rfl, _⟩) <;> omega
       ·have hU : uponS p corrupt ⟨round, from_, to, j, kind, xk, of_, src⟩ l said = l.set j r2 := by simp [uponS, hj, hj2, hget, k3, hof, hkk, hr2, hr3, hhd]
        rw [hU]
        exact isr _ (by simp)
     ·refine ⟨.own .nil 0 l.length (uL (l)), mk _ (pre _ (by simp)) fun k hk nx => ?_, ?_⟩
      ·refine EvP.seq (EvP.region ?_)
       simp [entryS, scV, scL, devV]
       refine EvP.seq (EvP.seq (EvP.region ?_))
       simp [k4]
       refine EvP.cond (t := false) (by simp [k4]) (fun h => by cases h) (fun _ => EvP.skip ?_)
       simp
       refine EvP.seq (EvP.seq (EvP.region ?_))
       simp [hj]
       refine EvP.cond (t := false) (by simp [hj]) (fun h => by cases h) (fun _ => EvP.skip ?_)
       simp
       refine EvP.seq (EvP.region ?_)
       simp
       have c1 := c1 k (by omega)
       refine EvP.seq (EvP.region ?_)
       simp [c1]
       refine EvP.seq (EvP.region ?_)
       simp [cloneX, hn1, hn2]
       refine EvP.seq (EvP.seq (EvP.region ?_))
       simp
       refine EvP.block (EvP.seq (EvP.region ?_))
       simp [k1]
       refine EvP.cond (t := false) (by simp [k1]) (fun h => by cases h) (fun _ => ?_)
       refine EvP.seq (EvP.region ?_)
       simp [k2]
       refine EvP.cond (t := false) (by simp [k2]) (fun h => by cases h) (fun _ => ?_)
       refine EvP.seq (EvP.region ?_)
       simp [k3]
       refine EvP.cond (t := false) (by simp [k3]) (fun h => by cases h) (fun _ => ?_)
       refine EvP.skip ?_
       simp
       refine EvP.seq (EvP.region ?_)
       simp [uL_set]
       refine EvP.ret ?_
       simp
       rintro a b (⟨rfl, _⟩ | ⟨rfl, _⟩) <;> omega
      ·have hU : uponS p corrupt ⟨round, from_, to, j, kind, xk, of_, src⟩ l said = l := by simp [uponS, hj, hj2, hget, k1, k2, k3, k4]
       rw [hU]
       exact isr _ (by simp)
end Go.Abs
end
noncomputable section
namespace Go.Abs
open Go Go.Proofs
attribute [local simp] intOp shOp
set_option maxRecDepth 100000
section
variable {P : Program} {H : Hint} {f : Nat}
def AnsP (N : Nat) (P : Program) (H : Hint) (f : Nat) (xs : List V) (Q : V → Prop) : Prop := ∀ n, N ≤ n → ∀ nx, ∃ r, evCall P H n f xs [] nx = some (r, [], nx) ∧ Q r
theorem AnsP.of {N : Nat} {fn : Func} {c : Code} {xs : List V} {Q : V → Prop} {t : Nat} (hg : H.good f = true) (hf : P.funcs[f]? = some fn) (hb : fn.body = some c) (hres : fn.results = #[.tmp t]) (hfr : H.fr f = false)
 (h : ∀ k, N ≤ k → ∀ nx, EvP P H (evCall P H k) f k c (entryS xs [] nx) (fun e D => (e = .norm ∨ e = .ret) ∧ (plainV (D.s t) = true ∧ Q (D.s t)) ∧ ∀ b ∈ D.m, nx ≤ b.1)) : AnsP (N + 1) P H f xs Q := by
 intro n hn nx
 obtain ⟨k, rfl⟩ : ∃ k, n = k + 1 := ⟨n - 1, by omega⟩
 obtain ⟨e, D, h1, h2, ⟨hr, hQ⟩, h4⟩ := h k (by omega) nx
 obtain ⟨⟨D1, q1, q2, q3⟩, q4⟩ := plain_settle rfl hr
 refine ⟨D.s t, ?_, hQ⟩
 unfold evCall
 simp only [hg, hf, hb]
 have h1' : evCode P H (evCall P H k) f k c { s := fun i => match xs[i]? with | some v => v | none => .dead, m := [], nx := nx } = some (e, D) := h1
 have hres' : evRes P D fn.results.toList = some ([D.s t], D1) := by rw [hres]; simp [evRes, q1]
 have hfil : D1.m.filter (fun e => decide (e.1 < nx)) = [] := by
  rw [List.filter_eq_nil_iff, q2]
  intro b hb
  have := h4 b hb
  simp; omega
 rw [if_neg (by simp)]
 generalize hq : evCode P H (evCall P H k) f k c _ = q
 have : q = some (e, D) := by rw [← hq]; exact h1'
 subst this
 simp only [if_pos h2, hres', hfr, Bool.false_and, packRes, Bool.false_eq_true, if_false, hfil, q4, List.flatMap_nil, List.append_nil, List.any_nil]
end
theorem IsRow.ptrs {v : V} {l : List Nat} (h : IsRow v l) : Abs.ptrs v = [] := by
 cases h <;> simp [Abs.ptrs]
theorem getBox_app_new {n : Nat} {c : Box} : ∀ {m : List (Nat × Box)}, (∀ b ∈ m, b.1 < n) → getBox (m ++ [(n, c)]) n = some c
 | [], _ => by simp [getBox]
 | (i, d) :: l, h => by
   have hi : i ≠ n := by have := h _ List.mem_cons_self; simp at this; omega
   simp only [List.cons_append, getBox, if_neg hi]
   exact getBox_app_new fun b hb => h b (List.mem_cons_of_mem _ hb)
theorem getBox_app_old {n : Nat} {c : Box} {l : List (Nat × Box)} : ∀ {m : List (Nat × Box)}, getBox m n = some c → getBox (m ++ l) n = some c
 | [], h => by simp [getBox] at h
 | (i, d) :: m, h => by
   simp only [List.cons_append, getBox] at h ⊢
   split
   ·rename_i hi; simpa [hi] using h
   ·rename_i hi; rw [if_neg hi] at h; exact getBox_app_old h
theorem setBox_app_new {n : Nat} {c c' : Box} : ∀ {m : List (Nat × Box)}, (∀ b ∈ m, b.1 < n) → setBox (m ++ [(n, c)]) n c' = m ++ [(n, c')]
 | [], _ => by simp [setBox]
 | (i, d) :: l, h => by
   have hi : i ≠ n := by have := h _ List.mem_cons_self; simp at this; omega
   simp only [List.cons_append, setBox, if_neg hi]
   rw [setBox_app_new fun b hb => h b (List.mem_cons_of_mem _ hb)]
@[simp] theorem filter_fls {α : Type} (m : List α) : m.filter (fun _ => false) = [] := by induction m <;> simp_all
@[simp] theorem reach_nil (m : List (Nat × Box)) (k : Nat) : reach m k [] = [] := by cases k <;> simp [reach]
def Rows (cs : List V) (ls : List (List Nat)) : Prop := cs.length = ls.length ∧ ∀ (i : Nat) (v : V) (l : List Nat), cs[i]? = some v → ls[i]? = some l → IsRow v l
theorem Rows.set {cs : List V} {ls : List (List Nat)} (h : Rows cs ls) (i : Nat) {v : V} {l : List Nat} (hv : IsRow v l) : Rows (cs.set i v) (ls.set i l) := by
 refine ⟨by simp [h.1], fun j v' l' h1 h2 => ?_⟩
 rw [List.getElem?_set] at h1 h2
 split at h1
 ·rename_i hij
  rw [if_pos hij] at h2
  split at h1
  ·split at h2
   ·cases h1; cases h2; exact hv
   ·cases h2
  ·cases h1
 ·rename_i hij
  rw [if_neg hij] at h2
  exact h.2 j v' l' h1 h2
theorem rows_rsV (rs : List RD) : Rows (rsV rs) (rs.map (·.l)) := by
 refine ⟨by simp, fun i v l h1 h2 => ?_⟩
 unfold rsV at h1
 rw [List.getElem?_map] at h1 h2
 cases hr : rs[i]? with
 | none => rw [hr] at h1; cases h1
 | some r => rw [hr] at h1 h2; cases h1; cases h2; exact IsRow.im _ _ _ _
theorem Rows.tail {v : V} {cs : List V} {l : List Nat} {ls : List (List Nat)} (h : Rows (v :: cs) (l :: ls)) : IsRow v l ∧ Rows cs ls :=
 ⟨h.2 0 v l (by simp) (by simp), by simpa using h.1, fun i v' l' a b => h.2 (i + 1) v' l' (by simpa using a) (by simpa using b)⟩
theorem Rows.ptrs : ∀ {cs : List V} {ls : List (List Nat)}, Rows cs ls → ptrsL cs = []
 | [], _, _ => rfl
 | v :: cs, [], h => by have := h.1; simp at this
 | v :: cs, l :: ls, h => by simp [ptrsL, h.tail.1.ptrs, Rows.ptrs h.tail.2]
@[simp] theorem cellIn_rsV (rs : List RD) : (rsV rs).all cellIn = true := by
 unfold rsV; induction rs with
 | nil => rfl
 | cons x l ih => simp [cellIn, solid, rV]
attribute [simp] hitRef hitLoc pre
@[simp] theorem lent_map (rs : List RD) : (rs.map lent).map (·.l) = rs.map (·.l) := by simp [List.map_map, Function.comp_def]
def lentS (s : Scn) : Scn := { s with cpm := false, dpm := false, tpm := false, tapes := s.tapes.map lent }
theorem lentS_ok {s : Scn} (h : ScnOk s) : ScnOk (lentS s) := ⟨h.c, h.d, by simpa [lentS] using h.t, by
 intro x hx
 obtain ⟨y, hy, rfl⟩ := List.mem_map.1 (show x ∈ s.tapes.map lent from hx)
 exact h.r y hy⟩
theorem foldl_take_succ {α β : Type} (f : β → α → β) (a : β) {l : List α} {i : Nat} (h : i < l.length) : (l.take (i + 1)).foldl f a = f ((l.take i).foldl f a) l[i] := by
 rw [List.take_add_one, List.getElem?_eq_getElem h, List.foldl_append]; rfl
def stepB (p : Nat) (c : List Int) (rd : Int) (out all : List (List Nat)) (x : Dev) : List (List Nat) :=
 if x.round = rd ∧ x.from_ ∈ c then all.set (x.from_ - 1).toNat (uponS p c x (all[(x.from_ - 1).toNat]?.getD []) (if x.kind = 3 then out[(x.of_ - 1).toNat]?.getD [] else [])) else all
def broadS (p : Nat) (c : List Int) (rd : Int) (out : List (List Nat)) (devs : List Dev) : List (List Nat) := devs.foldl (stepB p c rd out) out
def LsOk (p : Nat) (ls : List (List Nat)) : Prop := ∀ l ∈ ls, l.length ≤ 1000 ∧ ∀ y ∈ l, y < p
theorem upon_ok {p : Nat} (hp : 0 < p) {c : List Int} {x : Dev} {l said : List Nat} (h : l.length ≤ 1000 ∧ ∀ y ∈ l, y < p) : (uponS p c x l said).length ≤ 1000 ∧ ∀ y ∈ uponS p c x l said, y < p := by
 have hset : ∀ (i v : Nat), v < p → (l.set i v).length ≤ 1000 ∧ ∀ y ∈ l.set i v, y < p := fun i v hv => ⟨by simpa using h.1, fun y hy => by
  rcases List.mem_or_eq_of_mem_set hy with hy | rfl
  ·exact h.2 y hy
  ·exact hv⟩
 unfold uponS
 split
 ·exact ⟨by simp, by simp⟩
 ·split
  ·exact h
  ·split
   ·exact hset _ _ (Nat.mod_lt _ hp)
   ·split
    ·exact hset _ _ (Nat.mod_lt _ hp)
    ·split
     ·exact hset _ _ (Nat.mod_lt _ hp)
     ·exact h
theorem stepB_ok {p : Nat} (hp : 0 < p) {c : List Int} {rd : Int} {out all : List (List Nat)} {x : Dev} (h : LsOk p all) : LsOk p (stepB p c rd out all x) := by
 unfold stepB
 split
 ·intro l hl
  rcases List.mem_or_eq_of_mem_set hl with hl | rfl
  ·exact h l hl
  ·refine upon_ok hp ?_
   cases hi : all[(x.from_ - 1).toNat]? with
   | none => exact ⟨by simp, by simp⟩
   | some l => exact h l (List.mem_of_getElem? hi)
 ·exact h
@[simp] theorem stepB_length {p : Nat} {c : List Int} {rd : Int} {out all : List (List Nat)} {x : Dev} : (stepB p c rd out all x).length = all.length := by
 unfold stepB; split <;> simp
theorem fold_ok {p : Nat} (hp : 0 < p) {c : List Int} {rd : Int} {out : List (List Nat)} : ∀ {devs : List Dev} {all : List (List Nat)}, LsOk p all → LsOk p (devs.foldl (stepB p c rd out) all) ∧ (devs.foldl (stepB p c rd out) all).length = all.length
 | [], all, h => ⟨h, rfl⟩
 | x :: l, all, h => by
   obtain ⟨h1, h2⟩ := fold_ok (devs := l) hp (stepB_ok (c := c) (rd := rd) (out := out) (x := x) hp h)
   exact ⟨h1, by rw [List.foldl_cons, h2, stepB_length]⟩
theorem broad13 (s : Scn) (hs : ScnOk s) {q : Nat} (hq : (s.p, q) ∈ pq7) (hd : ∀ x ∈ s.devs, DevP s.n x) (hk64 : ∀ x ∈ s.devs, x.k < 18446744073709551616) (rd : Int) : ∃ N, ∀ (pm : Bool) (A : Option Addr) (cap : Nat) (rs : List RD), (rs.length : Int) = s.n → s.n ≤ 13 → LsOk s.p (rs.map (·.l)) →
 AnsP N Tryd.prog H14 62 [scV s, .int .i64 rd, .im pm A cap rs.length (rsV rs)] (fun v => ∃ cs, v = .own .nil 0 rs.length cs ∧ Rows cs (broadS s.p s.corrupt rd (rs.map (·.l)) s.devs)) := by
 have hml : maxLen = 9223372036854775807 := rfl
 obtain ⟨hp1, hq1, hq2⟩ := pq_facts hq
 have hp0 : 0 < s.p := by
  have : 2 ^ 5 ≤ 2 ^ q := Nat.pow_le_pow_right (by omega) hq1
  omega
 obtain ⟨N1, h1⟩ := upon24 (lentS s) (lentS_ok hs) hq
 have h0 : ∀ x, AnsN (s.corrupt.length + 4) Tryd.prog H14 84 [scV (lentS s), devV x, .int .i64 rd] (.bool (decide (x.round = rd ∧ x.from_ ∈ s.corrupt))) := fun x => done23 (lentS s) (lentS_ok hs) x rd
 obtain ⟨p, n, t, cpm, cA, ccap, corrupt, dpm, dA, dcap, devs, tpm, tA, tcap, tapes⟩ := s
 obtain ⟨hs1, hs2, hs3, hs4⟩ := hs
 simp only at *
 refine ⟨N1 + corrupt.length + 4 + devs.length + 1 + 1, fun pm A cap rs hlen hn13 hw => ?_⟩
 refine AnsP.of (fn := Tryd.f62) (t := 6) (by rfl) Tryd.func62 rfl rfl (by rfl) fun k hk nx => ?_
 have hn1 : rs.length * 24 ≤ 140737488355328 := by omega
 have hn2 : rs.length ≤ 140737488355328 := by omega
 have c0 := fun x => h0 x k (by omega)
 simp only [scV, scL, lentS, devV, List.length_map] at c0
 refine EvP.seq (EvP.region ?_)
 simp [entryS, scV, scL]
 refine EvP.seq (EvP.region ?_)
 simp [cloneX, hn1, hn2]
 refine EvP.seq (EvP.seq (EvP.region ?_))
 simp
 generalize hout : rs.map (·.l) = out at *
 refine EvP.block (EvP.loop (fun q D => ∃ (i : Nat) (cs : List V), q = devs.length - i ∧ i ≤ devs.length ∧ Rows cs ((devs.take i).foldl (stepB p corrupt rd out) out) ∧ D.s 1 = .int .i64 rd ∧ D.s 2 = .im pm A cap rs.length (rsV rs) ∧ D.s 3 = .bptr nx 0 ∧ D.s 7 = .own .nil 0 rs.length cs ∧ D.s 14 = .im dpm dA dcap devs.length (devsV devs) ∧ D.s 15 = .int .i64 (devs.length : Int) ∧ D.s 16 = .int .i64 (i : Int)
  ∧ getBox D.m nx = some ⟨0, scL ⟨p, n, t, cpm, cA, ccap, corrupt, dpm, dA, dcap, devs, tpm, tA, tcap, tapes⟩⟩ ∧ (∀ b ∈ D.m, b.1 < D.nx) ∧ (∀ b ∈ D.m, nx ≤ b.1) ∧ nx < D.nx) (n := devs.length) ?_ (by omega) ?_)
 ·refine ⟨0, rsV (rs.map lent), by simp, by simp, ?_⟩
  simp [scL, getBox]
  rw [← hout, ← lent_map]
  exact rows_rsV _
 rintro q D ⟨i, cs, hn, hi, hR, d1, d2, d3, d7, d14, d15, d16, g0, g1, g2, g3⟩
 simp only [liveOf14, clear_none]
 refine EvP.seq (EvP.region ?_)
 simp [d15, d16]
 refine EvP.seq (EvP.cond (t := decide (i < devs.length)) (by simp) (fun h => EvP.skip ?_) (fun h => EvP.exit ?_))
 ·have hlt : i < devs.length := by simpa using h
  simp only [thenE_norm]
  refine EvP.seq (EvP.block (EvP.seq (EvP.region ?_)))
  have h8 : i * 8 + 8 ≤ devs.length * 8 := by omega
  have h88 : 8 ≤ devs.length * 8 - i * 8 := by omega
  have e1 : ∀ c, getBox (D.m ++ [(D.nx, c)]) D.nx = some c := fun c => getBox_app_new g1
  have e2' : ∀ c, getBox (D.m ++ [(D.nx, c)]) nx = some ⟨0, scL ⟨p, n, t, cpm, cA, ccap, corrupt, dpm, dA, dcap, devs, tpm, tA, tcap, tapes⟩⟩ := fun c => getBox_app_old g0
  have e3 : ∀ c c', setBox (D.m ++ [(D.nx, c)]) D.nx c' = D.m ++ [(D.nx, c')] := fun c c' => setBox_app_new g1
  have b1 : ∀ (c : Box) (a : Nat) (b : Box), (a, b) ∈ D.m ∨ a = D.nx ∧ b = c → a < D.nx + 1 := by
   rintro c a b (h | ⟨rfl, _⟩)
   ·have := g1 _ h; simp at this; omega
   ·omega
  have b2 : ∀ (c : Box) (a : Nat) (b : Box), (a, b) ∈ D.m ∨ a = D.nx ∧ b = c → nx ≤ a := by
   rintro c a b (h | ⟨rfl, _⟩)
   ·exact g2 _ h
   ·omega
  have e2 := e2'
  unfold scL at e2
  simp only at e2
  have hx := hd devs[i] (List.getElem_mem hlt)
  have hrow : Rows cs ((devs.take i).foldl (stepB p corrupt rd out) out) := hR
  obtain ⟨hlsok, hlslen⟩ := fold_ok (c := corrupt) (rd := rd) (out := out) (devs := devs.take i) hp0 hw
  have houtl : out.length = rs.length := by rw [← hout]; simp
  generalize hls : (devs.take i).foldl (stepB p corrupt rd out) out = ls at *
  have hstep : (devs.take (i + 1)).foldl (stepB p corrupt rd out) out = stepB p corrupt rd out ls devs[i] := by
   rw [foldl_take_succ _ _ hlt, hls]
  simp [d1, d2, d3, d7, d14, d15, d16, hlt, h8, h88, devL, e1, e2, e3]
  refine EvP.seq (EvP.seq (EvP.region ?_))
  obtain ⟨b, hb⟩ : ∃ b, b = decide (devs[i].round = rd ∧ devs[i].from_ ∈ corrupt) := ⟨_, rfl⟩
  have c0i := c0 devs[i]
  rw [← hb] at c0i
  cases b with
  | false =>
    simp [d1, d3, e1, e2, c0i]
    refine EvP.cond (t := true) (by simp) (fun _ => EvP.exit ?_) (fun h => by cases h)
    simp
    refine EvP.region ?_
    simp [d16, d1, d2, d3, d7, d14, d15]
    have hno : ¬ (devs[i].round = rd ∧ devs[i].from_ ∈ corrupt) := by simpa using hb.symm
    exact ⟨_, by omega, i + 1, rfl, by omega, cs, by rw [hstep, stepB, if_neg hno]; exact hR, rfl, wrap_succ (by omega), e2' _, b1 _, b2 _, by omega⟩
  | true =>
    have hyes : (devs[i].round = rd ∧ devs[i].from_ ∈ corrupt) := by simpa using hb.symm
    obtain ⟨fr, hfr0⟩ : ∃ fr : Nat, devs[i].from_ = (fr : Int) + 1 := ⟨(devs[i].from_ - 1).toNat, by have := hx.from1; omega⟩
    have hfr : IntKind.i64.wrap (devs[i].from_ - 1) = (fr : Int) := by rw [hfr0, wrap_nat (by omega) (by have := hx.from2; omega)]; omega
    have hfrl : fr < rs.length := by have := hx.from2; omega
    have hcs : cs.length = rs.length := by rw [hR.1, hlslen, houtl]
    have hfrc : fr < cs.length := by omega
    have hfrs : fr < ls.length := by omega
    have hvrow := hR.2 fr _ _ (List.getElem?_eq_getElem hfrc) (List.getElem?_eq_getElem hfrs)
    have hok := hlsok ls[fr] (List.getElem_mem hfrs)
    simp [d1, d3, e1, e2, c0i]
    refine EvP.cond (t := false) (by simp) (fun h => by cases h) (fun _ => EvP.skip ?_)
    simp
    refine EvP.seq (EvP.region ?_)
    simp
    refine EvP.seq (EvP.seq (EvP.region ?_))
    simp [e1, d2, d3]
    have fin : ∀ (v : V) (said : List Nat), said = (if devs[i].kind = 3 then out[(devs[i].of_ - 1).toNat]?.getD [] else []) → IsRow v (uponS p corrupt devs[i] ls[fr] said) → Rows (cs.set fr v) ((devs.take (i + 1)).foldl (stepB p corrupt rd out) out) := by
     intro v said hsaid hv
     rw [hstep, stepB, if_pos hyes, ← hsaid, show (devs[i].from_ - 1).toNat = fr by omega, List.getElem?_eq_getElem hfrs]
     exact hR.set fr hv
    by_cases k3 : devs[i].kind = 3
    ·refine EvP.cond (t := true) (by simp [k3]) (fun _ => ?_) (fun h => by cases h)
     obtain ⟨og, hog0⟩ : ∃ og : Nat, devs[i].of_ = (og : Int) + 1 := ⟨(devs[i].of_ - 1).toNat, by have := hx.echo k3; omega⟩
     have hog : IntKind.i64.wrap (devs[i].of_ - 1) = (og : Int) := by rw [hog0, wrap_nat (by omega) (by have := hx.of2; omega)]; omega
     have hogl : og < rs.length := by have := hx.of2; omega
     have hsaid : rs[og].l = (if devs[i].kind = 3 then out[(devs[i].of_ - 1).toNat]?.getD [] else []) := by
      rw [if_pos k3, show (devs[i].of_ - 1).toNat = og by omega, ← hout, List.getElem?_map, List.getElem?_eq_getElem hogl]; rfl
     have hsok : ∀ y ∈ rs[og].l, y < p := (hw rs[og].l (by rw [← hout]; exact List.mem_map_of_mem (List.getElem_mem hogl))).2
     refine EvP.region ?_
     simp [e1, d2, d3, hog, hogl]
     refine EvP.draw ?_
     generalize hl : ls[fr] = l at *
     generalize hv0 : cs[fr] = v0 at *
     cases hvrow with
     | im pm' A' cap' =>
       obtain ⟨v, hv, hvr⟩ := h1 devs[i] false false A' rs[og].A cap' rs[og].cap l rs[og].l hx.at_ (hk64 _ (List.getElem_mem hlt)) hok.1 hok.2 hsok
       have hv := hv k (by omega)
       simp only [scV, scL, lentS, devV, List.length_map] at hv
       have hR' := fin v _ hsaid hvr
       cases hvr with
       | im pm2 A2 cap2 =>
         simp [e1, e2, d1, d2, d3, d7, hfr, hfrl, hfrc, hcs, hv0, hv]
         refine EvP.region ?_
         simp [d1, d2, d3, d14, d15, d16]
         exact ⟨_, by omega, i + 1, rfl, by omega, _, hR', rfl, wrap_succ (by omega), e2' _, b1 _, b2 _, by omega⟩
       | own k2 =>
         simp [e1, e2, d1, d2, d3, d7, hfr, hfrl, hfrc, hcs, hv0, hv]
         refine EvP.region ?_
         simp [d1, d2, d3, d14, d15, d16]
         exact ⟨_, by omega, i + 1, rfl, by omega, _, hR', rfl, wrap_succ (by omega), e2' _, b1 _, b2 _, by omega⟩
     | own k' =>
       obtain ⟨v, hv, hvr⟩ := h1 devs[i] false false none rs[og].A 0 rs[og].cap l rs[og].l hx.at_ (hk64 _ (List.getElem_mem hlt)) hok.1 hok.2 hsok
       have hv := hv k (by omega)
       simp only [scV, scL, lentS, devV, List.length_map] at hv
       have hR' := fin v _ hsaid hvr
       cases hvr with
       | im pm2 A2 cap2 =>
         simp [e1, e2, d1, d2, d3, d7, hfr, hfrl, hfrc, hcs, hv0, hv]
         refine EvP.region ?_
         simp [d1, d2, d3, d14, d15, d16]
         exact ⟨_, by omega, i + 1, rfl, by omega, _, hR', rfl, wrap_succ (by omega), e2' _, b1 _, b2 _, by omega⟩
       | own k2 =>
         simp [e1, e2, d1, d2, d3, d7, hfr, hfrl, hfrc, hcs, hv0, hv]
         refine EvP.region ?_
         simp [d1, d2, d3, d14, d15, d16]
         exact ⟨_, by omega, i + 1, rfl, by omega, _, hR', rfl, wrap_succ (by omega), e2' _, b1 _, b2 _, by omega⟩
    ·refine EvP.cond (t := false) (by simp [k3]) (fun h => by cases h) (fun _ => EvP.skip ?_)
     simp
     have hsaid : ([] : List Nat) = (if devs[i].kind = 3 then out[(devs[i].of_ - 1).toNat]?.getD [] else []) := by rw [if_neg k3]
     have hsok : ∀ y ∈ ([] : List Nat), y < p := fun y hy => by cases hy
     have hnl : uL [] = [] := rfl
     refine EvP.draw ?_
     generalize hl : ls[fr] = l at *
     generalize hv0 : cs[fr] = v0 at *
     cases hvrow with
     | im pm' A' cap' =>
       obtain ⟨v, hv, hvr⟩ := h1 devs[i] false false A' none cap' 0 l [] hx.at_ (hk64 _ (List.getElem_mem hlt)) hok.1 hok.2 hsok
       have hv := hv k (by omega)
       simp only [scV, scL, lentS, devV, List.length_map, List.length_nil, hnl] at hv
       have hR' := fin v _ hsaid hvr
       cases hvr with
       | im pm2 A2 cap2 =>
         simp [e1, e2, d1, d2, d3, d7, hfr, hfrl, hfrc, hcs, hv0, hv]
         refine EvP.region ?_
         simp [d1, d2, d3, d14, d15, d16]
         exact ⟨_, by omega, i + 1, rfl, by omega, _, hR', rfl, wrap_succ (by omega), e2' _, b1 _, b2 _, by omega⟩
       | own k2 =>
         simp [e1, e2, d1, d2, d3, d7, hfr, hfrl, hfrc, hcs, hv0, hv]
         refine EvP.region ?_
         simp [d1, d2, d3, d14, d15, d16]
         exact ⟨_, by omega, i + 1, rfl, by omega, _, hR', rfl, wrap_succ (by omega), e2' _, b1 _, b2 _, by omega⟩
     | own k' =>
       obtain ⟨v, hv, hvr⟩ := h1 devs[i] false false none none 0 0 l [] hx.at_ (hk64 _ (List.getElem_mem hlt)) hok.1 hok.2 hsok
       have hv := hv k (by omega)
       simp only [scV, scL, lentS, devV, List.length_map, List.length_nil, hnl] at hv
       have hR' := fin v _ hsaid hvr
       cases hvr with
       | im pm2 A2 cap2 =>
         simp [e1, e2, d1, d2, d3, d7, hfr, hfrl, hfrc, hcs, hv0, hv]
         refine EvP.region ?_
         simp [d1, d2, d3, d14, d15, d16]
         exact ⟨_, by omega, i + 1, rfl, by omega, _, hR', rfl, wrap_succ (by omega), e2' _, b1 _, b2 _, by omega⟩
       | own k2 =>
         simp [e1, e2, d1, d2, d3, d7, hfr, hfrl, hfrc, hcs, hv0, hv]
         refine EvP.region ?_
         simp [d1, d2, d3, d14, d15, d16]
         exact ⟨_, by omega, i + 1, rfl, by omega, _, hR', rfl, wrap_succ (by omega), e2' _, b1 _, b2 _, by omega⟩
 ·have hlt : i = devs.length := by have : ¬ i < devs.length := by simpa using h
                                   omega
  subst hlt
  rw [List.take_length] at hR
  simp
  refine EvP.seq (EvP.region ?_)
  simp [d7]
  refine EvP.ret ?_
  simp [plainV, hR.ptrs]
  exact ⟨hR, fun a b h => g2 _ h⟩
end Go.Abs
end
