/- Joined: AbsPNVK AbsPNVL AbsPNVM. -/
import Derived.Test.YtbkhamjlfadfoaaDoorAbs315
import Derived.Test.YtbkhamjlfadfoaaDoorAbs316
import Derived.Test.YtbkhamjlfadfoaaDoorAbs317
import Derived.Test.YtbkhamjlfadfoaaDoorAbs318
set_option linter.all false
set_option maxHeartbeats 16000000
noncomputable section
namespace Go.Abs
open Go Go.Proofs
def ScnS (s : Scn) : Prop := CoalS s.p s.n s.t s.corrupt ∧ (s.tapes.length : Int) = s.n ∧ (∀ x ∈ s.devs, DevS s.n x) ∧ ∀ r ∈ s.tapes, ∀ w ∈ r.l, w < s.p
theorem ScnS.P {s : Scn} (h : ScnS s) : ScnP s := ⟨h.1.1.P, h.1.2, fun x hx => (h.2.2.1 x hx).P, h.2.1⟩
open Classical in
set_option maxRecDepth 100000 in
theorem scen37 (s : Scn) (hd : s.devs.length ≤ 1000) (ht : s.tapes.length ≤ 1000) (hr : ∀ r ∈ s.tapes, r.l.length ≤ 1000) : AnsN 1110 Tryd.prog H14 49 [scV s] (.bool (decide (ScnS s))) := by
 refine AnsN.of (fn := Tryd.f49) (t := 2) (by rfl) Tryd.func49 rfl rfl (by rfl) (by rfl) fun k hk nx => ?_
 have c54 := valid54 s.p s.n s.t k (by omega)
 have c55 := coal55 s.p s.n s.t false s.cA s.ccap s.corrupt k (by omega)
 simp only [parV] at c54 c55
 by_cases hv : ValidS s.p s.n s.t
 case neg =>
  have hs : ¬ ScnS s := fun h => hv h.1.1
  rw [decide_eq_false hv] at c54
  simp [entryS, scV, scL, c54, hs]
 rw [decide_eq_true hv] at c54
 by_cases hc : CoalS s.p s.n s.t s.corrupt
 case neg =>
  have hs : ¬ ScnS s := fun h => hc h.1
  rw [decide_eq_false hc] at c55
  simp [entryS, scV, scL, c54, c55, hs]
 rw [decide_eq_true hc] at c55
 by_cases hn : (s.tapes.length : Int) = s.n
 case neg =>
  have hs : ¬ ScnS s := fun h => hn h.2.1
  have hne : ((s.tapes.length : Int) != s.n) = true := by simpa [bne] using hn
  simp [entryS, scV, scL, c54, c55, hne, hs]
 have hne : ((s.tapes.length : Int) != s.n) = false := by simp [hn]
 obtain ⟨I, hI⟩ : ∃ I : Nat → St → Prop, I = fun q D => ∃ i : Nat, q = s.devs.length - i ∧ i ≤ s.devs.length ∧ (∀ j (hj : j < i) (hjl : j < s.devs.length), DevS s.n s.devs[j]) ∧ D.s 1 = .bptr nx 0 ∧ D.s 3 = .int .i64 (i : Int) ∧ D.m = [(nx, ⟨0, scL s⟩)] ∧ D.nx = nx + 1 := ⟨_, rfl⟩
 simp [entryS, scV, scL, c54, c55, hne]
 refine EvP.loop I (n := s.devs.length) (by rw [hI]; exact ⟨0, by simp [scL]⟩) (by omega) fun q D hD => ?_
 rw [hI] at hD
 obtain ⟨i, rfl, hi, hpre, d1, d3, dm, dx⟩ := hD
 by_cases hil : i < s.devs.length
 ·have e3 := wrap_succ (q := i) (by omega)
  have c56 := dev56 s.p s.n s.t s.devs[i] k (by omega)
  have h8 : 8 ≤ s.devs.length * 8 - i * 8 := by omega
  have hil8 : i * 8 < s.devs.length * 8 := by omega
  by_cases hw : DevS s.n s.devs[i]
  ·rw [decide_eq_true hw] at c56
   simp only [parV, devV] at c56
   simp [d1, d3, dm, dx, scL, hil, c56, e3, devL, h8]
   subst hI
   refine ⟨s.devs.length - (i + 1), by omega, i + 1, rfl, by omega, fun j hj hjl => ?_, by simp [d1], by simp, by simp [scL], rfl⟩
   by_cases hji : j = i
   ·subst hji; exact hw
   ·exact hpre j (by omega) hjl
  ·have hs : ¬ ScnS s := fun h => hw (h.2.2.1 _ (List.getElem_mem hil))
   rw [decide_eq_false hw] at c56
   simp only [parV, devV] at c56
   simp [d1, d3, dm, dx, scL, hil, c56, devL, hs, h8]
 ·have hil' : i = s.devs.length := by omega
  subst hil'
  have hdev : ∀ x ∈ s.devs, DevS s.n x := fun x hx => by
   obtain ⟨j, hj, rfl⟩ := List.getElem_of_mem hx
   exact hpre j hj hj
  obtain ⟨J, hJ⟩ : ∃ J : Nat → St → Prop, J = fun q D => ∃ i : Nat, q = s.tapes.length - i ∧ i ≤ s.tapes.length ∧ (∀ j (hj : j < i) (hjl : j < s.tapes.length), ∀ w ∈ s.tapes[j].l, w < s.p) ∧ D.s 1 = .bptr nx 0 ∧ D.s 4 = .int .i64 (i : Int) ∧ D.m = [(nx, ⟨0, scL s⟩)] ∧ D.nx = nx + 1 := ⟨_, rfl⟩
  simp [d1, d3, dm, dx, scL]
  refine EvP.loop J (n := s.tapes.length) (by rw [hJ]; exact ⟨0, by simp [scL, d1]⟩) (by omega) fun q D hD => ?_
  rw [hJ] at hD
  obtain ⟨i, rfl, hi, hpre, d1, d4, dm, dx⟩ := hD
  by_cases hil : i < s.tapes.length
  ·have e3 := wrap_succ (q := i) (by omega)
   have c57 := below57 s.p false s.tapes[i].A s.tapes[i].cap s.tapes[i].l (hr _ (List.getElem_mem hil)) k (by omega)
   by_cases hw : ∀ w ∈ (s.tapes[i]'hil).l, w < s.p
   ·rw [decide_eq_true hw] at c57
    simp [d1, d4, dm, dx, scL, hil, c57, e3]
    subst hJ
    refine ⟨s.tapes.length - (i + 1), by omega, i + 1, rfl, by omega, fun j hj hjl => ?_, by simp [d1], by simp, by simp [scL], rfl⟩
    by_cases hji : j = i
    ·subst hji; exact hw
    ·exact hpre j (by omega) hjl
   ·have hs : ¬ ScnS s := fun h => hw (h.2.2.2 _ (List.getElem_mem hil))
    rw [decide_eq_false hw] at c57
    simp [d1, d4, dm, dx, scL, hil, c57, hs]
  ·have hil' : i = s.tapes.length := by omega
   have hs : ScnS s := ⟨hc, hn, hdev, fun r hr => by
    obtain ⟨j, hj, rfl⟩ := List.getElem_of_mem hr
    exact hpre j (by omega) hj⟩
   subst hil'
   simp [d1, d4, dm, dx, scL, hs]
theorem dev49 (p : Nat) (n t : Int) (x : Dev) : AnsN 1 Tryd.prog H14 74 [parV p n t, devV x] (.bool (decide (DevS n x))) := by
 by_cases h : x.kind = 3
 ·exact dev49a p n t x h
 ·exact dev49b p n t x h
def DB (n : Int) (x : Dev) : Prop := ¬ DevS n x
open Classical in
set_option maxRecDepth 100000 in
theorem bad48 (g b : Nat) (s : Scn) (x : Dev) : AnsM 2 Tryd.prog H14 73 [devV x, .bptr b 0] (scB g b s) (.bool (decide (DB s.n x))) (scB g b s) := by
 refine AnsM.gen (fn := Tryd.f73) (by rfl) Tryd.func73 rfl (by rfl) (fun nx h c hc => ?_) fun k hk nx h => ?_
 ·simp [scB, ptrs, ptrsL_scL] at hc
 have hb := scB_lt h
 have hb2 : b ≠ nx := by omega
 have c0 := dev49 s.p s.n s.t x k (by omega)
 simp only [parV, devV] at c0
 by_cases hw : DevS s.n x
 ·have hx : ¬ DB s.n x := fun h => h hw
  rw [decide_eq_true hw] at c0
  rw [decide_eq_false hx]
  simp [entryS, scB, scL, devV, c0, hb, hb2]
 ·have hx : DB s.n x := hw
  rw [decide_eq_false hw] at c0
  rw [decide_eq_true hx]
  simp [entryS, scB, scL, devV, c0, hb, hb2]
open Classical in
set_option maxRecDepth 100000 in
theorem idx65 (g b : Nat) (s : Scn) (pm : Bool) (A : Option Addr) (cap : Nat) (l : List Dev) (hl : l.length ≤ 1000) (v : Int)
 (hv : (∃ i : Nat, v = i ∧ ∃ h : i < l.length, DB s.n l[i] ∧ ∀ j (hj : j < i), ¬ DB s.n l[j]) ∨ (v = -1 ∧ ∀ x ∈ l, ¬ DB s.n x)) :
 AnsM 1104 Tryd.prog H14 89 [.im pm A cap l.length (devsV l), .fn (.func 73) [] [.bptr b 0]] (scB g b s) (.int .i64 v) (scB g b s) := by
 refine AnsM.gen (fn := Tryd.f89) (by rfl) Tryd.func89 rfl (by rfl) (fun nx h c hc => ?_) fun k hk nx h => ?_
 ·simp [scB, ptrs, ptrsL_scL] at hc
 have hb := scB_lt h
 obtain ⟨I, hI⟩ : ∃ I : Nat → St → Prop, I = fun q D => ∃ i : Nat, q = l.length - i ∧ i ≤ l.length ∧ (∀ j (hj : j < i) (hjl : j < l.length), ¬ DB s.n l[j]) ∧ D.s 0 = .im pm A cap l.length (devsV l) ∧ D.s 1 = .fn (.func 73) [] [.bptr b 0] ∧ D.s 7 = .int .i64 (l.length : Int) ∧ D.s 8 = .int .i64 (i : Int) ∧ D.m = [(b, ⟨g, scL s⟩)] ∧ D.nx = nx := ⟨_, rfl⟩
 simp [entryS, scB]
 refine EvP.loop I (n := l.length) (by rw [hI]; exact ⟨0, by simp⟩) (by omega) fun q D hD => ?_
 rw [hI] at hD
 obtain ⟨i, rfl, hi, hpre, d0, d1, d7, d8, dm, dx⟩ := hD
 by_cases hil : i < l.length
 ·have e3 := wrap_succ (q := i) (by omega)
  have c0 := bad48 g b s l[i] k (by omega) nx h
  simp only [scB, devV] at c0
  have h8 : 8 ≤ l.length * 8 - i * 8 := by omega
  have hil8 : i * 8 < l.length * 8 := by omega
  have hr := reach_scB g b s 1
  by_cases hw : DB s.n l[i]
  ·rw [decide_eq_true hw] at c0
   have hvi : v = i := by
    rcases hv with ⟨i2, rfl, h2, h3, h4⟩ | ⟨_, h2⟩
    ·have : ¬ i2 < i := fun hlt => hpre i2 hlt h2 h3
     have : ¬ i < i2 := fun hlt => h4 i hlt hw
     omega
    ·exact absurd hw (h2 _ (List.getElem_mem hil))
   simp [-reach, d0, d1, d7, d8, dm, dx, hil, c0, devL, h8, hil8, hr, ed_one, hb, hvi]
  ·rw [decide_eq_false hw] at c0
   simp [-reach, d0, d1, d7, d8, dm, dx, hil, c0, devL, h8, hil8, hr, ed_one, hb, e3]
   subst hI
   refine ⟨l.length - (i + 1), by omega, i + 1, rfl, by omega, fun j hj hjl => ?_, by simp [d0], by simp [d1], by simp [d7], by simp, rfl, rfl⟩
   by_cases hji : j = i
   ·subst hji; exact hw
   ·exact hpre j (by omega) hjl
 ·have hil' : i = l.length := by omega
  have hvm : v = -1 := by
   rcases hv with ⟨i2, rfl, h2, h3, h4⟩ | ⟨h1, _⟩
   ·exact absurd h3 (hpre i2 (by omega) h2)
   ·exact h1
  subst hil'
  simp [d0, d1, d7, d8, dm, dx, hb, hvm]
open Classical in
set_option maxRecDepth 100000 in
theorem any47 (g b : Nat) (s : Scn) (pm : Bool) (A : Option Addr) (cap : Nat) (l : List Dev) (hl : l.length ≤ 1000) :
 AnsM 1105 Tryd.prog H14 72 [.im pm A cap l.length (devsV l), .fn (.func 73) [] [.bptr b 0]] (scB g b s) (.bool (decide (∃ r ∈ l, DB s.n r))) (scB g b s) := by
 refine AnsM.gen (fn := Tryd.f72) (by rfl) Tryd.func72 rfl (by rfl) (fun nx h c hc => ?_) fun k hk nx h => ?_
 ·simp [scB, ptrs, ptrsL_scL] at hc
 have hb := scB_lt h
 have hr := reach_scB g b s 1
 rcases first_or (DB s.n) l with ⟨i, h1, h2, h3⟩ | hno
 ·have c0 := idx65 g b s false A cap l hl i (.inl ⟨i, rfl, h1, h2, h3⟩) k (by omega) nx h
  simp only [scB] at c0
  have hx : ∃ r ∈ l, DB s.n r := ⟨_, List.getElem_mem h1, h2⟩
  rw [decide_eq_true hx]
  simp [-reach, entryS, scB, c0, hr, ed_one, hb]
 ·have c0 := idx65 g b s false A cap l hl (-1) (.inr ⟨rfl, hno⟩) k (by omega) nx h
  simp only [scB] at c0
  have hx : ¬ ∃ r ∈ l, DB s.n r := fun ⟨x, h1, h2⟩ => hno x h1 h2
  rw [decide_eq_false hx]
  simp [-reach, entryS, scB, c0, hr, ed_one, hb]
theorem reach_none (m : List (Nat × Box)) : ∀ k, reach m k [] = []
 | 0 => rfl
 | k + 1 => by unfold reach; simp
theorem rb_lent {p : Nat} {l : List RD} : (∃ r ∈ l.map lent, RB p r) ↔ ∃ r ∈ l, RB p r := by
 constructor
 ·rintro ⟨r, hr, h⟩
  obtain ⟨x, hx, rfl⟩ := List.mem_map.1 hr
  exact ⟨x, hx, h⟩
 ·rintro ⟨r, hr, h⟩
  exact ⟨_, List.mem_map.2 ⟨r, hr, rfl⟩, h⟩
theorem scnS_iff (s : Scn) : ScnS s ↔ CoalS s.p s.n s.t s.corrupt ∧ (s.tapes.length : Int) = s.n ∧ (¬ ∃ r ∈ s.devs, DB s.n r) ∧ ¬ ∃ r ∈ s.tapes, RB s.p r := by
 unfold ScnS DB RB
 refine and_congr Iff.rfl (and_congr Iff.rfl (and_congr ?_ ?_))
 ·exact ⟨fun h ⟨x, hx, h2⟩ => h2 (h x hx), fun h x hx => Classical.byContradiction fun h2 => h ⟨x, hx, h2⟩⟩
 ·exact ⟨fun h ⟨r, hr, w, hw, h2⟩ => absurd (h r hr w hw) (by omega), fun h r hr w hw => Classical.byContradiction fun h2 => h ⟨r, hr, w, hw, by omega⟩⟩
open Classical in
set_option maxRecDepth 100000 in
theorem scen35 (s : Scn) (hd : s.devs.length ≤ 1000) (ht : s.tapes.length ≤ 1000) (hr : ∀ r ∈ s.tapes, r.l.length ≤ 1000) : AnsN 1110 Tryd.prog H14 55 [scV s] (.bool (decide (ScnS s))) := by
 refine AnsN.of (fn := Tryd.f55) (t := 2) (by rfl) Tryd.func55 rfl rfl (by rfl) (by rfl) fun k hk nx => ?_
 have c46 := coal46 s.p s.n s.t false s.cA s.ccap s.corrupt k (by omega)
 simp only [parV] at c46
 by_cases hc : CoalS s.p s.n s.t s.corrupt
 case neg =>
  have hs : ¬ ScnS s := fun h => hc h.1
  rw [decide_eq_false hc] at c46
  simp [entryS, scV, scL, c46, hs]
 rw [decide_eq_true hc] at c46
 by_cases hn : (s.tapes.length : Int) = s.n
 case neg =>
  have hs : ¬ ScnS s := fun h => hn h.2.1
  have hne : ((s.tapes.length : Int) != s.n) = true := by simpa [bne] using hn
  simp [entryS, scV, scL, c46, hne, hs]
 have hne : ((s.tapes.length : Int) != s.n) = false := by simp [hn]
 have hrl : ∀ r ∈ s.tapes.map lent, r.l.length ≤ 1000 := fun r h => by
  obtain ⟨x, hx, rfl⟩ := List.mem_map.1 h
  exact hr x hx
 have hsc : ∀ e ∈ scB 0 nx s, e.1 < nx + 1 := by simp [scB]
 have c47 := any47 0 nx s false s.dA s.dcap s.devs hd k (by omega) (nx + 1) hsc
 have c50 := any50 0 nx s false s.tA s.tcap (s.tapes.map lent) (by simpa using ht) hrl k (by omega) (nx + 1) hsc
 simp only [scB] at c47 c50
 have hrr := reach_scB 0 nx s 1
 by_cases hdv : ∃ r ∈ s.devs, DB s.n r
 ·have hs : ¬ ScnS s := fun h => ((scnS_iff s).1 h).2.2.1 hdv
  rw [decide_eq_true hdv] at c47
  simp only [scL] at c47 hrr
  simp [-reach, entryS, scV, scL, c46, hne, hs, c47, hrr, reach_none, ed_one]
 ·rw [decide_eq_false hdv] at c47
  by_cases htp : ∃ r ∈ s.tapes, RB s.p r
  ·have hs : ¬ ScnS s := fun h => ((scnS_iff s).1 h).2.2.2 htp
   rw [decide_eq_true (rb_lent.2 htp)] at c50
   simp only [scL, List.length_map] at c47 c50 hrr
   simp [-reach, entryS, scV, scL, c46, hne, hs, c47, c50, hrr, reach_none, ed_one]
  ·have hs : ScnS s := (scnS_iff s).2 ⟨hc, hn, hdv, htp⟩
   rw [decide_eq_false (fun h => htp (rb_lent.1 h))] at c50
   simp only [scL, List.length_map] at c47 c50 hrr
   simp [-reach, entryS, scV, scL, c46, hne, hs, c47, c50, hrr, reach_none, ed_one]
end Go.Abs
end
