/- Joined: AbsQE AbsQF. -/
import Derived.Test.YtbkhamjlfadfoaaDoorAbs328
import Derived.Test.YtbkhamjlfadfoaaDoorAbs331
set_option linter.all false
set_option maxHeartbeats 16000000
noncomputable section
namespace Go.Abs
open Go Go.Proofs
set_option maxRecDepth 100000
theorem same36 (pm pm2 : Bool) (A A2 : Option Addr) (cap cap2 : Nat) (a b : List Nat) (ha : a.length ≤ 1000) : AnsN 1101 Tryd.prog H14 36 [.im pm A cap a.length (uL a), .im pm2 A2 cap2 b.length (uL b)] (.bool (decide (a = b))) := by
 refine AnsN.of (fn := Tryd.f36) (t := 4) (by rfl) Tryd.func36 rfl rfl (by rfl) (by rfl) fun k hk nx => ?_
 by_cases hl : a.length = b.length
 ·have hl' : (((a.length : Nat) : Int) != ((b.length : Nat) : Int)) = false := by simp [hl]
  obtain ⟨I, hI⟩ : ∃ I : Nat → St → Prop, I = fun q D => ∃ i : Nat, q = a.length - i ∧ i ≤ a.length ∧ (∀ j, j < i → a[j]? = b[j]?) ∧ D.s 0 = .im pm A cap a.length (uL a) ∧ D.s 1 = .im pm2 A2 cap2 b.length (uL b) ∧ D.s 5 = .int .i64 (i : Int) ∧ D.m = [] := ⟨_, rfl⟩
  simp [entryS, hl']
  refine EvP.loop I (n := a.length) (by rw [hI]; exact ⟨0, by simp⟩) (by omega) fun q D hD => ?_
  rw [hI] at hD
  obtain ⟨i, rfl, hi, hpre, d0, d1, d5, dm⟩ := hD
  by_cases hlt : i < a.length
  ·have hlt2 : i < b.length := by omega
   have e3 := wrap_succ (q := i) (by omega)
   by_cases hw : a[i] = b[i]
   ·simp [d0, d1, d5, hlt, hlt2, hw, e3]
    subst hI
    refine ⟨a.length - (i + 1), by omega, i + 1, rfl, by omega, fun j hj => ?_, by simp [d0], by simp [d1], by simp, dm⟩
    by_cases hji : j = i
    ·subst hji; simp [hlt, hlt2, hw]
    ·exact hpre j (by omega)
   ·have hw' : (((a[i] : Nat) : Int) != ((b[i] : Nat) : Int)) = true := by simp [bne]; omega
    have hne : ¬ a = b := fun he => hw (by subst he; rfl)
    simp [d0, d1, d5, hlt, hlt2, hw', dm, hne]
  ·have hil : i = a.length := by omega
   have he : a = b := List.ext_getElem? fun j => by
    by_cases hj : j < i
    ·exact hpre j hj
    ·rw [List.getElem?_eq_none (by omega), List.getElem?_eq_none (by omega)]
   have hlt' : ¬ ((i : Int) < a.length) := by omega
   simp [d0, d1, d5, hlt, hlt', dm]
   exact he
 ·have hl' : (((a.length : Nat) : Int) != ((b.length : Nat) : Int)) = true := by simp [bne]; omega
  have hne : ¬ a = b := fun he => hl (by rw [he])
  simp [entryS, hl', hne]
theorem sameRows35 (pm pm2 : Bool) (A A2 : Option Addr) (cap cap2 : Nat) (a b : List RD) (ha : a.length ≤ 1000) (hr : ∀ r ∈ a, r.l.length ≤ 1000) (he : a.map (·.l) = b.map (·.l)) : AnsN 1102 Tryd.prog H14 35 [.im pm A cap a.length (rsV a), .im pm2 A2 cap2 b.length (rsV b)] (.bool true) := by
 refine AnsN.of (fn := Tryd.f35) (t := 4) (by rfl) Tryd.func35 rfl rfl (by rfl) (by rfl) fun k hk nx => ?_
 have hl : a.length = b.length := by have := congrArg List.length he; simpa using this
 have hl' : (((a.length : Nat) : Int) != ((b.length : Nat) : Int)) = false := by simp [hl]
 obtain ⟨ca, hca⟩ : ∃ c, rsV a = c := ⟨_, rfl⟩
 obtain ⟨cb, hcb⟩ : ∃ c, rsV b = c := ⟨_, rfl⟩
 have la : ca.length = a.length := by rw [← hca]; simp
 have lb : cb.length = b.length := by rw [← hcb]; simp
 obtain ⟨I, hI⟩ : ∃ I : Nat → St → Prop, I = fun q D => ∃ i : Nat, q = a.length - i ∧ i ≤ a.length ∧ D.s 0 = .im pm A cap a.length ca ∧ D.s 1 = .im pm2 A2 cap2 b.length cb ∧ D.s 5 = .int .i64 (i : Int) ∧ D.m = [] ∧ D.nx = nx := ⟨_, rfl⟩
 rw [hca, hcb]
 simp [entryS, hl']
 refine EvP.loop I (n := a.length) (by rw [hI]; exact ⟨0, by simp⟩) (by omega) fun q D hD => ?_
 rw [hI] at hD
 obtain ⟨i, rfl, hi, d0, d1, d5, dm, dx⟩ := hD
 by_cases hlt : i < a.length
 ·have hlt2 : i < b.length := by omega
  have e3 := wrap_succ (q := i) (by omega)
  obtain ⟨r, hra⟩ : ∃ r, a[i] = r := ⟨_, rfl⟩
  obtain ⟨w, hwb⟩ : ∃ w, b[i] = w := ⟨_, rfl⟩
  have ea : ca[i]'(by omega) = rV r := by subst hca; rw [rs_get a i hlt, hra]
  have eb : cb[i]'(by omega) = rV w := by subst hcb; rw [rs_get b i hlt2, hwb]
  have hrw : r.l = w.l := by
   have h1 := congrArg (fun l => l[i]?) he
   simp only [List.getElem?_map, List.getElem?_eq_getElem hlt, List.getElem?_eq_getElem hlt2, Option.map_some, Option.some.injEq, hra, hwb] at h1
   exact h1
  have c36 := callP (same36 false false r.A w.A r.cap w.cap r.l w.l (hr r (hra ▸ List.getElem_mem hlt))) (k := k) (by omega) (by simp [ptrsL, ptrs, nil_uL]) rfl
  rw [decide_eq_true hrw] at c36
  have hia : i < ca.length := by omega
  have hib : i < cb.length := by omega
  simp only [rV] at ea eb
  simp [-doCall, doCall_eq, d0, d1, d5, dm, dx, hlt, hlt2, hia, hib, la, lb, ea, eb, c36, e3]
  subst hI
  exact ⟨a.length - (i + 1), by omega, i + 1, rfl, by omega, by simp [d0], by simp [d1], by simp, by simp, by simp⟩
 ·have hlt' : ¬ ((i : Int) < a.length) := by omega
  simp [d0, d1, d5, dm, dx, hlt, hlt']
def totL : List Int → Int → Int
 | [], a => a
 | x :: l, a => if x < 0 then -1 else if x > 1000 then 1000 else totL l (a + x)
theorem total38 (pm : Bool) (A : Option Addr) (cap : Nat) (ls : List Int) (hl : ls.length ≤ 13) : AnsN 1101 Tryd.prog H14 38 [.im pm A cap ls.length (iL ls)] (.int .i64 (totL ls 0)) := by
 refine AnsN.of (fn := Tryd.f38) (t := 2) (by rfl) Tryd.func38 rfl rfl (by rfl) (by rfl) fun k hk nx => ?_
 obtain ⟨n, hn⟩ : ∃ n, ls.length = n := ⟨_, rfl⟩
 obtain ⟨cs, hcs⟩ : ∃ c, iL ls = c := ⟨_, rfl⟩
 have hcl : cs.length = n := by rw [← hcs]; simp [iL, hn]
 rw [hcs, hn]
 obtain ⟨I, hI⟩ : ∃ I : Nat → St → Prop, I = fun q D => ∃ (i : Nat) (a : Int), q = n - i ∧ i ≤ n ∧ totL (ls.drop i) a = totL ls 0 ∧ 0 ≤ a ∧ a ≤ 1000 * i ∧ D.s 0 = .im pm A cap n cs ∧ D.s 3 = .int .i64 a ∧ D.s 4 = .int .i64 (i : Int) ∧ D.m = [] ∧ D.nx = nx := ⟨_, rfl⟩
 simp [entryS]
 refine EvP.loop I (n := n) (by rw [hI]; exact ⟨0, 0, by simp, by simp, by simp, by omega, by omega, by simp⟩) (by omega) fun q D hD => ?_
 rw [hI] at hD
 obtain ⟨i, a, rfl, hi, hT, a0, a1, d0, d3, d4, dm, dx⟩ := hD
 by_cases hlt : i < n
 ·have e3 := wrap_succ (q := i) (by omega)
  have hil : i < ls.length := by omega
  have hic : i < cs.length := by omega
  obtain ⟨x, hx⟩ : ∃ x, ls[i] = x := ⟨_, rfl⟩
  have hcx : cs[i] = .int .i64 x := by subst hcs; simp [iL, hx]
  have hd : ls.drop i = x :: ls.drop (i + 1) := by rw [List.drop_eq_getElem_cons hil, hx]
  rw [hd] at hT
  have hT : (if x < 0 then -1 else if x > 1000 then 1000 else totL (ls.drop (i + 1)) (a + x)) = totL ls 0 := hT
  by_cases x0 : x < 0
  ·rw [if_pos x0] at hT
   simp [d0, d3, d4, dm, dx, hlt, hic, hcl, hcx, x0, ← hT]
  ·rw [if_neg x0] at hT
   by_cases x1 : x > 1000
   ·rw [if_pos x1] at hT
    simp [d0, d3, d4, dm, dx, hlt, hic, hcl, hcx, x0, x1, ← hT]
   ·rw [if_neg x1] at hT
    have e4 := wrapi (x := a + x) (by omega) (by omega)
    simp [d0, d3, d4, dm, dx, hlt, hic, hcl, hcx, x0, x1, e3, e4]
    subst hI
    exact ⟨n - (i + 1), by omega, i + 1, a + x, rfl, by omega, hT, by omega, by push_cast; omega, by simp [d0], by simp, by simp, by simp, by simp⟩
 ·have hin : i = n := by omega
  rw [hin, ← hn, List.drop_length] at hT
  have hT : a = totL ls 0 := hT
  simp [d0, d3, d4, dm, dx, hlt, hT]
theorem below54 (p : Nat) (pm : Bool) (A : Option Addr) (cap : Nat) (l : List Nat) (hl : l.length ≤ 1000) : AnsN 1101 Tryd.prog H14 54 [.int .u64 (p : Int), .im pm A cap l.length (uL l)] (.bool (decide (∀ x ∈ l, x < p))) := below57 p pm A cap l hl
def LightS (s : Scn) (parties lies words : Nat) : Prop := s.n ≤ (parties : Int) ∧ s.devs.length ≤ lies ∧ s.tapes.length ≤ parties ∧ (∀ r ∈ s.tapes, r.l.length ≤ words) ∧ ScnS s
theorem LightS.lent {s : Scn} {a b c : Nat} : LightS (lentS s) a b c ↔ LightS s a b c := by
 have e1 : (lentS s).tapes = s.tapes.map Abs.lent := rfl
 unfold LightS
 rw [scnS_lent, e1, List.length_map]
 constructor
 ·rintro ⟨h1, h2, h3, h4, h5⟩
  exact ⟨h1, h2, h3, fun r hr => h4 (Abs.lent r) (List.mem_map_of_mem hr), h5⟩
 ·rintro ⟨h1, h2, h3, h4, h5⟩
  refine ⟨h1, h2, h3, fun r hr => ?_, h5⟩
  obtain ⟨x, hx, rfl⟩ := List.mem_map.1 hr
  exact h4 x hx
open Classical in
theorem light53 (s : Scn) (parties lies words : Nat) (hp : parties ≤ 1000) (hl : lies ≤ 1000) (hw : words ≤ 1000) : AnsN 1112 Tryd.prog H14 53 [scV s, .int .i64 (parties : Int), .int .i64 (lies : Int), .int .i64 (words : Int)] (.bool (decide (LightS s parties lies words))) := by
 refine AnsN.of (fn := Tryd.f53) (t := 8) (by rfl) Tryd.func53 rfl rfl (by rfl) (by rfl) fun k hk nx => ?_
 by_cases b1 : s.n ≤ (parties : Int)
 ·have g1 : ¬ (s.n > (parties : Int)) := by omega
  by_cases b2 : s.devs.length ≤ lies
  ·have g2 : ¬ ((s.devs.length : Int) > (lies : Int)) := by omega
   by_cases b3 : s.tapes.length ≤ parties
   ·have g3 : ¬ ((s.tapes.length : Int) > (parties : Int)) := by omega
    simp [entryS, b1, b2, b3, g1, g2, g3, scV, scL]
    obtain ⟨I, hI⟩ : ∃ I : Nat → St → Prop, I = fun q D => ∃ i : Nat, q = s.tapes.length - i ∧ i ≤ s.tapes.length ∧ (∀ r ∈ s.tapes.take i, r.l.length ≤ words) ∧ D.s 3 = .int .i64 (words : Int) ∧ D.s 4 = .bptr nx 0 ∧ D.s 9 = .int .i64 (i : Int) ∧ D.m = [(nx, ⟨0, scL s⟩)] ∧ D.nx = nx + 1 := ⟨_, rfl⟩
    refine EvP.loop I (n := s.tapes.length) (by rw [hI]; exact ⟨0, by simp [scL]⟩) (by omega) fun q D hD => ?_
    rw [hI] at hD
    obtain ⟨i, rfl, hi, hpre, d3, d4, d9, dm, dx⟩ := hD
    by_cases hil : i < s.tapes.length
    ·have e3 := wrap_succ (q := i) (by omega)
     by_cases h50 : (s.tapes[i]).l.length ≤ words
     ·have g4 : ¬ (((s.tapes[i]).l.length : Int) > (words : Int)) := by omega
      simp [d3, d4, d9, dm, dx, scL, hil, h50, g4, e3]
      subst hI
      refine ⟨s.tapes.length - (i + 1), by omega, i + 1, rfl, by omega, fun r hr => ?_, by simp [d3], by simp [d4], by simp, rfl, rfl⟩
      rw [List.take_succ_eq_append_getElem hil, List.mem_append, List.mem_singleton] at hr
      rcases hr with hr | rfl
      ·exact hpre r hr
      ·exact h50
     ·have g4 : ((s.tapes[i]).l.length : Int) > (words : Int) := by omega
      have hn : ¬ LightS s parties lies words := fun h => h50 (h.2.2.2.1 _ (List.getElem_mem hil))
      have h51 : words < (s.tapes[i]).l.length := by omega
      simp [d3, d4, d9, dm, dx, scL, hil, h51, g4, hn]
    ·have hie : i = s.tapes.length := by omega
     subst hie
     have hr : ∀ r ∈ s.tapes, r.l.length ≤ words := fun r hr => hpre r (by rw [List.take_length]; exact hr)
     have c49 := callP (scen37 (lentS s) (by show s.devs.length ≤ 1000; omega) (by show (s.tapes.map lent).length ≤ 1000; rw [List.length_map]; omega) (lentS_r fun r h => by have := hr r h; omega)) (k := k) (by omega) (ptrsL_scV _) rfl
     have hb : decide (ScnS (lentS s)) = decide (LightS s parties lies words) := decide_eq_decide.2 ⟨fun h => ⟨b1, b2, b3, hr, (scnS_lent s).1 h⟩, fun h => (scnS_lent s).2 h.2.2.2.2⟩
     rw [hb] at c49
     simp only [scV, scL, lentS, List.length_map] at c49
     simp [-doCall, doCall_eq, d3, d4, d9, dm, dx, scL, c49]
   ·have g3 : (s.tapes.length : Int) > (parties : Int) := by omega
    have hn : ¬ LightS s parties lies words := fun h => b3 h.2.2.1
    have b4 : parties < s.tapes.length := by omega
    simp [entryS, b1, b2, b3, b4, g1, g2, g3, scV, scL, hn]
  ·have g2 : (s.devs.length : Int) > (lies : Int) := by omega
   have hn : ¬ LightS s parties lies words := fun h => b2 h.2.1
   have b4 : lies < s.devs.length := by omega
   simp [entryS, b1, b2, b4, g1, g2, scV, scL, hn]
 ·have g1 : s.n > (parties : Int) := by omega
  have hn : ¬ LightS s parties lies words := fun h => b1 h.1
  have b4 : (parties : Int) < s.n := by omega
  simp [entryS, b1, b4, g1, scV, scL, hn]
structure Play where
 s : Scn
 pm : Bool
 A : Option Addr
 cap : Nat
 rs : List RD
 pl : Bool
 Al : Option Addr
 cl : Nat
 ls : List Int
def playL (z : Play) : List V := scL z.s ++ [.im z.pm z.A z.cap z.rs.length (rsV z.rs), .im z.pl z.Al z.cl z.ls.length (iL z.ls)]
def playV (z : Play) : V := .agg (playL z)
def lentP (z : Play) : Play := { z with s := lentS z.s, pm := false, rs := z.rs.map lent, pl := false }
def PlayS (z : Play) : Prop := LightS z.s 5 6 4 ∧ (z.rs.length : Int) = z.s.n ∧ (z.ls.length : Int) = z.s.n ∧ (∀ r ∈ z.rs, r.l.length ≤ 6 ∧ ∀ x ∈ r.l, x < z.s.p) ∧ 0 ≤ totL z.ls 0 ∧ totL z.ls 0 ≤ 4
theorem PlayS.lent {z : Play} : PlayS (lentP z) ↔ PlayS z := by
 unfold PlayS
 show LightS (lentS z.s) 5 6 4 ∧ ((z.rs.map Abs.lent).length : Int) = z.s.n ∧ (z.ls.length : Int) = z.s.n ∧ (∀ r ∈ z.rs.map Abs.lent, r.l.length ≤ 6 ∧ ∀ x ∈ r.l, x < z.s.p) ∧ _ ↔ _
 rw [LightS.lent, List.length_map]
 constructor
 ·rintro ⟨h1, h2, h3, h4, h5⟩
  exact ⟨h1, h2, h3, fun r hr => h4 (Abs.lent r) (List.mem_map_of_mem hr), h5⟩
 ·rintro ⟨h1, h2, h3, h4, h5⟩
  refine ⟨h1, h2, h3, fun r hr => ?_, h5⟩
  obtain ⟨x, hx, rfl⟩ := List.mem_map.1 hr
  exact h4 x hx
open Classical in
theorem fair31 (z : Play) : AnsN 1114 Tryd.prog H14 31 [playV z] (.bool (decide (PlayS z))) := by
 refine AnsN.of (fn := Tryd.f31) (t := 2) (by rfl) Tryd.func31 rfl rfl (by rfl) (by rfl) fun k hk nx => ?_
 have c53 := callP (light53 (lentS z.s) 5 6 4 (by omega) (by omega) (by omega)) (k := k) (by omega) (by rw [show ([scV (lentS z.s), .int .i64 ((5 : Nat) : Int), .int .i64 ((6 : Nat) : Int), .int .i64 ((4 : Nat) : Int)] : List V) = scV (lentS z.s) :: [.int .i64 ((5 : Nat) : Int), .int .i64 ((6 : Nat) : Int), .int .i64 ((4 : Nat) : Int)] from rfl]; simp [scV, scL, ptrsL, ptrs, lentS]) rfl
 have n5 : ((5 : Nat) : Int) = 5 := rfl
 have n6 : ((6 : Nat) : Int) = 6 := rfl
 have n4 : ((4 : Nat) : Int) = 4 := rfl
 rw [n5, n6, n4] at c53
 have e1 : decide (LightS (lentS z.s) 5 6 4) = decide (LightS z.s 5 6 4) := decide_eq_decide.2 LightS.lent
 rw [e1] at c53
 simp only [scV, scL, lentS, List.length_map] at c53
 by_cases h1 : LightS z.s 5 6 4
 case neg =>
  have e3 : decide (PlayS z) = false := decide_eq_false fun h => h1 h.1
  rw [decide_eq_false h1] at c53
  simp [-doCall, doCall_eq, entryS, playV, playL, scL, c53, e3]
 rw [decide_eq_true h1] at c53
 obtain ⟨n, hn⟩ : ∃ n, z.s.tapes.length = n := ⟨_, rfl⟩
 have hsn : z.s.n = (n : Int) := by rw [← hn]; exact h1.2.2.2.2.2.1.symm
 have h13 : n ≤ 13 := by have := (scnS_n h1.2.2.2.2).2; omega
 rw [hsn] at c53
 by_cases h2 : z.rs.length = n
 case neg =>
  have e3 : decide (PlayS z) = false := decide_eq_false fun h => h2 (by have := h.2.1; rw [hsn] at this; omega)
  have e2 : ((z.rs.length : Int) != (n : Int)) = true := by simp; omega
  simp [-doCall, doCall_eq, entryS, playV, playL, scL, hsn, c53, e2, e3]
 by_cases h3 : z.ls.length = n
 case neg =>
  have e3 : decide (PlayS z) = false := decide_eq_false fun h => h3 (by have := h.2.2.1; rw [hsn] at this; omega)
  have e2 : ((z.ls.length : Int) != (n : Int)) = true := by simp; omega
  simp [-doCall, doCall_eq, entryS, playV, playL, scL, hsn, c53, h2, e2, e3]
 obtain ⟨cs, hcs⟩ : ∃ cs, rsV z.rs = cs := ⟨_, rfl⟩
 have hcl : cs.length = n := by rw [← hcs]; simp [h2]
 obtain ⟨is, his⟩ : ∃ is, iL z.ls = is := ⟨_, rfl⟩
 have hfi : frzL false is = is := by rw [← his]; simp
 obtain ⟨PL, hPL⟩ : ∃ PL : List V, [.int .u64 (z.s.p : Int), .int .i64 (n : Int), .int .i64 z.s.t, .im z.s.cpm z.s.cA z.s.ccap z.s.corrupt.length (iL z.s.corrupt), .im z.s.dpm z.s.dA z.s.dcap z.s.devs.length (devsV z.s.devs), .im z.s.tpm z.s.tA z.s.tcap z.s.tapes.length (rsV z.s.tapes), .im z.pm z.A z.cap n cs, .im z.pl z.Al z.cl n is] = PL := ⟨_, rfl⟩
 obtain ⟨I, hI⟩ : ∃ I : Nat → St → Prop, I = fun q D => ∃ i : Nat, q = n - i ∧ i ≤ n ∧ (∀ j (hj : j < i) (hjl : j < z.rs.length), z.rs[j].l.length ≤ 6 ∧ ∀ x ∈ z.rs[j].l, x < z.s.p) ∧ D.s 1 = .bptr nx 0 ∧ D.s 3 = .int .i64 (i : Int) ∧ D.m = [(nx, ⟨0, PL⟩)] ∧ D.nx = nx + 1 := ⟨_, rfl⟩
 have c38 := callP (total38 false z.Al z.cl z.ls (by omega)) (k := k) (by omega) (by simp [ptrsL, ptrs]) rfl
 rw [his, h3] at c38
 simp [-doCall, doCall_eq, entryS, playV, playL, scL, hsn, c53, h2, h3, hcs, his]
 refine EvP.loop I (n := n) (by rw [hI]; exact ⟨0, by simp, by simp, fun j hj => absurd hj (Nat.not_lt_zero j), by simp [← hPL]⟩) (by omega) fun q D hD => ?_
 rw [hI] at hD
 obtain ⟨i, rfl, hi, hpre, d1, d3, dm, dx⟩ := hD
 rw [← hPL] at dm
 by_cases hil : i < n
 ·have e3 := wrap_succ (q := i) (by omega)
  have hir : i < z.rs.length := by omega
  have hic : i < cs.length := by omega
  obtain ⟨r, hr⟩ : ∃ r, z.rs[i] = r := ⟨_, rfl⟩
  have hri : cs[i] = rV r := by subst hcs; rw [rs_get z.rs i hir, hr]
  simp only [rV] at hri
  by_cases h6 : r.l.length ≤ 6
  ·have g6 : ¬ ((r.l.length : Int) > 6) := by omega
   have c54 := callP (below54 z.s.p false r.A r.cap r.l (by omega)) (k := k) (by omega) (by simp [ptrsL, ptrs, nil_uL]) rfl
   have g7 : ¬ 6 < r.l.length := by omega
   by_cases hb : ∀ x ∈ r.l, x < z.s.p
   ·rw [decide_eq_true hb] at c54
    simp [-doCall, doCall_eq, d1, d3, dm, dx, hil, hic, hcl, hri, g6, g7, c54, e3]
    subst hI
    refine ⟨n - (i + 1), by omega, i + 1, rfl, by omega, fun j hj hjl => ?_, by simp [d1], by simp, by simp [dm, ← hPL], by simp [dx]⟩
    by_cases hji : j = i
    ·subst hji; rw [hr]; exact ⟨h6, hb⟩
    ·exact hpre j (by omega) hjl
   ·rw [decide_eq_false hb] at c54
    have e4 : decide (PlayS z) = false := decide_eq_false fun h => hb (h.2.2.2.1 r (hr ▸ List.getElem_mem hir)).2
    simp [-doCall, doCall_eq, d1, d3, dm, dx, hil, hic, hcl, hri, g6, g7, c54, e4]
  ·have g6 : (r.l.length : Int) > 6 := by omega
   have g7 : 6 < r.l.length := by omega
   have e4 : decide (PlayS z) = false := decide_eq_false fun h => h6 (h.2.2.2.1 r (hr ▸ List.getElem_mem hir)).1
   simp [-doCall, doCall_eq, d1, d3, dm, dx, hil, hic, hcl, hri, g6, g7, e4]
 ·have hie : i = n := by omega
  have hall : ∀ r ∈ z.rs, r.l.length ≤ 6 ∧ ∀ x ∈ r.l, x < z.s.p := fun r hr => by
   obtain ⟨j, hj, rfl⟩ := List.getElem_of_mem hr
   exact hpre j (by omega) hj
  by_cases g0 : 0 ≤ totL z.ls 0
  ·by_cases g4 : totL z.ls 0 ≤ 4
   ·have e4 : decide (PlayS z) = true := decide_eq_true ⟨h1, by rw [hsn, h2], by rw [hsn, h3], hall, g0, g4⟩
    simp [-doCall, doCall_eq, d1, d3, dm, dx, hil, hfi, c38, g0, g4, e4]
   ·have e4 : decide (PlayS z) = false := decide_eq_false fun h => g4 h.2.2.2.2.2
    simp [-doCall, doCall_eq, d1, d3, dm, dx, hil, hfi, c38, g0, g4, e4]
  ·have e4 : decide (PlayS z) = false := decide_eq_false fun h => g0 h.2.2.2.2.1
   simp [-doCall, doCall_eq, d1, d3, dm, dx, hil, hfi, c38, g0, e4]
theorem arg_playT {m : Nat} {x : V} (h : ArgShT Tryd.prog (m + 1 + 1 + 1 + 1 + 1) 58 x) : ∃ z : Play, (ScnB z.s ∧ z.pm = true ∧ z.pl = true ∧ ∀ r ∈ z.rs, r.pm = true) ∧ x = playV z := by
 unfold ArgShT at h
 rw [Tryd.underlying58] at h
 obtain ⟨vs, rfl, h⟩ := h
 unfold ShT at h
 rw [Tryd.underlying58] at h
 obtain ⟨hl, hf⟩ := h
 rw [ce58] at hl
 match vs, hl with
 | [a, b, c, d, e, f, g, i], _ =>
   simp [ce29, ce27, ce25] at hf
   obtain ⟨h0, h1, h2⟩ := hf
   obtain ⟨s, hs, e0⟩ := rd_scnT h0
   obtain ⟨A1, c1, l1, hl1, e1⟩ := rd_rowsT h1
   obtain ⟨A2, c2, l2, e2⟩ := rd_intsT h2
   refine ⟨⟨s, true, A1, c1, l1, true, A2, c2, l2⟩, ⟨hs, rfl, rfl, hl1⟩, ?_⟩
   show V.agg _ = V.agg (scL s ++ [.im true A1 c1 l1.length (rsV l1), .im true A2 c2 l2.length (iL l2)])
   simp at e0 e1 e2
   rw [← e0, e1, e2]
   simp
end Go.Abs
end
