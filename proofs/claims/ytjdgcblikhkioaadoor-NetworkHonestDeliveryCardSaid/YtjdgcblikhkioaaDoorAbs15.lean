/- Joined: AbsNYE AbsNYF AbsYH AbsNY6. -/
import Derived.Test.YtjdgcblikhkioaaDoorAbs14
set_option linter.all false
/- The seat of privitylaw14: fair. -/
set_option linter.unusedVariables false
noncomputable section
namespace Go.Abs
open Go Go.Proofs
set_option maxRecDepth 100000
theorem rspsV_drop : ∀ {l : List RSp} {i : Nat} (h : i < l.length), (rspsV l).drop (i * 2) = .bool l[i].cast :: .im false l[i].A l[i].cap l[i].ms.length (msV l[i].ms) :: (rspsV l).drop ((i + 1) * 2)
  | r :: l, 0, h => rfl
  | r :: l, i + 1, h => by
    have h2 := rspsV_drop (l := l) (i := i) (by simpa using h)
    show (rspC r ++ rspsV l).drop ((i + 1) * 2) = _ :: _ :: (rspC r ++ rspsV l).drop ((i + 1 + 1) * 2)
    have hl : (rspC r).length = 2 := rfl
    rw [List.drop_append, List.drop_append, hl, show (rspC r).drop ((i + 1) * 2) = [] from List.drop_eq_nil_of_le (by rw [hl]; omega), show (rspC r).drop ((i + 1 + 1) * 2) = [] from List.drop_eq_nil_of_le (by rw [hl]; omega), show (i + 1) * 2 - 2 = i * 2 by omega, show (i + 1 + 1) * 2 - 2 = (i + 1) * 2 by omega, List.nil_append, List.nil_append, h2]
    rfl
@[simp] theorem rspsV_length (l : List RSp) : (rspsV l).length = l.length * 2 := by
  induction l with
  | nil => rfl
  | cons r l ih => show (rspC r ++ rspsV l).length = _; rw [List.length_append, ih]; simp [rspC]; omega
/-- One row of messages in order. -/
def MrowOk (p : Nat) (n : Int) (m : MD) : Prop := (m.l.length : Int) = n ∧ ∀ w ∈ m.l, w.l.length ≤ 8 ∧ ∀ x ∈ w.l, x < p
/-- One round in order. -/
def RoundOk (p : Nat) (n : Int) (r : RSp) : Prop := (r.ms.length : Int) = n ∧ ∀ m ∈ r.ms, MrowOk p n m
def FairE (p : Exe) : Prop := FairS p.w 8 20 ∧ p.l.length ≤ 5 ∧ ∀ r ∈ p.l, RoundOk p.w.p p.w.n r
theorem take_all {α : Type} {l : List α} {Q : α → Prop} {i : Nat} (hi : i < l.length) (h : ∀ x ∈ l.take i, Q x) (hq : Q l[i]) : ∀ x ∈ l.take (i + 1), Q x := fun x hx => by
  rw [List.take_succ_eq_append_getElem hi, List.mem_append, List.mem_singleton] at hx
  rcases hx with hx | rfl
  · exact h x hx
  · exact hq
open Classical in
set_option maxHeartbeats 8000000 in
/-- fair(p) -/
theorem fair15 (p : Exe) (hA : ExeA p) : AnsN 1120 Tryd.prog H14 15 [exeV p] (.bool (decide (FairE p))) := by
  refine AnsN.of (fn := Tryd.f15) (t := 2) (by rfl) Tryd.func15 rfl rfl (by rfl) (by rfl) fun k hk nx => ?_
  have h1 := hA.w.e1
  have h2 := hA.w.e2
  have h3 := hA.w.e3
  have hl := lents_ok hA.w.r
  have c30 := callP (k := k) (fair30 p.w 8 20 (by omega) (by omega)) (by omega) (by simp [ptrsL, ptrs, scV, scL]) rfl
  have n8 : ((8 : Nat) : Int) = 8 := rfl
  have n20 : ((20 : Nat) : Int) = 20 := rfl
  simp only [scV, scL, h1, h2, h3, n8, n20] at c30
  by_cases hF : FairS p.w 8 20
  case neg =>
    have hn : ¬ FairE p := fun h => hF h.1
    rw [decide_eq_false hF] at c30
    simp [-doCall, doCall_eq, entryS, exeV, exeL, h1, h2, h3, hl, c30, hn]
  rw [decide_eq_true hF] at c30
  obtain ⟨f1, f2, f3, f4, hs⟩ := hF
  have hn413 := scnS_n hs
  by_cases hL : p.l.length ≤ 5
  case neg =>
    have hn : ¬ FairE p := fun h => hL h.2.1
    have g : (p.l.length : Int) > 5 := by omega
    simp [-doCall, doCall_eq, entryS, exeV, exeL, h1, h2, h3, hl, c30, hn, g]
  have g : ¬ ((p.l.length : Int) > 5) := by omega
  simp [-doCall, doCall_eq, entryS, exeV, exeL, h1, h2, h3, hl, c30, g]
  obtain ⟨I, hI⟩ : ∃ I : Nat → St → Prop, I = fun q D => ∃ i : Nat, q = p.l.length - i ∧ i ≤ p.l.length ∧ (∀ r ∈ p.l.take i, RoundOk p.w.p p.w.n r) ∧ D.s 1 = .bptr nx 0 ∧ D.s 3 = .int .i64 (i : Int) ∧ D.m = [(nx, ⟨0, exeL p⟩)] ∧ D.nx = nx + 1 := ⟨_, rfl⟩
  refine EvP.loop I (n := p.l.length) (by rw [hI]; exact ⟨0, by simp [exeL, h1, h2, h3]⟩) (by omega) fun q D hD => ?_
  rw [hI] at hD
  obtain ⟨i, rfl, hi, hpre, d1, d3, dm, dx⟩ := hD
  by_cases hil : i < p.l.length
  · have e3 := wrap_succ (q := i) (by omega)
    have p1 := rspsV_drop hil
    obtain ⟨r, hr⟩ : ∃ r, p.l[i] = r := ⟨_, rfl⟩
    rw [hr] at p1
    have hbad : ¬ RoundOk p.w.p p.w.n r → ¬ FairE p := fun hb h => hb (hr ▸ h.2.2 _ (List.getElem_mem hil))
    by_cases hrn : (r.ms.length : Int) = p.w.n
    case neg =>
      have hn := hbad fun h => hrn h.1
      have gne : ((r.ms.length : Int) != p.w.n) = true := by simpa [bne] using hrn
      simp [d1, d3, dm, dx, exeL, hil, p1, gne, hn]
    have geq : ((r.ms.length : Int) != p.w.n) = false := by simpa [bne] using hrn
    simp [d1, d3, dm, dx, exeL, hil, p1, geq]
    obtain ⟨J, hJ⟩ : ∃ J : Nat → St → Prop, J = fun q D => ∃ j : Nat, q = r.ms.length - j ∧ j ≤ r.ms.length ∧ (∀ m ∈ r.ms.take j, MrowOk p.w.p p.w.n m) ∧ D.s 1 = .bptr nx 0 ∧ D.s 3 = .int .i64 (i : Int) ∧ D.s 4 = .int .i64 (j : Int) ∧ D.m = [(nx, ⟨0, exeL p⟩)] ∧ D.nx = nx + 1 := ⟨_, rfl⟩
    refine EvP.loop J (n := r.ms.length) (by rw [hJ]; exact ⟨0, by simp [exeL, d1, d3]⟩) (by omega) fun q D hD => ?_
    rw [hJ] at hD
    obtain ⟨j, rfl, hj, hprej, d1, d3, d4, dm, dx⟩ := hD
    by_cases hjl : j < r.ms.length
    · have e4 := wrap_succ (q := j) (by omega)
      obtain ⟨m, hm⟩ : ∃ m, r.ms[j] = m := ⟨_, rfl⟩
      have hbadm : ¬ MrowOk p.w.p p.w.n m → ¬ FairE p := fun hb => hbad fun h => hb (hm ▸ h.2 _ (List.getElem_mem hjl))
      have hmA : MdOk m := hm ▸ (hr ▸ (hA.m _ (List.getElem_mem hil)).2) _ (List.getElem_mem hjl)
      by_cases hmn : (m.l.length : Int) = p.w.n
      case neg =>
        have hn := hbadm fun h => hmn h.1
        have gne : ((m.l.length : Int) != p.w.n) = true := by simpa [bne] using hmn
        simp [d1, d3, d4, dm, dx, exeL, hil, hjl, p1, hm, gne, hn]
      have geqm : ((m.l.length : Int) != p.w.n) = false := by simpa [bne] using hmn
      have c21 := callP (k := k) (below21 p.w.p false m.A m.cap m.l 8 (by omega) (by omega)) (by omega) (by simp) rfl
      simp only [n8] at c21
      have hlm := lents_ok hmA.2.2
      by_cases hbw : ∀ w ∈ m.l, w.l.length ≤ 8 ∧ ∀ x ∈ w.l, x < p.w.p
      · rw [decide_eq_true hbw] at c21
        simp [-doCall, doCall_eq, d1, d3, d4, dm, dx, exeL, hil, hjl, p1, hm, geqm, c21, rsV_lent, hlm, e4]
        subst hJ
        exact ⟨r.ms.length - (j + 1), by omega, j + 1, rfl, by omega, take_all hjl hprej (by rw [hm]; exact ⟨hmn, hbw⟩), by simp [d1], by simp [d3], by simp, rfl, rfl⟩
      · rw [decide_eq_false hbw] at c21
        have hn := hbadm fun h => hbw h.2
        simp [-doCall, doCall_eq, d1, d3, d4, dm, dx, exeL, hil, hjl, p1, hm, geqm, c21, rsV_lent, hlm, hn]
    · have hje : j = r.ms.length := by omega
      subst hje
      simp [d1, d3, d4, dm, dx, exeL, hil, p1, e3]
      subst hI
      exact ⟨p.l.length - (i + 1), by omega, i + 1, rfl, by omega, take_all hil hpre (by rw [hr]; exact ⟨hrn, fun m hm => hprej m (by rw [List.take_length]; exact hm)⟩), by simp [d1], by simp, rfl, rfl⟩
  · have hie : i = p.l.length := by omega
    subst hie
    have hy : FairE p := ⟨⟨f1, f2, f3, f4, hs⟩, hL, fun r hr => hpre r (by rw [List.take_length]; exact hr)⟩
    simp [d1, d3, dm, dx, exeL, hy]
end Go.Abs
end
/- The seat of privitylaw14: rounds inside a law. -/
set_option linter.unusedVariables false
noncomputable section
namespace Go.Abs
open Go Go.Proofs
set_option maxRecDepth 100000
/-- What stands beside a network in a law's memory. -/
structure Around (nx b : Nat) (tp : List Nat) (c : Box) (O : List (Nat × Box)) (x : Nat) : Prop where
  g : getBox O nx = some c
  o : ∀ e ∈ O, nx ≤ e.1 ∧ e.1 < x ∧ e.1 ∉ b :: tp
  t : ∀ y ∈ b :: tp, nx ≤ y ∧ y < x
section
variable {nx b x : Nat} {tp : List Nat} {c c' : Box} {O tb : List (Nat × Box)} {σ σ' : NetS}
theorem Around.add (h : Around nx b tp c O x) : Around nx b tp c (O ++ [(x, c')]) (x + 1) := by
  refine ⟨getBox_app_old h.g, fun e he => ?_, fun y hy => ?_⟩
  · rcases List.mem_append.1 he with he | he
    · obtain ⟨h1, h2, h3⟩ := h.o e he; exact ⟨h1, by omega, h3⟩
    · rw [List.mem_singleton] at he
      subst he
      obtain ⟨h1, h2⟩ := h.t b List.mem_cons_self
      exact ⟨by show nx ≤ x; omega, by show x < x + 1; omega, fun hx => by have := (h.t _ hx).2; exact absurd this (Nat.lt_irrefl _)⟩
  · obtain ⟨h1, h2⟩ := h.t y hy; exact ⟨h1, by omega⟩
theorem Around.get (h : Around nx b tp c O x) : getBox (O ++ (b, ⟨0, netC σ⟩) :: tb) nx = some c := getBox_app_old h.g
theorem Around.mem (h : Around nx b σ.tp c O x) (hT : TB b σ.tp tb) : ∀ e ∈ O ++ (b, (⟨0, netC σ⟩ : Box)) :: tb, nx ≤ e.1 ∧ e.1 < x := fun e he => by
  rcases List.mem_append.1 he with he | he
  · exact ⟨(h.o e he).1, (h.o e he).2.1⟩
  · exact h.t _ (net_keys hT e he)
variable {P : Program} {H : Hint} {f k N : Nat} {xs : List V} {r : V}
theorem Around.call (h : Around nx b σ.tp c O x) (hT : TB b σ.tp tb) (hl : 1 ≤ tb.length) (h' : σ'.tp = σ.tp) (hans : AnsM N P H f xs ((b, ⟨0, netC σ⟩) :: tb) r ((b, ⟨0, netC σ'⟩) :: tb)) (hk : N ≤ k) (hp : ptrsL xs = [b]) (hX : H.X f xs = none) (s : Nat → V) (dst : Option Nat) :
    doCallB H (evCall P H k) f false xs ⟨s, O ++ (b, ⟨0, netC σ⟩) :: tb, x⟩ dst = some ((St.mk (fun i => killB (b :: σ.tp) x (s i)) (O ++ (b, ⟨0, netC σ'⟩) :: tb) x).lay dst r) := by
  have := netCall (O1 := O) (O2 := []) hT hl (fun e he => (h.o e (by rwa [List.append_nil] at he)).2.2) h' hans hk hp hX (fun e he => (h.t _ (net_keys hT e he)).2) s dst
  simpa only [List.append_nil] using this
theorem Around.call1 (h : Around nx b σ.tp c O x) (hT : TB b σ.tp tb) (hl : 1 ≤ tb.length) (h' : σ'.tp = σ.tp) (hans : AnsM N P H f xs ((b, ⟨0, netC σ⟩) :: tb) r ((b, ⟨0, netC σ'⟩) :: tb)) (hk : N ≤ k) (hp : ptrsL xs = [b]) (hX : H.X f xs = none) (s : Nat → V) (dst : Option Nat) :
    doCallB H (evCall P H k) f false xs ⟨s, (O ++ (b, ⟨0, netC σ⟩) :: tb) ++ [(x, c')], x + 1⟩ dst = some ((St.mk (fun i => killB (b :: σ.tp) (x + 1) (s i)) ((O ++ [(x, c')]) ++ (b, ⟨0, netC σ'⟩) :: tb) (x + 1)).lay dst r) :=
  netCall (O1 := O) (O2 := [(x, c')]) hT hl (fun e he => ((h.add (c' := c')).o e he).2.2) h' hans hk hp hX (fun e he => by have := (h.t _ (net_keys hT e he)).2; omega) s dst
end
/-- The first message of each row. -/
def firsts (ms : List MD) : List RD := ms.map fun m => m.l[0]?.getD ⟨false, none, 0, []⟩
@[simp] theorem firsts_length (ms : List MD) : (firsts ms).length = ms.length := by simp [firsts]
set_option maxHeartbeats 4000000 in
/-- broadcasts(out) -/
theorem broadcasts17 (pm : Bool) (A : Option Addr) (cap : Nat) (ms : List MD) (hms : ms.length ≤ 1000) (h0 : ∀ m ∈ ms, 0 < m.l.length) : AnsN 1101 Tryd.prog H14 17 [.im pm A cap ms.length (msV ms)] (.own .nil 0 ms.length (rsV (firsts ms))) := by
  refine AnsN.of (fn := Tryd.f17) (t := 2) (by rfl) Tryd.func17 rfl rfl (by rfl) (by simp [plainV]) fun k hk nx => ?_
  obtain ⟨I, hI⟩ : ∃ I : Nat → St → Prop, I = fun q D => ∃ i : Nat, q = ms.length - i ∧ i ≤ ms.length ∧ D.s 0 = .im pm A cap ms.length (msV ms) ∧ D.s 3 = .own .nil 0 i (rsV (firsts (ms.take i))) ∧ D.s 4 = .int .i64 (i : Int) ∧ D.m = [] := ⟨_, rfl⟩
  simp [entryS]
  refine EvP.loop I (n := ms.length) (by rw [hI]; exact ⟨0, by simp [firsts, rsV]⟩) (by omega) fun q D hD => ?_
  rw [hI] at hD
  obtain ⟨i, rfl, hi, d0, d3, d4, dm⟩ := hD
  by_cases hil : i < ms.length
  · have e3 := wrap_succ (q := i) (by omega)
    have hml := h0 _ (List.getElem_mem hil)
    have g1 : (i + 1) * 24 ≤ 140737488355328 := by omega
    have g2 : i ≤ 140737488355327 := by omega
    obtain ⟨cs, hcs⟩ : ∃ cs, rsV (firsts (ms.take i)) = cs := ⟨_, rfl⟩
    have hcl : cs.length = i := by rw [← hcs]; simp; omega
    rw [hcs] at d3
    obtain ⟨w, l', hw⟩ : ∃ w l', (ms[i]).l = w :: l' := by
      cases hq : (ms[i]).l with
      | nil => rw [hq] at hml; simp at hml
      | cons w l' => exact ⟨w, l', rfl⟩
    have hrs : rsV (ms[i]).l = rV w :: rsV l' := by rw [hw]; rfl
    have hln : (ms[i]).l.length = l'.length + 1 := by rw [hw]; rfl
    simp [d0, d3, d4, dm, hil, hrs, hln, rV, e3, g1, g2, hcl]
    have hnext : rsV (firsts (ms.take (i + 1))) = cs ++ [rV w] := by
      rw [List.take_succ_eq_append_getElem hil, ← hcs]
      unfold firsts rsV
      rw [List.map_append, List.map_append]
      simp [hw]
    subst hI
    exact ⟨ms.length - (i + 1), by omega, i + 1, rfl, by omega, by simp [d0], by rw [hnext]; simp [rV], by simp, rfl⟩
  · have hie : i = ms.length := by omega
    subst hie
    simp [d0, d3, d4, dm]
theorem rounds_ms {p : Nat} {n : Nat} {r : RSp} (h : RoundOk p (n : Int) r) : r.ms.length = n ∧ MsOk p n (mls r.ms) := by
  obtain ⟨h1, h2⟩ := h
  refine ⟨by omega, by simp [mls]; omega, fun l hl => ?_⟩
  obtain ⟨m, hm, rfl⟩ := List.mem_map.1 hl
  obtain ⟨h3, h4⟩ := h2 m hm
  refine ⟨by rw [List.length_map]; omega, fun w hw => ?_⟩
  obtain ⟨x, hx, rfl⟩ := List.mem_map.1 hw
  obtain ⟨h5, h6⟩ := h4 x hx
  exact ⟨by omega, h6⟩
theorem rounds_ls {p : Nat} {n : Nat} {r : RSp} (h : RoundOk p (n : Int) r) : LsOk p ((firsts r.ms).map (·.l)) := by
  intro w hw
  obtain ⟨x, hx, rfl⟩ := List.mem_map.1 hw
  obtain ⟨m, hm, rfl⟩ := List.mem_map.1 hx
  obtain ⟨h3, h4⟩ := h.2 m hm
  cases hq : m.l[0]? with
  | none => exact ⟨by simp, by simp⟩
  | some y =>
    obtain ⟨h5, h6⟩ := h4 y (List.mem_of_getElem? hq)
    exact ⟨by rw [Option.getD_some]; omega, by rw [Option.getD_some]; exact h6⟩
theorem lentM_ok {m : MD} (h : MdOk m) : lentM m = m := by
  obtain ⟨pm, A, cap, l⟩ := m
  obtain ⟨h1, _, h3⟩ := h
  simp only at h1 h3
  subst h1
  show MD.mk false A cap (l.map lent) = _
  rw [lents_ok h3]
theorem lentMs_ok {l : List MD} (h : ∀ m ∈ l, MdOk m) : l.map lentM = l := by
  induction l with
  | nil => rfl
  | cons r l ih => rw [List.map_cons, lentM_ok (h r List.mem_cons_self), ih fun x hx => h x (List.mem_cons_of_mem _ hx)]
theorem firsts_ok {l : List MD} (h : ∀ m ∈ l, MdOk m) : (firsts l).map lent = firsts l := by
  refine lents_ok fun r hr => ?_
  obtain ⟨m, hm, rfl⟩ := List.mem_map.1 hr
  cases hq : m.l[0]? with
  | none => exact ⟨rfl, by simp, by simp⟩
  | some y => rw [Option.getD_some]; exact (h m hm).2.2 y (List.mem_of_getElem? hq)
/-- A round on a network. -/
def roundS (cp : List Nat → RD) (n : Nat) (σ : NetS) (r : RSp) : NetS := if r.cast then castS cp (netTold σ ((firsts r.ms).map (·.l))) n σ else sentS cp (netSaid σ n (mls r.ms)) n σ
theorem like_roundS (cp : List Nat → RD) (n : Nat) (σ : NetS) (r : RSp) : (roundS cp n σ r).scn = σ.scn ∧ (roundS cp n σ r).tp = σ.tp ∧ (roundS cp n σ r).round = σ.round + 1 := by
  unfold roundS
  split
  · obtain ⟨h1, h2, h3, h4⟩ := like_castS cp (netTold σ ((firsts r.ms).map (·.l))) n σ
    exact ⟨h1, h2, h4⟩
  · obtain ⟨h1, h2, h3, h4⟩ := like_sentS cp (netSaid σ n (mls r.ms)) n σ
    exact ⟨h1, h2, h4⟩
theorem NetI.round {N b n : Nat} {σ : NetS} {tb : List (Nat × Box)} (I : NetI N b σ tb) (cp : List Nat → RD) (r : RSp) (hn : (n : Int) = σ.scn.n) : NetI N b (roundS cp n σ r) tb := by
  unfold roundS
  split
  · exact I.cast cp _ hn
  · exact I.sent cp _ hn
theorem frzL_rsps {l : List RSp} (h : ∀ r ∈ l, ∀ m ∈ r.ms, MdOk m) : frzL false (rspsV l) = rspsV l := by
  induction l with
  | nil => rfl
  | cons r l ih =>
    show frz false (.bool r.cast) :: frz false (.im false r.A r.cap r.ms.length (msV r.ms)) :: frzL false (rspsV l) = .bool r.cast :: .im false r.A r.cap r.ms.length (msV r.ms) :: rspsV l
    rw [ih fun x hx => h x (List.mem_cons_of_mem _ hx)]
    simp [frz, lentMs_ok (h r List.mem_cons_self)]
theorem net0_around (s : Scn) (nx : Nat) (c c' : Box) : Around nx (nx + 2) (net0 s (nx + 1) s.tapes.length).tp c [(nx, c), (nx + 1, c')] (nx + 1 + (2 + s.tapes.length)) := by
  refine ⟨by simp [getBox], fun e he => ?_, fun y hy => ?_⟩
  · have hk : e.1 = nx ∨ e.1 = nx + 1 := by
      simp only [List.mem_cons, List.not_mem_nil, or_false] at he
      rcases he with rfl | rfl <;> simp
    refine ⟨by omega, by omega, fun hx => ?_⟩
    rcases List.mem_cons.1 hx with hx | hx
    · omega
    · obtain ⟨j, hj, hje⟩ := List.mem_map.1 (show e.1 ∈ (List.range s.tapes.length).map (nx + 1 + 2 + ·) from hx)
      omega
  · rcases List.mem_cons.1 hy with rfl | hy
    · exact ⟨by omega, by omega⟩
    · obtain ⟨j, hj, rfl⟩ := List.mem_map.1 (show y ∈ (List.range s.tapes.length).map (nx + 1 + 2 + ·) from hy)
      have := List.mem_range.1 hj
      exact ⟨by omega, by omega⟩
theorem netM_at (F : RD → List V) (s : Scn) (a : Nat) : netM F s a s.tapes.length = (a, ⟨0, scL s⟩) :: (a + 1, ⟨0, netC (net0 s a s.tapes.length)⟩) :: tapB F (a + 2) s.tapes := by
  unfold netM
  rw [List.take_length]
@[simp] theorem ptrsL_rspsV (l : List RSp) : ptrsL (rspsV l) = [] := by
  induction l with
  | nil => rfl
  | cons r l ih =>
    show ptrs (.bool r.cast) ++ (ptrs (.im false r.A r.cap r.ms.length (msV r.ms)) ++ ptrsL (rspsV l)) = []
    rw [ih]; simp [ptrs]
/-- A view in order: of party i (from 1), of n parties, behind R rounds. -/
structure VwOk (i n R : Int) (v : List Ev) : Prop where
  e : ∀ e ∈ v, e.frm ≠ i ∧ 1 ≤ e.frm ∧ e.frm ≤ n ∧ 0 ≤ e.round ∧ e.round < R ∧ 0 < e.w.l.length
  s : v.Pairwise fun a b => a.round < b.round ∨ (a.round = b.round ∧ a.frm < b.frm)
theorem evs_frm (rd : Int) (w : Nat) (W : Nat → RD) : ∀ k : Nat, (∀ e ∈ (List.range k).flatMap (evOf rd w W), e.frm ≠ (w : Int) + 1 ∧ 1 ≤ e.frm ∧ e.frm ≤ k ∧ e.round = rd ∧ 0 < e.w.l.length) ∧ ((List.range k).flatMap (evOf rd w W)).Pairwise fun a b => a.frm < b.frm
  | 0 => ⟨fun e he => by simp at he, by simp⟩
  | k + 1 => by
    obtain ⟨h1, h2⟩ := evs_frm rd w W k
    have hev : ∀ e ∈ evOf rd w W k, e.frm = (k : Int) + 1 ∧ w ≠ k ∧ e.round = rd ∧ 0 < e.w.l.length := fun e he => by
      unfold evOf at he
      split at he
      · rename_i hc
        rw [List.mem_singleton] at he; subst he
        exact ⟨rfl, hc.1, rfl, hc.2⟩
      · cases he
    rw [List.range_succ, List.flatMap_append]
    simp only [List.flatMap_cons, List.flatMap_nil, List.append_nil]
    refine ⟨fun e he => ?_, ?_⟩
    · rcases List.mem_append.1 he with he | he
      · obtain ⟨a, b, c, d, f⟩ := h1 e he
        exact ⟨a, b, by omega, d, f⟩
      · obtain ⟨a, b, c, d⟩ := hev e he
        exact ⟨by omega, by omega, by omega, c, d⟩
    · rw [List.pairwise_append]
      refine ⟨h2, ?_, fun a ha b hb => ?_⟩
      · unfold evOf; split <;> simp
      · have := (h1 a ha).2.2.1
        have := (hev b hb).1
        omega
theorem VwOk.next {i n : Nat} {R : Int} {v : List Ev} (h : VwOk ((i : Int) + 1) n R v) (hR : 0 ≤ R) (W : Nat → RD) : VwOk ((i : Int) + 1) n (R + 1) (v ++ (List.range n).flatMap (evOf R i W)) := by
  obtain ⟨h1, h2⟩ := evs_frm R i W n
  refine ⟨fun e he => ?_, ?_⟩
  · rcases List.mem_append.1 he with he | he
    · obtain ⟨a, b, c, d, f, g⟩ := h.e e he
      exact ⟨a, b, c, d, by omega, g⟩
    · obtain ⟨a, b, c, d, f⟩ := h1 e he
      exact ⟨a, b, c, by omega, by omega, f⟩
  · rw [List.pairwise_append]
    refine ⟨h.s, h2.imp_of_mem fun ha hb hab => .inr ⟨by rw [(h1 _ ha).2.2.2.1, (h1 _ hb).2.2.2.1], hab⟩, fun a ha b hb => .inl ?_⟩
    have := (h.e a ha).2.2.2.2.1
    have := (h1 b hb).2.2.2.1
    omega
/-- What a round adds to a view. -/
theorem views_round (cp : List Nat → RD) (n : Nat) (σ : NetS) (r : RSp) (i : Nat) (hi : i < n) : ∃ W, (roundS cp n σ r).views[i]? = (σ.views[i]?).map fun v => v ++ (List.range n).flatMap (evOf σ.round i W) := by
  unfold roundS
  split
  · refine ⟨fun f => cp ((netTold σ ((firsts r.ms).map (·.l)))[f]?.getD []), ?_⟩
    show (hearB _ n n σ).views[i]? = _
    rw [views_hearB]
    simp only [if_pos hi]
  · refine ⟨fun f => cp (sw (netSaid σ n (mls r.ms)) f i), ?_⟩
    show (hearAll _ n n σ).views[i]? = _
    rw [views_hearAll]
    simp only [if_pos hi]
theorem rsV_lent2 (b : Bool) (rs : List RD) : frzL false (frzL b (rsV rs)) = rsV (rs.map lent) := by
  induction rs with
  | nil => rfl
  | cons r l ih => show frz false (frz b (rV r)) :: frzL false (frzL b (rsV l)) = rV (lent r) :: rsV (l.map lent); rw [ih]; simp [rV, frz, lent]
end Go.Abs
end
/- Reckoning with the evaluator: at a branch the condition alone is reckoned first. -/
set_option linter.unusedVariables false
noncomputable section
namespace Go.Abs
open Go
@[congr] theorem condE_congr {x y : Option V} (A B : Prop) (h : x = y) : condE x A B = condE y A B := by rw [h]
/-- A piece that ends as it should, cut off. -/
theorem EvP.cutN {P : Program} {H : Hint} {C : Callee} {f k : Nat} {c : Code} {D : St} {Q : Ex → St → Prop} (K : St → Prop) (h1 : EvP P H C f k c D (thenE K fun _ _ => False)) (h2 : ∀ D1, K D1 → Q .norm D1) : EvP P H C f k c D Q :=
  h1.mono fun e D1 h => by
    cases e with
    | norm => exact h2 D1 h
    | ret => exact h.elim
    | exit i => exact h.elim
end Go.Abs
end
/- The seat of privitylaw14: NetworkViewOrder. -/
set_option linter.unusedVariables false
noncomputable section
namespace Go.Abs
open Go Go.Proofs
set_option maxRecDepth 100000
open Classical in
set_option maxHeartbeats 8000000 in
theorem law6 (p : Exe) (hA : ExeA p) : ∃ N, AnsN N Tryd.prog H14 6 [exeV p] (.bool true) := by
  obtain ⟨N12, hN12⟩ := awake12
  by_cases hF : FairE p
  case neg =>
    refine ⟨max N12 2000 + 1, AnsN.of (fn := Tryd.f6) (t := 2) (by rfl) Tryd.func6 rfl rfl (by rfl) (by rfl) fun k hk nx => ?_⟩
    have c12 := callP (k := k) hN12 (by omega) (by simp [ptrsL]) rfl
    have h1 := hA.w.e1
    have h2 := hA.w.e2
    have h3 := hA.w.e3
    have hlt := lents_ok hA.w.r
    have hrs := frzL_rsps fun r hr => (hA.m r hr).2
    have c15 := callP (k := k) (fair15 p hA) (by omega) (by simp [ptrsL, ptrs, exeV, exeL]) rfl
    rw [decide_eq_false hF] at c15
    simp only [exeV, exeL, h1, h2, h3] at c15
    simp [-EvK_app, -reach, -doCall, doCall_eq, entryS, exeV, exeL, h1, h2, h3]
    rw [EvK_app]
    simp [-EvK_app, -reach, -doCall, doCall_eq, c12]
    rw [EvK_app]
    simp [-reach, -doCall, doCall_eq, hlt, hrs, c15]
  obtain ⟨⟨f1, f2, f3, f4, hs⟩, hL, hrds⟩ := id hF
  have hn413 := scnS_n hs
  have hr1000 : ∀ r ∈ p.w.tapes, r.l.length ≤ 1000 := fun r h => by have := f4 r h; omega
  obtain ⟨N, hN⟩ := new_ex p.w hs (by omega) (by omega) hr1000 hA.w.k
  refine ⟨max (max N12 1200000) (max N 100 + 1) + 1, AnsN.of (fn := Tryd.f6) (t := 2) (by rfl) Tryd.func6 rfl rfl (by rfl) (by rfl) fun k hk nx => ?_⟩
  have c12 := callP (k := k) hN12 (by omega) (by simp [ptrsL]) rfl
  have h1 := hA.w.e1
  have h2 := hA.w.e2
  have h3 := hA.w.e3
  have hlt := lents_ok hA.w.r
  have hrs := frzL_rsps fun r hr => (hA.m r hr).2
  have c15 := callP (k := k) (fair15 p hA) (by omega) (by simp [ptrsL, ptrs, exeV, exeL]) rfl
  rw [decide_eq_true hF] at c15
  simp only [exeV, exeL, h1, h2, h3] at c15
  obtain ⟨n, hn⟩ : ∃ n, p.w.tapes.length = n := ⟨_, rfl⟩
  have hnn : p.w.n = (n : Int) := by rw [← hn]; exact hs.2.1.symm
  obtain ⟨F, hFd⟩ : ∃ F : RD → List V, (fun w => tapeC (lent w) 0) = F := ⟨_, rfl⟩
  have hFp : ∀ w, ptrsL (F w) = [] := fun w => by rw [← hFd]; exact ptrsL_tapeC _ _
  obtain ⟨tb, htb⟩ : ∃ tb, tapB F (nx + 1 + 2) p.w.tapes = tb := ⟨_, rfl⟩
  obtain ⟨σ0, hσ0⟩ : ∃ σ0, net0 p.w (nx + 1) p.w.tapes.length = σ0 := ⟨_, rfl⟩
  obtain ⟨x0, hx0⟩ : ∃ x0, nx + 1 + (2 + p.w.tapes.length) = x0 := ⟨_, rfl⟩
  have I0 : NetI N (nx + 2) σ0 tb := by rw [← hσ0, ← htb]; exact net0_I F hFp p.w (nx + 1) hs hN (scnS_pq hs) hn413.2 (by omega)
  have A0 : Around nx (nx + 2) σ0.tp ⟨0, exeL p⟩ [(nx, ⟨0, exeL p⟩), (nx + 1, ⟨0, scL p.w⟩)] x0 := by rw [← hσ0, ← hx0]; exact net0_around p.w nx _ _
  have c13 := fun st dst => call13 p.w st [(nx, ⟨0, exeL p⟩)] (nx + 1) dst (by omega) (by omega) hr1000 hs (k := k) (by omega)
  rw [hFd, netM_at, hσ0, hx0, htb] at c13
  simp only [scV, scL, exeL, h1, h2, h3] at c13
  simp [-EvK_app, -reach, -doCall, doCall_eq, entryS, exeV, exeL, h1, h2, h3]
  rw [EvK_app]
  simp [-EvK_app, -reach, -doCall, doCall_eq, c12]
  rw [EvK_app]
  simp [-EvK_app, -reach, -doCall, doCall_eq, c12]
  refine EvK_cut (fun D => D.s 1 = .bptr nx 0 ∧ D.m = [(nx, ⟨0, exeL p⟩)] ∧ D.nx = nx + 1) (by simp [exeL, h1, h2, h3]) fun D ⟨d1, dm, dx⟩ => ?_
  simp [-EvK_app, -reach, -doCall, doCall_eq, d1, dm, dx, exeL, h1, h2, h3, hlt, hrs, c15]
  rw [EvK_app]
  simp [-EvK_app, d1, dm, dx]
  refine EvK_cut (fun D => D.s 1 = .bptr nx 0 ∧ D.m = [(nx, ⟨0, exeL p⟩)] ∧ D.nx = nx + 1) (by simp [exeL, h1, h2, h3, d1]) fun D ⟨d1, dm, dx⟩ => ?_
  simp [-EvK_app, -reach, -doCall, doCall_eq, d1, dm, dx, exeL, h1, h2, h3, hlt, c13]
  refine EvK_cut (fun D => D.s 1 = .bptr nx 0 ∧ D.s 3 = .bptr (nx + 2) 0 ∧ D.s 4 = .int .i64 0 ∧ D.m = [(nx, ⟨0, exeL p⟩), (nx + 1, ⟨0, scL p.w⟩)] ++ (nx + 2, ⟨0, netC σ0⟩) :: tb ∧ D.nx = x0) (by simp [d1, exeL, scL, h1, h2, h3]) fun D ⟨d1, d3, d4, dm, dx⟩ => ?_
  simp [-EvK_app, d1, d3, d4, dm, dx]
  rw [EvK_app]
  simp [-EvK_app, d1, d3, d4, dm, dx]
  refine EvK_cut (fun D => D.s 1 = .bptr nx 0 ∧ D.s 3 = .bptr (nx + 2) 0 ∧ D.m = [(nx, ⟨0, exeL p⟩), (nx + 1, ⟨0, scL p.w⟩)] ++ (nx + 2, ⟨0, netC σ0⟩) :: tb ∧ D.nx = x0) (by simp [d1, d3]) fun D ⟨d1, d3, dm, dx⟩ => ?_
  simp [-EvK_app, d1, d3, dm, dx]
  rw [EvK_app]
  simp only [ev_block]
  obtain ⟨I, hI⟩ : ∃ I : Nat → St → Prop, I = fun q D => ∃ (i : Nat) (σ : NetS), q = p.l.length - i ∧ i ≤ p.l.length ∧ D.s 1 = .bptr nx 0 ∧ D.s 3 = .bptr (nx + 2) 0 ∧ D.s 5 = .int .i64 (i : Int) ∧ D.m = [(nx, ⟨0, exeL p⟩), (nx + 1, ⟨0, scL p.w⟩)] ++ (nx + 2, ⟨0, netC σ⟩) :: tb ∧ D.nx = x0 ∧ NetI N (nx + 2) σ tb ∧ σ.scn = p.w ∧ σ.round = i ∧ σ.tp = σ0.tp ∧ ∀ (w : Nat) v, w < n → σ.views[w]? = some v → VwOk ((w : Int) + 1) n i v := ⟨_, rfl⟩
  have hV0 : ∀ (w : Nat) v, w < n → σ0.views[w]? = some v → VwOk ((w : Int) + 1) n (0 : Nat) v := fun w v hw hv => by
    rw [← hσ0] at hv
    have : v = [] := (List.mem_replicate.1 (List.mem_of_getElem? (show (List.replicate p.w.n.toNat ([] : List Ev))[w]? = some v from hv))).2
    subst this
    exact ⟨fun e he => (by cases he), List.Pairwise.nil⟩
  refine EvP.loop I (n := p.l.length) (by rw [hI]; exact ⟨0, σ0, by simp, by simp, by simp [d1], by simp [d3], by simp, by simp, by simp, I0, by rw [← hσ0]; rfl, by rw [← hσ0]; rfl, rfl, hV0⟩) (by omega) fun q D hD => ?_
  rw [hI] at hD
  obtain ⟨i, σ, rfl, hi, d1, d3, d5, dm, dx, IN, hsc, hrd, htp, hV⟩ := hD
  have A1 : Around nx (nx + 2) σ.tp ⟨0, exeL p⟩ [(nx, ⟨0, exeL p⟩), (nx + 1, ⟨0, scL p.w⟩)] x0 := by rw [htp]; exact A0
  obtain ⟨M, hM⟩ : ∃ M : List (Nat × Box), [(nx, ⟨0, exeL p⟩), (nx + 1, ⟨0, scL p.w⟩)] ++ (nx + 2, ⟨0, netC σ⟩) :: tb = M := ⟨_, rfl⟩
  rw [hM] at dm
  have gM : getBox M nx = some ⟨0, exeL p⟩ := by rw [← hM]; exact A1.get
  simp only [exeL, h1, h2, h3] at gM
  have hMn := A1.mem IN.hT
  rw [hM] at hMn
  by_cases hil : i < p.l.length
  · have e3 := wrap_succ (q := i) (by omega)
    have p1 := rspsV_drop hil
    obtain ⟨r, hr⟩ : ∃ r, p.l[i] = r := ⟨_, rfl⟩
    rw [hr] at p1
    have hrok : RoundOk p.w.p (n : Int) r := by rw [← hnn, ← hr]; exact hrds _ (List.getElem_mem hil)
    obtain ⟨hrl, hrm⟩ := rounds_ms hrok
    have hmA : ∀ m ∈ r.ms, MdOk m := hr ▸ (hA.m _ (List.getElem_mem hil)).2
    have hlm := lentMs_ok hmA
    have hlf := firsts_ok hmA
    have hns : (r.ms.length : Int) = σ.scn.n := by rw [hsc, hnn, hrl]
    have c17 := callP (broadcasts17 false r.A r.cap r.ms (by omega) fun m hm => by have := (hrok.2 m hm).1; omega) (k := k) (by omega) (by simp) rfl
    have IR := IN.round cpW r (n := n) (by rw [← hrl]; exact hns)
    have hR := like_roundS cpW n σ r
    obtain ⟨M', hM'⟩ : ∃ M' : List (Nat × Box), [(nx, ⟨0, exeL p⟩), (nx + 1, ⟨0, scL p.w⟩)] ++ (nx + 2, ⟨0, netC (roundS cpW n σ r)⟩) :: tb = M' := ⟨_, rfl⟩
    have fin : ∃ τ, M' = [(nx, ⟨0, exeL p⟩), (nx + 1, ⟨0, scL p.w⟩)] ++ (nx + 2, ⟨0, netC τ⟩) :: tb ∧ NetI N (nx + 2) τ tb ∧ τ.scn = p.w ∧ τ.round = ((i + 1 : Nat) : Int) ∧ τ.tp = σ0.tp ∧ ∀ (w : Nat) v, w < n → τ.views[w]? = some v → VwOk ((w : Int) + 1) n ((i + 1 : Nat) : Int) v := by
      refine ⟨_, hM'.symm, IR, hR.1.trans hsc, by rw [hR.2.2, hrd]; omega, hR.2.1.trans htp, fun w v hw hv => ?_⟩
      obtain ⟨W, hW⟩ := views_round cpW n σ r w hw
      rw [hW] at hv
      cases hu : σ.views[w]? with
      | none => rw [hu] at hv; cases hv
      | some u =>
        rw [hu] at hv
        have : v = u ++ (List.range n).flatMap (evOf σ.round w W) := (Option.some.inj hv).symm
        subst this
        have := (hV w u hw hu).next (by omega) W
        rw [hrd]
        exact this
    obtain ⟨τ, t1, t2, t3, t4, t5, t6⟩ := fin
    cases hc : r.cast with
    | true =>
      have hcs : castS cpW (netTold σ ((firsts r.ms).map (·.l))) r.ms.length σ = roundS cpW n σ r := by unfold roundS; rw [hc, hrl]; rfl
      have hfl := firsts_length r.ms
      have c16 := fun st dst => A1.call IN.hT IN.hl (like_castS _ _ _ _).2.1 (IN.cast16 (g := 0) (by omega) false none 0 (firsts r.ms) (by rw [hfl]; exact hns) (by rw [hsc]; exact rounds_ls hrok)) (k := k) (by omega) (by simp [ptrsL, ptrs]) rfl st dst
      rw [hM, hfl, hcs, hM'] at c16
      simp [-reach, -doCall, doCall_eq, d1, d3, d5, dm, dx, gM, hil, p1, hc, hlm, c17, rsV_lent2, hlf, c16, e3]
      subst hI
      exact ⟨p.l.length - (i + 1), by omega, i + 1, τ, rfl, by omega, by simp [d1], by simp [d3], by simp, t1, rfl, t2, t3, t4, t5, t6⟩
    | false =>
      have hcs : sentS cpW (netSaid σ r.ms.length (mls r.ms)) r.ms.length σ = roundS cpW n σ r := by unfold roundS; rw [hc, hrl]; rfl
      have c18 := fun st dst => A1.call IN.hT IN.hl (like_sentS _ _ _ _).2.1 (IN.send18 (g := 0) (by omega) false r.A r.cap r.ms hns (by rw [hsc, hrl]; exact hrm)) (k := k) (by omega) (by simp [ptrsL, ptrs]) rfl st dst
      rw [hM, hcs, hM'] at c18
      simp [-reach, -doCall, doCall_eq, d1, d3, d5, dm, dx, gM, hil, p1, hc, hlm, c18, e3, inV]
      subst hI
      exact ⟨p.l.length - (i + 1), by omega, i + 1, τ, rfl, by omega, by simp [d1], by simp [d3], by simp, t1, rfl, t2, t3, t4, t5, t6⟩
  · have hie : i = p.l.length := by omega
    subst hie
    simp [-EvK_app, d1, d3, d5, dm, dx, gM]
    rw [EvK_app]
    simp [-EvK_app, d1, d3, d5, dm, dx, gM]
    refine EvK_cut (fun D => D.s 1 = .bptr nx 0 ∧ D.s 3 = .bptr (nx + 2) 0 ∧ D.m = M ∧ D.nx = x0) (by simp [d1, d3]) fun D ⟨d1, d3, dm, dx⟩ => ?_
    simp [-EvK_app, d1, d3, dm, dx, gM]
    rw [EvK_app]
    simp only [ev_seq, ev_block]
    have hvl : σ.views.length = n := by have := IN.hv; rw [hsc, hnn] at this; omega
    obtain ⟨R, hR⟩ : ∃ R, p.l.length = R := ⟨_, rfl⟩
    obtain ⟨J, hJ⟩ : ∃ J : Nat → St → Prop, J = fun q D => ∃ w : Nat, q = n - w ∧ w ≤ n ∧ D.s 1 = .bptr nx 0 ∧ D.s 3 = .bptr (nx + 2) 0 ∧ D.s 6 = .int .i64 ((w : Int) + 1) ∧ D.m = M ∧ D.nx = x0 := ⟨_, rfl⟩
    refine EvP.loop J (n := n) (by rw [hJ]; exact ⟨0, by simp, by simp, by simp [d1], by simp [d3], by simp, by simp, by simp⟩) (by omega) fun q D hD => ?_
    rw [hJ] at hD
    obtain ⟨w, rfl, hw, d1, d3, d6, dm, dx⟩ := hD
    by_cases hwl : w < n
    · have g1 : (w : Int) + 1 ≤ p.w.n := by omega
      have e3 : IntKind.i64.wrap ((w : Int) + 1 + 1) = ((w + 1 : Nat) : Int) + 1 := by rw [wrap_nat (by omega) (by omega)]; omega
      obtain ⟨es, hes⟩ : ∃ es, σ.views[w]'(by omega) = es := ⟨_, rfl⟩
      have hes? : σ.views[w]? = some es := by rw [List.getElem?_eq_getElem (by omega), hes]
      have hvo := hV w es hwl hes?
      have hesl : es.length ≤ 999000 := by rw [← hes]; exact IN.VB (by omega) _ (List.getElem_mem _)
      have c23 := fun st dst => A1.call IN.hT IN.hl rfl (view23 (nx + 2) 0 σ tb IN.hT w (by omega) (by omega) (by rw [hes]; omega)) (k := k) (by omega) (by simp [ptrsL, ptrs]) rfl st dst
      rw [hM, hes] at c23
      simp only [viewV] at c23
      simp [-reach, -doCall, doCall_eq, d1, d3, d6, dm, dx, gM, g1, c23]
      obtain ⟨K, hK⟩ : ∃ K : Nat → St → Prop, K = fun q D => ∃ j : Nat, q = es.length - j ∧ j ≤ es.length ∧ D.s 1 = .bptr nx 0 ∧ D.s 3 = .bptr (nx + 2) 0 ∧ D.s 6 = .int .i64 ((w : Int) + 1) ∧ D.s 7 = .own .nil 0 es.length (evsC es) ∧ D.s 8 = .int .i64 (j : Int) ∧ D.m = M ∧ D.nx = x0 := ⟨_, rfl⟩
      refine EvP.loop K (n := es.length) (by rw [hK]; exact ⟨0, by simp, by simp, by simp [d1], by simp [d3], by simp [d6], by simp, by simp, by simp, by simp⟩) (by omega) fun q D hD => ?_
      rw [hK] at hD
      obtain ⟨j, rfl, hj, d1, d3, d6, d7, d8, dm, dx⟩ := hD
      by_cases hjl : j < es.length
      · have e4 := wrap_succ (q := j) (by omega)
        obtain ⟨q1, q2, q3, q4, q5, q6⟩ := hvo.e _ (List.getElem_mem hjl)
        have q7 : ∀ (h : 0 < j), es[j - 1].round < es[j].round ∨ (es[j - 1].round = es[j].round ∧ es[j - 1].frm < es[j].frm) := fun h => List.pairwise_iff_getElem.1 hvo.s (j - 1) j (by omega) hjl (by omega)
        have p1 := evsC_drop hjl
        have v1 : ∀ c, (evsC es)[j * 3 + c]? = ((evsC es).drop (j * 3))[c]? := fun c => by rw [List.getElem?_drop]
        have u0 : (evsC es)[j * 3]? = some (.int .i64 es[j].round) := by have := v1 0; rw [p1] at this; simpa using this
        have u1 : (evsC es)[j * 3 + 1]? = some (.int .i64 es[j].frm) := by rw [v1, p1]; rfl
        have u2 : (evsC es)[j * 3 + 2]? = some (rV es[j].w) := by rw [v1, p1]; rfl
        have g0 : ∀ h, (evsC es)[j * 3]'h = .int .i64 es[j].round := fun h => by rw [List.getElem?_eq_getElem h] at u0; exact Option.some.inj u0
        have k1 : (es[j].frm == (w : Int) + 1) = false := by simpa using q1
        have k2 : ¬ es[j].frm < 1 := by omega
        have k3 : ¬ es[j].frm > p.w.n := by omega
        have k4 : ¬ es[j].round < 0 := by omega
        have k5 : ¬ es[j].round ≥ (R : Int) := by omega
        have k6 : ((es[j].w.l.length : Int) == 0) = false := by
          have : es[j].w.l.length ≠ 0 := by omega
          simpa using this
        simp [-EvK_app, d1, d3, d6, d7, d8, dm, dx, hjl]
        rw [EvK_app]
        simp [-EvK_app]
        rw [EvK_app]
        simp only [ev_seq, ev_block]
        simp [-EvK_app, d1, d3, d6, d7, d8, dm, dx, hjl, gM, hR, g0, u1, u2, rV, k1, k2, k3, k4, k5, k6]
        rw [EvK_app]
        simp [-EvK_app]
        refine EvK_cut (fun D => D.s 1 = .bptr nx 0 ∧ D.s 3 = .bptr (nx + 2) 0 ∧ D.s 6 = .int .i64 ((w : Int) + 1) ∧ D.s 7 = .own .nil 0 es.length (evsC es) ∧ D.s 8 = .int .i64 (j : Int) ∧ D.m = M ∧ D.nx = x0) (by simp [d1, d3, d6, d7, d8]) fun D ⟨d1, d3, d6, d7, d8, dm, dx⟩ => ?_
        by_cases hj0 : 0 < j
        · have hjp : j - 1 < es.length := by omega
          have p1' := evsC_drop hjp
          have v1' : ∀ c, (evsC es)[(j - 1) * 3 + c]? = ((evsC es).drop ((j - 1) * 3))[c]? := fun c => by rw [List.getElem?_drop]
          have u0' : (evsC es)[(j - 1) * 3]? = some (.int .i64 es[j - 1].round) := by have := v1' 0; rw [p1'] at this; simpa using this
          have u1' : (evsC es)[(j - 1) * 3 + 1]? = some (.int .i64 es[j - 1].frm) := by rw [v1', p1']; rfl
          have g0' : ∀ h, (evsC es)[(j - 1) * 3]'h = .int .i64 es[j - 1].round := fun h => by rw [List.getElem?_eq_getElem h] at u0'; exact Option.some.inj u0'
          obtain ⟨j', hj'⟩ : ∃ j', j - 1 = j' := ⟨_, rfl⟩
          have e5 : IntKind.i64.wrap ((j : Int) - 1) = (j' : Int) := by rw [wrap_nat (by omega) (by omega)]; omega
          have q8 := q7 hj0
          simp only [hj'] at hjp u0' u1' g0' q8
          have m1 : (j : Int) > 0 := by omega
          have m2 : ¬ es[j].round < es[j'].round := by omega
          by_cases hre : es[j].round = es[j'].round
          · have m3 : (es[j].round == es[j'].round) = true := by simpa using hre
            have m4 : ¬ es[j].frm ≤ es[j'].frm := by omega
            simp [d1, d3, d6, d7, d8, dm, dx, hjl, hjp, g0, u1, g0', u1', e5, hj0, m1, m2, m3, m4, e4]
            subst hK
            exact ⟨es.length - (j + 1), by omega, j + 1, rfl, by omega, by simp [d1], by simp [d3], by simp [d6], by simp [d7], by simp, rfl, rfl⟩
          · have m3 : (es[j].round == es[j'].round) = false := by simpa using hre
            simp [d1, d3, d6, d7, d8, dm, dx, hjl, hjp, g0, u1, g0', u1', e5, hj0, m1, m2, m3, e4]
            subst hK
            exact ⟨es.length - (j + 1), by omega, j + 1, rfl, by omega, by simp [d1], by simp [d3], by simp [d6], by simp [d7], by simp, rfl, rfl⟩
        · have hj00 : j = 0 := by omega
          have m1 : ¬ (j : Int) > 0 := by omega
          simp [d1, d3, d6, d7, d8, dm, dx, hj0, m1, e4]
          subst hK
          exact ⟨es.length - (j + 1), by omega, j + 1, rfl, by omega, by simp [d1], by simp [d3], by simp [d6], by simp [d7], by simp, rfl, rfl⟩
      · have hje : j = es.length := by omega
        subst hje
        simp [d1, d3, d6, d7, d8, dm, dx, e3]
        subst hJ
        exact ⟨n - (w + 1), by omega, w + 1, rfl, by omega, by simp [d1], by simp [d3], by simp, rfl, rfl⟩
    · have hwe : w = n := by omega
      have g1 : ¬ ((w : Int) + 1 ≤ p.w.n) := by omega
      subst hwe
      simp [d1, d3, d6, dm, dx, gM, g1]
      exact fun a b h => (hMn (a, b) h).1
end Go.Abs
end
