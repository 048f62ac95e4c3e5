/- Joined: AbsNYB AbsNYC AbsNYD AbsNYE AbsNYF. -/
import Derived.Test.YtjdgcblikhkioaaDoorAbs7
import Derived.Test.YtjdgcblikhkioaaDoorAbs22
import Derived.Test.YtjdgcblikhkioaaDoorRows
import Derived.ProofKit
import Derived.LaidMore
import Derived.OpenShut
import Derived.Stop.Joined
set_option linter.all false
/- The seat of privitylaw14: the table that is laid; what all rows need. -/
set_option linter.unusedVariables false
namespace Go.Abs
open Go Go.Proofs Go.ChangeShapes Go.WideShapes Go.ChangeAt Go.WideElems Go.RowKit Go.Proofs.YtjdgcblikhkioaaDoor

theorem own14 : ownKnob Tryd.prog.godebug = none := by kernel_rfl
theorem laidOut14 : laidOutB Tryd.prog = true := by kernel_rfl
theorem gExps : Tryd.prog.globalNamed "privity/field.exps" = some 0 := by kernel_rfl
theorem tExps : (Tryd.prog.globals[0]?).map (·.type) = some 122 := by kernel_rfl
def laid14 : List (String × DataW Unit) := [("privity/field.exps", Rows.laid_privity_field_exps)]
theorem door_met (os : Os) (args : Array Value) : laidMetH Tryd.prog laid14 ((World.doorLaid Tryd.prog 400 os).forCall (fun _ _ => 0) ⟨#[], args, []⟩).memory :=
  laidMetH_of_parts3 (fuel := 8) (laidMet_of_run' 8 (by kernel_rfl) (by kernel_rfl)) (by kernel_rfl) (by kernel_rfl)
theorem of_laid {W : World} (h : laidMetH Tryd.prog laid14 W) : Table W 0 exps14 := by
  rw [MakeChecks.laidMetH_plain _ _ _ (by kernel_rfl)] at h
  obtain ⟨ps, ⟨g0, t0, cs0, f0, p0, q0, hg0, ht0, hv0, hd0, _, _⟩, _, _⟩ := h
  obtain rfl := Option.some.inj (gExps.symm.trans hg0)
  obtain rfl := Option.some.inj (tExps.symm.trans ht0)
  obtain ⟨xs, m1, rfl, hx1, hlen, hn, hel⟩ := DataW.trod_array Tryd.underlying122 hd0
  have c3 : Tryd.prog.cellsOf 3 = 1 := by kernel_rfl
  simp only [Prod.mk.injEq] at hx1
  have hx2 : xs.map (·.1) = exps14.map fun x => DataW.lit (.int .i64 x) := (DataW.agg.inj hx1.1).symm
  intro j x hj
  have hj7 : j < 7 := by
    have := (List.getElem?_eq_some_iff.1 hj).1
    simpa [exps14] using this
  have h := hel j hj7
  have hxj : j < xs.length := by omega
  rw [c3, Nat.mul_one, List.getElem?_eq_getElem hxj] at h
  obtain ⟨k, e1, e2, _⟩ := DataW.trod_int Tryd.underlying3 h
  have hk : k = x := by
    have e3 := congrArg (fun l => l[j]?) hx2
    simp only [List.getElem?_map, hj, List.getElem?_eq_getElem hxj, Option.map_some, Option.some.injEq] at e3
    rw [e2] at e3
    simpa using e3
  subst hk
  have hc := World.var?_cell hg0 hv0 j
  rw [hc]
  have h0 : (cs0.toList.drop j)[0]? = some (.int .i64 k) := by
    have : ((cs0.toList.drop j).take 1)[0]? = some (.int .i64 k) := by rw [e1]; rfl
    rwa [List.getElem?_take_of_lt (by omega)] at this
  rw [List.getElem?_drop, Nat.add_zero, Array.getElem?_toList] at h0
  exact h0
end Go.Abs
/- The seat of privitylaw14: Fair, fair. -/
set_option linter.unusedVariables false
noncomputable section
namespace Go.Abs
open Go Go.Proofs
set_option maxRecDepth 100000
def FairS (s : Scn) (lies words : Nat) : Prop := s.devs.length ≤ lies ∧ s.tapes.length ≤ 13 ∧ s.corrupt.length ≤ 13 ∧ (∀ r ∈ s.tapes, r.l.length ≤ words) ∧ ScnS s
theorem FairS.lent {s : Scn} {a b : Nat} : FairS (lentS s) a b ↔ FairS s a b := by
  have e1 : (lentS s).tapes = s.tapes.map Abs.lent := rfl
  unfold FairS
  rw [scnS_lent, e1, List.length_map]
  constructor
  · rintro ⟨h1, h2, h3, h4, h5⟩
    exact ⟨h1, h2, h3, fun r hr => h4 (Abs.lent r) (List.mem_map_of_mem hr), h5⟩
  · rintro ⟨h1, h2, h3, h4, h5⟩
    refine ⟨h1, h2, h3, fun r hr => ?_, h5⟩
    obtain ⟨x, hx, rfl⟩ := List.mem_map.1 hr
    exact h4 x hx
open Classical in
set_option maxHeartbeats 4000000 in
/-- Fair(w, lies, words) -/
theorem fair30 (s : Scn) (lies words : Nat) (hl : lies ≤ 1000) (hw : words ≤ 1000) : AnsN 1112 Tryd.prog H14 30 [scV s, .int .i64 (lies : Int), .int .i64 (words : Int)] (.bool (decide (FairS s lies words))) := by
  refine AnsN.of (fn := Tryd.f30) (t := 6) (by rfl) Tryd.func30 rfl rfl (by rfl) (by rfl) fun k hk nx => ?_
  by_cases b1 : s.devs.length ≤ lies
  · have g1 : ¬ ((s.devs.length : Int) > (lies : Int)) := by omega
    by_cases b2 : s.tapes.length ≤ 13
    · have g2 : ¬ ((s.tapes.length : Int) > 13) := by omega
      by_cases b3 : s.corrupt.length ≤ 13
      · have g3 : ¬ ((s.corrupt.length : Int) > 13) := by omega
        simp [entryS, g1, g2, g3, scV, scL]
        obtain ⟨I, hI⟩ : ∃ I : Nat → St → Prop, I = fun q D => ∃ i : Nat, q = s.tapes.length - i ∧ i ≤ s.tapes.length ∧ (∀ r ∈ s.tapes.take i, r.l.length ≤ words) ∧ D.s 2 = .int .i64 (words : Int) ∧ D.s 3 = .bptr nx 0 ∧ D.s 7 = .int .i64 (i : Int) ∧ D.m = [(nx, ⟨0, scL s⟩)] ∧ D.nx = nx + 1 := ⟨_, rfl⟩
        refine EvP.loop I (n := s.tapes.length) (by rw [hI]; exact ⟨0, by simp [scL]⟩) (by omega) fun q D hD => ?_
        rw [hI] at hD
        obtain ⟨i, rfl, hi, hpre, d2, d3, d7, dm, dx⟩ := hD
        by_cases hil : i < s.tapes.length
        · have e3 := wrap_succ (q := i) (by omega)
          by_cases h50 : (s.tapes[i]).l.length ≤ words
          · have g4 : ¬ (((s.tapes[i]).l.length : Int) > (words : Int)) := by omega
            simp [d2, d3, d7, dm, dx, scL, hil, g4, e3]
            subst hI
            refine ⟨s.tapes.length - (i + 1), by omega, i + 1, rfl, by omega, fun r hr => ?_, by simp [d2], by simp [d3], by simp, rfl, rfl⟩
            rw [List.take_succ_eq_append_getElem hil, List.mem_append, List.mem_singleton] at hr
            rcases hr with hr | rfl
            · exact hpre r hr
            · exact h50
          · have g4 : ((s.tapes[i]).l.length : Int) > (words : Int) := by omega
            have hn : ¬ FairS s lies words := fun h => h50 (h.2.2.2.1 _ (List.getElem_mem hil))
            simp [d2, d3, d7, dm, dx, scL, hil, g4, hn]
        · have hie : i = s.tapes.length := by omega
          subst hie
          have hr : ∀ r ∈ s.tapes, r.l.length ≤ words := fun r hr => hpre r (by rw [List.take_length]; exact hr)
          have c37 := callP (scen37 (lentS s) (by show s.devs.length ≤ 1000; omega) (by show (s.tapes.map lent).length ≤ 1000; rw [List.length_map]; omega) (lentS_r fun r h => by have := hr r h; omega)) (k := k) (by omega) (ptrsL_scV _) rfl
          have hb : decide (ScnS (lentS s)) = decide (FairS s lies words) := decide_eq_decide.2 ⟨fun h => ⟨b1, b2, b3, hr, (scnS_lent s).1 h⟩, fun h => (scnS_lent s).2 h.2.2.2.2⟩
          rw [hb] at c37
          simp only [scV, scL, lentS, List.length_map] at c37
          simp [-doCall, doCall_eq, d2, d3, d7, dm, dx, scL, c37]
      · have g3 : (s.corrupt.length : Int) > 13 := by omega
        have hn : ¬ FairS s lies words := fun h => b3 h.2.2.1
        simp [entryS, g1, g2, g3, scV, scL, hn]
    · have g2 : (s.tapes.length : Int) > 13 := by omega
      have hn : ¬ FairS s lies words := fun h => b2 h.2.1
      simp [entryS, g1, g2, scV, scL, hn]
  · have g1 : (s.devs.length : Int) > (lies : Int) := by omega
    have hn : ¬ FairS s lies words := fun h => b1 h.1
    simp [entryS, g1, scV, scL, hn]
end Go.Abs
end
/- The seat of privitylaw14: calls on a tape. -/
set_option linter.unusedVariables false
noncomputable section
namespace Go.Abs
open Go Go.Proofs
set_option maxRecDepth 100000
theorem getBox_nodup {t : Nat} {c : Box} : ∀ {m : List (Nat × Box)}, (m.map (·.1)).Nodup → (t, c) ∈ m → getBox m t = some c
  | (i, d) :: m, hn, h => by
    rw [List.map_cons, List.nodup_cons] at hn
    unfold getBox
    rcases List.mem_cons.1 h with h | h
    · cases h; rw [if_pos rfl]
    · have : ¬ i = t := fun e => hn.1 (e ▸ List.mem_map_of_mem (f := (·.1)) h)
      rw [if_neg this]
      exact getBox_nodup hn.2 h
theorem filter_key {t : Nat} {c : Box} : ∀ {m : List (Nat × Box)}, (m.map (·.1)).Nodup → (t, c) ∈ m → (m.filter fun e => ([t] : List Nat).contains e.1) = [(t, c)]
  | (i, d) :: m, hn, h => by
    rw [List.map_cons, List.nodup_cons] at hn
    rcases List.mem_cons.1 h with h | h
    · cases h
      have : (m.filter fun e => ([t] : List Nat).contains e.1) = [] := List.filter_eq_nil_iff.2 fun e he hc => by
        have : e.1 = t := by simpa using hc
        exact hn.1 (this ▸ List.mem_map_of_mem (f := (·.1)) he)
      rw [List.filter_cons_of_pos (by simp), this]
    · have hi : ¬ i = t := fun e => hn.1 (e ▸ List.mem_map_of_mem (f := (·.1)) h)
      rw [List.filter_cons_of_neg (by simpa using hi)]
      exact filter_key hn.2 h
theorem filter_none {ids : List Nat} {m : List (Nat × Box)} (h : ∀ e ∈ m, e.1 ∉ ids) : (m.filter fun e => ids.contains e.1) = [] := List.filter_eq_nil_iff.2 fun e he => by
  rw [List.contains_iff_mem]; exact h e he
theorem filter_all {ids : List Nat} {m : List (Nat × Box)} (h : ∀ e ∈ m, e.1 ∉ ids) : (m.filter fun e => !ids.contains e.1) = m := List.filter_eq_self.2 fun e he => by
  rw [Bool.not_eq_true', ← Bool.not_eq_true, List.contains_iff_mem]; exact h e he
section
variable {b g t g' N k nx : Nat} {σ : NetS} {tb O : List (Nat × Box)} {w : RD} {q q' : Int} {n : Int} {r : V}
theorem tapeCall (hT : TB b σ.tp tb) (hm : (t, (⟨g', tapeC w q⟩ : Box)) ∈ tb) (hd : ∀ e ∈ O, e.1 ∉ b :: σ.tp) (hans : AnsM N Tryd.prog H14 32 [.bptr t 0, .int .i64 n] [(t, ⟨g', tapeC w q⟩)] r [(t, ⟨g', tapeC w q'⟩)]) (hk : N ≤ k) (hlt : t < nx) :
    ∃ tb', TB b σ.tp tb' ∧ tb'.length = tb.length ∧ (t, (⟨g', tapeC w q'⟩ : Box)) ∈ tb' ∧ (∀ e ∈ tb', e.1 = t ∨ e ∈ tb) ∧ ∀ (st : Nat → V) (dst : Option Nat), doCallB H14 (evCall Tryd.prog H14 k) 32 false [.bptr t 0, .int .i64 n] ⟨st, O ++ (b, ⟨g, netC σ⟩) :: tb, nx⟩ dst = some ((St.mk (fun i => killB [t] nx (st i)) (O ++ (b, ⟨g, netC σ⟩) :: tb') nx).lay dst r) := by
  have hnd : (tb.map (·.1)).Nodup := hT.ids.nodup_iff.2 hT.nd
  have htp : t ∈ σ.tp := hT.ids.mem_iff.1 (List.mem_map_of_mem (f := (·.1)) hm)
  have hbt : ¬ b = t := fun e => hT.nb (e ▸ htp)
  have hOt : ∀ e ∈ O, e.1 ∉ [t] := fun e he h => hd e he (List.mem_cons_of_mem _ (by rw [List.mem_singleton] at h; rw [h]; exact htp))
  have hfk := filter_key hnd hm
  have hperm : (tb.filter (fun e => !([t] : List Nat).contains e.1) ++ [(t, (⟨g', tapeC w q⟩ : Box))]).Perm tb := by
    have h1 := List.filter_append_perm (fun e : Nat × Box => !([t] : List Nat).contains e.1) tb
    have h2 : (tb.filter fun e => !!([t] : List Nat).contains e.1) = [(t, (⟨g', tapeC w q⟩ : Box))] := by
      rw [← hfk]; congr 1; funext e; rw [Bool.not_not]
    rwa [h2] at h1
  have hperm1 := hperm.map (·.1)
  refine ⟨tb.filter (fun e => !([t] : List Nat).contains e.1) ++ [(t, ⟨g', tapeC w q'⟩)], ⟨?_, ?_, hT.nb, hT.nd⟩, ?_, List.mem_append_right _ (List.mem_singleton.2 rfl), ?_, ?_⟩
  · rw [List.map_append] at hperm1 ⊢
    exact hperm1.trans hT.ids
  · intro e he
    rcases List.mem_append.1 he with he | he
    · exact hT.flat e (List.mem_filter.1 he).1
    · rw [List.mem_singleton] at he; subst he; exact ptrsL_tapeC _ _
  · have := hperm.length_eq
    rw [List.length_append] at this ⊢
    exact this
  · intro e he
    rcases List.mem_append.1 he with he | he
    · exact .inr (List.mem_filter.1 he).1
    · rw [List.mem_singleton] at he; subst he; exact .inl rfl
  · intro st dst
    have hgb : getBox (O ++ (b, ⟨g, netC σ⟩) :: tb) t = some ⟨g', tapeC w q⟩ := by
      have h0 : getBox ((b, (⟨g, netC σ⟩ : Box)) :: tb) t = some ⟨g', tapeC w q⟩ := by
        unfold getBox
        rw [if_neg hbt]
        exact getBox_nodup hnd hm
      have := getBox_mid (O2 := []) h0 (O1 := O) fun e he h => hOt e he (List.mem_singleton.2 h)
      rwa [List.append_nil] at this
    have hf : ((O ++ (b, (⟨g, netC σ⟩ : Box)) :: tb).filter fun e => ([t] : List Nat).contains e.1) = [(t, ⟨g', tapeC w q⟩)] := by
      rw [List.filter_append, filter_none hOt, List.nil_append, List.filter_cons_of_neg (by simpa using hbt), hfk]
    have ho : othersM (O ++ (b, (⟨g, netC σ⟩ : Box)) :: tb) [t] = O ++ (b, ⟨g, netC σ⟩) :: tb.filter (fun e => !([t] : List Nat).contains e.1) := by
      unfold othersM
      rw [List.filter_append, filter_all hOt, List.filter_cons_of_pos (by simpa using hbt)]
    have := callBox (H := H14) (f := 32) (xs := [.bptr t 0, .int .i64 n]) (ids := [t]) (s := st) (nx := nx) (C := evCall Tryd.prog H14 k) rfl (by
      show reach _ _ (ptrsL [.bptr t 0, .int .i64 n]).eraseDups = [t]
      simp only [ptrsL, ptrs, List.append_nil]
      exact reach_one (ptrsL_tapeC w q) hgb) hf ho (by simp) (hans k hk nx fun e he => by rw [List.mem_singleton] at he; subst he; exact hlt) (fun e he => .inl (by rw [List.mem_singleton] at he; subst he; simp)) dst
    rw [this]
    simp only [List.append_assoc, List.cons_append]
end
end Go.Abs
end
/- The seat of privitylaw14: fair. -/
set_option linter.unusedVariables false
noncomputable section
namespace Go.Abs
open Go Go.Proofs
set_option maxRecDepth 100000
theorem rspsV_drop : ∀ {l : List RSp} {i : Nat} (h : i < l.length), (rspsV l).drop (i * 2) = .bool l[i].cast :: .im false l[i].A l[i].cap l[i].ms.length (msV l[i].ms) :: (rspsV l).drop ((i + 1) * 2)
  | r :: l, 0, h => rfl
  | r :: l, i + 1, h => by
    have h2 := rspsV_drop (l := l) (i := i) (by simpa using h)
    show (rspC r ++ rspsV l).drop ((i + 1) * 2) = _ :: _ :: (rspC r ++ rspsV l).drop ((i + 1 + 1) * 2)
    have hl : (rspC r).length = 2 := rfl
    rw [List.drop_append, List.drop_append, hl, show (rspC r).drop ((i + 1) * 2) = [] from List.drop_eq_nil_of_le (by rw [hl]; omega), show (rspC r).drop ((i + 1 + 1) * 2) = [] from List.drop_eq_nil_of_le (by rw [hl]; omega), show (i + 1) * 2 - 2 = i * 2 by omega, show (i + 1 + 1) * 2 - 2 = (i + 1) * 2 by omega, List.nil_append, List.nil_append, h2]
    rfl
@[simp] theorem rspsV_length (l : List RSp) : (rspsV l).length = l.length * 2 := by
  induction l with
  | nil => rfl
  | cons r l ih => show (rspC r ++ rspsV l).length = _; rw [List.length_append, ih]; simp [rspC]; omega
/-- One row of messages in order. -/
def MrowOk (p : Nat) (n : Int) (m : MD) : Prop := (m.l.length : Int) = n ∧ ∀ w ∈ m.l, w.l.length ≤ 8 ∧ ∀ x ∈ w.l, x < p
/-- One round in order. -/
def RoundOk (p : Nat) (n : Int) (r : RSp) : Prop := (r.ms.length : Int) = n ∧ ∀ m ∈ r.ms, MrowOk p n m
def FairE (p : Exe) : Prop := FairS p.w 8 20 ∧ p.l.length ≤ 5 ∧ ∀ r ∈ p.l, RoundOk p.w.p p.w.n r
theorem take_all {α : Type} {l : List α} {Q : α → Prop} {i : Nat} (hi : i < l.length) (h : ∀ x ∈ l.take i, Q x) (hq : Q l[i]) : ∀ x ∈ l.take (i + 1), Q x := fun x hx => by
  rw [List.take_succ_eq_append_getElem hi, List.mem_append, List.mem_singleton] at hx
  rcases hx with hx | rfl
  · exact h x hx
  · exact hq
open Classical in
set_option maxHeartbeats 8000000 in
/-- fair(p) -/
theorem fair15 (p : Exe) (hA : ExeA p) : AnsN 1120 Tryd.prog H14 15 [exeV p] (.bool (decide (FairE p))) := by
  refine AnsN.of (fn := Tryd.f15) (t := 2) (by rfl) Tryd.func15 rfl rfl (by rfl) (by rfl) fun k hk nx => ?_
  have h1 := hA.w.e1
  have h2 := hA.w.e2
  have h3 := hA.w.e3
  have hl := lents_ok hA.w.r
  have c30 := callP (k := k) (fair30 p.w 8 20 (by omega) (by omega)) (by omega) (by simp [ptrsL, ptrs, scV, scL]) rfl
  have n8 : ((8 : Nat) : Int) = 8 := rfl
  have n20 : ((20 : Nat) : Int) = 20 := rfl
  simp only [scV, scL, h1, h2, h3, n8, n20] at c30
  by_cases hF : FairS p.w 8 20
  case neg =>
    have hn : ¬ FairE p := fun h => hF h.1
    rw [decide_eq_false hF] at c30
    simp [-doCall, doCall_eq, entryS, exeV, exeL, h1, h2, h3, hl, c30, hn]
  rw [decide_eq_true hF] at c30
  obtain ⟨f1, f2, f3, f4, hs⟩ := hF
  have hn413 := scnS_n hs
  by_cases hL : p.l.length ≤ 5
  case neg =>
    have hn : ¬ FairE p := fun h => hL h.2.1
    have g : (p.l.length : Int) > 5 := by omega
    simp [-doCall, doCall_eq, entryS, exeV, exeL, h1, h2, h3, hl, c30, hn, g]
  have g : ¬ ((p.l.length : Int) > 5) := by omega
  simp [-doCall, doCall_eq, entryS, exeV, exeL, h1, h2, h3, hl, c30, g]
  obtain ⟨I, hI⟩ : ∃ I : Nat → St → Prop, I = fun q D => ∃ i : Nat, q = p.l.length - i ∧ i ≤ p.l.length ∧ (∀ r ∈ p.l.take i, RoundOk p.w.p p.w.n r) ∧ D.s 1 = .bptr nx 0 ∧ D.s 3 = .int .i64 (i : Int) ∧ D.m = [(nx, ⟨0, exeL p⟩)] ∧ D.nx = nx + 1 := ⟨_, rfl⟩
  refine EvP.loop I (n := p.l.length) (by rw [hI]; exact ⟨0, by simp [exeL, h1, h2, h3]⟩) (by omega) fun q D hD => ?_
  rw [hI] at hD
  obtain ⟨i, rfl, hi, hpre, d1, d3, dm, dx⟩ := hD
  by_cases hil : i < p.l.length
  · have e3 := wrap_succ (q := i) (by omega)
    have p1 := rspsV_drop hil
    obtain ⟨r, hr⟩ : ∃ r, p.l[i] = r := ⟨_, rfl⟩
    rw [hr] at p1
    have hbad : ¬ RoundOk p.w.p p.w.n r → ¬ FairE p := fun hb h => hb (hr ▸ h.2.2 _ (List.getElem_mem hil))
    by_cases hrn : (r.ms.length : Int) = p.w.n
    case neg =>
      have hn := hbad fun h => hrn h.1
      have gne : ((r.ms.length : Int) != p.w.n) = true := by simpa [bne] using hrn
      simp [d1, d3, dm, dx, exeL, hil, p1, gne, hn]
    have geq : ((r.ms.length : Int) != p.w.n) = false := by simpa [bne] using hrn
    simp [d1, d3, dm, dx, exeL, hil, p1, geq]
    obtain ⟨J, hJ⟩ : ∃ J : Nat → St → Prop, J = fun q D => ∃ j : Nat, q = r.ms.length - j ∧ j ≤ r.ms.length ∧ (∀ m ∈ r.ms.take j, MrowOk p.w.p p.w.n m) ∧ D.s 1 = .bptr nx 0 ∧ D.s 3 = .int .i64 (i : Int) ∧ D.s 4 = .int .i64 (j : Int) ∧ D.m = [(nx, ⟨0, exeL p⟩)] ∧ D.nx = nx + 1 := ⟨_, rfl⟩
    refine EvP.loop J (n := r.ms.length) (by rw [hJ]; exact ⟨0, by simp [exeL, d1, d3]⟩) (by omega) fun q D hD => ?_
    rw [hJ] at hD
    obtain ⟨j, rfl, hj, hprej, d1, d3, d4, dm, dx⟩ := hD
    by_cases hjl : j < r.ms.length
    · have e4 := wrap_succ (q := j) (by omega)
      obtain ⟨m, hm⟩ : ∃ m, r.ms[j] = m := ⟨_, rfl⟩
      have hbadm : ¬ MrowOk p.w.p p.w.n m → ¬ FairE p := fun hb => hbad fun h => hb (hm ▸ h.2 _ (List.getElem_mem hjl))
      have hmA : MdOk m := hm ▸ (hr ▸ (hA.m _ (List.getElem_mem hil)).2) _ (List.getElem_mem hjl)
      by_cases hmn : (m.l.length : Int) = p.w.n
      case neg =>
        have hn := hbadm fun h => hmn h.1
        have gne : ((m.l.length : Int) != p.w.n) = true := by simpa [bne] using hmn
        simp [d1, d3, d4, dm, dx, exeL, hil, hjl, p1, hm, gne, hn]
      have geqm : ((m.l.length : Int) != p.w.n) = false := by simpa [bne] using hmn
      have c21 := callP (k := k) (below21 p.w.p false m.A m.cap m.l 8 (by omega) (by omega)) (by omega) (by simp) rfl
      simp only [n8] at c21
      have hlm := lents_ok hmA.2.2
      by_cases hbw : ∀ w ∈ m.l, w.l.length ≤ 8 ∧ ∀ x ∈ w.l, x < p.w.p
      · rw [decide_eq_true hbw] at c21
        simp [-doCall, doCall_eq, d1, d3, d4, dm, dx, exeL, hil, hjl, p1, hm, geqm, c21, rsV_lent, hlm, e4]
        subst hJ
        exact ⟨r.ms.length - (j + 1), by omega, j + 1, rfl, by omega, take_all hjl hprej (by rw [hm]; exact ⟨hmn, hbw⟩), by simp [d1], by simp [d3], by simp, rfl, rfl⟩
      · rw [decide_eq_false hbw] at c21
        have hn := hbadm fun h => hbw h.2
        simp [-doCall, doCall_eq, d1, d3, d4, dm, dx, exeL, hil, hjl, p1, hm, geqm, c21, rsV_lent, hlm, hn]
    · have hje : j = r.ms.length := by omega
      subst hje
      simp [d1, d3, d4, dm, dx, exeL, hil, p1, e3]
      subst hI
      exact ⟨p.l.length - (i + 1), by omega, i + 1, rfl, by omega, take_all hil hpre (by rw [hr]; exact ⟨hrn, fun m hm => hprej m (by rw [List.take_length]; exact hm)⟩), by simp [d1], by simp, rfl, rfl⟩
  · have hie : i = p.l.length := by omega
    subst hie
    have hy : FairE p := ⟨⟨f1, f2, f3, f4, hs⟩, hL, fun r hr => hpre r (by rw [List.take_length]; exact hr)⟩
    simp [d1, d3, dm, dx, exeL, hy]
end Go.Abs
end
/- The seat of privitylaw14: rounds inside a law. -/
set_option linter.unusedVariables false
noncomputable section
namespace Go.Abs
open Go Go.Proofs
set_option maxRecDepth 100000
/-- What stands beside a network in a law's memory. -/
structure Around (nx b : Nat) (tp : List Nat) (c : Box) (O : List (Nat × Box)) (x : Nat) : Prop where
  g : getBox O nx = some c
  o : ∀ e ∈ O, nx ≤ e.1 ∧ e.1 < x ∧ e.1 ∉ b :: tp
  t : ∀ y ∈ b :: tp, nx ≤ y ∧ y < x
section
variable {nx b x : Nat} {tp : List Nat} {c c' : Box} {O tb : List (Nat × Box)} {σ σ' : NetS}
theorem Around.add (h : Around nx b tp c O x) : Around nx b tp c (O ++ [(x, c')]) (x + 1) := by
  refine ⟨getBox_app_old h.g, fun e he => ?_, fun y hy => ?_⟩
  · rcases List.mem_append.1 he with he | he
    · obtain ⟨h1, h2, h3⟩ := h.o e he; exact ⟨h1, by omega, h3⟩
    · rw [List.mem_singleton] at he
      subst he
      obtain ⟨h1, h2⟩ := h.t b List.mem_cons_self
      exact ⟨by show nx ≤ x; omega, by show x < x + 1; omega, fun hx => by have := (h.t _ hx).2; exact absurd this (Nat.lt_irrefl _)⟩
  · obtain ⟨h1, h2⟩ := h.t y hy; exact ⟨h1, by omega⟩
theorem Around.get (h : Around nx b tp c O x) : getBox (O ++ (b, ⟨0, netC σ⟩) :: tb) nx = some c := getBox_app_old h.g
theorem Around.mem (h : Around nx b σ.tp c O x) (hT : TB b σ.tp tb) : ∀ e ∈ O ++ (b, (⟨0, netC σ⟩ : Box)) :: tb, nx ≤ e.1 ∧ e.1 < x := fun e he => by
  rcases List.mem_append.1 he with he | he
  · exact ⟨(h.o e he).1, (h.o e he).2.1⟩
  · exact h.t _ (net_keys hT e he)
variable {P : Program} {H : Hint} {f k N : Nat} {xs : List V} {r : V}
theorem Around.call (h : Around nx b σ.tp c O x) (hT : TB b σ.tp tb) (hl : 1 ≤ tb.length) (h' : σ'.tp = σ.tp) (hans : AnsM N P H f xs ((b, ⟨0, netC σ⟩) :: tb) r ((b, ⟨0, netC σ'⟩) :: tb)) (hk : N ≤ k) (hp : ptrsL xs = [b]) (hX : H.X f xs = none) (s : Nat → V) (dst : Option Nat) :
    doCallB H (evCall P H k) f false xs ⟨s, O ++ (b, ⟨0, netC σ⟩) :: tb, x⟩ dst = some ((St.mk (fun i => killB (b :: σ.tp) x (s i)) (O ++ (b, ⟨0, netC σ'⟩) :: tb) x).lay dst r) := by
  have := netCall (O1 := O) (O2 := []) hT hl (fun e he => (h.o e (by rwa [List.append_nil] at he)).2.2) h' hans hk hp hX (fun e he => (h.t _ (net_keys hT e he)).2) s dst
  simpa only [List.append_nil] using this
theorem Around.call1 (h : Around nx b σ.tp c O x) (hT : TB b σ.tp tb) (hl : 1 ≤ tb.length) (h' : σ'.tp = σ.tp) (hans : AnsM N P H f xs ((b, ⟨0, netC σ⟩) :: tb) r ((b, ⟨0, netC σ'⟩) :: tb)) (hk : N ≤ k) (hp : ptrsL xs = [b]) (hX : H.X f xs = none) (s : Nat → V) (dst : Option Nat) :
    doCallB H (evCall P H k) f false xs ⟨s, (O ++ (b, ⟨0, netC σ⟩) :: tb) ++ [(x, c')], x + 1⟩ dst = some ((St.mk (fun i => killB (b :: σ.tp) (x + 1) (s i)) ((O ++ [(x, c')]) ++ (b, ⟨0, netC σ'⟩) :: tb) (x + 1)).lay dst r) :=
  netCall (O1 := O) (O2 := [(x, c')]) hT hl (fun e he => ((h.add (c' := c')).o e he).2.2) h' hans hk hp hX (fun e he => by have := (h.t _ (net_keys hT e he)).2; omega) s dst
end
/-- The first message of each row. -/
def firsts (ms : List MD) : List RD := ms.map fun m => m.l[0]?.getD ⟨false, none, 0, []⟩
@[simp] theorem firsts_length (ms : List MD) : (firsts ms).length = ms.length := by simp [firsts]
set_option maxHeartbeats 4000000 in
/-- broadcasts(out) -/
theorem broadcasts17 (pm : Bool) (A : Option Addr) (cap : Nat) (ms : List MD) (hms : ms.length ≤ 1000) (h0 : ∀ m ∈ ms, 0 < m.l.length) : AnsN 1101 Tryd.prog H14 17 [.im pm A cap ms.length (msV ms)] (.own .nil 0 ms.length (rsV (firsts ms))) := by
  refine AnsN.of (fn := Tryd.f17) (t := 2) (by rfl) Tryd.func17 rfl rfl (by rfl) (by simp [plainV]) fun k hk nx => ?_
  obtain ⟨I, hI⟩ : ∃ I : Nat → St → Prop, I = fun q D => ∃ i : Nat, q = ms.length - i ∧ i ≤ ms.length ∧ D.s 0 = .im pm A cap ms.length (msV ms) ∧ D.s 3 = .own .nil 0 i (rsV (firsts (ms.take i))) ∧ D.s 4 = .int .i64 (i : Int) ∧ D.m = [] := ⟨_, rfl⟩
  simp [entryS]
  refine EvP.loop I (n := ms.length) (by rw [hI]; exact ⟨0, by simp [firsts, rsV]⟩) (by omega) fun q D hD => ?_
  rw [hI] at hD
  obtain ⟨i, rfl, hi, d0, d3, d4, dm⟩ := hD
  by_cases hil : i < ms.length
  · have e3 := wrap_succ (q := i) (by omega)
    have hml := h0 _ (List.getElem_mem hil)
    have g1 : (i + 1) * 24 ≤ 140737488355328 := by omega
    have g2 : i ≤ 140737488355327 := by omega
    obtain ⟨cs, hcs⟩ : ∃ cs, rsV (firsts (ms.take i)) = cs := ⟨_, rfl⟩
    have hcl : cs.length = i := by rw [← hcs]; simp; omega
    rw [hcs] at d3
    obtain ⟨w, l', hw⟩ : ∃ w l', (ms[i]).l = w :: l' := by
      cases hq : (ms[i]).l with
      | nil => rw [hq] at hml; simp at hml
      | cons w l' => exact ⟨w, l', rfl⟩
    have hrs : rsV (ms[i]).l = rV w :: rsV l' := by rw [hw]; rfl
    have hln : (ms[i]).l.length = l'.length + 1 := by rw [hw]; rfl
    simp [d0, d3, d4, dm, hil, hrs, hln, rV, e3, g1, g2, hcl]
    have hnext : rsV (firsts (ms.take (i + 1))) = cs ++ [rV w] := by
      rw [List.take_succ_eq_append_getElem hil, ← hcs]
      unfold firsts rsV
      rw [List.map_append, List.map_append]
      simp [hw]
    subst hI
    exact ⟨ms.length - (i + 1), by omega, i + 1, rfl, by omega, by simp [d0], by rw [hnext]; simp [rV], by simp, rfl⟩
  · have hie : i = ms.length := by omega
    subst hie
    simp [d0, d3, d4, dm]
theorem rounds_ms {p : Nat} {n : Nat} {r : RSp} (h : RoundOk p (n : Int) r) : r.ms.length = n ∧ MsOk p n (mls r.ms) := by
  obtain ⟨h1, h2⟩ := h
  refine ⟨by omega, by simp [mls]; omega, fun l hl => ?_⟩
  obtain ⟨m, hm, rfl⟩ := List.mem_map.1 hl
  obtain ⟨h3, h4⟩ := h2 m hm
  refine ⟨by rw [List.length_map]; omega, fun w hw => ?_⟩
  obtain ⟨x, hx, rfl⟩ := List.mem_map.1 hw
  obtain ⟨h5, h6⟩ := h4 x hx
  exact ⟨by omega, h6⟩
theorem rounds_ls {p : Nat} {n : Nat} {r : RSp} (h : RoundOk p (n : Int) r) : LsOk p ((firsts r.ms).map (·.l)) := by
  intro w hw
  obtain ⟨x, hx, rfl⟩ := List.mem_map.1 hw
  obtain ⟨m, hm, rfl⟩ := List.mem_map.1 hx
  obtain ⟨h3, h4⟩ := h.2 m hm
  cases hq : m.l[0]? with
  | none => exact ⟨by simp, by simp⟩
  | some y =>
    obtain ⟨h5, h6⟩ := h4 y (List.mem_of_getElem? hq)
    exact ⟨by rw [Option.getD_some]; omega, by rw [Option.getD_some]; exact h6⟩
theorem lentM_ok {m : MD} (h : MdOk m) : lentM m = m := by
  obtain ⟨pm, A, cap, l⟩ := m
  obtain ⟨h1, _, h3⟩ := h
  simp only at h1 h3
  subst h1
  show MD.mk false A cap (l.map lent) = _
  rw [lents_ok h3]
theorem lentMs_ok {l : List MD} (h : ∀ m ∈ l, MdOk m) : l.map lentM = l := by
  induction l with
  | nil => rfl
  | cons r l ih => rw [List.map_cons, lentM_ok (h r List.mem_cons_self), ih fun x hx => h x (List.mem_cons_of_mem _ hx)]
theorem firsts_ok {l : List MD} (h : ∀ m ∈ l, MdOk m) : (firsts l).map lent = firsts l := by
  refine lents_ok fun r hr => ?_
  obtain ⟨m, hm, rfl⟩ := List.mem_map.1 hr
  cases hq : m.l[0]? with
  | none => exact ⟨rfl, by simp, by simp⟩
  | some y => rw [Option.getD_some]; exact (h m hm).2.2 y (List.mem_of_getElem? hq)
/-- A round on a network. -/
def roundS (cp : List Nat → RD) (n : Nat) (σ : NetS) (r : RSp) : NetS := if r.cast then castS cp (netTold σ ((firsts r.ms).map (·.l))) n σ else sentS cp (netSaid σ n (mls r.ms)) n σ
theorem like_roundS (cp : List Nat → RD) (n : Nat) (σ : NetS) (r : RSp) : (roundS cp n σ r).scn = σ.scn ∧ (roundS cp n σ r).tp = σ.tp ∧ (roundS cp n σ r).round = σ.round + 1 := by
  unfold roundS
  split
  · obtain ⟨h1, h2, h3, h4⟩ := like_castS cp (netTold σ ((firsts r.ms).map (·.l))) n σ
    exact ⟨h1, h2, h4⟩
  · obtain ⟨h1, h2, h3, h4⟩ := like_sentS cp (netSaid σ n (mls r.ms)) n σ
    exact ⟨h1, h2, h4⟩
theorem NetI.round {N b n : Nat} {σ : NetS} {tb : List (Nat × Box)} (I : NetI N b σ tb) (cp : List Nat → RD) (r : RSp) (hn : (n : Int) = σ.scn.n) : NetI N b (roundS cp n σ r) tb := by
  unfold roundS
  split
  · exact I.cast cp _ hn
  · exact I.sent cp _ hn
theorem frzL_rsps {l : List RSp} (h : ∀ r ∈ l, ∀ m ∈ r.ms, MdOk m) : frzL false (rspsV l) = rspsV l := by
  induction l with
  | nil => rfl
  | cons r l ih =>
    show frz false (.bool r.cast) :: frz false (.im false r.A r.cap r.ms.length (msV r.ms)) :: frzL false (rspsV l) = .bool r.cast :: .im false r.A r.cap r.ms.length (msV r.ms) :: rspsV l
    rw [ih fun x hx => h x (List.mem_cons_of_mem _ hx)]
    simp [frz, lentMs_ok (h r List.mem_cons_self)]
theorem net0_around (s : Scn) (nx : Nat) (c c' : Box) : Around nx (nx + 2) (net0 s (nx + 1) s.tapes.length).tp c [(nx, c), (nx + 1, c')] (nx + 1 + (2 + s.tapes.length)) := by
  refine ⟨by simp [getBox], fun e he => ?_, fun y hy => ?_⟩
  · have hk : e.1 = nx ∨ e.1 = nx + 1 := by
      simp only [List.mem_cons, List.not_mem_nil, or_false] at he
      rcases he with rfl | rfl <;> simp
    refine ⟨by omega, by omega, fun hx => ?_⟩
    rcases List.mem_cons.1 hx with hx | hx
    · omega
    · obtain ⟨j, hj, hje⟩ := List.mem_map.1 (show e.1 ∈ (List.range s.tapes.length).map (nx + 1 + 2 + ·) from hx)
      omega
  · rcases List.mem_cons.1 hy with rfl | hy
    · exact ⟨by omega, by omega⟩
    · obtain ⟨j, hj, rfl⟩ := List.mem_map.1 (show y ∈ (List.range s.tapes.length).map (nx + 1 + 2 + ·) from hy)
      have := List.mem_range.1 hj
      exact ⟨by omega, by omega⟩
theorem netM_at (F : RD → List V) (s : Scn) (a : Nat) : netM F s a s.tapes.length = (a, ⟨0, scL s⟩) :: (a + 1, ⟨0, netC (net0 s a s.tapes.length)⟩) :: tapB F (a + 2) s.tapes := by
  unfold netM
  rw [List.take_length]
@[simp] theorem ptrsL_rspsV (l : List RSp) : ptrsL (rspsV l) = [] := by
  induction l with
  | nil => rfl
  | cons r l ih =>
    show ptrs (.bool r.cast) ++ (ptrs (.im false r.A r.cap r.ms.length (msV r.ms)) ++ ptrsL (rspsV l)) = []
    rw [ih]; simp [ptrs]
/-- A view in order: of party i (from 1), of n parties, behind R rounds. -/
structure VwOk (i n R : Int) (v : List Ev) : Prop where
  e : ∀ e ∈ v, e.frm ≠ i ∧ 1 ≤ e.frm ∧ e.frm ≤ n ∧ 0 ≤ e.round ∧ e.round < R ∧ 0 < e.w.l.length
  s : v.Pairwise fun a b => a.round < b.round ∨ (a.round = b.round ∧ a.frm < b.frm)
theorem evs_frm (rd : Int) (w : Nat) (W : Nat → RD) : ∀ k : Nat, (∀ e ∈ (List.range k).flatMap (evOf rd w W), e.frm ≠ (w : Int) + 1 ∧ 1 ≤ e.frm ∧ e.frm ≤ k ∧ e.round = rd ∧ 0 < e.w.l.length) ∧ ((List.range k).flatMap (evOf rd w W)).Pairwise fun a b => a.frm < b.frm
  | 0 => ⟨fun e he => by simp at he, by simp⟩
  | k + 1 => by
    obtain ⟨h1, h2⟩ := evs_frm rd w W k
    have hev : ∀ e ∈ evOf rd w W k, e.frm = (k : Int) + 1 ∧ w ≠ k ∧ e.round = rd ∧ 0 < e.w.l.length := fun e he => by
      unfold evOf at he
      split at he
      · rename_i hc
        rw [List.mem_singleton] at he; subst he
        exact ⟨rfl, hc.1, rfl, hc.2⟩
      · cases he
    rw [List.range_succ, List.flatMap_append]
    simp only [List.flatMap_cons, List.flatMap_nil, List.append_nil]
    refine ⟨fun e he => ?_, ?_⟩
    · rcases List.mem_append.1 he with he | he
      · obtain ⟨a, b, c, d, f⟩ := h1 e he
        exact ⟨a, b, by omega, d, f⟩
      · obtain ⟨a, b, c, d⟩ := hev e he
        exact ⟨by omega, by omega, by omega, c, d⟩
    · rw [List.pairwise_append]
      refine ⟨h2, ?_, fun a ha b hb => ?_⟩
      · unfold evOf; split <;> simp
      · have := (h1 a ha).2.2.1
        have := (hev b hb).1
        omega
theorem VwOk.next {i n : Nat} {R : Int} {v : List Ev} (h : VwOk ((i : Int) + 1) n R v) (hR : 0 ≤ R) (W : Nat → RD) : VwOk ((i : Int) + 1) n (R + 1) (v ++ (List.range n).flatMap (evOf R i W)) := by
  obtain ⟨h1, h2⟩ := evs_frm R i W n
  refine ⟨fun e he => ?_, ?_⟩
  · rcases List.mem_append.1 he with he | he
    · obtain ⟨a, b, c, d, f, g⟩ := h.e e he
      exact ⟨a, b, c, d, by omega, g⟩
    · obtain ⟨a, b, c, d, f⟩ := h1 e he
      exact ⟨a, b, c, by omega, by omega, f⟩
  · rw [List.pairwise_append]
    refine ⟨h.s, h2.imp_of_mem fun ha hb hab => .inr ⟨by rw [(h1 _ ha).2.2.2.1, (h1 _ hb).2.2.2.1], hab⟩, fun a ha b hb => .inl ?_⟩
    have := (h.e a ha).2.2.2.2.1
    have := (h1 b hb).2.2.2.1
    omega
/-- What a round adds to a view. -/
theorem views_round (cp : List Nat → RD) (n : Nat) (σ : NetS) (r : RSp) (i : Nat) (hi : i < n) : ∃ W, (roundS cp n σ r).views[i]? = (σ.views[i]?).map fun v => v ++ (List.range n).flatMap (evOf σ.round i W) := by
  unfold roundS
  split
  · refine ⟨fun f => cp ((netTold σ ((firsts r.ms).map (·.l)))[f]?.getD []), ?_⟩
    show (hearB _ n n σ).views[i]? = _
    rw [views_hearB]
    simp only [if_pos hi]
  · refine ⟨fun f => cp (sw (netSaid σ n (mls r.ms)) f i), ?_⟩
    show (hearAll _ n n σ).views[i]? = _
    rw [views_hearAll]
    simp only [if_pos hi]
theorem rsV_lent2 (b : Bool) (rs : List RD) : frzL false (frzL b (rsV rs)) = rsV (rs.map lent) := by
  induction rs with
  | nil => rfl
  | cons r l ih => show frz false (frz b (rV r)) :: frzL false (frzL b (rsV l)) = rV (lent r) :: rsV (l.map lent); rw [ih]; simp [rV, frz, lent]
end Go.Abs
end
