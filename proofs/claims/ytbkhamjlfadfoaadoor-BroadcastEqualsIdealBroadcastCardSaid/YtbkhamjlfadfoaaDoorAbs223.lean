/- Joined: AbsPNXL AbsPNXM AbsPNXN. -/
import Derived.Test.YtbkhamjlfadfoaaDoorAbs212
import Derived.Test.YtbkhamjlfadfoaaDoorAbs222
set_option linter.all false
set_option linter.unusedVariables false
noncomputable section
namespace Go.Abs
open Go Go.Proofs
theorem rsV_lent (rs : List RD) : frzL false (rsV rs) = rsV (rs.map lent) := by
  induction rs with
  | nil => rfl
  | cons r l ih => show frz false (rV r) :: frzL false (rsV l) = rV (lent r) :: rsV (l.map lent); rw [ih]; simp [rV, frz, lent]
end Go.Abs
end
set_option linter.unusedVariables false
noncomputable section
namespace Go.Abs
open Go Go.Proofs
def bcV (l : List Nat) : V := .im true none 0 l.length (uL l)
theorem ptrsL_bcV (ls : List (List Nat)) : ptrsL (ls.map bcV) = [] := by induction ls with
  | nil => rfl
  | cons l ls ih => simp only [List.map_cons, ptrsL, bcV, ptrs, nil_uL, ih, List.append_nil]
set_option maxHeartbeats 8000000 in
set_option maxRecDepth 100000 in
theorem cast16 (b g : Nat) (σ : NetS) (tb : List (Nat × Box)) (hT : TB b σ.tp tb) (hl : 1 ≤ tb.length) {q : Nat} (hq : (σ.scn.p, q) ∈ pq7) (h13 : σ.scn.n ≤ 13) (hv : (σ.views.length : Int) = σ.scn.n) (hB : VB 999000 σ) (hr : 0 ≤ σ.round ∧ σ.round < 1000000) {N : Nat} (hN : ∀ (pm : Bool) (A : Option Addr) (cap : Nat) (rs : List RD), (rs.length : Int) = (lentS σ.scn).n → (lentS σ.scn).n ≤ 13 → LsOk (lentS σ.scn).p (rs.map (·.l)) → AnsP N Tryd.prog H14 62 [scV (lentS σ.scn), .int .i64 σ.round, .im pm A cap rs.length (rsV rs)] (fun v => ∃ cs, v = .own .nil 0 rs.length cs ∧ Rows cs (broadS (lentS σ.scn).p (lentS σ.scn).corrupt σ.round (rs.map (·.l)) (lentS σ.scn).devs))) (pm : Bool) (A : Option Addr) (cap : Nat) (rs : List RD) (hml : (rs.length : Int) = σ.scn.n) (hmo : LsOk σ.scn.p (rs.map (·.l))) :
    AnsM (max N 100 + 1) Tryd.prog H14 42 [.bptr b 0, .im pm A cap rs.length (rsV rs)] ((b, ⟨g, netC σ⟩) :: tb) (.own .nil 0 rs.length ((broadS σ.scn.p σ.scn.corrupt σ.round (rs.map (·.l)) σ.scn.devs).map bcV)) ((b, ⟨g, netC (castS cpW (broadS σ.scn.p σ.scn.corrupt σ.round (rs.map (·.l)) σ.scn.devs) rs.length σ)⟩) :: tb) := by
  refine AnsM.gen (fn := Tryd.f42) (by rfl) Tryd.func42 rfl (by rfl) (fun nx h c hc => ?_) fun k hk nx h => ?_
  · simp only [ptrs, ptrsL_bcV, List.nil_append] at hc
    exact net_ptrs (σ := castS cpW _ _ σ) (by rw [(like_castS _ _ _ _).2.1]; exact hT) (fun e he => by
      rcases List.mem_cons.1 he with rfl | he
      · exact h (b, ⟨g, netC σ⟩) List.mem_cons_self
      · exact h _ (List.mem_cons_of_mem _ he)) hc
  have hll : (rs.map lent).map (·.l) = rs.map (·.l) := by rw [List.map_map]; rfl
  have c40 := hN false A cap (rs.map lent) (by rw [List.length_map]; exact hml) h13 (by rw [hll]; exact hmo) k (by omega)
  simp only [List.length_map, hll] at c40
  obtain ⟨hb, hfl⟩ := net_filt h
  obtain ⟨r40, c40, SN, rfl, hSN⟩ := c40 nx
  have hnn : σ.scn.n = (rs.length : Int) := hml.symm
  simp only [scV, scL, lentS, List.length_map, hnn] at c40
  obtain ⟨S, hS⟩ : ∃ S, broadS σ.scn.p σ.scn.corrupt σ.round (rs.map (·.l)) σ.scn.devs = S := ⟨_, rfl⟩
  rw [hS]
  replace hSN : Rows SN S := by rw [← hS]; exact hSN
  have hp0 : 0 < σ.scn.p := by
    obtain ⟨hp1, hq1, hq2⟩ := pq_facts hq
    have : 2 ^ 5 ≤ 2 ^ q := Nat.pow_le_pow_right (by omega) hq1
    omega
  have hSok : LsOk σ.scn.p S := by rw [← hS]; exact (fold_ok hp0 hmo).1
  have hSl0 : S.length = rs.length := by rw [← hS]; exact (fold_ok hp0 hmo).2.trans (List.length_map _)
  have hSl : SN.length = rs.length := by rw [hSN.1, hSl0]
  have hn13 : rs.length ≤ 13 := by omega
  have hvl : σ.views.length = rs.length := by omega
  have cc := fun s => callP1 (H := H14) (s := s) (m := (b, ⟨g, netC σ⟩) :: tb) c40 (by simp) rfl
  have hb1 : (rs.length : Int) ≤ 140737488355328 := by omega
  have hb2 : (rs.length : Int) * 24 ≤ 140737488355328 := by omega
  have hz : ¬ (rs = [] ∧ 0 < rs.length) := by rintro ⟨rfl, h⟩; simp at h
  simp [-reach, -doCall, doCall_eq, entryS, hb, hnn, rsV_lent, cc, hb1, hb2, hz]
  obtain ⟨W, hW⟩ : ∃ W : Nat → RD, W = fun f => cpW (S[f]?.getD []) := ⟨_, rfl⟩
  obtain ⟨I, hI⟩ : ∃ I : Nat → St → Prop, I = fun q D => ∃ (i : Nat) (CS : List V), q = rs.length - i ∧ i ≤ rs.length ∧ CS = (S.take i).map bcV ++ rep (rs.length - i) [V.own .nil 0 0 []] ∧ D.s 0 = .bptr b 0 ∧ D.s 5 = .fn (.func 61) [.bptr b 0] [] ∧ D.s 6 = .own .nil 0 rs.length SN ∧ D.s 7 = .own .nil 0 rs.length CS ∧ D.s 30 = .int .i64 (rs.length : Int) ∧ D.s 31 = .int .i64 (i : Int) ∧ D.m = (b, ⟨g, netC (hearB W rs.length i σ)⟩) :: tb ∧ D.nx = nx := ⟨_, rfl⟩
  refine EvP.loop I (n := rs.length) (by rw [hI]; exact ⟨0, _, by simp, by simp, rfl, by simp [hearB_zero]⟩) (by omega) fun q D hD => ?_
  rw [hI] at hD
  obtain ⟨i, CS, rfl, hi, hCS, d0, d5, d6, d7, d30, d31, dm, dx⟩ := hD
  have hscn : (hearB W rs.length i σ).scn = σ.scn := (like_hearB W rs.length σ i).scn
  by_cases hil : i < rs.length
  · have e3 := wrap_succ (q := i) (by omega)
    have hiS : i < S.length := by omega
    have hiN : i < SN.length := by omega
    have hvr := hSN.2 i _ _ (List.getElem?_eq_getElem hiN) (List.getElem?_eq_getElem hiS)
    have hl1 : (S[i]).length ≤ 1000 := (hSok _ (List.getElem_mem hiS)).1
    have hWi : W i = cpW S[i] := by rw [hW]; simp [hiS]
    have hCl : CS.length = rs.length := by rw [hCS, List.length_append, List.length_map, List.length_take, rep_length]; simp; omega
    obtain ⟨l, hle⟩ : ∃ l, S[i] = l := ⟨_, rfl⟩
    have hnext : CS.set i (bcV l) = (S.take (i + 1)).map bcV ++ rep (rs.length - (i + 1)) [V.own .nil 0 0 []] := by
      have e1 : rs.length - i = (rs.length - (i + 1)) + 1 := by omega
      rw [hCS, List.take_succ_eq_append_getElem hiS, List.map_append, e1]
      have e2 : ((S.take i).map bcV).length = i := by rw [List.length_map, List.length_take]; omega
      rw [List.set_append_right _ _ (by omega), e2, Nat.sub_self, hle, List.append_assoc]
      rfl
    rw [hle] at hvr hl1 hWi
    obtain ⟨v, hve⟩ : ∃ v, SN[i] = v := ⟨_, rfl⟩
    have hv? : SN[i]? = some v := by rw [List.getElem?_eq_getElem hiN, hve]
    rw [hve] at hvr
    have l1 : l.length * 8 ≤ 140737488355328 := by omega
    have l2 : l.length ≤ 140737488355328 := by omega
    have f1 : (i + 1) * 24 ≤ 140737488355328 := by omega
    have f2 : i ≤ 140737488355327 := by omega
    obtain ⟨J, hJ⟩ : ∃ J : Nat → St → Prop, J = fun q D => ∃ (j : Nat) (v8 : V), q = rs.length - j ∧ j ≤ rs.length ∧ ((j = 0 ∧ v8 = .own .nil 0 l.length (uL l)) ∨ v8 = bcV l) ∧ D.s 0 = .bptr b 0 ∧ D.s 5 = .fn (.func 61) [.bptr b 0] [] ∧ D.s 6 = .own .nil 0 rs.length SN ∧ D.s 7 = .own .nil 0 rs.length (CS.set i v8) ∧ D.s 8 = .int .i64 (i : Int) ∧ D.s 30 = .int .i64 (rs.length : Int) ∧ D.s 31 = .int .i64 (i : Int) ∧ D.s 43 = .int .i64 (rs.length : Int) ∧ D.s 44 = .int .i64 (j : Int) ∧ D.m = (b, ⟨g, netC (hearCol (W i) i j (hearB W rs.length i σ))⟩) :: tb ∧ D.nx = nx := ⟨_, rfl⟩
    have hin : ∀ D : St, D.s 0 = .bptr b 0 → D.s 5 = .fn (.func 61) [.bptr b 0] [] → D.s 6 = .own .nil 0 rs.length SN → D.s 7 = .own .nil 0 rs.length (CS.set i (.own .nil 0 l.length (uL l))) → D.s 8 = .int .i64 (i : Int) → D.s 30 = .int .i64 (rs.length : Int) → D.s 31 = .int .i64 (i : Int) → D.s 43 = .int .i64 (rs.length : Int) → D.s 44 = .int .i64 0 → D.m = (b, ⟨g, netC (hearB W rs.length i σ)⟩) :: tb → D.nx = nx → J rs.length D := by
      intro D a0 a5 a6 a7 a8 a30 a31 a43 a44 am ax
      rw [hJ]
      exact ⟨0, _, rfl, by omega, .inl ⟨rfl, rfl⟩, a0, a5, a6, a7, a8, a30, a31, a43, a44, am, ax⟩
    have t8 := fun (j : Nat) (hj : j < rs.length) (τ : NetS) (hτ : hearCol (W i) i j (hearB W rs.length i σ) = τ) => show ∀ s dst, doCallB H14 (evCall Tryd.prog H14 k) 61 false [.bptr b 0, .int .i64 (j : Int), .int .i64 (i : Int), .im false none 0 l.length (uL l)] ⟨s, (b, ⟨g, netC τ⟩) :: tb, nx⟩ dst = some ((St.mk (fun i => killB (b :: τ.tp) nx (s i)) ((b, ⟨g, netC (hearCol (W i) i (j + 1) (hearB W rs.length i σ))⟩) :: tb) nx).lay dst (.tup [])) by
      have hLike : Like σ τ := by rw [← hτ]; exact (like_hearB W rs.length σ i).trans (like_hearCol _ _ _ _)
      have hTτ : TB b τ.tp tb := by rw [hLike.tp]; exact hT
      have hVτ : VB 1000000 τ := by
        rw [← hτ]
        refine (vb_hearCol (vb_hearB hB W i) (W i) i j).le ?_
        have : i * rs.length ≤ 13 * 13 := Nat.mul_le_mul (by omega) hn13
        omega
      have hwv : j < τ.views.length := by rw [hLike.len]; omega
      intro s dst
      have hh := note39 b g τ tb hTτ j i false none 0 l hwv hl1 (hVτ _ (List.getElem_mem hwv)) (by omega)
      rw [hearCol_succ, hτ, hWi]
      exact netCall0 hTτ hl (hearS_tp _ _ _ _) hh (by omega) (by simp [ptrs, ptrsL, nil_uL]) rfl (fun e he => by
        rcases List.mem_cons.1 he with rfl | he
        · exact hb
        · exact h e (List.mem_cons_of_mem _ he)) s dst
    have hnτ : ∀ j, (hearCol (W i) i j (hearB W rs.length i σ)).scn.n = (rs.length : Int) := fun j => by rw [((like_hearB W rs.length σ i).trans (like_hearCol _ _ _ _)).scn, hnn]
    cases hvr with
    | im pm' A' cap' =>
      simp [-reach, -doCall, doCall_eq, d0, d5, d6, d7, d30, d31, dm, dx, hil, hscn, hnn, hSl, hiN, hv?, hve, l1, l2, f1, f2, hCl]
      refine EvP.loop J (n := rs.length) (hin _ (by simp [d0]) (by simp [d5]) (by simp [d6]) (by simp) (by simp) (by simp [d30]) (by simp [d31]) (by simp) (by simp) (by simp) (by simp)) (by omega) fun q D hD => ?_
      rw [hJ] at hD
      obtain ⟨j, v8, rfl, hj, hv8, d0, d5, d6, d7, d8, d30, d31, d43, d44, dm, dx⟩ := hD
      have hnj := hnτ j
      obtain ⟨τ, hτ⟩ : ∃ τ, hearCol (W i) i j (hearB W rs.length i σ) = τ := ⟨_, rfl⟩
      rw [hτ] at hnj dm
      by_cases hjl : j < rs.length
      · have e4 := wrap_succ (q := j) (by omega)
        have t8' := t8 j hjl τ hτ
        rcases hv8 with ⟨-, rfl⟩ | rfl
        all_goals
          simp [-reach, -doCall, doCall_eq, nil_uL, bcV, d0, d5, d6, d7, d8, d30, d31, d43, d44, dm, dx, hjl, hil, hCl, hnj, t8', e4]
          subst hJ
          exact ⟨rs.length - (j + 1), by omega, j + 1, _, rfl, by omega, .inr rfl, by simp [d0], by simp [d5], by simp [d6], by simp [d7, bcV], by simp [d8], by simp [d30], by simp [d31], by simp [d43], by simp, rfl, rfl⟩
      · have hje : j = rs.length := by omega
        subst hje
        simp [-reach, -doCall, doCall_eq, d0, d5, d6, d7, d8, d30, d31, d43, d44, dm, dx, hnj, e3]
        subst hI
        rcases hv8 with ⟨h0, -⟩ | rfl
        · omega
        refine ⟨rs.length - (i + 1), by omega, i + 1, _, rfl, by omega, hnext, by simp [d0], by simp [d5], by simp [d6], by simp [d7], by simp [d30], by simp, ?_, rfl⟩
        rw [← hτ, hearB_succ]
    | own k' =>
      simp [-reach, -doCall, doCall_eq, d0, d5, d6, d7, d30, d31, dm, dx, hil, hscn, hnn, hSl, hiN, hv?, hve, l1, l2, f1, f2, hCl]
      refine EvP.loop J (n := rs.length) (hin _ (by simp [d0]) (by simp [d5]) (by simp [d6]) (by simp) (by simp) (by simp [d30]) (by simp [d31]) (by simp) (by simp) (by simp) (by simp)) (by omega) fun q D hD => ?_
      rw [hJ] at hD
      obtain ⟨j, v8, rfl, hj, hv8, d0, d5, d6, d7, d8, d30, d31, d43, d44, dm, dx⟩ := hD
      have hnj := hnτ j
      obtain ⟨τ, hτ⟩ : ∃ τ, hearCol (W i) i j (hearB W rs.length i σ) = τ := ⟨_, rfl⟩
      rw [hτ] at hnj dm
      by_cases hjl : j < rs.length
      · have e4 := wrap_succ (q := j) (by omega)
        have t8' := t8 j hjl τ hτ
        rcases hv8 with ⟨-, rfl⟩ | rfl
        all_goals
          simp [-reach, -doCall, doCall_eq, nil_uL, bcV, d0, d5, d6, d7, d8, d30, d31, d43, d44, dm, dx, hjl, hil, hCl, hnj, t8', e4]
          subst hJ
          exact ⟨rs.length - (j + 1), by omega, j + 1, _, rfl, by omega, .inr rfl, by simp [d0], by simp [d5], by simp [d6], by simp [d7, bcV], by simp [d8], by simp [d30], by simp [d31], by simp [d43], by simp, rfl, rfl⟩
      · have hje : j = rs.length := by omega
        subst hje
        simp [-reach, -doCall, doCall_eq, d0, d5, d6, d7, d8, d30, d31, d43, d44, dm, dx, hnj, e3]
        subst hI
        rcases hv8 with ⟨h0, -⟩ | rfl
        · omega
        refine ⟨rs.length - (i + 1), by omega, i + 1, _, rfl, by omega, hnext, by simp [d0], by simp [d5], by simp [d6], by simp [d7], by simp [d30], by simp, ?_, rfl⟩
        rw [← hτ, hearB_succ]
  · have hie : i = rs.length := by omega
    subst hie
    have er : IntKind.i64.wrap (σ.round + 1) = σ.round + 1 := wrapi (by omega) (by omega)
    simp [-reach, d0, d5, d6, d7, d30, d31, dm, dx, hscn, hnn]
    refine ⟨by rw [hCS, ← hSl0, List.take_length, Nat.sub_self]; simp, ?_⟩
    rw [(like_hearB W rs.length σ rs.length).round, er, List.filter_cons_of_pos (by simpa using hb), hfl, ← hscn, hW]
    rfl
end Go.Abs
end
set_option linter.unusedVariables false
noncomputable section
namespace Go.Abs
open Go Go.Proofs
def evK (e : Ev) : Int × Int × List Nat := (e.round, e.frm, e.w.l)
end Go.Abs
end
