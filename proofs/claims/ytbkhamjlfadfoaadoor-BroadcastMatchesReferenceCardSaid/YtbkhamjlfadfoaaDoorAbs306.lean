/- Joined: AbsBB AbsBC AbsBD AbsBE AbsBA2 AbsBF AbsBG AbsBH AbsBI AbsSA AbsYA AbsYE AbsYF. -/
import Derived.Test.YtbkhamjlfadfoaaDoorAbs305
import Derived.ProofKit
import Derived.OpenShut
set_option linter.all false
set_option maxHeartbeats 16000000
noncomputable section
namespace Go.Abs
open Go
def emptyS (m : List (Nat × Box)) (nx : Nat) : St := { s := fun _ => .dead, m := m, nx := nx }
def FGood (P : Program) (f : Nat) (us : List Value) (w : World) (R : Value → World → Prop) : Prop :=
 ((callFunc f us.toArray).run P w = .ok (.enter f us.toArray) w ∧ Calls P f us.toArray w (fun e w' => match e with | .returned v => R v w' | _ => False)) ∨
   ∃ v w', (callFunc f us.toArray).run P w = .ok (.value v) w' ∧ R v w'
def Back (E : Env) (m : List (Nat × Box)) (nx : Nat) (ex : List V) (w : World) (r : V) (m2 : List (Nat × Box)) (nx2 : Nat) (v : Value) (w' : World) : Prop :=
 ∃ E' r' m2', Sm r r' ∧ SmM m2 m2' ∧ Inv E' 0 (emptyS m2' nx2) (r' :: ex) w' ∧ (∀ D, PR E'.β D r' v) ∧ To E 0 (emptyS m nx) ex w E' (emptyS m2' nx2) (r' :: ex) w'
def GlobIn (H : Hint) (ex : List V) : Prop := ∀ g cs, H.G g = some cs → V.ip true ⟨g, 0, none⟩ cs ∈ ex
def CalleeOk (P : Program) (H : Hint) (C : Callee) : Prop :=
 ∀ (f : Nat) (as : List V) (m : List (Nat × Box)) (nx : Nat) (r : V) (m2 : List (Nat × Box)) (nx2 : Nat), C f as m nx = some (r, m2, nx2) →
  ∀ (E : Env) (ex : List V) (w : World) (us : List Value), Inv E 0 (emptyS m nx) ex w → (∀ D, PRL E.β D as us) → noRowL as = true → (∀ b ∈ atomsL as, AtOk E w nx (fun k => k ∈ keysD 0 (emptyS m nx) ex) b) → GlobIn H ex →
   FGood P f us w (Back E m nx ex w r m2 nx2)
theorem slotRows_zero (s : Nat → V) : slotRows 0 s = [] := rfl
theorem slotRows_none {nt : Nat} {s : Nat → V} (h : ∀ t, noRow (s t) = true) : slotRows nt s = [] := by
 unfold slotRows
 rw [List.flatMap_eq_nil_iff]
 exact fun t _ => rows_noRow (h t)
theorem ptrs_atoms : ∀ {v : V} {b : Nat}, At.p b ∈ atoms v → b ∈ ptrs v := by
 have key : ∀ v : V, ∀ b, At.p b ∈ atoms v → b ∈ ptrs v := by
  intro v
  refine V.rec (motive_1 := fun v => ∀ b, At.p b ∈ atoms v → b ∈ ptrs v) (motive_2 := fun l => ∀ b, At.p b ∈ atomsL l → b ∈ ptrsL l)
   ?_ ?_ ?_ ?_ ?_ ?_ ?_ ?_ ?_ ?_ ?_ ?_ ?_ ?_ ?_ ?_ v
  case refine_16 =>
   intro x l h1 h2 b hb
   rcases List.mem_append.1 hb with hb | hb
   ·exact List.mem_append_left _ (h1 b hb)
   ·exact List.mem_append_right _ (h2 b hb)
  all_goals (intros; simp_all [atoms, ptrs, atomsL, ptrsL])
  rename_i hb
  exact hb.imp (fun h => by simp_all) (fun h => by simp_all)
 exact fun {v b} => key v b
theorem ptrsL_atoms {l : List V} {b : Nat} (h : At.p b ∈ atomsL l) : b ∈ ptrsL l := by
 have := ptrs_atoms (v := .agg l) (b := b) (by simpa [atoms] using h)
 simpa [ptrs] using this
variable {P : Program} {H : Hint} {E : Env} {nt : Nat} {D D1 : St} {ex : List V} {w : World} {a : Act}
def Hint.bare (H : Hint) : Hint := { H with G := fun _ => none }
theorem now_bare (hI : Inv E nt D ex w) (hS : SlotsOk E nt D a) : Now H.bare E nt D ex w a := ⟨hI, hS, fun g cs h => by cases h⟩
def resSem (tmps : Array Value) : ResultVar → Sem Value
 | .tmp t => pure (tmps.getD t undef)
 | .cell q t => do loadVar t (← asAddr (tmps.getD q undef))
theorem results_eq (fn : Func) (tmps : Array Value) : results fn tmps = (do let vs ← fn.results.mapM (resSem tmps); pure (if h : vs.size = 1 then vs[0] else .tuple vs)) := by
 unfold results
 congr 1
theorem evRes_ok : ∀ {l : List ResultVar} {D D2 : St} {ex : List V} {ys : List V}, Inv E nt D ex w → SlotsOk E nt D a → evRes P D l = some (ys, D2) →
 ∃ us, (l.mapM (resSem a.tmps)).run P w = .ok us w ∧ (∀ D', PRL E.β D' ys us) ∧ Step E nt D D2 ex (ys ++ ex) w a
 | [], D, D2, ex, ys, hI, hS, h => by
   simp only [evRes] at h
   cases h
   exact ⟨[], rfl, fun _ => rfl, .refl hI hS⟩
 | .tmp t :: l, D, D2, ex, ys, hI, hS, h => by
   simp only [evRes] at h
   split at h
   case h_2 => cases h
   rename_i y D1 hy
   split at h
   case h_2 => cases h
   rename_i ys' D3 hys
   cases h
   have hs : Seen E nt D ex w (view (.slot t) [] (D.s t)) (a.tmps.getD t undef) := ev_ok (H := Hint.bare { G := fun _ => none, sg := fun _ => [], fz := fun _ _ _ => false, live := fun _ _ => none, fr := fun _ => false, X := fun _ _ => none, plan := fun _ _ => none, mc := fun _ _ => [], good := fun _ => true }) (now_bare hI hS) (x := .tmp t) rfl
   obtain ⟨h1, h2⟩ := settle_ok hI hS hs.pr hs.ok hs.flat hy
   obtain ⟨us, q1, q2, q3⟩ := evRes_ok h1.inv h1.slots hys
   refine ⟨_ :: us, ?_, fun D' => ⟨_, us, rfl, h2 D', q2 D'⟩, ?_⟩
   ·rw [List.mapM_cons]
    simp only [Sem.run_bind, resSem, Sem.run_pure, Result.andThen_ok, q1]
   ·have hp : (ys' ++ y :: ex).Perm (y :: ys' ++ ex) := List.perm_middle
    exact ⟨q3.inv.perm hp, q3.slots, h1.kept.trans q3.kept, q3.nx.trans h1.nx, fun k hk => h1.keys k (q3.keys k (keysD_perm hp hk))⟩
 | .cell q t :: l, D, D2, ex, ys, hI, hS, h => by
   simp only [evRes] at h
   split at h
   case h_2 => cases h
   rename_i v hv
   split at h
   case h_2 => cases h
   rename_i y D1 hy
   split at h
   case h_2 => cases h
   rename_i ys' D3 hys
   cases h
   have hvo : VOk E nt D ex w (D.s q) := by
    intro b hb
    rcases Nat.lt_or_ge q nt with ht | ht
    ·exact hI.atoms b (List.mem_append_left _ (slotAtoms_mem ht hb))
    ·rw [hS.high q ht] at hb; simp [atoms] at hb
   obtain ⟨A, r, e1, e2, hs⟩ := loadV_ok hI hS (hS.slot q) hvo hv
   obtain ⟨h1, h2⟩ := settle_ok hI hS hs.pr hs.ok hs.flat hy
   obtain ⟨us, q1, q2, q3⟩ := evRes_ok h1.inv h1.slots hys
   refine ⟨r :: us, ?_, fun D' => ⟨_, us, rfl, h2 D', q2 D'⟩, ?_⟩
   ·rw [List.mapM_cons]
    simp only [Sem.run_bind, resSem, Sem.run_pure, Result.andThen_ok, q1, e1, asAddr, e2]
   ·have hp : (ys' ++ y :: ex).Perm (y :: ys' ++ ex) := List.perm_middle
    exact ⟨q3.inv.perm hp, q3.slots, h1.kept.trans q3.kept, q3.nx.trans h1.nx, fun k hk => h1.keys k (q3.keys k (keysD_perm hp hk))⟩
mutual
theorem PR_frz {pm : Bool} : ∀ {v : V} {u : Value}, (∀ e ∈ rows v, RowOk E w e) → PR E.β D v u → PR E.β D (frz pm v) u
 | .own d k n cs, u, hr, hu => hd_PR (by rw [hd_frz E.β pm (fun e he => (hr e he).zero)]; exact hu)
 | .agg cs, u, hr, hu => by
   obtain ⟨us, rfl, h⟩ := hu
   exact ⟨us, rfl, PRL_frz hr h⟩
 | .tup cs, u, hr, hu => by
   obtain ⟨us, rfl, h⟩ := hu
   exact ⟨us, rfl, PRL_frz hr h⟩
 | .fn f l1 l2, u, hr, hu => by
   obtain ⟨ua, ub, rfl, h1, h2⟩ := hu
   exact ⟨ua, ub, rfl, PRL_frz (fun e he => hr e (by simp only [rows]; exact List.mem_append_left _ he)) h1, PRL_frz (fun e he => hr e (by simp only [rows]; exact List.mem_append_right _ he)) h2⟩
 | .int _ _, u, hr, hu | .bool _, u, hr, hu | .nilp, u, hr, hu | .nilf, u, hr, hu | .bptr _ _, u, hr, hu | .ip _ _ _, u, hr, hu | .im _ _ _ _ _, u, hr, hu | .ref _ _, u, hr, hu | .loc _ _, u, hr, hu | .dead, u, hr, hu => hu
theorem PRL_frz {pm : Bool} : ∀ {l : List V} {us : List Value}, (∀ e ∈ rowsL l, RowOk E w e) → PRL E.β D l us → PRL E.β D (frzL pm l) us
 | [], us, hr, hu => hu
 | v :: l, us, hr, hu => by
   obtain ⟨u, us', rfl, h1, h2⟩ := hu
   exact ⟨u, us', rfl, PR_frz (fun e he => hr e (List.mem_append_left _ he)) h1, PRL_frz (fun e he => hr e (List.mem_append_right _ he)) h2⟩
end
theorem rowsD_exL (nt : Nat) (D : St) (l ex : List V) : (rowsD nt D (l ++ ex)).Perm (rowsL l ++ rowsD nt D ex) := by
 unfold rowsD
 rw [rowsL_append]
 have h1 : (boxRows D.m ++ (rowsL l ++ rowsL ex)).Perm (rowsL l ++ (boxRows D.m ++ rowsL ex)) := by
  rw [← List.append_assoc, ← List.append_assoc]; exact List.Perm.append_right _ List.perm_append_comm
 have h2 : (slotRows nt D.s ++ (rowsL l ++ (boxRows D.m ++ rowsL ex))).Perm (rowsL l ++ (slotRows nt D.s ++ (boxRows D.m ++ rowsL ex))) := by
  rw [← List.append_assoc, ← List.append_assoc (rowsL l)]; exact List.Perm.append_right _ List.perm_append_comm
 exact (List.Perm.append_left _ h1).trans h2
theorem atomsD_exL {l : List V} {b : At} : b ∈ atomsD nt D (l ++ ex) ↔ b ∈ atomsL l ∨ b ∈ atomsD nt D ex := by
 unfold atomsD
 simp only [atomsL_append, List.mem_append]
 constructor
 ·rintro (h | h | h | h)
  ·exact .inr (.inl h)
  ·exact .inr (.inr (.inl h))
  ·exact .inl h
  ·exact .inr (.inr (.inr h))
 ·rintro (h | h | h | h)
  ·exact .inr (.inr (.inl h))
  ·exact .inl h
  ·exact .inr (.inl h)
  ·exact .inr (.inr (.inr h))
theorem freeze_ok {rs : List V} (hI : Inv E nt D (rs ++ ex) w) (hb : noBorL rs = true) : Inv E nt D (frzL true rs ++ ex) w ∧ (∀ k, k ∈ keysD nt D (frzL true rs ++ ex) → k ∈ keysD nt D (rs ++ ex)) ∧
 ∀ {D' us}, PRL E.β D' rs us → PRL E.β D' (frzL true rs) us := by
 have hr : ∀ e ∈ rowsL rs, RowOk E w e := fun e he => hI.rows e ((rowsD_exL nt D rs ex).mem_iff.2 (List.mem_append_left _ he))
 have hp2 : (rowsD nt D (frzL true rs ++ ex)).Perm (rowsD nt D ex) := by
  refine (rowsD_exL nt D (frzL true rs) ex).trans ?_
  rw [rowsL_noRow (noRowL_frz true rs), List.nil_append]
 refine ⟨?_, keys_sub (rowsD_exL nt D rs ex) (RLeL.refl E.β _) hp2, fun h => PRL_frz hr h⟩
 refine hI.weaken2 (rowsL rs) _ _ (rowsD_exL nt D rs ex) (RLeL.refl _ _) hp2 (fun b hb' => ?_) (fun e he => ⟨e, he, rfl, rfl⟩) hI.ids rfl
 rcases atomsD_exL.1 hb' with hb' | hb'
 ·refine .inr fun hK hK2 => ?_
  refine frzL_atoms (E := E) (E' := E) (K := fun k => k ∈ keysD nt D (rs ++ ex)) (pm := true) (fun pm0 k hp hg hk => ⟨by rw [hp rfl] at hg; exact hg, fun h => hk (hK k h)⟩) rfl rs hr (fun k hk => ⟨?_, hK2 k hk⟩) (fun c hc => hI.atoms c (atomsD_exL.2 (.inl hc))) (fun _ => hb) b hb'
  exact hI.keysG k ((keysOf_perm (rowsD_exL nt D rs ex)).mem_iff.2 (by rw [keysOf_append]; exact List.mem_append_left _ hk))
 ·exact .inl (atomsD_exL.2 (.inr hb'))
theorem forget_slots (hI : Inv E nt D ex w) : Inv E 0 (emptyS D.m D.nx) ex w ∧ ∀ k, k ∈ keysD 0 (emptyS D.m D.nx) ex → k ∈ keysD nt D ex := by
 have hp : (rowsD nt D ex).Perm (slotRows nt D.s ++ rowsD 0 (emptyS D.m D.nx) ex) := .refl _
 refine ⟨hI.weaken (slotRows nt D.s) _ _ hp (RLeL.refl _ _) (.refl _) (fun b hb => ?_) (fun e he => ⟨e, he, rfl, rfl⟩) hI.ids rfl, keys_sub hp (RLeL.refl E.β _) (.refl _)⟩
 unfold atomsD at hb ⊢
 exact List.mem_append_right _ hb
theorem boxRows_filter (p : Nat → Bool) : ∀ m : List (Nat × Box), ∃ S, (boxRows m).Perm (S ++ boxRows (m.filter fun e => p e.1))
 | [] => ⟨[], .refl _⟩
 | (i, c) :: m => by
   obtain ⟨S, hS⟩ := boxRows_filter p m
   by_cases hp : p i = true
   ·refine ⟨S, ?_⟩
    simp only [List.filter_cons, hp, if_true, boxRows]
    have h1 : (boxRow c :: (rowsL c.cs ++ boxRows m)).Perm ((boxRow c :: rowsL c.cs) ++ (S ++ boxRows (m.filter fun e => p e.1))) := List.Perm.append_left (boxRow c :: rowsL c.cs) hS
    refine h1.trans ?_
    rw [← List.append_assoc]
    refine (List.Perm.append_right _ List.perm_append_comm).trans ?_
    rw [List.append_assoc]; exact .refl _
   ·refine ⟨(boxRow c :: rowsL c.cs) ++ S, ?_⟩
    simp only [List.filter_cons, hp, if_false, boxRows, Bool.false_eq_true]
    have h1 : (boxRow c :: (rowsL c.cs ++ boxRows m)).Perm ((boxRow c :: rowsL c.cs) ++ (S ++ boxRows (m.filter fun e => p e.1))) := List.Perm.append_left (boxRow c :: rowsL c.cs) hS
    rw [List.append_assoc]
    exact h1
theorem boxAtoms_filter (p : Nat → Bool) {b : At} : ∀ {m : List (Nat × Box)}, b ∈ boxAtoms (m.filter fun e => p e.1) → b ∈ boxAtoms m
 | [], h => h
 | (i, c) :: m, h => by
   by_cases hp : p i = true
   ·simp only [List.filter_cons, hp, if_true, boxAtoms] at h ⊢
    rcases List.mem_append.1 h with h | h
    ·exact List.mem_append_left _ h
    ·exact List.mem_append_right _ (boxAtoms_filter p h)
   ·simp only [List.filter_cons, hp, if_false, Bool.false_eq_true] at h
    exact List.mem_append_right _ (boxAtoms_filter p h)
theorem boxAtoms_ex {m : List (Nat × Box)} {b : At} (h : b ∈ boxAtoms m) : ∃ e ∈ m, b ∈ atomsL e.2.cs := by
 induction m with
 | nil => simp [boxAtoms] at h
 | cons x m ih =>
   obtain ⟨i, c⟩ := x
   rcases List.mem_append.1 h with h | h
   ·exact ⟨_, List.mem_cons_self, h⟩
   ·obtain ⟨e, he, h⟩ := ih h; exact ⟨e, List.mem_cons_of_mem _ he, h⟩
theorem filter_fst (p : Nat → Bool) (m : List (Nat × Box)) (h : (m.map (·.1)).Nodup) : ((m.filter fun e => p e.1).map (·.1)).Nodup :=
 h.sublist (List.Sublist.map _ List.filter_sublist)
theorem forget_boxes {m : List (Nat × Box)} {nx nx0 : Nat} {r : V} (hI : Inv E 0 (emptyS m nx) (r :: ex) w) (hle : nx0 ≤ nx) (hr : ∀ b ∈ ptrs r, b < nx0) (hm : ∀ e ∈ m.filter (fun e => decide (e.1 < nx0)), ∀ b ∈ ptrsL e.2.cs, b < nx0)
 (hex : ∀ b, At.p b ∈ atomsL ex → b < nx0) :
 Inv E 0 (emptyS (m.filter fun e => decide (e.1 < nx0)) nx0) (r :: ex) w ∧ ∀ k, k ∈ keysD 0 (emptyS (m.filter fun e => decide (e.1 < nx0)) nx0) (r :: ex) → k ∈ keysD 0 (emptyS m nx) (r :: ex) := by
 obtain ⟨S, hS⟩ := boxRows_filter (fun i => decide (i < nx0)) m
 have hp : (rowsD 0 (emptyS m nx) (r :: ex)).Perm (S ++ rowsD 0 (emptyS (m.filter fun e => decide (e.1 < nx0)) nx0) (r :: ex)) := by
  unfold rowsD
  simp only [slotRows_zero, List.nil_append, emptyS]
  rw [← List.append_assoc]
  exact List.Perm.append_right _ hS
 have hks := keys_sub hp (RLeL.refl E.β _) (.refl _)
 have hat : ∀ b ∈ atomsD 0 (emptyS (m.filter fun e => decide (e.1 < nx0)) nx0) (r :: ex), b ∈ atomsD 0 (emptyS m nx) (r :: ex) := by
  intro b hb
  unfold atomsD at hb ⊢
  rcases List.mem_append.1 hb with hb | hb
  ·exact List.mem_append_left _ hb
  ·refine List.mem_append_right _ ?_
   rcases List.mem_append.1 hb with hb | hb
   ·exact List.mem_append_left _ (boxAtoms_filter (fun i => decide (i < nx0)) hb)
   ·exact List.mem_append_right _ hb
 refine ⟨⟨fun e he => hI.rows e (hp.mem_iff.2 (List.mem_append_right _ he)), ?_, fun b hb => ?_, fun e he => ?_, filter_fst (fun i => decide (i < nx0)) m hI.ids, fun k hk => hI.keysG k (hks k hk), hI.newG, hI.gpb⟩, hks⟩
 ·have := (keysOf_perm hp).nodup_iff.1 hI.nodup
  rw [keysOf_append] at this
  exact (List.nodup_append.1 this).2.1
 ·cases b with
  | p b =>
    show b < nx0
    unfold atomsD at hb
    rcases List.mem_append.1 hb with hb | hb
    ·simp [slotAtoms] at hb
    ·rcases List.mem_append.1 hb with hb | hb
     ·obtain ⟨e, he, hb⟩ := boxAtoms_ex hb
      exact hm e he b (ptrsL_atoms hb)
     ·rcases List.mem_append.1 hb with hb | hb
      ·exact hr b (ptrs_atoms hb)
      ·exact hex b hb
  | i pm A cap n cs => exact (hI.atoms _ (hat _ hb)).mono (nx' := nx0) (nx := nx0) (Nat.le_refl _) hks
  | f pm A cs => exact (hI.atoms _ (hat _ hb)).mono (nx' := nx0) (nx := nx0) (Nat.le_refl _) hks
 ·have h1 := List.mem_filter.1 he
  have h2 : e.1 < nx0 := by simpa using h1.2
  exact ⟨(hI.boxes e h1.1).1, h2⟩
end Go.Abs
end
noncomputable section
namespace Go.Abs
open Go
variable {P : Program} {H : Hint} {E : Env} {nt : Nat} {D D1 : St} {ex : List V} {w : World} {a : Act}
theorem codeB_mono {f nt nt' : Nat} (h : nt ≤ nt') : ∀ c : Code, codeB H f nt c = true → codeB H f nt' c = true
 | .region id ops dr, hB => by
   unfold codeB at hB ⊢
   rw [Bool.and_eq_true] at hB ⊢
   refine ⟨?_, hB.2⟩
   have := dst_of hB.1
   rw [Array.all_eq_true_iff_forall_mem]
   intro o ho
   cases hd : o.dst with
   | none => rfl
   | some t => simpa using Nat.lt_of_lt_of_le (this o ho t hd) h
 | .seq a b, hB => by
   unfold codeB at hB ⊢
   rw [Bool.and_eq_true] at hB ⊢
   exact ⟨codeB_mono h a hB.1, codeB_mono h b hB.2⟩
 | .cond _ a b, hB => by
   unfold codeB at hB ⊢
   rw [Bool.and_eq_true] at hB ⊢
   exact ⟨codeB_mono h a hB.1, codeB_mono h b hB.2⟩
 | .block _ c, hB => codeB_mono h c hB
 | .loop c, hB => codeB_mono h c hB
 | .skip, _ | .exit _, _ | .ret, _ | .rangeFunc .., _ | .scope _, _ | .label _, _ | .goto _, _ | .refuse _, _ => rfl
def progB (P : Program) (H : Hint) : Bool := (List.range P.funcs.size).all fun f => match P.funcs[f]? with
 | some fn => match fn.body with | some c => !H.good f || (codeB H f fn.ntmps c && !(fn.name == "runtime.NumGoroutine")) | none => true
 | none => true
theorem progB_spec (h : progB P H = true) {f : Nat} {fn : Func} {c : Code} (hg : H.good f = true) (hf : P.funcs[f]? = some fn) (hc : fn.body = some c) : codeB H f fn.ntmps c = true ∧ (fn.name == "runtime.NumGoroutine") = false := by
 unfold progB at h
 rw [List.all_eq_true] at h
 have := h f (List.mem_range.2 (Array.getElem?_eq_some_iff.1 hf).1)
 simp only [hf, hc, hg, Bool.not_true, Bool.false_or, Bool.and_eq_true, Bool.not_eq_true'] at this
 exact this
theorem packRes_rows (l : List V) : rows (packRes l) = rowsL l ∧ atoms (packRes l) = atomsL l := by
 unfold packRes
 split
 ·simp [rowsL, atomsL]
 ·simp [rows, atoms]
theorem packRes_PR {β : Nat → Nat} {D : St} : ∀ {l : List V} {us : List Value}, PRL β D l us → PR β D (packRes l) (if h : us.toArray.size = 1 then us.toArray[0] else .tuple us.toArray)
 | [], us, h => by
   simp only [PRL] at h
   subst h
   exact ⟨[], rfl, rfl⟩
 | [v], us, h => by
   obtain ⟨u, us', rfl, h1, h2⟩ := h
   simp only [PRL] at h2
   subst h2
   exact h1
 | v :: v2 :: l, us, h => by
   have hl := (PRL_get h).1
   have : ¬ us.toArray.size = 1 := by
    intro h1
    simp at h1
    rw [h1] at hl
    simp at hl
   rw [dif_neg this]
   exact ⟨us, rfl, h⟩
theorem enter_run {f : Nat} {fn : Func} {c : Code} {us : List Value} (hf : P.funcs[f]? = some fn) (hc : fn.body = some c) (hn : (fn.name == "runtime.NumGoroutine") = false) : (callFunc f us.toArray).run P w = .ok (.enter f us.toArray) w := by
 have hn' : ¬ fn.name = "runtime.NumGoroutine" := by simpa using hn
 simp [callFunc, hf, hc, hn']
def entryS (as : List V) (m : List (Nat × Box)) (nx : Nat) : St := { s := fun i => match as[i]? with | some v => v | none => .dead, m := m, nx := nx }
def entryA (fn : Func) (us : List Value) : Act := { tmps := us.toArray ++ Array.replicate (fn.ntmps - us.toArray.size) undef, defers := [] }
def sizeA (fn : Func) (us : List Value) : Nat := us.length + (fn.ntmps - us.length)
theorem entry_keys {as : List V} {m : List (Nat × Box)} {nx : Nat} (hflat : noRowL as = true) : rowsD nt (entryS as m nx) ex = rowsD 0 (emptyS m nx) ex ∧ keysD nt (entryS as m nx) ex = keysD 0 (emptyS m nx) ex := by
 have hnoRow : ∀ t, noRow ((entryS as m nx).s t) = true := by
  intro t
  simp only [entryS]
  cases hq : as[t]? with
  | none => rfl
  | some v => exact noRowL_get hflat hq
 have hrows : rowsD nt (entryS as m nx) ex = rowsD 0 (emptyS m nx) ex := by
  unfold rowsD
  rw [slotRows_none hnoRow, slotRows_zero]
  rfl
 exact ⟨hrows, by unfold keysD; rw [hrows]⟩
theorem entry_ok {fn : Func} {as : List V} {m : List (Nat × Box)} {nx : Nat} {us : List Value} (hI : Inv E 0 (emptyS m nx) ex w) (hu : ∀ D, PRL E.β D as us) (hflat : noRowL as = true)
 (hat : ∀ b ∈ atomsL as, AtOk E w nx (fun k => k ∈ keysD 0 (emptyS m nx) ex) b) (hG : GlobIn H ex) : Now H E (sizeA fn us) (entryS as m nx) ex w (entryA fn us) := by
 obtain ⟨hrows, hkeys⟩ := entry_keys (nt := sizeA fn us) (ex := ex) (m := m) (nx := nx) hflat
 have hlen : as.length = us.length := (PRL_get (hu (emptyS m nx))).1
 refine ⟨⟨fun e he => hI.rows e (by rw [← hrows]; exact he), by rw [hkeys]; exact hI.nodup, fun b hb => ?_, fun e he => hI.boxes e he, hI.ids, fun k hk => hI.keysG k (by rw [← hkeys]; exact hk), hI.newG, hI.gpb⟩, ⟨by simp [entryA, sizeA], rfl, fun t => ?_, fun t ht => ?_⟩, hG⟩
 ·rw [hkeys]
  unfold atomsD at hb
  rcases List.mem_append.1 hb with hb | hb
  ·obtain ⟨t, _, hb⟩ := List.mem_flatMap.1 hb
   simp only [entryS] at hb
   cases hq : as[t]? with
   | none => rw [hq] at hb; simp [atoms] at hb
   | some v => rw [hq] at hb; exact hat b (atoms_mem (List.mem_of_getElem? hq) hb)
  ·exact hI.atoms b (List.mem_append_right _ hb)
 ·show PR E.β (entryS as m nx) (match as[t]? with | some v => v | none => .dead) _
  cases hq : as[t]? with
  | none => trivial
  | some v =>
    obtain ⟨u, h1, h2⟩ := (PRL_get (hu (entryS as m nx))).2 t v hq
    have : (entryA fn us).tmps.getD t undef = u := by
     have hlt : t < us.length := (List.getElem?_eq_some_iff.1 h1).1
     simp only [entryA]
     rw [Array.getD_eq_getD_getElem?, Array.getElem?_append_left (by simpa using hlt)]
     simp [h1]
    rw [this]
    exact h2
 ·show (match as[t]? with | some v => v | none => V.dead) = .dead
  have : as[t]? = none := List.getElem?_eq_none (by unfold sizeA at ht; omega)
  rw [this]
theorem exit_ok {fn : Func} {as : List V} {m : List (Nat × Box)} {nx : Nat} {frb : Bool} {rs : List V} {D D1 : St} {r : V} {m2 : List (Nat × Box)} {nx2 : Nat} (hI : Inv E 0 (emptyS m nx) ex w) (hflat : noRowL as = true)
 (hres : evRes P D fn.results.toList = some (rs, D1)) (hfr : ¬ (frb && !noBorL rs) = true)
 (h : (if ((ptrs (packRes (if frb then frzL true rs else rs))) ++ (D1.m.filter fun e => decide (e.1 < nx)).flatMap fun e => ptrsL e.2.cs).any (fun b => decide (nx ≤ b)) then some (packRes (if frb then frzL true rs else rs), D1.m, D1.nx) else some (packRes (if frb then frzL true rs else rs), D1.m.filter fun e => decide (e.1 < nx), nx)) = some (r, m2, nx2))
 {E' : Env} {D' : St} {w' : World} {a' : Act} (hs : SmS D D') (hT : To E nt (entryS as m nx) ex w E' D' ex w') (hN' : Now H E' nt D' ex w' a') :
 a'.defers = [] ∧ ∃ v, (results fn a'.tmps).run P w' = .ok v w' ∧ Back E m nx ex w r m2 nx2 v w' := by
 have hkeys := (entry_keys (nt := nt) (ex := ex) (m := m) (nx := nx) hflat).2
 refine ⟨hN'.slots.defers, ?_⟩
 have k2 := evRes_sm (P := P) fn.results.toList hs
 rw [hres] at k2
 generalize hq : evRes P D' fn.results.toList = q at k2
 cases k2 with
 | @some _ y hy =>
   obtain ⟨rs', D1'⟩ := y
   obtain ⟨hrs, hs1⟩ := hy
   simp only at hrs hs1
   obtain ⟨vs, g1, g2, g3⟩ := evRes_ok hN'.inv hN'.slots hq
   refine ⟨(if h : vs.toArray.size = 1 then vs.toArray[0] else .tuple vs.toArray), by rw [results_eq]; simp only [Array.mapM_eq_mapM_toList, Sem.run_bind, Sem.run_map, g1, Result.andThen_ok, Sem.run_pure], ?_⟩
   obtain ⟨ys, hys⟩ : ∃ ys, ys = (if frb then frzL true rs' else rs') := ⟨_, rfl⟩
   have hysm : SmL (if frb then frzL true rs else rs) ys := by
    rw [hys]
    split
    ·exact frzL_sm true hrs
    ·exact hrs
   have hys2 : Inv E' nt D1' (ys ++ ex) w' ∧ (∀ k, k ∈ keysD nt D1' (ys ++ ex) → k ∈ keysD nt D1' (rs' ++ ex)) ∧ ∀ D, PRL E'.β D ys vs := by
    rw [hys]
    cases hH : frb with
    | false => exact ⟨g3.inv, fun _ h => h, g2⟩
    | true =>
      rw [hH, Bool.true_and] at hfr
      have hnb : noBorL rs' = true := by rw [noBorL_sm hrs]; simpa using hfr
      obtain ⟨q1, q2, q3⟩ := freeze_ok g3.inv hnb
      exact ⟨q1, q2, fun D => q3 (g2 D)⟩
   obtain ⟨i1, i2, i3⟩ := hys2
   obtain ⟨pr1, pr2⟩ := packRes_rows ys
   have i4 : Inv E' nt D1' (packRes ys :: ex) w' := i1.pack pr1 pr2
   have i5 := forget_slots i4
   have hsmr : Sm (packRes (if frb then frzL true rs else rs)) (packRes ys) := packRes_sm hysm
   have hnx1 : D1'.nx = D'.nx := g3.nx
   have hkk : ∀ k, k ∈ keysD 0 (emptyS D1'.m D1'.nx) (packRes ys :: ex) → k ∈ keysD 0 (emptyS m nx) ex ∨ w.heap.size ≤ k := by
    intro k hk
    have h1 := i5.2 k hk
    rw [keysD_pack pr1] at h1
    have h3 := g3.keys k (i2 k h1)
    have h4 := hT.keys k h3
    rw [hkeys] at h4
    exact h4
   have hTo : ∀ m' nx', nx ≤ nx' → (∀ k, k ∈ keysD 0 (emptyS m' nx') (packRes ys :: ex) → k ∈ keysD 0 (emptyS D1'.m D1'.nx) (packRes ys :: ex)) → To E 0 (emptyS m nx) ex w E' (emptyS m' nx') (packRes ys :: ex) w' := by
    intro m' nx' hle hsub
    refine ⟨fun b hb => hT.beta b hb, hT.gp, hT.gb, hle, hT.size, fun k hk => hkk k (hsub k hk), fun k hk hn => hT.same k hk (by rw [hkeys]; exact hn), hT.os, hT.tape, hT.out⟩
   have hle1 : nx ≤ D1'.nx := by rw [hnx1]; exact hT.nx
   have hmsm := hs1.m.filter (fun i => decide (i < nx))
   have hpt : ptrs (packRes ys) = ptrs (packRes (if frb then frzL true rs else rs)) := ptrs_sm hsmr
   have hfl := flatPtrs_sm hmsm
   generalize packRes (if frb then frzL true rs else rs) = r0 at h hsmr hpt
   split at h
   ·cases h
    refine ⟨E', packRes ys, D1'.m, hsmr, hs1.m, ?_, fun D => packRes_PR (i3 D), ?_⟩
    ·rw [← hs1.nx]; exact i5.1
    ·rw [← hs1.nx]; exact hTo _ _ hle1 (fun k hk => hk)
   ·rename_i hno
    cases h
    rw [← hpt, ← hfl] at hno
    have hno' : ∀ b, b ∈ ptrs (packRes ys) ∨ b ∈ ((D1'.m.filter fun e => decide (e.1 < nx)).flatMap fun e => ptrsL e.2.cs) → b < nx := by
     intro b hb
     simp only [List.any_eq_true, List.mem_append, decide_eq_true_eq, not_exists, not_and] at hno
     have := hno b hb
     omega
    have hexp : ∀ b, At.p b ∈ atomsL ex → b < nx := fun b hb => hI.atoms (.p b) (List.mem_append_right _ (List.mem_append_right _ hb))
    have i6 := forget_boxes (nx0 := nx) i5.1 hle1 (fun b hb => hno' b (.inl hb)) (fun e he b hb => hno' b (.inr (List.mem_flatMap.2 ⟨e, he, hb⟩))) hexp
    exact ⟨E', packRes ys, _, hsmr, hmsm, i6.1, fun D => packRes_PR (i3 D), hTo _ _ (Nat.le_refl _) i6.2⟩
theorem body_ok (hm : P.follows .mixedOrders = true) (hX : XSm H) (hP : progB P H = true) {k : Nat} (hC : CallsOk P H (evCall P H k)) : CalleeOk P H (evCall P H (k + 1)) := by
 intro f as m nx r m2 nx2 h E ex w us hI hu hflat hat hG
 unfold evCall at h
 split at h
 ·cases h
 rename_i hgood
 have hgood : H.good f = true := by simpa using hgood
 cases hf : P.funcs[f]? with
 | none => rw [hf] at h; cases h
 | some fn =>
   rw [hf] at h
   simp only at h
   cases hb : fn.body with
   | none => rw [hb] at h; cases h
   | some c =>
     rw [hb] at h
     simp only at h
     obtain ⟨hcB, hname⟩ := progB_spec hP hgood hf hb
     split at h
     case h_2 => cases h
     rename_i e D hcode
     split at h
     case isFalse => cases h
     rename_i he
     split at h
     case h_2 => cases h
     rename_i rs D1 hres
     split at h
     ·cases h
     rename_i hfr
     refine .inl ⟨enter_run hf hb hname, calls_of_wp hf hb ?_⟩
     have hN0 : Now H E (sizeA fn us) (entryS as m nx) ex w (entryA fn us) := entry_ok hI hu hflat hat hG
     have hcode : evCode P H (evCall P H k) f k c (entryS as m nx) = some (e, D) := hcode
     refine code_ok hC hX (evCall_sm hX k) hm f k c (codeB_mono (by unfold sizeA; omega) c hcB) hN0 hcode ?_
     intro E' D' w' a' hs hT hN'
     have hfin := exit_ok (fn := fn) hI hflat hres hfr h hs hT hN'
     rcases he with rfl | rfl
     ·exact hfin
     ·exact hfin
end Go.Abs
end
noncomputable section
namespace Go.Abs
open Go
def hitB (ids : List Nat) (nx : Nat) : Root → Bool
 | .box b => ids.contains b || decide (nx ≤ b)
 | .slot _ => false
theorem addrOf_off {β : Nat → Nat} {D D' : St} {r : Root} (hk : ∀ q d k n cs, look D' r q = some (.own d k n cs) → ∃ cs', look D r q = some (.own d k n cs')) {p : List Nat} {a : Addr} (h : addrOf β D' r p = some a) : addrOf β D r p = some a := by
 unfold addrOf at h ⊢
 cases hl : p.getLast? with
 | none => rw [hl] at h; cases h
 | some o =>
   rw [hl] at h
   cases r with
   | box b =>
     cases hd : p.dropLast with
     | nil => rw [hd] at h; exact h
     | cons x q =>
       rw [hd] at h
       simp only at h ⊢
       split at h
       ·rename_i g c1 c2 c3 c4 c5 hlk
        obtain ⟨cs', h'⟩ := hk _ _ _ _ _ hlk
        rw [h']; exact h
       ·cases h
   | slot t =>
     simp only at h ⊢
     split at h
     ·rename_i g c1 c2 c3 c4 c5 hlk
      obtain ⟨cs', h'⟩ := hk _ _ _ _ _ hlk
      rw [h']; exact h
     ·cases h
mutual
theorem PR_killB {β : Nat → Nat} {D D' : St} {ids : List Nat} {nx : Nat} (hk : ∀ r, hitB ids nx r = false → ∀ q d k n cs, look D' r q = some (.own d k n cs) → ∃ cs', look D r q = some (.own d k n cs')) :
 ∀ {v : V} {u : Value}, PR β D v u → PR β D' (killB ids nx v) u
 | .ref (.slot t) q, u, h => by
   intro d k n cs hq
   obtain ⟨cs', h'⟩ := hk (.slot t) rfl _ _ _ _ _ hq
   exact h d k n cs' h'
 | .ref (.box b) q, u, h => by
   simp only [killB]
   cases hh : (ids.contains b || decide (nx ≤ b)) with
   | true => simp [PR]
   | false =>
     simp only [Bool.false_eq_true, if_false]
     intro d k n cs hq
     obtain ⟨cs', h'⟩ := hk (.box b) hh _ _ _ _ _ hq
     exact h d k n cs' h'
 | .loc (.slot t) q, u, h => fun a ha => h a (addrOf_off (hk (.slot t) rfl) ha)
 | .loc (.box b) q, u, h => by
   simp only [killB]
   cases hh : (ids.contains b || decide (nx ≤ b)) with
   | true => simp [PR]
   | false =>
     simp only [Bool.false_eq_true, if_false]
     exact fun a ha => h a (addrOf_off (hk (.box b) hh) ha)
 | .agg cs, u, h => by obtain ⟨us, rfl, hl⟩ := h; exact ⟨us, rfl, PRL_killB hk hl⟩
 | .tup cs, u, h => by obtain ⟨us, rfl, hl⟩ := h; exact ⟨us, rfl, PRL_killB hk hl⟩
 | .fn f a b, u, h => by obtain ⟨ua, ub, rfl, ha, hb⟩ := h; exact ⟨ua, ub, rfl, PRL_killB hk ha, PRL_killB hk hb⟩
 | .dead, _, _ => trivial
 | .int _ _, _, h | .bool _, _, h | .nilp, _, h | .nilf, _, h | .bptr _ _, _, h | .ip _ _ _, _, h | .im _ _ _ _ _, _, h | .own _ _ _ _, _, h => h
theorem PRL_killB {β : Nat → Nat} {D D' : St} {ids : List Nat} {nx : Nat} (hk : ∀ r, hitB ids nx r = false → ∀ q d k n cs, look D' r q = some (.own d k n cs) → ∃ cs', look D r q = some (.own d k n cs')) :
 ∀ {l : List V} {us : List Value}, PRL β D l us → PRL β D' (killBL ids nx l) us
 | [], us, h => h
 | v :: l, us, h => by obtain ⟨u, us', rfl, h1, h2⟩ := h; exact ⟨u, us', rfl, PR_killB hk h1, PRL_killB hk h2⟩
end
mutual
theorem killB_mild (ids : List Nat) (nx : Nat) : ∀ (v : V) (q : List Nat) (d : Dec) (k n : Nat) (cs : List V), go q (killB ids nx v) = some (.own d k n cs) → go q v = some (.own d k n cs)
 | .ref (.box b) q', q, d, k, n, cs, h => by simp only [killB] at h; split at h <;> cases q <;> simp [go] at h
 | .loc (.box b) q', q, d, k, n, cs, h => by simp only [killB] at h; split at h <;> cases q <;> simp [go] at h
 | .ref (.slot b) q', q, d, k, n, cs, h => h
 | .loc (.slot b) q', q, d, k, n, cs, h => h
 | .agg l, q, d, k, n, cs, h => by
   cases q with
   | nil => simp [killB, go] at h
   | cons o q => simp only [killB, go] at h ⊢; exact killBL_mild ids nx l o q d k n cs h
 | .tup l, q, d, k, n, cs, h => by
   cases q with
   | nil => simp [killB, go] at h
   | cons o q => simp only [killB, go] at h ⊢; exact killBL_mild ids nx l o q d k n cs h
 | .fn f a b, q, d, k, n, cs, h => by cases q <;> simp [killB, go] at h
 | .dead, q, d, k, n, cs, h | .int _ _, q, d, k, n, cs, h | .bool _, q, d, k, n, cs, h | .nilp, q, d, k, n, cs, h | .nilf, q, d, k, n, cs, h | .bptr _ _, q, d, k, n, cs, h | .ip _ _ _, q, d, k, n, cs, h
 | .im _ _ _ _ _, q, d, k, n, cs, h | .own _ _ _ _, q, d, k, n, cs, h => h
theorem killBL_mild (ids : List Nat) (nx : Nat) : ∀ (l : List V) (o : Nat) (q : List Nat) (d : Dec) (k n : Nat) (cs : List V),
 (match (killBL ids nx l)[o]? with | some y => go q y | none => none) = some (.own d k n cs) → (match l[o]? with | some y => go q y | none => none) = some (.own d k n cs)
 | [], o, q, d, k, n, cs, h => by simp [killBL] at h
 | v :: l, 0, q, d, k, n, cs, h => by simp only [killBL, List.getElem?_cons_zero] at h ⊢; exact killB_mild ids nx v q d k n cs h
 | v :: l, o + 1, q, d, k, n, cs, h => by simp only [killBL, List.getElem?_cons_succ] at h ⊢; exact killBL_mild ids nx l o q d k n cs h
end
mutual
theorem rows_killB (ids : List Nat) (nx : Nat) : ∀ v : V, rows (killB ids nx v) = rows v ∧ atoms (killB ids nx v) = atoms v
 | .ref (.box b) q' => by simp only [killB]; split <;> exact ⟨rfl, rfl⟩
 | .loc (.box b) q' => by simp only [killB]; split <;> exact ⟨rfl, rfl⟩
 | .ref (.slot b) q' | .loc (.slot b) q' => ⟨rfl, rfl⟩
 | .agg l => rowsL_killB ids nx l
 | .tup l => rowsL_killB ids nx l
 | .fn f a b => by simp only [killB, rows, atoms, (rowsL_killB ids nx a).1, (rowsL_killB ids nx b).1, (rowsL_killB ids nx a).2, (rowsL_killB ids nx b).2, and_self]
 | .dead | .int _ _ | .bool _ | .nilp | .nilf | .bptr _ _ | .ip _ _ _ | .im _ _ _ _ _ | .own _ _ _ _ => ⟨rfl, rfl⟩
theorem rowsL_killB (ids : List Nat) (nx : Nat) : ∀ l : List V, rowsL (killBL ids nx l) = rowsL l ∧ atomsL (killBL ids nx l) = atomsL l
 | [] => ⟨rfl, rfl⟩
 | v :: l => by simp only [killBL, rowsL, atomsL, (rows_killB ids nx v).1, (rowsL_killB ids nx l).1, (rows_killB ids nx v).2, (rowsL_killB ids nx l).2, and_self]
end
mutual
theorem noBor_atoms : ∀ {v : V}, noBor v = true → ∀ b ∈ atoms v, (∀ pm A cap n cs, b = At.i pm A cap n cs → pm = true) ∧ (∀ pm A cs, b = At.f pm A cs → pm = true)
 | .im pm A cap n cs, h, b, hb => by
   simp only [noBor, Bool.and_eq_true] at h
   rcases List.mem_cons.1 hb with rfl | hb
   ·exact ⟨fun pm' A' cap' n' cs' e => (by cases e; exact h.1), fun _ _ _ e => (by cases e)⟩
   ·exact noBorL_atoms h.2 b hb
 | .ip pm A cs, h, b, hb => by
   simp only [noBor, Bool.and_eq_true] at h
   rcases List.mem_cons.1 hb with rfl | hb
   ·exact ⟨fun _ _ _ _ _ e => (by cases e), fun pm' A' cs' e => (by cases e; exact h.1)⟩
   ·exact noBorL_atoms h.2 b hb
 | .own d k n cs, h, b, hb => noBorL_atoms (by simpa [noBor] using h) b hb
 | .agg cs, h, b, hb => noBorL_atoms (by simpa [noBor] using h) b hb
 | .tup cs, h, b, hb => noBorL_atoms (by simpa [noBor] using h) b hb
 | .fn f l1 l2, h, b, hb => by
   simp only [noBor, Bool.and_eq_true] at h
   rcases List.mem_append.1 hb with hb | hb
   ·exact noBorL_atoms h.1 b hb
   ·exact noBorL_atoms h.2 b hb
 | .bptr c o, h, b, hb => by
   simp only [atoms, List.mem_singleton] at hb
   subst hb
   exact ⟨fun _ _ _ _ _ e => (by cases e), fun _ _ _ e => (by cases e)⟩
 | .dead, h, b, hb | .int _ _, h, b, hb | .bool _, h, b, hb | .nilp, h, b, hb | .nilf, h, b, hb | .ref _ _, h, b, hb | .loc _ _, h, b, hb => by simp [atoms] at hb
theorem noBorL_atoms : ∀ {l : List V}, noBorL l = true → ∀ b ∈ atomsL l, (∀ pm A cap n cs, b = At.i pm A cap n cs → pm = true) ∧ (∀ pm A cs, b = At.f pm A cs → pm = true)
 | [], h, b, hb => by simp [atomsL] at hb
 | v :: l, h, b, hb => by
   simp only [noBorL, Bool.and_eq_true] at h
   rcases List.mem_append.1 hb with hb | hb
   ·exact noBor_atoms h.1 b hb
   ·exact noBorL_atoms h.2 b hb
end
theorem AtOk.move {E E' : Env} {w w' : World} {nx nx' : Nat} {K K' : Nat → Prop} {b : At} (hnx : nx ≤ nx') (hβ : E'.β = E.β)
 (hg : ∀ pm k, ((∃ A cap n cs, b = .i pm A cap n cs) ∨ ∃ A cs, b = .f pm A cs) → E.good pm k → ¬ K k → k < w.heap.size → E'.good pm k ∧ ¬ K' k ∧ w'.heap[k]? = w.heap[k]?)
 (h : AtOk E w nx K b) : AtOk E' w' nx' K' b := by
 have hF : ∀ {pm A cs}, (∀ k, E.good pm k → ¬ K k → k < w.heap.size → E'.good pm k ∧ ¬ K' k ∧ w'.heap[k]? = w.heap[k]?) → FOk E w K pm A cs → FOk E' w' K' pm A cs := by
  intro pm A cs hg h
  have hlt : cs ≠ [] → A.block < w.heap.size := by
   intro hc
   match cs, hc, h with
   | x :: l, _, h =>
     obtain ⟨u, hu, _⟩ := h.2.1 0 x rfl
     have : A.add 0 = A := rfl
     rw [this] at hu
     unfold World.cell? at hu
     split at hu
     ·rename_i he; exact (Array.getElem?_eq_some_iff.1 he).1
     ·cases hu
  refine ⟨h.1, fun j x hx => ?_, fun hc => ?_⟩
  ·obtain ⟨u, hu, hm⟩ := h.2.1 j x hx
   have hc : cs ≠ [] := by intro e; rw [e] at hx; simp at hx
   have h2 := h.2.2 hc
   refine ⟨u, ?_, by rw [hβ]; exact hm⟩
   unfold World.cell? at hu ⊢
   rw [block_of_add] at hu ⊢
   rw [(hg A.block h2.1 h2.2 (hlt hc)).2.2]; exact hu
  ·have h2 := h.2.2 hc
   have := hg A.block h2.1 h2.2 (hlt hc)
   exact ⟨this.1, this.2.1⟩
 cases b with
 | p b => exact Nat.lt_of_lt_of_le h hnx
 | i pm A cap n cs =>
   refine ⟨h.1, ?_⟩
   have h2 := h.2
   cases A with
   | none => exact h2
   | some A => exact hF (fun k => hg pm k (.inl ⟨_, _, _, _, rfl⟩)) h2
 | f pm A cs => exact hF (fun k => hg pm k (.inr ⟨_, _, rfl⟩)) h
theorem getBox_split {m : List (Nat × Box)} {ids : List Nat} {b : Nat} (h : ids.contains b = false) : getBox (othersM m ids) b = getBox m b := by
 induction m with
 | nil => rfl
 | cons x m ih =>
   obtain ⟨i, c⟩ := x
   unfold othersM at ih ⊢
   by_cases hc : ids.contains i = true
   ·have hib : i ≠ b := fun e => by subst e; rw [hc] at h; cases h
    simp only [List.filter_cons, hc, Bool.not_true, Bool.false_eq_true, if_false, getBox, if_neg hib]
    exact ih
   ·have hc' : ids.contains i = false := by simpa using hc
    simp only [List.filter_cons, hc', Bool.not_false, if_true, getBox]
    split
    ·rfl
    ·exact ih
theorem getBox_app : ∀ (m m' : List (Nat × Box)) (b : Nat), getBox (m ++ m') b = match getBox m b with | some x => some x | none => getBox m' b
 | [], m', b => rfl
 | (i, c) :: m, m', b => by
   simp only [List.cons_append, getBox]
   split
   ·rfl
   ·exact getBox_app m m' b
theorem getBox_none {m : List (Nat × Box)} {b : Nat} (h : ∀ e ∈ m, e.1 ≠ b) : getBox m b = none := by
 induction m with
 | nil => rfl
 | cons x m ih =>
   obtain ⟨i, c⟩ := x
   simp only [getBox, if_neg (h (i, c) List.mem_cons_self)]
   exact ih fun e he => h e (List.mem_cons_of_mem _ he)
theorem boxRows_split (p : Nat → Bool) : ∀ m : List (Nat × Box), (boxRows m).Perm (boxRows (m.filter fun e => p e.1) ++ boxRows (m.filter fun e => !p e.1))
 | [] => .refl _
 | (i, c) :: m => by
   have ih := boxRows_split p m
   by_cases hp : p i = true
   ·simp only [List.filter_cons, hp, if_true, boxRows, Bool.not_true, Bool.false_eq_true, if_false]
    have h1 : (boxRow c :: (rowsL c.cs ++ boxRows m)).Perm ((boxRow c :: rowsL c.cs) ++ (boxRows (m.filter fun e => p e.1) ++ boxRows (m.filter fun e => !p e.1))) := List.Perm.append_left (boxRow c :: rowsL c.cs) ih
    refine h1.trans ?_
    rw [← List.append_assoc]; exact .refl _
   ·have hp' : p i = false := by simpa using hp
    simp only [List.filter_cons, hp', if_false, boxRows, Bool.not_false, Bool.false_eq_true, if_true]
    have h1 : (boxRow c :: (rowsL c.cs ++ boxRows m)).Perm ((boxRow c :: rowsL c.cs) ++ (boxRows (m.filter fun e => p e.1) ++ boxRows (m.filter fun e => !p e.1))) := List.Perm.append_left (boxRow c :: rowsL c.cs) ih
    refine h1.trans ?_
    rw [← List.append_assoc]
    refine (List.Perm.append_right _ List.perm_append_comm).trans ?_
    rw [List.append_assoc]; exact .refl _
def ipOnly : V → Bool
 | .ip _ _ _ => true
 | _ => false
def globs (ex : List V) : List V := ex.filter ipOnly
theorem globs_rows : ∀ ex : List V, rowsL (globs ex) = []
 | [] => rfl
 | v :: l => by
   unfold globs
   cases v <;> simp only [List.filter_cons, ipOnly, Bool.false_eq_true, if_false, if_true] <;> first
    | exact globs_rows l
    | (simp only [rowsL, rows, List.nil_append]; exact globs_rows l)
theorem globs_mem {ex : List V} {b : At} (h : b ∈ atomsL (globs ex)) : b ∈ atomsL ex := by
 obtain ⟨x, hx, hb⟩ := atomsL_mem h
 exact atoms_mem (List.mem_filter.1 hx).1 hb
theorem globs_in {H : Hint} {ex : List V} (h : ∀ g cs, H.G g = some cs → V.ip true ⟨g, 0, none⟩ cs ∈ ex) : GlobIn H (globs ex) := fun g cs hg => List.mem_filter.2 ⟨h g cs hg, rfl⟩
theorem keys_globs (m : List (Nat × Box)) (nx : Nat) (ex : List V) : keysD 0 (emptyS m nx) (globs ex) = keysOf (boxRows m) := by
 unfold keysD rowsD
 rw [slotRows_zero, globs_rows]
 simp [emptyS]
theorem keys_back (m : List (Nat × Box)) (nx : Nat) (r : V) (ex : List V) : keysD 0 (emptyS m nx) (r :: globs ex) = keysOf (boxRows m ++ rows r) := by
 unfold keysD rowsD
 rw [slotRows_zero]
 simp only [rowsL, globs_rows, List.append_nil, List.nil_append, emptyS]
def calleeEnv (E : Env) (nt : Nat) (D : St) (ex : List V) (w : World) (m' : List (Nat × Box)) (L : Bool) : Env :=
 ⟨E.β, fun k => (E.Gp k ∧ k ∉ keysD nt D ex) ∨ k ∈ keysOf (boxRows m') ∨ w.heap.size ≤ k, fun k => L = true ∨ (E.Gb k ∧ k ∉ keysD nt D ex) ∨ k ∈ keysOf (boxRows m') ∨ w.heap.size ≤ k⟩
variable {P : Program} {H : Hint} {E : Env} {nt : Nat} {D : St} {ex : List V} {w w' : World} {a : Act}
theorem RowOk.env {E' : Env} (hβ : E'.β = E.β) {e : RowE} (h : RowOk E w e) : RowOk E' w e := by
 obtain ⟨d, k, n, cs⟩ := e
 cases d with
 | nil => exact h
 | emp A => exact h
 | blk g cap kk =>
   obtain ⟨q1, q2, q3, q4, q5, cur, el, q6, q7, q8⟩ := h
   exact ⟨q1, q2, q3, q4, q5, cur, el, q6, q7, fun j x hx => by rw [hβ]; exact q8 j x hx⟩
theorem good_callee {L : Bool} {m' : List (Nat × Box)} {pm : Bool} {k : Nat} (hg : E.good pm k) (hk : k ∉ keysD nt D ex) : (calleeEnv E nt D ex w m' L).good pm k := by
 unfold Env.good at hg ⊢
 cases pm with
 | true => exact .inl ⟨by simpa using hg, hk⟩
 | false => exact .inr (.inl ⟨by simpa using hg, hk⟩)
theorem sub_keys (p : Nat → Bool) {k : Nat} (h : k ∈ keysOf (boxRows (D.m.filter fun e => p e.1))) : k ∈ keysD nt D ex := by
 obtain ⟨S, hS⟩ := boxRows_filter p D.m
 have h1 : k ∈ keysOf (boxRows D.m) := (keysOf_perm hS).mem_iff.2 (by rw [keysOf_append]; exact List.mem_append_right _ h)
 obtain ⟨e, he, hk⟩ := List.mem_filterMap.1 h1
 exact List.mem_filterMap.2 ⟨e, List.mem_append_right _ (List.mem_append_left _ he), hk⟩
theorem callee_inv (L : Bool) (p : Nat → Bool) (hI : Inv E nt D ex w) : Inv (calleeEnv E nt D ex w (D.m.filter fun e => p e.1) L) 0 (emptyS (D.m.filter fun e => p e.1) D.nx) (globs ex) w := by
 obtain ⟨S, hS⟩ := boxRows_filter p D.m
 have hmem : ∀ e ∈ rowsD 0 (emptyS (D.m.filter fun e => p e.1) D.nx) (globs ex), e ∈ rowsD nt D ex := by
  intro e he
  unfold rowsD at he
  rw [slotRows_zero, globs_rows, List.nil_append, List.append_nil] at he
  exact List.mem_append_right _ (List.mem_append_left _ (hS.mem_iff.2 (List.mem_append_right _ he)))
 have hkn : (keysOf (boxRows D.m)).Nodup := by
  have := hI.nodup
  unfold keysD rowsD at this
  rw [keysOf_append, keysOf_append] at this
  exact (List.nodup_append.1 (List.nodup_append.1 this).2.1).1
 refine ⟨fun e he => (hI.rows e (hmem e he)).env rfl, ?_, fun b hb => ?_, fun e he => ?_, filter_fst p D.m hI.ids, fun k hk => .inr (.inl (by rw [keys_globs] at hk; exact hk)), fun k hk => .inr (.inr hk), fun k hk => .inr (by
  rcases hk with ⟨h1, h2⟩ | hk
  ·exact .inl ⟨hI.gpb k h1, h2⟩
  ·exact .inr hk)⟩
 ·rw [keys_globs]
  have := (keysOf_perm hS).nodup_iff.1 hkn
  rw [keysOf_append] at this
  exact (List.nodup_append.1 this).2.1
 ·have hb' : b ∈ atomsD nt D ex := by
   unfold atomsD at hb ⊢
   rcases List.mem_append.1 hb with hb | hb
   ·simp [slotAtoms] at hb
   ·refine List.mem_append_right _ ?_
    rcases List.mem_append.1 hb with hb | hb
    ·exact List.mem_append_left _ (boxAtoms_filter p hb)
    ·exact List.mem_append_right _ (globs_mem hb)
  refine AtOk.move (E := E) (K := fun k => k ∈ keysD nt D ex) (Nat.le_refl _) rfl (fun pm k _ hg hk _ => ⟨good_callee hg hk, fun h => hk ?_, rfl⟩) (hI.atoms b hb')
  rw [keys_globs] at h
  exact sub_keys p h
 ·have h1 := List.mem_filter.1 he
  exact hI.boxes e h1.1
theorem perm_five {α : Type} (a b c d e : List α) : (a ++ ((b ++ c) ++ (d ++ e))).Perm ((a ++ (b ++ e)) ++ (c ++ d)) := by
 rw [List.append_assoc a, List.append_assoc b, List.append_assoc b]
 refine List.Perm.append_left a (List.Perm.append_left b ?_)
 rw [← List.append_assoc c]
 exact List.perm_append_comm
theorem back_core {L : Bool} {ids : List Nat} {E' : Env} {r' : V} {mm : List (Nat × Box)} {nx2 : Nat} {s' : Nat → V} (hI : Inv E nt D ex w) (hS : SlotsOk E nt D a)
 (hB : Inv E' 0 (emptyS mm nx2) (r' :: globs ex) w') (hT : To (calleeEnv E nt D ex w (D.m.filter fun e => ids.contains e.1) L) 0 (emptyS (D.m.filter fun e => ids.contains e.1) D.nx) (globs ex) w E' (emptyS mm nx2) (r' :: globs ex) w')
 (hL : L = true → noBor r' = true ∧ (mm.all fun e => noBorL e.2.cs) = true) (hmm : ∀ e ∈ mm, ids.contains e.1 = true ∨ D.nx ≤ e.1)
 (hs : ∀ t, rows (s' t) = rows (D.s t) ∧ atoms (s' t) = atoms (D.s t)) (hpr : ∀ t u, PR E'.β D (D.s t) u → PR E'.β ⟨s', othersM D.m ids ++ mm, nx2⟩ (s' t) u) (hdead : ∀ t, D.s t = .dead → s' t = .dead) :
 Inv (E.at E'.β) nt ⟨s', othersM D.m ids ++ mm, nx2⟩ (r' :: ex) w' ∧ SlotsOk (E.at E'.β) nt ⟨s', othersM D.m ids ++ mm, nx2⟩ a ∧ To E nt D ex w (E.at E'.β) ⟨s', othersM D.m ids ++ mm, nx2⟩ (r' :: ex) w' := by
 obtain ⟨m', hm'⟩ : ∃ m', m' = D.m.filter fun e => ids.contains e.1 := ⟨_, rfl⟩
 rw [← hm'] at hT
 have hbeta : ∀ b, b < D.nx → E'.β b = E.β b := fun b hb => hT.beta b hb
 have hI2 : Inv (E.at E'.β) nt D ex w := hI.beta hbeta
 have hslot : slotRows nt s' = slotRows nt D.s := by unfold slotRows; congr 1; funext t; exact (hs t).1
 obtain ⟨A, hA⟩ : ∃ A, A = slotRows nt D.s ++ (boxRows (othersM D.m ids) ++ rowsL ex) := ⟨_, rfl⟩
 have hsplit : (boxRows D.m).Perm (boxRows (othersM D.m ids) ++ boxRows m') := by
  rw [hm']; exact (boxRows_split (fun i => ids.contains i) D.m).trans List.perm_append_comm
 have hpA : (rowsD nt D ex).Perm (A ++ boxRows m') := by
  rw [hA]
  unfold rowsD
  refine (List.Perm.append_left _ (List.Perm.append_right _ hsplit)).trans ?_
  have := perm_five (slotRows nt D.s) (boxRows (othersM D.m ids)) (boxRows m') [] (rowsL ex)
  simpa using this
 have hp2 : (rowsD nt ⟨s', othersM D.m ids ++ mm, nx2⟩ (r' :: ex)).Perm (A ++ (boxRows mm ++ rows r')) := by
  rw [hA]
  unfold rowsD
  simp only [rowsL, hslot, boxRows_append]
  exact perm_five _ _ _ _ _
 have hn := (keysOf_perm hpA).nodup_iff.1 hI.nodup
 rw [keysOf_append] at hn
 have hAK : ∀ k, k ∈ keysOf A → k ∈ keysD nt D ex ∧ k ∉ keysOf (boxRows m') ∧ k < w.heap.size := by
  intro k hk
  have h1 : k ∈ keysD nt D ex := (keysOf_perm hpA).mem_iff.2 (by rw [keysOf_append]; exact List.mem_append_left _ hk)
  exact ⟨h1, fun h2 => (List.nodup_append.1 hn).2.2 k hk k h2 rfl, hI.key_lt h1⟩
 have hm'K : ∀ k, k ∈ keysOf (boxRows m') → k ∈ keysD nt D ex := fun k hk => (keysOf_perm hpA).mem_iff.2 (by rw [keysOf_append]; exact List.mem_append_right _ hk)
 have hBK : ∀ k, k ∈ keysOf (boxRows mm ++ rows r') → k ∈ keysOf (boxRows m') ∨ w.heap.size ≤ k := by
  intro k hk
  have := hT.keys k (by rw [keys_back]; exact hk)
  rw [keys_globs] at this
  exact this
 have hsame : ∀ k, k < w.heap.size → k ∉ keysOf (boxRows m') → w'.heap[k]? = w.heap[k]? := fun k hk hn => hT.same k hk (by rw [keys_globs]; exact hn)
 have hK2 : ∀ k, k ∈ keysD nt ⟨s', othersM D.m ids ++ mm, nx2⟩ (r' :: ex) ↔ k ∈ keysOf A ∨ k ∈ keysOf (boxRows mm ++ rows r') := by
  intro k
  unfold keysD
  rw [(keysOf_perm hp2).mem_iff, keysOf_append, List.mem_append]
 have hold : ∀ b, b ∈ atomsD nt D ex → AtOk (E.at E'.β) w' nx2 (fun k => k ∈ keysD nt ⟨s', othersM D.m ids ++ mm, nx2⟩ (r' :: ex)) b := by
  intro b hb
  refine AtOk.move (E := E.at E'.β) (K := fun k => k ∈ keysD nt D ex) (w := w) hT.nx rfl (fun pm k _ hg hk hlt => ⟨hg, fun h => ?_, hsame k hlt fun h => hk (hm'K k h)⟩) (hI2.atoms b hb)
  rcases (hK2 k).1 h with h | h
  ·exact hk (hAK k h).1
  ·rcases hBK k h with h | h
   ·exact hk (hm'K k h)
   ·omega
 have hnew : ∀ b, b ∈ atomsD 0 (emptyS mm nx2) (r' :: globs ex) → (b ∈ boxAtoms mm ∨ b ∈ atoms r') → AtOk (E.at E'.β) w' nx2 (fun k => k ∈ keysD nt ⟨s', othersM D.m ids ++ mm, nx2⟩ (r' :: ex)) b := by
  intro b hb hb2
  refine AtOk.move (E := E') (K := fun k => k ∈ keysD 0 (emptyS mm nx2) (r' :: globs ex)) (w := w') (Nat.le_refl _) rfl (fun pm k hbk hg hk hlt => ?_) (hB.atoms b hb)
  have hkB : k ∉ keysOf (boxRows mm ++ rows r') := by rw [keys_back] at hk; exact hk
  have hgood : ((E.good pm k ∧ k ∉ keysD nt D ex) ∨ k ∈ keysOf (boxRows m') ∨ w.heap.size ≤ k) := by
   unfold Env.good at hg
   rw [hT.gp, hT.gb] at hg
   cases pm with
   | true =>
     simp only [if_true, calleeEnv] at hg
     exact hg.imp (fun h => ⟨by unfold Env.good; simpa using h.1, h.2⟩) id
   | false =>
     simp only [Bool.false_eq_true, if_false, calleeEnv] at hg
     rcases hg with hg | hg
     ·exfalso
      obtain ⟨h1, h2⟩ := hL hg
      have h3 : ∀ pm', ((∃ A cap n cs, b = .i pm' A cap n cs) ∨ ∃ A cs, b = .f pm' A cs) → pm' = true := by
       have h4 : (∀ pm A cap n cs, b = At.i pm A cap n cs → pm = true) ∧ (∀ pm A cs, b = At.f pm A cs → pm = true) := by
        rcases hb2 with hb2 | hb2
        ·obtain ⟨e, he, hb3⟩ := boxAtoms_ex hb2
         rw [List.all_eq_true] at h2
         exact noBorL_atoms (h2 e he) b hb3
        ·exact noBor_atoms h1 b hb2
       rintro pm' (⟨A, cap, n, cs, e⟩ | ⟨A, cs, e⟩)
       ·exact h4.1 _ _ _ _ _ e
       ·exact h4.2 _ _ _ e
      have := h3 false hbk
      cases this
     ·exact hg.imp (fun h => ⟨by unfold Env.good; simpa using h.1, h.2⟩) id
  refine ⟨?_, fun h => ?_, rfl⟩
  ·have hGp : ∀ k, E.Gp k → (E.at E'.β).good pm k := by
    intro k h
    unfold Env.good
    split
    ·exact h
    ·exact hI.gpb k h
   rcases hgood with ⟨h, _⟩ | h | h
   ·exact h
   ·exact hGp k (hI.keysG k (hm'K k h))
   ·exact hGp k (hI.newG k h)
  ·rcases (hK2 k).1 h with h | h
   ·have h1 := hAK k h
    rcases hgood with ⟨_, h2⟩ | h2 | h2
    ·exact h2 h1.1
    ·exact h1.2.1 h2
    ·omega
   ·exact hkB h
 refine ⟨⟨fun e he => ?_, ?_, fun b hb => ?_, fun e he => ?_, ?_, fun k hk => ?_, fun k hk => hI.newG k (Nat.le_trans hT.size hk), hI.gpb⟩, ⟨hS.size, hS.defers, fun t => hpr t _ ((hS.beta hI hbeta).slot t), fun t ht => hdead t (hS.high t ht)⟩,
  ⟨hbeta, rfl, rfl, hT.nx, hT.size, fun k hk => ?_, fun k hk hn => hsame k hk fun h => hn (hm'K k h), hT.os, hT.tape, hT.out⟩⟩
 ·rcases List.mem_append.1 (hp2.mem_iff.1 he) with he | he
  ·refine (hI2.rows e (hpA.mem_iff.2 (List.mem_append_left _ he))).ext fun g hg => ?_
   have := hAK g (List.mem_filterMap.2 ⟨e, he, hg⟩)
   exact hsame g this.2.2 this.2.1
  ·refine RowOk.env (E := E') rfl (hB.rows e ?_)
   unfold rowsD
   simp only [rowsL, globs_rows, List.append_nil, slotRows_zero, List.nil_append, emptyS]
   exact he
 ·unfold keysD
  rw [(keysOf_perm hp2).nodup_iff, keysOf_append, List.nodup_append]
  refine ⟨(List.nodup_append.1 hn).1, ?_, fun k hk k' hk' e => ?_⟩
  ·have := hB.nodup; rw [keys_back] at this; exact this
  ·subst e
   have h1 := hAK k hk
   rcases hBK k hk' with h | h
   ·exact h1.2.1 h
   ·omega
 ·unfold atomsD at hb
  rcases List.mem_append.1 hb with hb | hb
  ·refine hold b ?_
   obtain ⟨t, ht, hb⟩ := List.mem_flatMap.1 hb
   rw [(hs t).2] at hb
   exact List.mem_append_left _ (List.mem_flatMap.2 ⟨t, ht, hb⟩)
  ·rcases List.mem_append.1 hb with hb | hb
   ·rw [boxAtoms_append] at hb
    rcases List.mem_append.1 hb with hb | hb
    ·exact hold b (List.mem_append_right _ (List.mem_append_left _ (boxAtoms_filter (fun i => !ids.contains i) hb)))
    ·exact hnew b (List.mem_append_right _ (List.mem_append_left _ hb)) (.inl hb)
   ·rcases List.mem_append.1 hb with hb | hb
    ·exact hnew b (List.mem_append_right _ (List.mem_append_right _ (List.mem_append_left _ hb))) (.inr hb)
    ·exact hold b (List.mem_append_right _ (List.mem_append_right _ hb))
 ·rcases List.mem_append.1 he with he | he
  ·have h1 := hI2.boxes e (List.mem_filter.1 he).1
   exact ⟨h1.1, Nat.lt_of_lt_of_le h1.2 hT.nx⟩
  ·exact hB.boxes e he
 ·rw [List.map_append, List.nodup_append]
  refine ⟨filter_fst (fun i => !ids.contains i) D.m hI.ids, hB.ids, fun i hi j hj e => ?_⟩
  subst e
  obtain ⟨e1, he1, rfl⟩ := List.mem_map.1 hi
  obtain ⟨e2, he2, h3⟩ := List.mem_map.1 hj
  have h1 := List.mem_filter.1 he1
  have h2 := (hI.boxes e1 h1.1).2
  rcases hmm e2 he2 with h4 | h4
  ·rw [h3] at h4; rw [h4] at h1; simp at h1
  ·omega
 ·rcases (hK2 k).1 hk with h | h
  ·exact hI.keysG k (hAK k h).1
  ·rcases hBK k h with h | h
   ·exact hI.keysG k (hm'K k h)
   ·exact hI.newG k h
 ·rcases (hK2 k).1 hk with h | h
  ·exact .inl (hAK k h).1
  ·rcases hBK k h with h | h
   ·exact .inl (hm'K k h)
   ·exact .inr h
mutual
theorem lend_noref {md : Nat} : ∀ {v : V} {D D1 : St} {x : V}, hasRef v = false → lend md v D = some (x, D1) → D1 = D
 | .ref _ _, D, D1, x, hr, h => by simp [hasRef] at hr
 | .loc _ _, D, D1, x, hr, h => by simp [lend] at h
 | .own d k n cs, D, D1, x, hr, h => by
   simp only [lend] at h
   split at h
   ·cases h; rfl
   ·cases h
 | .agg cs, D, D1, x, hr, h => by
   simp only [lend] at h
   split at h
   ·rename_i l D' hl; cases h; exact lendL_noref (by simpa [hasRef] using hr) hl
   ·cases h
 | .tup cs, D, D1, x, hr, h => by
   simp only [lend] at h
   split at h
   ·rename_i l D' hl; cases h; exact lendL_noref (by simpa [hasRef] using hr) hl
   ·cases h
 | .fn f l1 l2, D, D1, x, hr, h => by
   simp only [hasRef, Bool.or_eq_false_iff] at hr
   simp only [lend] at h
   split at h
   ·rename_i a' D2 h1
    split at h
    ·rename_i b' D3 h2
     cases h
     have e1 := lendL_noref hr.1 h1
     subst e1
     exact lendL_noref hr.2 h2
    ·cases h
   ·cases h
 | .int _ _, D, D1, x, hr, h | .bool _, D, D1, x, hr, h | .nilp, D, D1, x, hr, h | .nilf, D, D1, x, hr, h | .bptr _ _, D, D1, x, hr, h | .ip _ _ _, D, D1, x, hr, h | .im _ _ _ _ _, D, D1, x, hr, h | .dead, D, D1, x, hr, h => by
   simp only [lend] at h
   split at h
   ·split at h
    ·cases h; rfl
    ·cases h
   ·cases h; rfl
theorem lendL_noref {md : Nat} : ∀ {l : List V} {D D1 : St} {xs : List V}, hasRefL l = false → lendL md l D = some (xs, D1) → D1 = D
 | [], D, D1, xs, hr, h => by simp only [lendL] at h; cases h; rfl
 | v :: l, D, D1, xs, hr, h => by
   simp only [hasRefL, Bool.or_eq_false_iff] at hr
   simp only [lendL] at h
   split at h
   ·rename_i y D2 h1
    split at h
    ·rename_i ys D3 h2
     cases h
     have e1 := lend_noref hr.1 h1
     subst e1
     exact lendL_noref hr.2 h2
    ·cases h
   ·cases h
end
variable {E : Env} {nt : Nat} {D D1 : St} {ex : List V} {w : World} {a : Act}
theorem slot_keys {t : Nat} {p : List Nat} {x : V} (hI : Inv E nt D ex w) (ht : t < nt) (h : look D (.slot t) p = some x) : ∀ k ∈ keysOf (rows x), k ∉ keysOf (boxRows D.m) := by
 intro k hk hb
 obtain ⟨e, he, hke⟩ := List.mem_filterMap.1 hk
 obtain ⟨R, hR⟩ := row_of_look (D := { D with m := [] }) (ex := ex) (nt := nt) (r := .slot t) (p := p) (fun t' e => by cases e; exact ht) (show look { D with m := [] } (.slot t) p = some x from h) he
 have h1 : k ∈ keysOf (rowsD nt { D with m := [] } ex) := (keysOf_perm hR).mem_iff.2 (by rw [keysOf_append]; exact List.mem_append_left _ hk)
 unfold rowsD at h1
 simp only [boxRows, List.nil_append] at h1
 rw [keysOf_append] at h1
 have hn := hI.nodup
 unfold keysD rowsD at hn
 rw [keysOf_append, keysOf_append] at hn
 have n1 := List.nodup_append.1 hn
 have n2 := List.nodup_append.1 n1.2.1
 rcases List.mem_append.1 h1 with h1 | h1
 ·exact n1.2.2 k h1 k (List.mem_append_left _ hb) rfl
 ·exact n2.2.2 k hb k h1 rfl
theorem box_keys {k : Nat} (h : k ∈ keysOf (boxRows D.m)) : k ∈ keysD nt D ex := by
 obtain ⟨e, he, hk⟩ := List.mem_filterMap.1 h
 exact List.mem_filterMap.2 ⟨e, List.mem_append_right _ (List.mem_append_left _ he), hk⟩
theorem AtOk.off {b : At} (h : AtOk E w D.nx (fun k => k ∈ keysD nt D ex) b) : AtOk (lentEnv E nt D ex) w D.nx (fun k => k ∈ keysOf (boxRows D.m)) b := by
 have hF : ∀ {pm A cs}, FOk E w (fun k => k ∈ keysD nt D ex) pm A cs → FOk (lentEnv E nt D ex) w (fun k => k ∈ keysOf (boxRows D.m)) pm A cs := fun h => ⟨h.1, h.2.1, fun hc => by
  obtain ⟨h1, h2⟩ := h.2.2 hc
  refine ⟨?_, fun hb => h2 (box_keys hb)⟩
  unfold Env.good at h1 ⊢
  split
  ·rename_i hp; rw [if_pos hp] at h1; exact ⟨h1, h2⟩
  ·trivial⟩
 cases b with
 | p b => exact h
 | i pm A cap n cs =>
   refine ⟨h.1, ?_⟩
   have h2 := h.2
   cases A with
   | none => exact h2
   | some A => exact hF h2
 | f pm A cs => exact hF h
theorem lendS_ok : ∀ {md : List Nat} {l : List V} {xs : List V} {us : List Value}, Inv E nt D ex w → SlotsOk E nt D a → PRL E.β D l us → (∀ b ∈ atomsL l, AtOk E w D.nx (fun k => k ∈ keysD nt D ex) b) → (∀ e ∈ rowsL l, RowOk E w e ∧ keyOf e = none) →
 lendsS md l = true → ∀ {D1 : St}, lendArgs md l D = some (xs, D1) → D1 = D ∧ ∀ b ∈ atomsL xs, AtOk (lentEnv E nt D ex) w D.nx (fun k => k ∈ keysOf (boxRows D.m)) b
 | md, [], xs, us, hI, hS, hu, hv, hr, hl, D1, h => by
   simp only [lendArgs] at h
   cases h
   exact ⟨rfl, fun b hb => by simp [atomsL] at hb⟩
 | md, v :: l, xs, us, hI, hS, hu, hv, hr, hl, D1, h => by
   simp only [lendsS, Bool.and_eq_true] at hl
   obtain ⟨hl1, hl2⟩ := hl
   simp only [lendArgs] at h
   split at h
   ·rename_i y D2 h1
    split at h
    ·rename_i ys D3 h2
     cases h
     obtain ⟨u, us', rfl, hu1, hu2⟩ := hu
     have key : D2 = D ∧ ∀ b ∈ atoms y, AtOk (lentEnv E nt D ex) w D.nx (fun k => k ∈ keysOf (boxRows D.m)) b := by
      by_cases hnr : hasRef v = false
      ·have e2 := lend_noref hnr h1
       subst e2
       have k1 := lend_ok hI hS hu1 (fun b hb => hv b (List.mem_append_left _ hb)) (fun e he => hr e (List.mem_append_left _ he)) h1
       exact ⟨rfl, fun b hb => (k1.own (.inr hnr) b hb).off⟩
      ·cases v with
       | ref r p =>
         cases r with
         | box b => simp [hasRef] at hl1
         | slot t =>
           have hmd : md.headD 1 = 0 := by simpa using hl1
           simp only [lend] at h1
           rw [if_pos hmd] at h1
           split at h1
           case h_2 => cases h1
           rename_i d k n cs hlk
           cases h1
           refine ⟨rfl, ?_⟩
           have hr0 := hS.lt hlk
           obtain ⟨R0, hR0⟩ := row_of_look (ex := ex) hr0 hlk (e := (d, k, n, cs.map sh)) (by simp [rows])
           have hsk := slot_keys hI (hr0 t rfl) hlk
           refine frz_atoms (E := E) (E' := lentEnv E nt D ex) (K := fun k => k ∈ keysD nt D ex) (pm := false) (fun pm0 k _ hg hk => ⟨by simp [Env.good, lentEnv], fun hb => hk (box_keys hb)⟩) rfl (.own d k n cs) ?_ ?_ ?_ (fun h => by cases h)
           ·exact fun e he => hI.rows e (hR0.mem_iff.2 (List.mem_append_left _ he))
           ·exact fun k hk => ⟨by simp [Env.good, lentEnv], hsk k hk⟩
           ·exact fun c hc => hI.atoms c (atoms_look hr0 hlk hc)
       | _ => simp_all
     obtain ⟨e2, key⟩ := key
     rw [e2] at h2
     obtain ⟨e3, k2⟩ := lendS_ok hI hS hu2 (fun b hb => hv b (List.mem_append_right _ hb)) (fun e he => hr e (List.mem_append_right _ he)) hl2 h2
     refine ⟨e3, fun b hb => ?_⟩
     rcases List.mem_append.1 hb with hb | hb
     ·exact key b hb
     ·exact k2 b hb
    ·cases h
   ·cases h
end Go.Abs
end
noncomputable section
namespace Go.Abs
open Go
variable {P : Program} {H : Hint} {E : Env} {nt : Nat} {D D1 : St} {ex : List V} {w w' : World} {a : Act} {o : Oper} {K : Act → World → Prop} {Q : Exit → Act → World → Prop}
theorem othersM_nil (m : List (Nat × Box)) : othersM m [] = m := by
 unfold othersM
 rw [List.filter_eq_self]
 intro e _; rfl
theorem filter_nil_ids (m : List (Nat × Box)) : (m.filter fun e => ([] : List Nat).contains e.1) = [] := by
 rw [List.filter_eq_nil_iff]
 intro e _; simp
theorem forget_all {E' : Env} {mm : List (Nat × Box)} {nx : Nat} {r : V} (hB : Inv E' 0 (emptyS mm nx) (r :: globs ex) w') : Inv E' 0 (emptyS [] nx) (r :: globs ex) w' ∧ ∀ k, k ∈ keysD 0 (emptyS [] nx) (r :: globs ex) → k ∈ keysD 0 (emptyS mm nx) (r :: globs ex) := by
 have hp : (rowsD 0 (emptyS mm nx) (r :: globs ex)).Perm (boxRows mm ++ rowsD 0 (emptyS [] nx) (r :: globs ex)) := by
  unfold rowsD
  simp only [slotRows_zero, List.nil_append, emptyS, boxRows]
  exact .refl _
 refine ⟨hB.weaken _ _ _ hp (RLeL.refl _ _) (.refl _) (fun b hb => ?_) (fun e he => by cases he) (by simp [emptyS]) rfl, keys_sub hp (RLeL.refl E'.β _) (.refl _)⟩
 unfold atomsD at hb ⊢
 simp only [slotAtoms, List.range_zero, List.flatMap_nil, List.nil_append, emptyS, boxAtoms] at hb ⊢
 exact List.mem_append_right _ hb
theorem hk_lookB {ids : List Nat} {mm : List (Nat × Box)} {nx2 : Nat} (hmm : ∀ e ∈ mm, ids.contains e.1 = true ∨ D.nx ≤ e.1) (r : Root) (hh : hitB ids D.nx r = false) (q : List Nat) (d : Dec) (k n : Nat) (cs : List V)
 (h : look ⟨fun i => killB ids D.nx (D.s i), othersM D.m ids ++ mm, nx2⟩ r q = some (.own d k n cs)) : ∃ cs', look D r q = some (.own d k n cs') := by
 cases r with
 | slot t => exact ⟨cs, killB_mild ids D.nx _ _ _ _ _ _ h⟩
 | box b =>
   simp only [hitB, Bool.or_eq_false_iff, decide_eq_false_iff_not] at hh
   refine ⟨cs, ?_⟩
   have hg : getBox (othersM D.m ids ++ mm) b = getBox D.m b := by
    rw [getBox_app, getBox_split hh.1]
    cases getBox D.m b with
    | some x => rfl
    | none =>
      refine getBox_none fun e he e2 => ?_
      subst e2
      rcases hmm e he with h1 | h1
      ·rw [hh.1] at h1; cases h1
      ·exact hh.2 h1
   unfold look at h ⊢
   simp only [hg] at h
   exact h
theorem args_ok {L : Bool} {ids : List Nat} {as : List V} (hI : Inv E nt D ex w) (hall : ∀ b ∈ atomsL as, AtOk (lentEnv E nt D ex) w D.nx (fun _ => False) b) (hown : L = false → ∀ b ∈ atomsL as, AtOk E w D.nx (fun k => k ∈ keysD nt D ex) b)
 (hids : L = true → ids = [] ∨ ∀ b ∈ atomsL as, AtOk (lentEnv E nt D ex) w D.nx (fun k => k ∈ keysOf (boxRows D.m)) b) : ∀ b ∈ atomsL as, AtOk (calleeEnv E nt D ex w (D.m.filter fun e => ids.contains e.1) L) w D.nx (fun k => k ∈ keysD 0 (emptyS (D.m.filter fun e => ids.contains e.1) D.nx) (globs ex)) b := by
 intro b hb
 cases hL : L with
 | true =>
   rcases hids hL with hids | hids
   rotate_left
   ·refine AtOk.move (E := lentEnv E nt D ex) (K := fun k => k ∈ keysOf (boxRows D.m)) (w := w) (Nat.le_refl _) rfl (fun pm k _ hg hk _ => ⟨?_, fun h => hk ?_, rfl⟩) (hids b hb)
    ·unfold Env.good at hg ⊢
     cases pm with
     | true => simp only [if_true, lentEnv] at hg; exact .inl hg
     | false => exact .inl rfl
    ·rw [keys_globs] at h
     obtain ⟨S, hS⟩ := boxRows_filter (fun i => ids.contains i) D.m
     exact (keysOf_perm hS).mem_iff.2 (by rw [keysOf_append]; exact List.mem_append_right _ h)
   subst hids
   refine AtOk.move (E := lentEnv E nt D ex) (K := fun _ => False) (w := w) (Nat.le_refl _) rfl (fun pm k _ hg _ _ => ⟨?_, fun h => ?_, rfl⟩) (hall b hb)
   ·unfold Env.good at hg ⊢
    cases pm with
    | true => simp only [if_true, lentEnv] at hg; exact .inl hg
    | false => exact .inl rfl
   ·rw [keys_globs, filter_nil_ids] at h
    simp [boxRows, keysOf] at h
 | false =>
   refine AtOk.move (E := E) (K := fun k => k ∈ keysD nt D ex) (w := w) (Nat.le_refl _) rfl (fun pm k _ hg hk _ => ⟨good_callee hg hk, fun h => hk ?_, rfl⟩) (hown hL b hb)
   rw [keys_globs] at h
   exact sub_keys (fun i => ids.contains i) h
def CX (H : Hint) : Callee := fun f as m nx => match m with
 | [] => match H.X f as with | some r => some (r, [], nx) | none => none
 | _ => none
theorem call_run {c : Call} {g : Operand} {f : Nat} {ua ub us : List Value} (ho : o.op = .call c) (hc : c.callee = .value g) (hg : a.eval g = .func (.func f) ua.toArray ub.toArray) (hus : us = ua ++ c.args.toList.map a.eval ++ ub) :
 (execOp a.eval o).run P w = (callFunc f us.toArray).run P w := by
 have : ua.toArray ++ c.args.map a.eval ++ ub.toArray = us.toArray := by
  rw [hus, ← Array.toList_inj]; simp
 simp only [execOp, ho, resolve, hc, hg, Deferred.ofValue, invoke, Sem.run_bind, Sem.run_pure, Result.andThen_ok]
 rw [this]
theorem good_wp {c : Call} {f : Nat} {us : List Value} {R : Value → World → Prop} (hrun : (execOp a.eval o).run P w = (callFunc f us.toArray).run P w) (h : FGood P f us w R) (hK : ∀ v w', R v w' → K (a.put o.dst v) w') : o.wp P a w K Q := by
 unfold Oper.wp
 rw [hrun]
 rcases h with ⟨h1, h2⟩ | ⟨v, w', h1, h2⟩
 ·rw [h1, Oper.upon_enter]
  refine h2.mono fun e w' he => ?_
  cases e with
  | returned v => exact hK v w' he
  | panicked c => exact he.elim
  | outgrown => exact he.elim
 ·rw [h1, Oper.upon_value]
  exact hK v w' h2
theorem PRL_app {β : Nat → Nat} {D : St} : ∀ {l l' : List V} {us us' : List Value}, PRL β D l us → PRL β D l' us' → PRL β D (l ++ l') (us ++ us')
 | [], l', us, us', h, h' => by simp only [PRL] at h; subst h; exact h'
 | v :: l, l', us, us', h, h' => by
   obtain ⟨u, us1, rfl, h1, h2⟩ := h
   exact ⟨u, us1 ++ us', rfl, h1, PRL_app h2 h'⟩
theorem calls_ok {C : Callee} (hX : XSm H) (hC : CalleeOk P H C) (hCX : CalleeOk P H (CX H)) : CallsOk P H C := by
 intro E nt D D1 ex w a o K Q c g hN hd ho hc h hK
 have h : ∃ f fa fb vs, ev H D g = some (.fn (.func f) fa fb) ∧ evL H D c.args.toList = some vs ∧ doCall H C f (fa ++ vs ++ fb) D o.dst = some D1 := by
  rcases h with h | h <;>
  ·unfold evOp at h
   simp only [ho, hc] at h
   split at h
   ·rename_i f fa fb vs h1 h2
    exact ⟨f, fa, fb, vs, h1, h2, h⟩
   ·cases h
 obtain ⟨f, fa, fb, vs, hg, hvs, h⟩ := h
 have hsg := ev_ok hN hg
 obtain ⟨ua, ub, hgu, hpa, hpb⟩ := hsg.pr
 obtain ⟨hv1, hv2, hv3⟩ := evL_ok hN hvs
 obtain ⟨us, hus⟩ : ∃ us, us = ua ++ c.args.toList.map a.eval ++ ub := ⟨_, rfl⟩
 have hrun := fun w => call_run (P := P) (w := w) ho hc hgu hus
 have hPR : PRL E.β D (fa ++ vs ++ fb) us := by rw [hus]; exact PRL_app (PRL_app hpa hv1) hpb
 have hat : ∀ b ∈ atomsL (fa ++ vs ++ fb), AtOk E w D.nx (fun k => k ∈ keysD nt D ex) b := by
  intro b hb
  rw [atomsL_append, atomsL_append] at hb
  rcases List.mem_append.1 hb with hb | hb
  ·rcases List.mem_append.1 hb with hb | hb
   ·exact hsg.ok b (by simp only [atoms]; exact List.mem_append_left _ hb)
   ·exact hv2 b hb
  ·exact hsg.ok b (by simp only [atoms]; exact List.mem_append_right _ hb)
 have hrw : ∀ e ∈ rowsL (fa ++ vs ++ fb), RowOk E w e ∧ keyOf e = none := by
  intro e he
  rw [rowsL_append, rowsL_append] at he
  rcases List.mem_append.1 he with he | he
  ·rcases List.mem_append.1 he with he | he
   ·exact hsg.flat e (by simp only [rows]; exact List.mem_append_left _ he)
   ·exact hv3 e he
  ·exact hsg.flat e (by simp only [rows]; exact List.mem_append_right _ he)
 unfold doCall at h
 cases hla : lendArgs (H.sg f) (fa ++ vs ++ fb) D with
 | none => rw [hla] at h; cases h
 | some q =>
   obtain ⟨as, Dl⟩ := q
   rw [hla] at h
   have hL := lendArgs_ok hN.inv hN.slots hPR hat hrw hla
   have hIl := hL.step.inv
   have hSl := hL.step.slots
   have hT0 : To E nt D ex w E Dl ex w := To.of_keys hL.step.nx hL.step.keys
   have hquiet : quietB H o D = true → ptrsL as = [] := by
    intro hq
    unfold quietB at hq
    simp only [ho, hc, hg, hvs, hla] at hq
    simpa using hq
   simp only at h
   obtain ⟨L, hLL⟩ : ∃ L, L = lendsB (H.sg f) (fa ++ vs ++ fb) := ⟨_, rfl⟩
   rw [← hLL] at h hL
   have plain : ∀ (C' : Callee) (r : V) (m2 : List (Nat × Box)), CalleeOk P H C' → C' f as [] Dl.nx = some (r, m2, Dl.nx) → (L = true → noBor r = true) → SmS (Dl.lay o.dst r) D1 → SmS D1 (Dl.lay o.dst r) →
    o.wp P a w (fun a' w' => (quietB H o D = true → Grow w w') ∧ K a' w') Q := by
    intro C' r m2 hC' hr hnb _ hsm
    have hinv := callee_inv (E := E) (nt := nt) (D := Dl) (ex := ex) (w := w) L (fun i => ([] : List Nat).contains i) hIl
    have hargs := args_ok (L := L) (ids := []) hIl hL.all (fun h => hL.own h) (fun _ => .inl rfl)
    rw [filter_nil_ids] at hinv hargs
    have hgood := hC' f as [] Dl.nx r m2 Dl.nx hr _ (globs ex) w us hinv hL.pr hL.flat hargs (globs_in hN.glob)
    refine good_wp (c := c) (hrun w) hgood ?_
    rintro v w' ⟨E', r', m2', s1, s2, hB, hpr, hT⟩
    obtain ⟨hB0, hB1⟩ := forget_all hB
    have hT1 : To (calleeEnv E nt Dl ex w [] L) 0 (emptyS [] Dl.nx) (globs ex) w E' (emptyS [] Dl.nx) (r' :: globs ex) w' :=
     ⟨hT.beta, hT.gp, hT.gb, Nat.le_refl _, hT.size, fun k hk => hT.keys k (hB1 k hk), hT.same, hT.os, hT.tape, hT.out⟩
    have core := back_core (L := L) (ids := []) (s' := Dl.s) (mm := []) hIl hSl hB0 (by rw [filter_nil_ids]; exact hT1) (fun h => ⟨by rw [noBor_sm s1]; exact hnb h, rfl⟩) (fun e he => by cases he) (fun t => ⟨rfl, rfl⟩)
     (fun t u hu => by rw [othersM_nil, List.append_nil]; exact hu) (fun t h => h)
    rw [othersM_nil, List.append_nil] at core
    have e0 : (⟨Dl.s, Dl.m, Dl.nx⟩ : St) = Dl := rfl
    rw [e0] at core
    obtain ⟨c1, c2, c3⟩ := core
    obtain ⟨f1, f2, f3⟩ := lay_fin (dst := o.dst) c1 c2 hd (hpr Dl)
    refine ⟨fun hq => ⟨hT.size, fun k hk => hT.same k hk ?_⟩, hK _ _ _ _ (hsm.trans (lay_sm (SmS.refl _) s1 o.dst)) ((hT0.trans c3).trans f3) ⟨f1, f2, hN.glob⟩⟩
    rw [keys_globs]; simp [boxRows, keysOf]
   cases hx : H.X f as with
   | some r =>
     rw [hx] at h
     simp only at h
     split at h
     ·cases h
     rename_i hnb
     cases h
     refine plain (CX H) r [] hCX (by simp [CX, hx]) (fun h => ?_) (SmS.refl _) (SmS.refl _)
     rw [h, Bool.true_and] at hnb
     simpa using hnb
   | none =>
     rw [hx] at h
     simp only at h
     obtain ⟨ids, hids⟩ : ∃ ids, ids = reach Dl.m Dl.m.length (ptrsL as).eraseDups := ⟨_, rfl⟩
     rw [← hids] at h
     split at h
     ·cases h
     rename_i hli
     have hLid : L = true → ids = [] ∨ ∀ b ∈ atomsL as, AtOk (lentEnv E nt Dl ex) w Dl.nx (fun k => k ∈ keysOf (boxRows Dl.m)) b := by
      intro h1
      rw [h1, Bool.true_and] at hli
      cases hls : lendsS (H.sg f) (fa ++ vs ++ fb) with
      | false => rw [hls] at hli; exact .inl (by simpa using hli)
      | true =>
        obtain ⟨e1, e2⟩ := lendS_ok hN.inv hN.slots hPR hat hrw hls hla
        subst e1
        exact .inr e2
     split at h
     case h_2 => cases h
     rename_i r m2 nx2 hcall
     split at h
     ·cases h
     rename_i hnb
     have hnb' : L = true → noBor r = true ∧ (m2.all fun e => noBorL e.2.cs) = true := by
      intro h1
      rw [h1, Bool.true_and] at hnb
      simpa using hnb
     split at h
     ·rename_i hsp
      cases h
      simp only [Bool.and_eq_true, List.isEmpty_iff, beq_iff_eq] at hsp
      obtain ⟨e1, e2⟩ := hsp
      subst e2
      rw [e1, filter_nil_ids] at hcall
      exact plain C r m2 hC hcall (fun h => (hnb' h).1) (SmS.refl _) (SmS.refl _)
     ·split at h
      case isFalse => cases h
      rename_i hmm
      cases h
      have hinv := callee_inv (E := E) (nt := nt) (D := Dl) (ex := ex) (w := w) L (fun i => ids.contains i) hIl
      have hargs := args_ok (L := L) (ids := ids) hIl hL.all (fun h => hL.own h) hLid
      have hgood := hC f as _ Dl.nx r m2 nx2 hcall _ (globs ex) w us hinv hL.pr hL.flat hargs (globs_in hN.glob)
      refine good_wp (c := c) (hrun w) hgood ?_
      rintro v w' ⟨E', r', m2', s1, s2, hB, hpr, hT⟩
      have hmm' : ∀ e ∈ m2', ids.contains e.1 = true ∨ Dl.nx ≤ e.1 := by
       have := allFst_sm s2 (fun i => ids.contains i || decide (Dl.nx ≤ i))
       rw [hmm] at this
       rw [List.all_eq_true] at this
       intro e he
       simpa using this e he
      have core := back_core (L := L) (ids := ids) (s' := fun i => killB ids Dl.nx (Dl.s i)) (mm := m2') hIl hSl hB hT (fun h => ⟨by rw [noBor_sm s1]; exact (hnb' h).1, by rw [allBor_sm s2]; exact (hnb' h).2⟩) hmm' (fun t => rows_killB ids Dl.nx (Dl.s t))
       (fun t u hu => PR_killB (hk_lookB hmm') hu) (fun t h => by show killB ids Dl.nx (Dl.s t) = .dead; rw [h]; rfl)
      obtain ⟨c1, c2, c3⟩ := core
      obtain ⟨f1, f2, f3⟩ := lay_fin (dst := o.dst) c1 c2 hd (hpr _)
      have hsm : SmS (St.mk (fun i => killB ids Dl.nx (Dl.s i)) (othersM Dl.m ids ++ m2) nx2) (St.mk (fun i => killB ids Dl.nx (Dl.s i)) (othersM Dl.m ids ++ m2') nx2) := ⟨fun i => Sm.refl _, SmM.append (SmM.refl _) s2, rfl⟩
      refine ⟨fun hq => ⟨hT.size, fun k hk => hT.same k hk ?_⟩, hK _ _ _ _ (lay_sm hsm s1 o.dst) ((hT0.trans c3).trans f3) ⟨f1, f2, hN.glob⟩⟩
      have hp0 := hquiet hq
      have hid0 : ids = [] := by
       rw [hids, hp0]
       cases Dl.m.length <;> rfl
      rw [hid0, filter_nil_ids, keys_globs]
      simp [boxRows, keysOf]
theorem evCall_ok (hm : P.follows .mixedOrders = true) (hX : XSm H) (hP : progB P H = true) (hCX : CalleeOk P H (CX H)) : ∀ n, CalleeOk P H (evCall P H n)
 | 0 => fun f as m nx r m2 nx2 h => by cases h
 | n + 1 => body_ok hm hX hP (calls_ok hX (evCall_ok hm hX hP hCX n) hCX)
end Go.Abs
end
noncomputable section
namespace Go.Abs
open Go
def Sh (P : Program) : Nat → TypeId → List V → Prop
 | 0, _, _ => False
 | k + 1, t, vs => match P.underlying t with
   | some .bool => ∃ b, vs = [.bool b]
   | some (.int ki) => ∃ n, vs = [.int ki n] ∧ (Lit.int ki n).wf = true
   | some (.slice e) => ∃ A cap n cs, vs = [.im false A cap n cs] ∧ n ≤ maxLen ∧ cs.length = n * P.cellsOf e ∧ ∀ i, i < n → Sh P k e ((cs.drop (i * P.cellsOf e)).take (P.cellsOf e))
   | some (.struct fs) => vs.length = P.cellsOf t ∧ ∀ f ∈ fs, Sh P k f.type ((vs.drop f.offset).take (P.cellsOf f.type))
   | some (.array n e) => vs.length = n * P.cellsOf e ∧ ∀ i, i < n → Sh P k e ((vs.drop (i * P.cellsOf e)).take (P.cellsOf e))
   | _ => False
def layB (P : Program) (tot : Nat) : Nat → List Field → Bool
 | off, [] => off == tot
 | off, f :: l => f.offset == off && layB P tot (off + P.cellsOf f.type) l
def shB (P : Program) : Nat → TypeId → Bool
 | 0, _ => false
 | k + 1, t => match P.underlying t with
   | some .bool => true
   | some (.int _) => true
   | some (.slice e) => shB P k e
   | some (.struct fs) => layB P (P.cellsOf t) 0 fs.toList && fs.all fun f => shB P k f.type
   | some (.array n e) => decide (P.cellsOf t = n * P.cellsOf e) && shB P k e
   | _ => false
theorem take_cells {α : Type} {l : List α} {a k j : Nat} (hj : j < k) : ((l.drop a).take k)[j]? = l[a + j]? := by
 rw [List.getElem?_take_of_lt hj, List.getElem?_drop]
theorem chunks {sz : Nat} {Q : Nat → List V → Prop} : ∀ n : Nat, (∀ i, i < n → ∃ c : List V, c.length = sz ∧ Q i c) → ∃ cs : List V, cs.length = n * sz ∧ ∀ i, i < n → Q i ((cs.drop (i * sz)).take sz)
 | 0, _ => ⟨[], by simp, fun i hi => absurd hi (Nat.not_lt_zero i)⟩
 | n + 1, h => by
   obtain ⟨cs, h1, h2⟩ := chunks n fun i hi => h i (by omega)
   obtain ⟨c, h3, h4⟩ := h n (by omega)
   refine ⟨cs ++ c, by simp [h1, h3, Nat.succ_mul], fun i hi => ?_⟩
   by_cases hin : i = n
   ·subst hin
    rw [← h1, List.drop_left, ← h3, List.take_length]; exact h4
   ·have hlt : i < n := by omega
    have hle : i * sz + sz ≤ cs.length := by
     rw [h1]
     have : (i + 1) * sz ≤ n * sz := Nat.mul_le_mul_right _ hlt
     rw [Nat.succ_mul] at this; exact this
    rw [List.drop_append_of_le_length (by omega), List.take_append_of_le_length (by rw [List.length_drop]; omega)]
    exact h2 i hlt
theorem noRowL_of {l : List V} (h : ∀ x ∈ l, noRow x = true) : noRowL l = true := by
 induction l with
 | nil => rfl
 | cons x l ih => simp only [noRowL, h x List.mem_cons_self, ih fun y hy => h y (List.mem_cons_of_mem _ hy), Bool.and_self]
theorem in_chunk {cs : List V} {n sz : Nat} (h : cs.length = n * sz) {x : V} (hx : x ∈ cs) : ∃ i, i < n ∧ x ∈ (cs.drop (i * sz)).take sz := by
 obtain ⟨j, hj, rfl⟩ := List.getElem_of_mem hx
 have hsz : 0 < sz := by
  rcases Nat.eq_zero_or_pos sz with h0 | h0
  ·rw [h0, Nat.mul_zero] at h; omega
  ·exact h0
 have hd : j / sz < n := by rw [Nat.div_lt_iff_lt_mul hsz, ← h]; exact hj
 refine ⟨j / sz, hd, List.mem_of_getElem? (i := j % sz) ?_⟩
 rw [take_cells (Nat.mod_lt _ hsz)]
 have : j / sz * sz + j % sz = j := by rw [Nat.mul_comm]; exact Nat.div_add_mod j sz
 rw [this]
 exact List.getElem?_eq_getElem hj
variable {P : Program} {w : World} {H : Type} {enc : TypeId × Value → H}
theorem cells?_ok {base n : Nat} {a : Addr} {l : List Value} (h : w.cells? base a n = some l) : l.length = n ∧ ∀ j, j < n → w.cell? (a.add j) = l[j]? := by
 unfold World.cells? at h
 split at h
 case isFalse => cases h
 have key : ∀ (k : List Nat) (l : List Value), k.mapM (fun i => w.cell? (a.add i)) = some l → l.length = k.length ∧ ∀ (j : Nat) (i : Nat), k[j]? = some i → w.cell? (a.add i) = l[j]? := by
  intro k
  induction k with
  | nil => intro l h; simp at h; subst h; exact ⟨rfl, fun j i h => by simp at h⟩
  | cons i k ih =>
    intro l h
    rw [List.mapM_cons] at h
    cases ha : w.cell? (a.add i) with
    | none => rw [ha] at h; simp at h
    | some y =>
      rw [ha] at h
      cases hl : k.mapM (fun i => w.cell? (a.add i)) with
      | none => rw [hl] at h; simp at h
      | some ys =>
        rw [hl] at h
        simp at h
        subst h
        obtain ⟨h1, h2⟩ := ih ys hl
        refine ⟨by simp [h1], fun j i' hj => ?_⟩
        cases j with
        | zero => simp at hj; subst hj; simpa using ha
        | succ j => simp at hj ⊢; exact h2 j i' hj
 obtain ⟨h1, h2⟩ := key _ l h
 refine ⟨by simpa using h1, fun j hj => h2 j j (by simp [hj])⟩
end Go.Abs
end
noncomputable section
namespace Go.Abs
open Go Go.ChangeShapes Go.WideShapes Go.ChangeAt Go.RowKit
variable {P : Program} {H : Hint} {W : World} {K : Type} {enc : TypeId × Value → K}
theorem okWide_array {n : Nat} {t e : TypeId} {v : Value} {w : World} {r : Reach} {base : Nat} (ht : P.underlying t = some (.array n e)) (h : Value.okWide P w r base t v) : ∃ cs, v = .agg cs ∧ cs.size = P.cellsOf t := by
 simp only [Value.okWide, ht] at h
 obtain ⟨cs, h1, h2, _⟩ := h
 exact ⟨cs, h1, h2⟩
end Go.Abs
end
noncomputable section
namespace Go.Abs
open Go
variable {P : Program} {H : Hint} {E : Env} {nt : Nat} {D D1 : St} {ex : List V} {w : World} {a : Act} {o : Oper} {K : Act → World → Prop} {Q : Exit → Act → World → Prop}
theorem Back.sm {m : List (Nat × Box)} {nx : Nat} {r r2 : V} {m2 : List (Nat × Box)} {nx2 : Nat} {v : Value} {w' : World} (h : Back E m nx ex w r2 m2 nx2 v w') (hs : Sm r r2) : Back E m nx ex w r m2 nx2 v w' := by
 obtain ⟨E', r', m2', s1, s2, h3⟩ := h
 exact ⟨E', r', m2', hs.trans s1, s2, h3⟩
theorem op_nilcmp {t t2 e : TypeId} {x : Operand} {pm : Bool} {A : Option Addr} {cap n : Nat} {cs : List V} (hN : Now H E nt D ex w a) (hd : ∀ t, o.dst = some t → t < nt) (ho : o.op = .binOp .eql t x (.const (.slice none 0 0)) t2) (hu : P.underlying t = some (.slice e))
 (hx : ev H D x = some (.im pm A cap n cs)) (hK : Leads H E nt D ex w (D.lay o.dst (.bool A.isNone)) K) : o.wp P a w K Q := by
 have ex1 : a.eval x = .slice A n cap := (ev_ok hN hx).pr
 refine op_value hN hd (seen_bool _) ?_ hK
 have hr : (Op.equal t (.slice A n cap) (.slice none 0 0)).run P w = .ok A.isNone w := equal_of fun d => by
  cases A <;> simp [Op.equalIn, run_underlying' hu]
 have ey : a.eval (.const (.slice none 0 0)) = .slice none 0 0 := rfl
 have hf : (∀ us, a.eval x ≠ .agg us) ∧ a.eval x ≠ .nilIface := by rw [ex1]; exact ⟨fun _ h => (by cases h), fun h => (by cases h)⟩
 have hb : (binOp .eql t (a.eval x) (a.eval (.const (.slice none 0 0)))).run P w = .ok (.bool A.isNone) w := by
  rw [ex1, ey]
  have : binOp .eql t (.slice A n cap) (.slice none 0 0) = (do pure (.bool (← Op.equal t (.slice A n cap) (.slice none 0 0)))) := rfl
  rw [this]
  simp [hr]
 simp [execOp, ho, eqGuard_free hf, hb]
def bare0 : Hint := { G := fun _ => none, sg := fun _ => [], fz := fun _ _ _ => false, live := fun _ _ => none, fr := fun _ => false, X := fun _ _ => none, plan := fun _ _ => none, mc := fun _ _ => [], good := fun _ => true }
def noC : Callee := fun _ _ _ _ => none
theorem bare0_sm : XSm bare0 := fun f as as' _ => .none
theorem noC_sm : CSm noC := fun f as as' m m' nx _ _ => .none
theorem noC_ok : CallsOk P bare0 noC := by
 intro E nt D D1 ex w a o K Q c g hN hd ho hc h hK
 have : ∀ fz, evOp P bare0 noC fz o D = none := by
  intro fz
  unfold evOp
  simp only [ho, hc]
  split
  ·unfold doCall
   split
   ·rename_i as Dl _
    have e1 : bare0.X = fun _ _ => none := rfl
    simp only [e1, noC]
    split <;> rfl
   ·rfl
  ·rfl
 rcases h with h | h <;> (rw [this] at h; cases h)
def cloneX (by_ : Nat) : List V → Option V
 | [.im pm A cap n cs] => if cs.length = n ∧ cs.all cellIn ∧ n * by_ ≤ 140737488355328 ∧ n ≤ 140737488355328 then some (.own .nil 0 n cs) else none
 | _ => none
def cloneCode (r0 r1 r2 r3 : Array Oper) : Code :=
 .seq (.region 0 r0 false) (.seq (.seq (.region 1 r1 false) (.cond (.tmp 4) (.seq (.region 2 r2 false) .ret) .skip)) (.seq (.region 3 r3 false) .ret))
theorem clone_ok {f : Nat} {fn : Func} {t t2 e : TypeId} {by_ : Nat} {z : V} {r0 r1 r2 r3 : Array Oper} {o1 o2 : Oper} (hm : P.follows .mixedOrders = true) (hf : P.funcs[f]? = some fn) (hname : (fn.name == "runtime.NumGoroutine") = false) (hnt : fn.ntmps = 8) (hres : fn.results = #[.tmp 2]) (hb : fn.body = some (cloneCode r0 r1 r2 r3))
 (hr1 : r1 = #[o1, o2]) (ho1 : o1.op = .move (.tmp 0)) (hd1 : o1.dst = some 3) (hg1 : o1.guard = none) (ho2 : o2.op = .binOp .eql t (.tmp 3) (.const (.slice none 0 0)) t2) (hd2 : o2.dst = some 4) (hg2 : o2.guard = none) (hu : P.underlying t = some (.slice e))
 (hB0 : codeB bare0 f 8 (.region 0 r0 false) = true) (hB2 : codeB bare0 f 8 (.seq (.region 2 r2 false) .ret) = true) (hB3 : codeB bare0 f 8 (.seq (.region 3 r3 false) .ret) = true)
 (h0 : ∀ D, evCode P bare0 noC f 0 (.region 0 r0 false) D = some (.norm, D.lay (some 2) (.own .nil 0 0 [])))
 (h2 : ∀ D, evCode P bare0 noC f 0 (.seq (.region 2 r2 false) .ret) D = some (.ret, D.lay (some 2) (.own .nil 0 0 [])))
 (h3 : ∀ D pm A cap n cs, D.s 0 = .im pm A cap n cs → cs.length = n → cs.all cellIn = true → n * by_ ≤ 140737488355328 → n ≤ 140737488355328 → ∃ D2, evCode P bare0 noC f 0 (.seq (.region 3 r3 false) .ret) D = some (.ret, D2) ∧ D2.s 2 = .own .nil 0 n cs ∧ D2.m = D.m ∧ D2.nx = D.nx)
 {as : List V} {r : V} (hX : cloneX by_ as = some r) {nx : Nat} {us : List Value} (hI : Inv E 0 (emptyS [] nx) ex w) (hu' : ∀ D, PRL E.β D as us) (hflat : noRowL as = true) (hat : ∀ b ∈ atomsL as, AtOk E w nx (fun k => k ∈ keysD 0 (emptyS [] nx) ex) b) :
 FGood P f us w (Back E [] nx ex w r [] nx) := by
 unfold cloneX at hX
 split at hX
 case h_2 => cases hX
 rename_i pm A cap n cs
 split at hX
 case isFalse => cases hX
 rename_i hc
 cases hX
 obtain ⟨c1, c2, c3, c4⟩ := hc
 have hN0 : Now bare0 E (sizeA fn us) (entryS [.im pm A cap n cs] [] nx) ex w (entryA fn us) := entry_ok hI hu' hflat hat (fun g cs h => by cases h)
 have hsz : 8 ≤ sizeA fn us := by unfold sizeA; omega
 refine .inl ⟨enter_run hf hb hname, calls_of_wp hf hb ?_⟩
 unfold cloneCode
 refine wp_seq (code_ok noC_ok bare0_sm noC_sm hm f 0 _ (codeB_mono hsz _ hB0) hN0 (h0 _) ?_)
 intro E1 D1 w1 a1 s1 T1 N1
 refine wp_seq (wp_seq (wp_region_list ?_))
 rw [hr1]
 have hw1 : Region.wanted o1 (yielded #[o1, o2] a1.tmps) = true := by unfold Region.wanted; rw [hg1]
 show wpList P #[o1, o2] _ [o1, o2] a1 w1
 unfold wpList
 rw [if_pos hw1]
 left
 have hmv : evOp P bare0 noC false o1 D1 = some (D1.lay (some 3) (view (.slot 0) [] (D1.s 0))) := by unfold evOp; simp only [ho1, ev, hd1]
 refine op_move (nt := sizeA fn us) (C := noC) (fz := false) N1 (by intro t ht; rw [hd1] at ht; cases ht; exact Nat.lt_of_lt_of_le (by decide) hsz) hmv ?_ ho1
 intro E2 D2 w2 a2 s2 T2 N2
 have hw2 : Region.wanted o2 (yielded #[o1, o2] a2.tmps) = true := by unfold Region.wanted; rw [hg2]
 unfold wpList
 rw [if_pos hw2]
 left
 have hs0 : ∃ A' cap' cs', D2.s 0 = .im pm A' cap' n cs' ∧ SmL cs cs' ∧ ∃ A3 cap3 cs3, D2.s 3 = .im pm A3 cap3 n cs3 ∧ SmL cs cs3 := by
  have k1 := s1.s 0
  have e1 : ((entryS [.im pm A cap n cs] [] nx).lay (some 2) (.own .nil 0 0 [])).s 0 = .im pm A cap n cs := by simp [St.lay, noRow, killAll, St.put, entryS, kill]
  rw [e1] at k1
  generalize hq : D1.s 0 = y at k1
  cases k1 with
  | @im _ _ A1 _ cap1 _ _ cs1 hs1 =>
    have k2 := s2.s 0
    have k3 := s2.s 3
    have e2 : (D1.lay (some 3) (view (.slot 0) [] (D1.s 0))).s 0 = .im pm A1 cap1 n cs1 := by rw [hq]; simp [St.lay, noRow, view, St.put, hq]
    have e3 : (D1.lay (some 3) (view (.slot 0) [] (D1.s 0))).s 3 = .im pm A1 cap1 n cs1 := by rw [hq]; simp [St.lay, noRow, view, St.put]
    rw [e2] at k2
    rw [e3] at k3
    generalize hq2 : D2.s 0 = y2 at k2
    generalize hq3 : D2.s 3 = y3 at k3
    cases k2 with
    | im hs2 =>
      cases k3 with
      | im hs3 => exact ⟨_, _, _, rfl, hs1.trans hs2, _, _, _, rfl, hs1.trans hs3⟩
 obtain ⟨A', cap', cs', e0, hs', A3, cap3, cs3, e3, hs3⟩ := hs0
 have hmnx : D2.m = [] ∧ D2.nx = nx := by
  have q1 := s1.m; have q2 := s2.m; have q3 := s1.nx; have q4 := s2.nx
  have e1 : ((entryS [.im pm A cap n cs] [] nx).lay (some 2) (.own .nil 0 0 [])).m = [] := by simp [St.lay, noRow, killAll, St.put, entryS]
  have e2 : ((entryS [.im pm A cap n cs] [] nx).lay (some 2) (.own .nil 0 0 [])).nx = nx := by simp [St.lay, noRow, killAll, St.put, entryS]
  rw [e1] at q1
  rw [e2] at q3
  have e4 : ∀ (D : St) (v : V), (D.lay (some 3) v).m = D.m ∧ (D.lay (some 3) v).nx = D.nx := by
   intro D v; simp only [St.lay]; split <;> exact ⟨rfl, rfl⟩
  rw [(e4 _ _).1] at q2
  rw [(e4 _ _).2] at q4
  generalize D1.m = m1 at q1 q2
  cases q1
  generalize D2.m = m2 at q2
  cases q2
  exact ⟨rfl, by rw [q4, q3]⟩
 refine op_nilcmp (nt := sizeA fn us) (e := e) (pm := pm) (A := A3) (cap := cap3) (n := n) (cs := cs3) N2 (by intro t ht; rw [hd2] at ht; cases ht; exact Nat.lt_of_lt_of_le (by decide) hsz) ho2 hu (x := .tmp 3) (by simp only [ev, e3, view]) ?_
 intro E4 D4 w4 a4 s4 T4 N4
 show (Code.cond (.tmp 4) (.seq (.region 2 r2 false) .ret) .skip).wp P _ a4 w4
 have hb4 : a4.eval (.tmp 4) = .bool A3.isNone := by
  have k := s4.s 4
  have e1 : (D2.lay o2.dst (.bool A3.isNone)).s 4 = .bool A3.isNone := by rw [hd2]; simp [St.lay, noRow, St.put]
  rw [e1] at k
  have hp := N4.slots.slot 4
  generalize D4.s 4 = y at k hp
  cases k
  exact hp
 have hTall : To E (sizeA fn us) (entryS [.im pm A cap n cs] [] nx) ex w E4 D4 ex w4 := (T1.trans T2).trans T4
 have hD40 : ∃ A5 cap5 cs5, D4.s 0 = .im pm A5 cap5 n cs5 ∧ SmL cs cs5 ∧ D4.m = [] ∧ D4.nx = nx := by
  have k := s4.s 0
  have e1 : (D2.lay o2.dst (.bool A3.isNone)).s 0 = D2.s 0 := by rw [hd2]; simp [St.lay, noRow, St.put]
  rw [e1, e0] at k
  have q1 := s4.m; have q2 := s4.nx
  have e2 : (D2.lay o2.dst (.bool A3.isNone)).m = [] ∧ (D2.lay o2.dst (.bool A3.isNone)).nx = nx := by rw [hd2]; exact hmnx
  rw [e2.1] at q1
  rw [e2.2] at q2
  generalize hq : D4.s 0 = y at k
  generalize hqm : D4.m = y2 at q1
  cases k with
  | im hs5 => cases q1; exact ⟨_, _, _, rfl, hs'.trans hs5, rfl, q2⟩
 obtain ⟨A5, cap5, cs5, e5, hs5, em5, en5⟩ := hD40
 have fin : ∀ (D5 : St) (cs6 : List V), SmL cs cs6 → D5.s 2 = .own .nil 0 n cs6 → D5.m = [] → D5.nx = nx → ∀ E6 D6 w6 a6, SmS D5 D6 → To E (sizeA fn us) (entryS [.im pm A cap n cs] [] nx) ex w E6 D6 ex w6 → Now bare0 E6 (sizeA fn us) D6 ex w6 a6 →
  a6.defers = [] ∧ ∃ v, (results fn a6.tmps).run P w6 = .ok v w6 ∧ Back E [] nx ex w (.own .nil 0 n cs) [] nx v w6 := by
  intro D5 cs6 hs6 e6 em6 en6 E6 D6 w6 a6 s6 T6 N6
  have hres' : evRes P D5 fn.results.toList = some ([.own .nil 0 n cs6], setAt D5 (.slot 2) [] .dead) := by
   rw [hres]
   simp [evRes, e6, view, settle, take, look, go]
  obtain ⟨g1, v, g2, g3⟩ := exit_ok (fn := fn) (frb := false) (r := .own .nil 0 n cs6) (m2 := []) (nx2 := nx) hI hflat hres' (by simp) (by
   have e7 : (setAt D5 (.slot 2) [] .dead).m = [] := by simp [setAt, em6]
   have e8 : (setAt D5 (.slot 2) [] .dead).nx = nx := by simp [setAt, en6]
   simp [e7, e8, packRes]) s6 T6 N6
  exact ⟨g1, v, g2, g3.sm (.own hs6)⟩
 refine wp_cond hb4 ?_
 cases hA : A3.isNone with
 | true =>
   simp only [if_true]
   have hA3 : A3 = none := by cases A3 with | none => rfl | some a => cases hA
   have hn0 : n = 0 := by
    have hat3 := N2.inv.atoms (.i pm A3 cap3 n cs3) (List.mem_append_left _ (slotAtoms_mem (t := 3) (by omega) (by rw [e3]; simp [atoms])))
    rw [hA3] at hat3
    exact hat3.2.1
   subst hn0
   have hcs : cs = [] := List.eq_nil_of_length_eq_zero c1
   subst hcs
   refine code_ok noC_ok bare0_sm noC_sm hm f 0 _ (codeB_mono hsz _ hB2) N4 (h2 _) ?_
   intro E6 D6 w6 a6 s6 T6 N6
   refine fin (D4.lay (some 2) (.own .nil 0 0 [])) [] .nil (by simp [St.lay, noRow, killAll, St.put, kill]) (by simp [St.lay, noRow, killAll, St.put, em5]) (by simp [St.lay, noRow, killAll, St.put, en5]) E6 D6 w6 a6 s6 (hTall.trans T6) N6
 | false =>
   simp only [Bool.false_eq_true, if_false]
   refine wp_skip ?_
   obtain ⟨D5, q1, q2, q3, q4⟩ := h3 D4 pm A5 cap5 n cs5 e5 (by rw [hs5.length, c1]) (by rw [all_sm (f := cellIn) cellIn_sm hs5]; exact c2) c3 c4
   refine code_ok noC_ok bare0_sm noC_sm hm f 0 _ (codeB_mono hsz _ hB3) N4 q1 ?_
   intro E6 D6 w6 a6 s6 T6 N6
   exact fin D5 cs5 hs5 q2 (by rw [q3, em5]) (by rw [q4, en5]) E6 D6 w6 a6 s6 (hTall.trans T6) N6
end Go.Abs
end
noncomputable section
namespace Go.Abs
open Go
def Ans (P : Program) (H : Hint) (f : Nat) (xs : List V) (r : V) : Prop := ∃ N, ∀ n, N ≤ n → ∀ nx, evCall P H n f xs [] nx = some (r, [], nx)
variable {P : Program} {H : Hint} {C : Callee} {f k : Nat}
def EvP (P : Program) (H : Hint) (C : Callee) (f k : Nat) (c : Code) (D : St) (Φ : Ex → St → Prop) : Prop := ∃ e D', evCode P H C f k c D = some (e, D') ∧ Φ e D'
def thenE (K : St → Prop) (Φ : Ex → St → Prop) : Ex → St → Prop
 | .norm, D => K D
 | .ret, D => Φ .ret D
 | .exit i, D => Φ (.exit i) D
def blockE (id : Nat) (Φ : Ex → St → Prop) : Ex → St → Prop
 | .norm, D => Φ .norm D
 | .ret, D => Φ .ret D
 | .exit i, D => if i = id then Φ .norm D else Φ (.exit i) D
def optE {α : Type} (x : Option α) (K : α → Prop) : Prop := match x with | some y => K y | none => False
@[simp] theorem optE_some {α : Type} (y : α) (K : α → Prop) : optE (some y) K = K y := rfl
@[simp] theorem thenE_norm (K : St → Prop) (Φ : Ex → St → Prop) (D : St) : thenE K Φ .norm D = K D := rfl
@[simp] theorem thenE_ret (K : St → Prop) (Φ : Ex → St → Prop) (D : St) : thenE K Φ .ret D = Φ .ret D := rfl
@[simp] theorem thenE_exit (K : St → Prop) (Φ : Ex → St → Prop) (i : Nat) (D : St) : thenE K Φ (.exit i) D = Φ (.exit i) D := rfl
@[simp] theorem blockE_norm (id : Nat) (Φ : Ex → St → Prop) (D : St) : blockE id Φ .norm D = Φ .norm D := rfl
@[simp] theorem blockE_ret (id : Nat) (Φ : Ex → St → Prop) (D : St) : blockE id Φ .ret D = Φ .ret D := rfl
@[simp] theorem blockE_exit (id i : Nat) (Φ : Ex → St → Prop) (D : St) : blockE id Φ (.exit i) D = if i = id then Φ .norm D else Φ (.exit i) D := rfl
theorem optE_elim {α : Type} {x : Option α} {K : α → Prop} (h : optE x K) : ∃ y, x = some y ∧ K y := by
 cases x with
 | none => exact h.elim
 | some y => exact ⟨y, rfl, h⟩
theorem EvP.skip {D : St} {Φ : Ex → St → Prop} (h : Φ .norm D) : EvP P H C f k .skip D Φ := ⟨_, _, rfl, h⟩
theorem EvP.ret {D : St} {Φ : Ex → St → Prop} (h : Φ .ret D) : EvP P H C f k .ret D Φ := ⟨_, _, rfl, h⟩
theorem EvP.exit {D : St} {i : Nat} {Φ : Ex → St → Prop} (h : Φ (.exit i) D) : EvP P H C f k (.exit i) D Φ := ⟨_, _, rfl, h⟩
theorem EvP.region {D : St} {id : Nat} {ops : Array Oper} {Φ : Ex → St → Prop} (h : optE (evOps P H C ops (H.fz f id) 0 ops.toList D) (Φ .norm)) : EvP P H C f k (.region id ops false) D Φ := by
 obtain ⟨y, hy, h⟩ := optE_elim h
 exact ⟨.norm, y, by unfold evCode; simp [hy], h⟩
theorem EvP.draw {D : St} {id : Nat} {ops : Array Oper} {Φ : Ex → St → Prop} (h : optE (evDraw P H C ops (H.fz f id) (muOf H f id ops) (planOf H f id ops) D) (Φ .norm)) (ht : H.tree f id = none := by rfl) : EvP P H C f k (.region id ops true) D Φ := by
 obtain ⟨y, hy, h⟩ := optE_elim h
 exact ⟨.norm, y, by unfold evCode; simp [hy, ht], h⟩
theorem EvP.drawT {D : St} {id : Nat} {ops : Array Oper} {Φ : Ex → St → Prop} {T : Pl} (ht : H.tree f id = some T) (h : optE (evDrawT P H C ops (H.fz f id) (muOf H f id ops) T D) (Φ .norm)) : EvP P H C f k (.region id ops true) D Φ := by
 obtain ⟨y, hy, h⟩ := optE_elim h
 exact ⟨.norm, y, by unfold evCode; simp [hy, ht], h⟩
theorem EvP.seq {D : St} {a b : Code} {Φ : Ex → St → Prop} (h : EvP P H C f k a D (thenE (fun D1 => EvP P H C f k b D1 Φ) Φ)) : EvP P H C f k (.seq a b) D Φ := by
 obtain ⟨e, D1, h1, h2⟩ := h
 cases e with
 | norm =>
   obtain ⟨e', D2, h3, h4⟩ := h2
   exact ⟨e', D2, by unfold evCode; rw [h1]; exact h3, h4⟩
 | ret => exact ⟨_, _, by unfold evCode; rw [h1], h2⟩
 | exit i => exact ⟨_, _, by unfold evCode; rw [h1], h2⟩
theorem EvP.cond {D : St} {c : Operand} {a b : Code} {Φ : Ex → St → Prop} {t : Bool} (hc : ev H D c = some (.bool t)) (ht : t = true → EvP P H C f k a D Φ) (hf : t = false → EvP P H C f k b D Φ) : EvP P H C f k (.cond c a b) D Φ := by
 cases t with
 | true =>
   obtain ⟨e, D1, h1, h2⟩ := ht rfl
   exact ⟨e, D1, by unfold evCode; rw [hc]; exact h1, h2⟩
 | false =>
   obtain ⟨e, D1, h1, h2⟩ := hf rfl
   exact ⟨e, D1, by unfold evCode; rw [hc]; exact h1, h2⟩
theorem EvP.block {D : St} {id : Nat} {c : Code} {Φ : Ex → St → Prop} (h : EvP P H C f k c D (blockE id Φ)) : EvP P H C f k (.block id c) D Φ := by
 obtain ⟨e, D1, h1, h2⟩ := h
 cases e with
 | norm => exact ⟨_, _, by unfold evCode; rw [h1], h2⟩
 | ret => exact ⟨_, _, by unfold evCode; rw [h1], h2⟩
 | exit i =>
   simp only [blockE] at h2
   by_cases hi : i = id
   ·rw [if_pos hi] at h2
    exact ⟨.norm, D1, by unfold evCode; rw [h1]; simp [hi], h2⟩
   ·rw [if_neg hi] at h2
    exact ⟨.exit i, D1, by unfold evCode; rw [h1]; simp [hi], h2⟩
theorem EvP.mono {D : St} {c : Code} {Φ Ψ : Ex → St → Prop} (h : EvP P H C f k c D Φ) (hm : ∀ e D, Φ e D → Ψ e D) : EvP P H C f k c D Ψ := by
 obtain ⟨e, D1, h1, h2⟩ := h
 exact ⟨e, D1, h1, hm _ _ h2⟩
def liveOf (H : Hint) (f : Nat) (c : Code) : Option (List Nat) := match firstReg c with | some i => H.live f i | none => none
theorem EvP.loop {c : Code} {Φ : Ex → St → Prop} (I : Nat → St → Prop) {n : Nat} {D : St} (h0 : I n D) (hk : n < k)
 (h : ∀ n D, I n D → EvP P H C f k c (clear (liveOf H f c) D) (thenE (fun D1 => ∃ n', n' < n ∧ I n' D1) Φ)) : EvP P H C f k (.loop c) D Φ := by
 have key : ∀ (j n : Nat) (D : St), n < j → I n D → ∃ e D', iter (evCode P H C f k c) (liveOf H f c) j D = some (e, D') ∧ Φ e D' := by
  intro j
  induction j with
  | zero => intro n D hn; omega
  | succ j ih =>
    intro n D hn hI
    obtain ⟨e, D1, h1, h2⟩ := h n D hI
    unfold iter
    rw [h1]
    cases e with
    | norm =>
      obtain ⟨n', hn', hI'⟩ := h2
      exact ih n' D1 (by omega) hI'
    | ret => exact ⟨_, _, rfl, h2⟩
    | exit i => exact ⟨_, _, rfl, h2⟩
 obtain ⟨e, D', h1, h2⟩ := key k n D hk h0
 exact ⟨e, D', by unfold evCode; exact h1, h2⟩
theorem settle_slot {t : Nat} {r : V} {D : St} (h : D.s t = r) (hr : (∃ d k n cs, r = .own d k n cs) ∨ ∃ A, view (.slot t) [] r = r ∧ settle false r A = some (r, A) ∧ ∀ B, settle false r B = some (r, B)) :
 ∃ D1, settle false (view (.slot t) [] (D.s t)) D = some (r, D1) ∧ D1.m = D.m ∧ D1.nx = D.nx := by
 rcases hr with ⟨d, k, n, cs, rfl⟩ | ⟨_, h1, _, h2⟩
 ·refine ⟨setAt D (.slot t) [] .dead, ?_, rfl, rfl⟩
  rw [h]
  simp [view, settle, take, look, go, h]
 ·exact ⟨D, by rw [h, h1, h2], rfl, rfl⟩
def plainV : V → Bool
 | .own _ _ _ cs => (ptrsL cs).isEmpty
 | .int _ _ | .bool _ | .nilp | .nilf => true
 | .im _ _ _ _ cs => (ptrsL cs).isEmpty
 | _ => false
theorem plain_settle {t : Nat} {r : V} {D : St} (h : D.s t = r) (hr : plainV r = true) : (∃ D1, settle false (view (.slot t) [] (D.s t)) D = some (r, D1) ∧ D1.m = D.m ∧ D1.nx = D.nx) ∧ ptrs r = [] := by
 cases r <;> simp only [plainV] at hr <;> try (cases hr; done)
 all_goals first
  | exact ⟨settle_slot h (.inr ⟨D, rfl, rfl, fun _ => rfl⟩), rfl⟩
  | exact ⟨settle_slot h (.inl ⟨_, _, _, _, rfl⟩), by simpa [ptrs] using hr⟩
  | exact ⟨settle_slot h (.inr ⟨D, rfl, rfl, fun _ => rfl⟩), by simpa [ptrs] using hr⟩
theorem Ans.of {fn : Func} {c : Code} {xs : List V} {r : V} {t : Nat} (hg : H.good f = true) (hf : P.funcs[f]? = some fn) (hb : fn.body = some c) (hres : fn.results = #[.tmp t]) (hfr : H.fr f = false) (hr : plainV r = true)
 (h : ∃ N, ∀ k, N ≤ k → ∀ nx, EvP P H (evCall P H k) f k c (entryS xs [] nx) (fun e D => (e = .norm ∨ e = .ret) ∧ D.s t = r ∧ ∀ b ∈ D.m, nx ≤ b.1)) : Ans P H f xs r := by
 obtain ⟨N, h⟩ := h
 refine ⟨N + 1, fun n hn nx => ?_⟩
 obtain ⟨k, rfl⟩ : ∃ k, n = k + 1 := ⟨n - 1, by omega⟩
 obtain ⟨e, D, h1, h2, h3, h4⟩ := h k (by omega) nx
 obtain ⟨⟨D1, q1, q2, q3⟩, q4⟩ := plain_settle h3 hr
 unfold evCall
 simp only [hg, hf, hb]
 have h1' : evCode P H (evCall P H k) f k c { s := fun i => match xs[i]? with | some v => v | none => .dead, m := [], nx := nx } = some (e, D) := h1
 have hres' : evRes P D fn.results.toList = some ([r], D1) := by rw [hres]; simp [evRes, q1]
 have hfil : D1.m.filter (fun e => decide (e.1 < nx)) = [] := by
  rw [List.filter_eq_nil_iff, q2]
  intro b hb
  have := h4 b hb
  simp; omega
 rw [if_neg (by simp)]
 generalize hq : evCode P H (evCall P H k) f k c _ = q
 have : q = some (e, D) := by rw [← hq]; exact h1'
 subst this
 simp only [if_pos h2, hres', hfr, Bool.false_and, packRes, Bool.false_eq_true, if_false, hfil, q4, List.flatMap_nil, List.append_nil, List.any_nil]
section
variable {P : Program} {H : Hint} {C : Callee} {f k : Nat}
def AnsN (N : Nat) (P : Program) (H : Hint) (f : Nat) (xs : List V) (r : V) : Prop := ∀ n, N ≤ n → ∀ nx, evCall P H n f xs [] nx = some (r, [], nx)
theorem AnsN.gen {N : Nat} {fn : Func} {c : Code} {xs : List V} {r : V} (hg : H.good f = true) (hf : P.funcs[f]? = some fn) (hb : fn.body = some c) (hfr : H.fr f = false) (hr : ptrs r = [])
 (h : ∀ k, N ≤ k → ∀ nx, EvP P H (evCall P H k) f k c (entryS xs [] nx) (fun e D => (e = .norm ∨ e = .ret) ∧ optE (evRes P D fn.results.toList) fun q => packRes q.1 = r ∧ ∀ b ∈ q.2.m, nx ≤ b.1)) : AnsN (N + 1) P H f xs r := by
 intro n hn nx
 obtain ⟨k, rfl⟩ : ∃ k, n = k + 1 := ⟨n - 1, by omega⟩
 obtain ⟨e, D, h1, h2, hq⟩ := h k (by omega) nx
 obtain ⟨⟨rs, D1⟩, hres', hrs, h4⟩ := optE_elim hq
 simp only at hrs h4
 unfold evCall
 simp only [hg, hf, hb]
 have h1' : evCode P H (evCall P H k) f k c { s := fun i => match xs[i]? with | some v => v | none => .dead, m := [], nx := nx } = some (e, D) := h1
 have hfil : D1.m.filter (fun e => decide (e.1 < nx)) = [] := by
  rw [List.filter_eq_nil_iff]
  intro b hb
  have := h4 b hb
  simp; omega
 rw [if_neg (by simp)]
 generalize hq : evCode P H (evCall P H k) f k c _ = q
 have : q = some (e, D) := by rw [← hq]; exact h1'
 subst this
 simp only [if_pos h2, hres', hfr, Bool.false_and, Bool.false_eq_true, if_false, hfil, hrs, hr, List.flatMap_nil, List.append_nil, List.any_nil]
theorem AnsN.of {N : Nat} {fn : Func} {c : Code} {xs : List V} {r : V} {t : Nat} (hg : H.good f = true) (hf : P.funcs[f]? = some fn) (hb : fn.body = some c) (hres : fn.results = #[.tmp t]) (hfr : H.fr f = false) (hr : plainV r = true)
 (h : ∀ k, N ≤ k → ∀ nx, EvP P H (evCall P H k) f k c (entryS xs [] nx) (fun e D => (e = .norm ∨ e = .ret) ∧ D.s t = r ∧ ∀ b ∈ D.m, nx ≤ b.1)) : AnsN (N + 1) P H f xs r := by
 refine AnsN.gen hg hf hb hfr ?_ fun k hk nx => ?_
 ·cases r <;> simp only [plainV] at hr <;> first | rfl | (cases hr; done) | simpa [ptrs] using hr
 ·obtain ⟨e, D, h1, h2, h3, h4⟩ := h k hk nx
  obtain ⟨⟨D1, q1, q2, q3⟩, q4⟩ := plain_settle h3 hr
  refine ⟨e, D, h1, h2, ?_⟩
  rw [hres]
  simp only [evRes, q1, optE_some, packRes, true_and]
  rw [q2]
  exact h4
theorem EvP.seqG {D : St} {a b : Code} {Φ : Ex → St → Prop} (K : St → Prop) (h1 : EvP P H C f k a D (thenE K Φ)) (h2 : ∀ D1, K D1 → EvP P H C f k b D1 Φ) : EvP P H C f k (.seq a b) D Φ :=
 EvP.seq (h1.mono fun e D1 h => by
  cases e with
  | norm => exact h2 D1 h
  | ret => exact h
  | exit i => exact h)
def EvK (P : Program) (H : Hint) (C : Callee) (f k : Nat) (c : Code) (Φ : Ex → St → Prop) (D : St) : Prop := EvP P H C f k c D Φ
theorem EvK_app (c : Code) (Φ : Ex → St → Prop) (D : St) : EvK P H C f k c Φ D = EvP P H C f k c D Φ := rfl
def condE (x : Option V) (A B : Prop) : Prop := match x with | some (.bool t) => if t then A else B | _ => False
theorem condE_b (t : Bool) (A B : Prop) : condE (some (.bool t)) A B = if t then A else B := rfl
theorem ev_skip (D : St) (Φ : Ex → St → Prop) : EvP P H C f k .skip D Φ = Φ .norm D := propext ⟨fun ⟨e, D', h, h2⟩ => by cases h; exact h2, EvP.skip⟩
theorem ev_ret (D : St) (Φ : Ex → St → Prop) : EvP P H C f k .ret D Φ = Φ .ret D := propext ⟨fun ⟨e, D', h, h2⟩ => by cases h; exact h2, EvP.ret⟩
theorem ev_exit (i : Nat) (D : St) (Φ : Ex → St → Prop) : EvP P H C f k (.exit i) D Φ = Φ (.exit i) D := propext ⟨fun ⟨e, D', h, h2⟩ => by cases h; exact h2, EvP.exit⟩
theorem ev_seq (a b : Code) (D : St) (Φ : Ex → St → Prop) : EvP P H C f k (.seq a b) D Φ = EvP P H C f k a D (thenE (EvK P H C f k b Φ) Φ) := propext ⟨fun ⟨e, D', h, h2⟩ => by
 unfold evCode at h
 cases ha : evCode P H C f k a D with
 | none => rw [ha] at h; cases h
 | some q =>
   obtain ⟨e1, D1⟩ := q
   rw [ha] at h
   refine ⟨e1, D1, ha, ?_⟩
   cases e1 with
   | norm => exact ⟨e, D', h, h2⟩
   | ret => cases h; exact h2
   | exit i => cases h; exact h2, fun h => EvP.seq h⟩
theorem ev_region (id : Nat) (ops : Array Oper) (D : St) (Φ : Ex → St → Prop) : EvP P H C f k (.region id ops false) D Φ = optE (evOps P H C ops (H.fz f id) 0 ops.toList D) (Φ .norm) := by
 refine propext ⟨fun ⟨e, D', h, h2⟩ => ?_, fun h => EvP.region h⟩
 unfold evCode at h
 simp only [Bool.false_eq_true, if_false] at h
 split at h
 ·rename_i hx; cases h; rw [hx]; exact h2
 ·cases h
theorem ev_block (id : Nat) (c : Code) (D : St) (Φ : Ex → St → Prop) : EvP P H C f k (.block id c) D Φ = EvP P H C f k c D (blockE id Φ) := propext ⟨fun ⟨e, D', h, h2⟩ => by
 unfold evCode at h
 cases ha : evCode P H C f k c D with
 | none => rw [ha] at h; cases h
 | some q =>
   obtain ⟨e1, D1⟩ := q
   rw [ha] at h
   refine ⟨e1, D1, ha, ?_⟩
   cases e1 with
   | norm => cases h; exact h2
   | ret => cases h; exact h2
   | exit i =>
     simp only at h
     by_cases hi : i = id
     ·rw [if_pos hi] at h; cases h; simpa [hi] using h2
     ·rw [if_neg hi] at h; cases h; simpa [hi] using h2, fun h => EvP.block h⟩
theorem ev_cond (c : Operand) (a b : Code) (D : St) (Φ : Ex → St → Prop) : EvP P H C f k (.cond c a b) D Φ = condE (ev H D c) (EvP P H C f k a D Φ) (EvP P H C f k b D Φ) := by
 refine propext ⟨fun ⟨e, D', h, h2⟩ => ?_, fun h => ?_⟩
 ·unfold evCode at h
  split at h
  ·rename_i t ht
   rw [ht, condE_b]
   cases t with
   | true => exact ⟨e, D', h, h2⟩
   | false => exact ⟨e, D', h, h2⟩
  ·cases h
 ·unfold condE at h
  split at h
  ·rename_i t ht
   cases t with
   | true => obtain ⟨e, D', h1, h2⟩ := h; exact ⟨e, D', by unfold evCode; rw [ht]; exact h1, h2⟩
   | false => obtain ⟨e, D', h1, h2⟩ := h; exact ⟨e, D', by unfold evCode; rw [ht]; exact h1, h2⟩
  ·exact h.elim
end
section
variable {P : Program} {H : Hint} {C : Callee} {f k : Nat}
end
section
variable {P : Program} {H : Hint} {C : Callee} {f k : Nat} {ops : Array Oper} {fz mu : Nat → Bool}
theorem optE_mono {α : Type} {x : Option α} (K : α → Prop) {Q : α → Prop} (h1 : optE x K) (h2 : ∀ y, K y → Q y) : optE x Q := by
 cases x with
 | none => exact h1
 | some y => exact h2 y h1
end
theorem clear_none (D : St) : clear none D = D := rfl
def uL (l : List Nat) : List V := l.map fun (x : Nat) => V.int .u64 (x : Int)
@[simp] theorem uL_length (l : List Nat) : (uL l).length = l.length := by simp [uL]
@[simp] theorem uL_getElem (l : List Nat) (i : Nat) (h : i < (uL l).length) : (uL l)[i] = .int .u64 ((l[i]'(by simpa using h) : Nat) : Int) := by simp [uL]
theorem uL_append (a b : List Nat) : uL (a ++ b) = uL a ++ uL b := by simp [uL]
@[simp] theorem ptrsL_uL (l : List Nat) : ptrsL (uL l) = [] := by
 unfold uL; induction l with
 | nil => rfl
 | cons x l ih => simp only [List.map_cons, ptrsL, ptrs, ih, List.append_nil]
@[simp] theorem frzL_uL (pm : Bool) (l : List Nat) : frzL pm (uL l) = uL l := by
 unfold uL; induction l with
 | nil => rfl
 | cons x l ih => simp only [List.map_cons, frzL, frz, ih]
@[simp] theorem noBorL_uL (l : List Nat) : noBorL (uL l) = true := by
 unfold uL; induction l with
 | nil => rfl
 | cons x l ih => simp only [List.map_cons, noBorL, noBor, ih, Bool.and_self]
theorem wrap_nat {x : Int} (h0 : 0 ≤ x) (h : x ≤ 9223372036854775807) : IntKind.i64.wrap x = x := by
 unfold IntKind.wrap
 simp [IntKind.signed, IntKind.bits]
 omega
theorem wrap_succ {q : Nat} (h : q < 9223372036854775807) : IntKind.i64.wrap ((q : Int) + 1) = ((q + 1 : Nat) : Int) := by
 rw [wrap_nat (by omega) (by omega)]; omega
theorem wrapu {x : Int} (h0 : 0 ≤ x) (h : x < 18446744073709551616) : IntKind.u64.wrap x = x := by
 unfold IntKind.wrap
 simp [IntKind.signed, IntKind.bits]
 omega
section
variable {P : Program} {H : Hint} {C : Callee} {f k : Nat}
def AnsM (N : Nat) (P : Program) (H : Hint) (f : Nat) (xs : List V) (m : List (Nat × Box)) (r : V) (m2 : List (Nat × Box)) : Prop := ∀ n, N ≤ n → ∀ nx, (∀ e ∈ m, e.1 < nx) → evCall P H n f xs m nx = some (r, m2, nx)
theorem AnsM.gen {N : Nat} {fn : Func} {c : Code} {xs : List V} {m m2 : List (Nat × Box)} {r : V} (hg : H.good f = true) (hf : P.funcs[f]? = some fn) (hb : fn.body = some c) (hfr : H.fr f = false)
 (hp : ∀ nx, (∀ e ∈ m, e.1 < nx) → ∀ b ∈ ptrs r ++ m2.flatMap (fun e => ptrsL e.2.cs), b < nx)
 (h : ∀ k, N ≤ k → ∀ nx, (∀ e ∈ m, e.1 < nx) → EvP P H (evCall P H k) f k c (entryS xs m nx) (fun e D => (e = .norm ∨ e = .ret) ∧ optE (evRes P D fn.results.toList) fun q => packRes q.1 = r ∧ q.2.m.filter (fun e => decide (e.1 < nx)) = m2)) : AnsM (N + 1) P H f xs m r m2 := by
 intro n hn nx hm
 obtain ⟨k, rfl⟩ : ∃ k, n = k + 1 := ⟨n - 1, by omega⟩
 obtain ⟨e, D, h1, h2, hq⟩ := h k (by omega) nx hm
 obtain ⟨⟨rs, D1⟩, hres', hrs, h4⟩ := optE_elim hq
 simp only at hrs h4
 unfold evCall
 simp only [hg, hf, hb]
 have h1' : evCode P H (evCall P H k) f k c { s := fun i => match xs[i]? with | some v => v | none => .dead, m := m, nx := nx } = some (e, D) := h1
 rw [if_neg (by simp)]
 generalize hq : evCode P H (evCall P H k) f k c _ = q
 have : q = some (e, D) := by rw [← hq]; exact h1'
 subst this
 have hall : ((ptrs r ++ m2.flatMap fun e => ptrsL e.2.cs).any fun b => decide (nx ≤ b)) = false := by
  rw [List.any_eq_false]
  intro b hb
  have := hp nx hm b hb
  simp; omega
 simp only [if_pos h2, hres', hfr, Bool.false_and, Bool.false_eq_true, if_false, hrs, h4, hall]
end
theorem reach_one {b : Nat} {c : Box} (h : ptrsL c.cs = []) : ∀ {m : List (Nat × Box)} {k : Nat}, getBox m b = some c → reach m k [b] = [b]
 | m, 0, _ => rfl
 | m, k + 1, hm => by
   unfold reach
   simp [hm, h]
theorem reach_net {b : Nat} {c : Box} {ts : List Nat} {m : List (Nat × Box)} (hm : getBox m b = some c) (h : ptrsL c.cs = ts) (hts : ∀ t ∈ ts, ∃ c', getBox m t = some c' ∧ ptrsL c'.cs = []) (hb : b ∉ ts) (hnd : ts.eraseDups = ts) :
 ∀ {k : Nat}, 2 ≤ k → reach m k [b] = b :: ts := by
 intro k hk
 obtain ⟨k, rfl⟩ : ∃ j, k = j + 2 := ⟨k - 2, by omega⟩
 have e1 : ((([b] : List Nat).flatMap fun b => match getBox m b with | some c => ptrsL c.cs | none => []).filter fun x => !([b] : List Nat).contains x) = ts := by
  simp only [List.flatMap_cons, List.flatMap_nil, List.append_nil, hm, h]
  rw [List.filter_eq_self]
  intro x hx
  have : x ≠ b := fun e => hb (e ▸ hx)
  simp [this]
 have e3 : (((b :: ts).flatMap fun b => match getBox m b with | some c => ptrsL c.cs | none => []).filter fun x => !(b :: ts).contains x) = [] := by
  rw [List.filter_eq_nil_iff]
  intro x hx
  rw [List.mem_flatMap] at hx
  obtain ⟨y, hy, hx⟩ := hx
  rcases List.mem_cons.1 hy with hy | hy
  ·subst hy
   rw [hm] at hx
   simp only [h] at hx
   simp [hx]
  ·obtain ⟨c', h1, h2⟩ := hts y hy
   rw [h1] at hx
   simp only [h2] at hx
   cases hx
 have s1 : reach m (k + 2) [b] = if (((([b] : List Nat).flatMap fun b => match getBox m b with | some c => ptrsL c.cs | none => []).filter fun x => !([b] : List Nat).contains x)).isEmpty then [b] else reach m (k + 1) ([b] ++ ((([b] : List Nat).flatMap fun b => match getBox m b with | some c => ptrsL c.cs | none => []).filter fun x => !([b] : List Nat).contains x).eraseDups) := rfl
 rw [s1, e1, hnd]
 cases hts' : ts with
 | nil => rfl
 | cons t l =>
   rw [← hts']
   have e2 : ts.isEmpty = false := by rw [hts']; rfl
   rw [e2]
   have s2 : reach m (k + 1) (b :: ts) = if ((((b :: ts).flatMap fun b => match getBox m b with | some c => ptrsL c.cs | none => []).filter fun x => !(b :: ts).contains x)).isEmpty then (b :: ts) else reach m k ((b :: ts) ++ (((b :: ts).flatMap fun b => match getBox m b with | some c => ptrsL c.cs | none => []).filter fun x => !(b :: ts).contains x).eraseDups) := rfl
   show reach m (k + 1) (b :: ts) = b :: ts
   rw [s2, e3]
   rfl
theorem getBox_set {b : Nat} {c c' : Box} : ∀ {m : List (Nat × Box)}, getBox m b = some c → getBox (setBox m b c') b = some c'
 | [], h => by cases h
 | (i, d) :: m, h => by
   unfold getBox at h
   unfold setBox
   by_cases hi : i = b
   ·rw [if_pos hi]; unfold getBox; rw [if_pos hi]
   ·rw [if_neg hi] at h ⊢; unfold getBox; rw [if_neg hi]; exact getBox_set h
section
variable {P : Program} {H : Hint} {C : Callee} {ops : Array Oper} {fz mu : Nat → Bool}
theorem evDraw_step (i : Nat) (l : List Nat) (D : St) : evDraw P H C ops fz mu (i :: l) D = (stepT P H C ops fz mu i D).bind (evDraw P H C ops fz mu l) := by
 unfold stepT
 rw [evDraw]
 split
 ·split
  ·split
   ·split <;> rename_i hq <;> rw [hq] <;> rfl
   ·rfl
  ·rfl
  ·rfl
 ·rfl
def paths : Pl → List (List Nat)
 | .fin => [[]]
 | .one i l => (paths l).map fun p => i :: p
 | .two i a j b => ((paths a).map fun p => i :: p) ++ (paths b).map fun p => j :: p
 | .three i a j b k c => ((paths a).map fun p => i :: p) ++ (((paths b).map fun p => j :: p) ++ (paths c).map fun p => k :: p)
theorem paths_ne : ∀ T : Pl, ∃ p, p ∈ paths T
 | .fin => ⟨[], by simp [paths]⟩
 | .one i l => by
   obtain ⟨p, hp⟩ := paths_ne l
   exact ⟨i :: p, List.mem_map.2 ⟨p, hp, rfl⟩⟩
 | .two i a j b => by
   obtain ⟨p, hp⟩ := paths_ne a
   exact ⟨i :: p, List.mem_append_left _ (List.mem_map.2 ⟨p, hp, rfl⟩)⟩
 | .three i a j b k c => by
   obtain ⟨p, hp⟩ := paths_ne a
   exact ⟨i :: p, List.mem_append_left _ (List.mem_map.2 ⟨p, hp, rfl⟩)⟩
theorem step_all {i : Nat} {l : Pl} {D : St} {F : St → Prop} (h : ∀ p ∈ paths l, optE (evDraw P H C ops fz mu (i :: p) D) F) : ∃ D1, stepT P H C ops fz mu i D = some D1 ∧ ∀ p ∈ paths l, optE (evDraw P H C ops fz mu p D1) F := by
 cases hs : stepT P H C ops fz mu i D with
 | none =>
   obtain ⟨p, hp⟩ := paths_ne l
   have := h p hp
   rw [evDraw_step, hs] at this
   exact this.elim
 | some D1 =>
   refine ⟨D1, rfl, fun p hp => ?_⟩
   have := h p hp
   rw [evDraw_step, hs] at this
   exact this
theorem tree_all (F : St → Prop) (hF : ∀ D1 D2, F D1 → F D2 → SmS D1 D2) : ∀ (T : Pl) (D : St), (∀ p ∈ paths T, optE (evDraw P H C ops fz mu p D) F) → optE (evDrawT P H C ops fz mu T D) F
 | .fin, D, h => h [] (by simp [paths])
 | .one i l, D, h => by
   obtain ⟨D1, h1, h2⟩ := step_all (l := l) fun p hp => h _ (List.mem_map.2 ⟨p, hp, rfl⟩)
   unfold evDrawT
   rw [h1]
   exact tree_all F hF l D1 h2
 | .two i a j b, D, h => by
   obtain ⟨D1, h1, h2⟩ := step_all (l := a) fun p hp => h _ (List.mem_append_left _ (List.mem_map.2 ⟨p, hp, rfl⟩))
   obtain ⟨D2, h3, h4⟩ := step_all (l := b) fun p hp => h _ (List.mem_append_right _ (List.mem_map.2 ⟨p, hp, rfl⟩))
   obtain ⟨Ea, e1, e2⟩ := optE_elim (tree_all F hF a D1 h2)
   obtain ⟨Eb, e3, e4⟩ := optE_elim (tree_all F hF b D2 h4)
   unfold evDrawT
   rw [h1, h3]
   simp only [Option.bind_some, e1, e3]
   unfold bothO
   simp only [if_pos (hF _ _ e2 e4)]
   exact e2
 | .three i a j b k c, D, h => by
   obtain ⟨D1, h1, h2⟩ := step_all (l := a) fun p hp => h _ (List.mem_append_left _ (List.mem_map.2 ⟨p, hp, rfl⟩))
   obtain ⟨D2, h3, h4⟩ := step_all (l := b) fun p hp => h _ (List.mem_append_right _ (List.mem_append_left _ (List.mem_map.2 ⟨p, hp, rfl⟩)))
   obtain ⟨D3, h5, h6⟩ := step_all (l := c) fun p hp => h _ (List.mem_append_right _ (List.mem_append_right _ (List.mem_map.2 ⟨p, hp, rfl⟩)))
   obtain ⟨Ea, e1, e2⟩ := optE_elim (tree_all F hF a D1 h2)
   obtain ⟨Eb, e3, e4⟩ := optE_elim (tree_all F hF b D2 h4)
   obtain ⟨Ec, e5, e6⟩ := optE_elim (tree_all F hF c D3 h6)
   unfold evDrawT
   rw [h1, h3, h5]
   simp only [Option.bind_some, e1, e3, e5]
   unfold bothO
   simp only [if_pos (hF _ _ e4 e6), if_pos (hF _ _ e2 e4)]
   exact e2
end
def IsSt (f : Nat → V) (m : List (Nat × Box)) (nx : Nat) (S : St) : Prop := (∀ i, S.s i = f i) ∧ S.m = m ∧ S.nx = nx
theorem IsSt.sm {f : Nat → V} {m : List (Nat × Box)} {nx : Nat} : ∀ D1 D2, IsSt f m nx D1 → IsSt f m nx D2 → SmS D1 D2 := by
 rintro ⟨s1, m1, n1⟩ ⟨s2, m2, n2⟩ ⟨a1, a2, a3⟩ ⟨b1, b2, b3⟩
 simp only at a1 a2 a3 b1 b2 b3
 have : s1 = s2 := funext fun i => by rw [a1, b1]
 subst this a2 a3 b2 b3
 exact SmS.refl _
end Go.Abs
end
