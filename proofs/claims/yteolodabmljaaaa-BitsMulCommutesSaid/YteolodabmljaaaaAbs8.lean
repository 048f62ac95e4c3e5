/- Joined: AbsBF AbsBG AbsBH AbsBI AbsSA. -/
import Derived.Test.YteolodabmljaaaaAbs7
import Derived.ProofKit
set_option linter.all false
/- Calls. -/
set_option linter.unusedVariables false
noncomputable section
namespace Go.Abs
open Go

variable {P : Program} {H : Hint} {E : Env} {nt : Nat} {D D1 : St} {ex : List V} {w w' : World} {a : Act} {o : Oper} {K : Act → World → Prop} {Q : Exit → Act → World → Prop}

theorem othersM_nil (m : List (Nat × Box)) : othersM m [] = m := by
  unfold othersM
  rw [List.filter_eq_self]
  intro e _; rfl
theorem filter_nil_ids (m : List (Nat × Box)) : (m.filter fun e => ([] : List Nat).contains e.1) = [] := by
  rw [List.filter_eq_nil_iff]
  intro e _; simp
/-- All boxes forgotten. -/
theorem forget_all {E' : Env} {mm : List (Nat × Box)} {nx : Nat} {r : V} (hB : Inv E' 0 (emptyS mm nx) (r :: globs ex) w') : Inv E' 0 (emptyS [] nx) (r :: globs ex) w' ∧ ∀ k, k ∈ keysD 0 (emptyS [] nx) (r :: globs ex) → k ∈ keysD 0 (emptyS mm nx) (r :: globs ex) := by
  have hp : (rowsD 0 (emptyS mm nx) (r :: globs ex)).Perm (boxRows mm ++ rowsD 0 (emptyS [] nx) (r :: globs ex)) := by
    unfold rowsD
    simp only [slotRows_zero, List.nil_append, emptyS, boxRows]
    exact .refl _
  refine ⟨hB.weaken _ _ _ hp (RLeL.refl _ _) (.refl _) (fun b hb => ?_) (fun e he => by cases he) (by simp [emptyS]) rfl, keys_sub hp (RLeL.refl E'.β _) (.refl _)⟩
  unfold atomsD at hb ⊢
  simp only [slotAtoms, List.range_zero, List.flatMap_nil, List.nil_append, emptyS, boxAtoms] at hb ⊢
  exact List.mem_append_right _ hb
theorem hk_lookB {ids : List Nat} {mm : List (Nat × Box)} {nx2 : Nat} (hmm : ∀ e ∈ mm, ids.contains e.1 = true ∨ D.nx ≤ e.1) (r : Root) (hh : hitB ids D.nx r = false) (q : List Nat) (d : Dec) (k n : Nat) (cs : List V)
    (h : look ⟨fun i => killB ids D.nx (D.s i), othersM D.m ids ++ mm, nx2⟩ r q = some (.own d k n cs)) : ∃ cs', look D r q = some (.own d k n cs') := by
  cases r with
  | slot t => exact ⟨cs, killB_mild ids D.nx _ _ _ _ _ _ h⟩
  | box b =>
    simp only [hitB, Bool.or_eq_false_iff, decide_eq_false_iff_not] at hh
    refine ⟨cs, ?_⟩
    have hg : getBox (othersM D.m ids ++ mm) b = getBox D.m b := by
      rw [getBox_app, getBox_split hh.1]
      cases getBox D.m b with
      | some x => rfl
      | none =>
        refine getBox_none fun e he e2 => ?_
        subst e2
        rcases hmm e he with h1 | h1
        · rw [hh.1] at h1; cases h1
        · exact hh.2 h1
    unfold look at h ⊢
    simp only [hg] at h
    exact h

/-- The callee's arguments, as it sees them. -/
theorem args_ok {L : Bool} {ids : List Nat} {as : List V} (hI : Inv E nt D ex w) (hall : ∀ b ∈ atomsL as, AtOk (lentEnv E nt D ex) w D.nx (fun _ => False) b) (hown : L = false → ∀ b ∈ atomsL as, AtOk E w D.nx (fun k => k ∈ keysD nt D ex) b)
    (hids : L = true → ids = []) : ∀ b ∈ atomsL as, AtOk (calleeEnv E nt D ex w (D.m.filter fun e => ids.contains e.1) L) w D.nx (fun k => k ∈ keysD 0 (emptyS (D.m.filter fun e => ids.contains e.1) D.nx) (globs ex)) b := by
  intro b hb
  cases hL : L with
  | true =>
    have := hids hL
    subst this
    refine AtOk.move (E := lentEnv E nt D ex) (K := fun _ => False) (w := w) (Nat.le_refl _) rfl (fun pm k _ hg _ _ => ⟨?_, fun h => ?_, rfl⟩) (hall b hb)
    · unfold Env.good at hg ⊢
      cases pm with
      | true => simp only [if_true, lentEnv] at hg; exact .inl hg
      | false => exact .inl rfl
    · rw [keys_globs, filter_nil_ids] at h
      simp [boxRows, keysOf] at h
  | false =>
    refine AtOk.move (E := E) (K := fun k => k ∈ keysD nt D ex) (w := w) (Nat.le_refl _) rfl (fun pm k _ hg hk _ => ⟨good_callee hg hk, fun h => hk ?_, rfl⟩) (hown hL b hb)
    rw [keys_globs] at h
    exact sub_keys (fun i => ids.contains i) h

/-- Hand contracts, as callees. -/
def CX (H : Hint) : Callee := fun f as m nx => match m with
  | [] => match H.X f as with | some r => some (r, [], nx) | none => none
  | _ => none

theorem call_run {c : Call} {g : Operand} {f : Nat} {ua ub us : List Value} (ho : o.op = .call c) (hc : c.callee = .value g) (hg : a.eval g = .func (.func f) ua.toArray ub.toArray) (hus : us = ua ++ c.args.toList.map a.eval ++ ub) :
    (execOp a.eval o).run P w = (callFunc f us.toArray).run P w := by
  have : ua.toArray ++ c.args.map a.eval ++ ub.toArray = us.toArray := by
    rw [hus, ← Array.toList_inj]; simp
  simp only [execOp, ho, resolve, hc, hg, Deferred.ofValue, invoke, Sem.run_bind, Sem.run_pure, Result.andThen_ok]
  rw [this]
theorem good_wp {c : Call} {f : Nat} {us : List Value} {R : Value → World → Prop} (hrun : (execOp a.eval o).run P w = (callFunc f us.toArray).run P w) (h : FGood P f us w R) (hK : ∀ v w', R v w' → K (a.put o.dst v) w') : o.wp P a w K Q := by
  unfold Oper.wp
  rw [hrun]
  rcases h with ⟨h1, h2⟩ | ⟨v, w', h1, h2⟩
  · rw [h1, Oper.upon_enter]
    refine h2.mono fun e w' he => ?_
    cases e with
    | returned v => exact hK v w' he
    | panicked c => exact he.elim
    | outgrown => exact he.elim
  · rw [h1, Oper.upon_value]
    exact hK v w' h2

theorem PRL_app {β : Nat → Nat} {D : St} : ∀ {l l' : List V} {us us' : List Value}, PRL β D l us → PRL β D l' us' → PRL β D (l ++ l') (us ++ us')
  | [], l', us, us', h, h' => by simp only [PRL] at h; subst h; exact h'
  | v :: l, l', us, us', h, h' => by
    obtain ⟨u, us1, rfl, h1, h2⟩ := h
    exact ⟨u, us1 ++ us', rfl, h1, PRL_app h2 h'⟩

/-- CALLS. -/
theorem calls_ok {C : Callee} (hX : XSm H) (hC : CalleeOk P H C) (hCX : CalleeOk P H (CX H)) : CallsOk P H C := by
  intro E nt D D1 ex w a o K Q c g hN hd ho hc h hK
  -- what the evaluator has done
  have h : ∃ f fa fb vs, ev H D g = some (.fn (.func f) fa fb) ∧ evL H D c.args.toList = some vs ∧ doCall H C f (fa ++ vs ++ fb) D o.dst = some D1 := by
    rcases h with h | h <;>
    · unfold evOp at h
      simp only [ho, hc] at h
      split at h
      · rename_i f fa fb vs h1 h2
        exact ⟨f, fa, fb, vs, h1, h2, h⟩
      · cases h
  obtain ⟨f, fa, fb, vs, hg, hvs, h⟩ := h
  have hsg := ev_ok hN hg
  obtain ⟨ua, ub, hgu, hpa, hpb⟩ := hsg.pr
  obtain ⟨hv1, hv2, hv3⟩ := evL_ok hN hvs
  obtain ⟨us, hus⟩ : ∃ us, us = ua ++ c.args.toList.map a.eval ++ ub := ⟨_, rfl⟩
  have hrun := fun w => call_run (P := P) (w := w) ho hc hgu hus
  have hPR : PRL E.β D (fa ++ vs ++ fb) us := by rw [hus]; exact PRL_app (PRL_app hpa hv1) hpb
  have hat : ∀ b ∈ atomsL (fa ++ vs ++ fb), AtOk E w D.nx (fun k => k ∈ keysD nt D ex) b := by
    intro b hb
    rw [atomsL_append, atomsL_append] at hb
    rcases List.mem_append.1 hb with hb | hb
    · rcases List.mem_append.1 hb with hb | hb
      · exact hsg.ok b (by simp only [atoms]; exact List.mem_append_left _ hb)
      · exact hv2 b hb
    · exact hsg.ok b (by simp only [atoms]; exact List.mem_append_right _ hb)
  have hrw : ∀ e ∈ rowsL (fa ++ vs ++ fb), RowOk E w e ∧ keyOf e = none := by
    intro e he
    rw [rowsL_append, rowsL_append] at he
    rcases List.mem_append.1 he with he | he
    · rcases List.mem_append.1 he with he | he
      · exact hsg.flat e (by simp only [rows]; exact List.mem_append_left _ he)
      · exact hv3 e he
    · exact hsg.flat e (by simp only [rows]; exact List.mem_append_right _ he)
  unfold doCall at h
  cases hla : lendArgs (H.sg f) (fa ++ vs ++ fb) D with
  | none => rw [hla] at h; cases h
  | some q =>
    obtain ⟨as, Dl⟩ := q
    rw [hla] at h
    have hL := lendArgs_ok hN.inv hN.slots hPR hat hrw hla
    have hIl := hL.step.inv
    have hSl := hL.step.slots
    have hT0 : To E nt D ex w E Dl ex w := To.of_keys hL.step.nx hL.step.keys
    have hquiet : quietB H o D = true → ptrsL as = [] := by
      intro hq
      unfold quietB at hq
      simp only [ho, hc, hg, hvs, hla] at hq
      simpa using hq
    simp only at h
    obtain ⟨L, hLL⟩ : ∃ L, L = lendsB (H.sg f) (fa ++ vs ++ fb) := ⟨_, rfl⟩
    rw [← hLL] at h hL
    -- a call of whichever kind, nothing but the result coming back
    have plain : ∀ (C' : Callee) (r : V) (m2 : List (Nat × Box)), CalleeOk P H C' → C' f as [] Dl.nx = some (r, m2, Dl.nx) → (L = true → noBor r = true) → SmS (Dl.lay o.dst r) D1 → SmS D1 (Dl.lay o.dst r) →
        o.wp P a w (fun a' w' => (quietB H o D = true → Grow w w') ∧ K a' w') Q := by
      intro C' r m2 hC' hr hnb _ hsm
      have hinv := callee_inv (E := E) (nt := nt) (D := Dl) (ex := ex) (w := w) L (fun i => ([] : List Nat).contains i) hIl
      have hargs := args_ok (L := L) (ids := []) hIl hL.all (fun h => hL.own h) (fun _ => rfl)
      rw [filter_nil_ids] at hinv hargs
      have hgood := hC' f as [] Dl.nx r m2 Dl.nx hr _ (globs ex) w us hinv hL.pr hL.flat hargs (globs_in hN.glob)
      refine good_wp (c := c) (hrun w) hgood ?_
      rintro v w' ⟨E', r', m2', s1, s2, hB, hpr, hT⟩
      obtain ⟨hB0, hB1⟩ := forget_all hB
      have hT1 : To (calleeEnv E nt Dl ex w [] L) 0 (emptyS [] Dl.nx) (globs ex) w E' (emptyS [] Dl.nx) (r' :: globs ex) w' :=
        ⟨hT.beta, hT.gp, hT.gb, Nat.le_refl _, hT.size, fun k hk => hT.keys k (hB1 k hk), hT.same, hT.os, hT.tape, hT.out⟩
      have core := back_core (L := L) (ids := []) (s' := Dl.s) (mm := []) hIl hSl hB0 (by rw [filter_nil_ids]; exact hT1) (fun h => ⟨by rw [noBor_sm s1]; exact hnb h, rfl⟩) (fun e he => by cases he) (fun t => ⟨rfl, rfl⟩)
        (fun t u hu => by rw [othersM_nil, List.append_nil]; exact hu) (fun t h => h)
      rw [othersM_nil, List.append_nil] at core
      have e0 : (⟨Dl.s, Dl.m, Dl.nx⟩ : St) = Dl := rfl
      rw [e0] at core
      obtain ⟨c1, c2, c3⟩ := core
      obtain ⟨f1, f2, f3⟩ := lay_fin (dst := o.dst) c1 c2 hd (hpr Dl)
      refine ⟨fun hq => ⟨hT.size, fun k hk => hT.same k hk ?_⟩, hK _ _ _ _ (hsm.trans (lay_sm (SmS.refl _) s1 o.dst)) ((hT0.trans c3).trans f3) ⟨f1, f2, hN.glob⟩⟩
      rw [keys_globs]; simp [boxRows, keysOf]
    cases hx : H.X f as with
    | some r =>
      rw [hx] at h
      simp only at h
      split at h
      · cases h
      rename_i hnb
      cases h
      refine plain (CX H) r [] hCX (by simp [CX, hx]) (fun h => ?_) (SmS.refl _) (SmS.refl _)
      rw [h, Bool.true_and] at hnb
      simpa using hnb
    | none =>
      rw [hx] at h
      simp only at h
      obtain ⟨ids, hids⟩ : ∃ ids, ids = reach Dl.m Dl.m.length (ptrsL as).eraseDups := ⟨_, rfl⟩
      rw [← hids] at h
      split at h
      · cases h
      rename_i hli
      have hLid : L = true → ids = [] := by
        intro h1
        rw [h1, Bool.true_and] at hli
        simpa using hli
      split at h
      case h_2 => cases h
      rename_i r m2 nx2 hcall
      split at h
      · cases h
      rename_i hnb
      have hnb' : L = true → noBor r = true ∧ (m2.all fun e => noBorL e.2.cs) = true := by
        intro h1
        rw [h1, Bool.true_and] at hnb
        simpa using hnb
      split at h
      · rename_i hsp
        cases h
        simp only [Bool.and_eq_true, List.isEmpty_iff, beq_iff_eq] at hsp
        obtain ⟨e1, e2⟩ := hsp
        subst e2
        rw [e1, filter_nil_ids] at hcall
        exact plain C r m2 hC hcall (fun h => (hnb' h).1) (SmS.refl _) (SmS.refl _)
      · split at h
        case isFalse => cases h
        rename_i hmm
        cases h
        have hinv := callee_inv (E := E) (nt := nt) (D := Dl) (ex := ex) (w := w) L (fun i => ids.contains i) hIl
        have hargs := args_ok (L := L) (ids := ids) hIl hL.all (fun h => hL.own h) hLid
        have hgood := hC f as _ Dl.nx r m2 nx2 hcall _ (globs ex) w us hinv hL.pr hL.flat hargs (globs_in hN.glob)
        refine good_wp (c := c) (hrun w) hgood ?_
        rintro v w' ⟨E', r', m2', s1, s2, hB, hpr, hT⟩
        have hmm' : ∀ e ∈ m2', ids.contains e.1 = true ∨ Dl.nx ≤ e.1 := by
          have := allFst_sm s2 (fun i => ids.contains i || decide (Dl.nx ≤ i))
          rw [hmm] at this
          rw [List.all_eq_true] at this
          intro e he
          simpa using this e he
        have core := back_core (L := L) (ids := ids) (s' := fun i => killB ids Dl.nx (Dl.s i)) (mm := m2') hIl hSl hB hT (fun h => ⟨by rw [noBor_sm s1]; exact (hnb' h).1, by rw [allBor_sm s2]; exact (hnb' h).2⟩) hmm' (fun t => rows_killB ids Dl.nx (Dl.s t))
          (fun t u hu => PR_killB (hk_lookB hmm') hu) (fun t h => by show killB ids Dl.nx (Dl.s t) = .dead; rw [h]; rfl)
        obtain ⟨c1, c2, c3⟩ := core
        obtain ⟨f1, f2, f3⟩ := lay_fin (dst := o.dst) c1 c2 hd (hpr _)
        have hsm : SmS (St.mk (fun i => killB ids Dl.nx (Dl.s i)) (othersM Dl.m ids ++ m2) nx2) (St.mk (fun i => killB ids Dl.nx (Dl.s i)) (othersM Dl.m ids ++ m2') nx2) := ⟨fun i => Sm.refl _, SmM.append (SmM.refl _) s2, rfl⟩
        refine ⟨fun hq => ⟨hT.size, fun k hk => hT.same k hk ?_⟩, hK _ _ _ _ (lay_sm hsm s1 o.dst) ((hT0.trans c3).trans f3) ⟨f1, f2, hN.glob⟩⟩
        have hp0 := hquiet hq
        have hid0 : ids = [] := by
          rw [hids, hp0]
          cases Dl.m.length <;> rfl
        rw [hid0, filter_nil_ids, keys_globs]
        simp [boxRows, keysOf]

/-- THE EVALUATOR IS SOUND. -/
theorem evCall_ok (hm : P.follows .mixedOrders = true) (hX : XSm H) (hP : progB P H = true) (hCX : CalleeOk P H (CX H)) : ∀ n, CalleeOk P H (evCall P H n)
  | 0 => fun f as m nx r m2 nx2 h => by cases h
  | n + 1 => body_ok hm hX hP (calls_ok hX (evCall_ok hm hX hP hCX n) hCX)
end Go.Abs
end
/- From a row's reading of an argument to a tree. -/
set_option linter.unusedVariables false
noncomputable section
namespace Go.Abs
open Go

/-- A tree of a type: whole numbers, truth values, slices, structs. -/
def Sh (P : Program) : Nat → TypeId → List V → Prop
  | 0, _, _ => False
  | k + 1, t, vs => match P.underlying t with
    | some .bool => ∃ b, vs = [.bool b]
    | some (.int ki) => ∃ n, vs = [.int ki n] ∧ (Lit.int ki n).wf = true
    | some (.slice e) => ∃ A cap n cs, vs = [.im false A cap n cs] ∧ n ≤ maxLen ∧ cs.length = n * P.cellsOf e ∧ ∀ i, i < n → Sh P k e ((cs.drop (i * P.cellsOf e)).take (P.cellsOf e))
    | some (.struct fs) => vs.length = P.cellsOf t ∧ ∀ f ∈ fs, Sh P k f.type ((vs.drop f.offset).take (P.cellsOf f.type))
    | _ => False
/-- Fields laid one behind the other. -/
def layB (P : Program) (tot : Nat) : Nat → List Field → Bool
  | off, [] => off == tot
  | off, f :: l => f.offset == off && layB P tot (off + P.cellsOf f.type) l
/-- A type that is read so. -/
def shB (P : Program) : Nat → TypeId → Bool
  | 0, _ => false
  | k + 1, t => match P.underlying t with
    | some .bool => true
    | some (.int _) => true
    | some (.slice e) => shB P k e
    | some (.struct fs) => layB P (P.cellsOf t) 0 fs.toList && fs.all fun f => shB P k f.type
    | _ => false

def rootEnv (w : World) : Env := ⟨fun _ => 0, fun k => w.heap.size ≤ k, fun _ => True⟩
/-- Read: what the cells hold. -/
structure Read (w : World) (cs : List Value) (vs : List V) : Prop where
  len : vs.length = cs.length
  cell : ∀ (j : Nat) (x : V), vs[j]? = some x → ∃ u, cs[j]? = some u ∧ MR (fun _ => 0) x u
  flat : noRowL vs = true
  at_ : ∀ b ∈ atomsL vs, AtOk (rootEnv w) w 0 (fun _ => False) b

theorem take_cells {α : Type} {l : List α} {a k j : Nat} (hj : j < k) : ((l.drop a).take k)[j]? = l[a + j]? := by
  rw [List.getElem?_take_of_lt hj, List.getElem?_drop]
/-- Chunks, joined. -/
theorem chunks {sz : Nat} {Q : Nat → List V → Prop} : ∀ n : Nat, (∀ i, i < n → ∃ c : List V, c.length = sz ∧ Q i c) → ∃ cs : List V, cs.length = n * sz ∧ ∀ i, i < n → Q i ((cs.drop (i * sz)).take sz)
  | 0, _ => ⟨[], by simp, fun i hi => absurd hi (Nat.not_lt_zero i)⟩
  | n + 1, h => by
    obtain ⟨cs, h1, h2⟩ := chunks n fun i hi => h i (by omega)
    obtain ⟨c, h3, h4⟩ := h n (by omega)
    refine ⟨cs ++ c, by simp [h1, h3, Nat.succ_mul], fun i hi => ?_⟩
    by_cases hin : i = n
    · subst hin
      rw [← h1, List.drop_left, ← h3, List.take_length]; exact h4
    · have hlt : i < n := by omega
      have hle : i * sz + sz ≤ cs.length := by
        rw [h1]
        have : (i + 1) * sz ≤ n * sz := Nat.mul_le_mul_right _ hlt
        rw [Nat.succ_mul] at this; exact this
      rw [List.drop_append_of_le_length (by omega), List.take_append_of_le_length (by rw [List.length_drop]; omega)]
      exact h2 i hlt
theorem noRowL_of {l : List V} (h : ∀ x ∈ l, noRow x = true) : noRowL l = true := by
  induction l with
  | nil => rfl
  | cons x l ih => simp only [noRowL, h x List.mem_cons_self, ih fun y hy => h y (List.mem_cons_of_mem _ hy), Bool.and_self]
/-- Every element of a list of n chunks is in a chunk. -/
theorem in_chunk {cs : List V} {n sz : Nat} (h : cs.length = n * sz) {x : V} (hx : x ∈ cs) : ∃ i, i < n ∧ x ∈ (cs.drop (i * sz)).take sz := by
  obtain ⟨j, hj, rfl⟩ := List.getElem_of_mem hx
  have hsz : 0 < sz := by
    rcases Nat.eq_zero_or_pos sz with h0 | h0
    · rw [h0, Nat.mul_zero] at h; omega
    · exact h0
  have hd : j / sz < n := by rw [Nat.div_lt_iff_lt_mul hsz, ← h]; exact hj
  refine ⟨j / sz, hd, List.mem_of_getElem? (i := j % sz) ?_⟩
  rw [take_cells (Nat.mod_lt _ hsz)]
  have : j / sz * sz + j % sz = j := by rw [Nat.mul_comm]; exact Nat.div_add_mod j sz
  rw [this]
  exact List.getElem?_eq_getElem hj

variable {P : Program} {w : World} {H : Type} {enc : TypeId × Value → H}

theorem mapM_some {α β : Type} {f : α → Option β} : ∀ {l : List α} {r : List β}, l.mapM f = some r → ∀ x ∈ l, ∃ y, f x = some y
  | [], r, h, x, hx => by cases hx
  | a :: l, r, h, x, hx => by
    rw [List.mapM_cons] at h
    cases ha : f a with
    | none => rw [ha] at h; simp at h
    | some y =>
      rw [ha] at h
      cases hl : l.mapM f with
      | none => rw [hl] at h; simp at h
      | some ys =>
        rcases List.mem_cons.1 hx with rfl | hx
        · exact ⟨y, ha⟩
        · exact mapM_some hl x hx
theorem cells?_ok {base n : Nat} {a : Addr} {l : List Value} (h : w.cells? base a n = some l) : l.length = n ∧ ∀ j, j < n → w.cell? (a.add j) = l[j]? := by
  unfold World.cells? at h
  split at h
  case isFalse => cases h
  have key : ∀ (k : List Nat) (l : List Value), k.mapM (fun i => w.cell? (a.add i)) = some l → l.length = k.length ∧ ∀ (j : Nat) (i : Nat), k[j]? = some i → w.cell? (a.add i) = l[j]? := by
    intro k
    induction k with
    | nil => intro l h; simp at h; subst h; exact ⟨rfl, fun j i h => by simp at h⟩
    | cons i k ih =>
      intro l h
      rw [List.mapM_cons] at h
      cases ha : w.cell? (a.add i) with
      | none => rw [ha] at h; simp at h
      | some y =>
        rw [ha] at h
        cases hl : k.mapM (fun i => w.cell? (a.add i)) with
        | none => rw [hl] at h; simp at h
        | some ys =>
          rw [hl] at h
          simp at h
          subst h
          obtain ⟨h1, h2⟩ := ih ys hl
          refine ⟨by simp [h1], fun j i' hj => ?_⟩
          cases j with
          | zero => simp at hj; subst hj; simpa using ha
          | succ j => simp at hj ⊢; exact h2 j i' hj
  obtain ⟨h1, h2⟩ := key _ l h
  refine ⟨by simpa using h1, fun j hj => h2 j j (by simp [hj])⟩

theorem read_one {u : Value} {x : V} (hm : MR (fun _ => 0) x u) (hf : noRow x = true) (ha : ∀ b ∈ atoms x, AtOk (rootEnv w) w 0 (fun _ => False) b) : Read w [u] [x] :=
  ⟨rfl, fun j y hy => by cases j with | zero => simp at hy; subst hy; exact ⟨u, rfl, hm⟩ | succ j => simp at hy, by simp [noRowL, hf], fun b hb => by simp [atomsL] at hb; exact ha b hb⟩

/-- READ. -/
theorem read_ok : ∀ (k : Nat) (m : Nat) (t : TypeId) (cs : List Value) (x : DataW H × List MemPlace), shB P m t = true → DataW.trod enc P w 0 (fun _ => true) true k t cs = some x → ∃ vs, Sh P m t vs ∧ Read w cs vs
  | 0, m, t, cs, x, hB, h => by cases h
  | k + 1, 0, t, cs, x, hB, h => by cases hB
  | k + 1, m + 1, t, cs, x, hB, h => by
    unfold shB at hB
    unfold Sh
    cases hu : P.underlying t with
    | none => rw [hu] at hB; cases hB
    | some d =>
      rw [hu] at hB
      cases d <;> simp only at hB <;> try (cases hB; done)
      case bool =>
        obtain ⟨b, rfl, rfl⟩ := DataW.trod_bool hu h
        exact ⟨[.bool b], ⟨b, rfl⟩, read_one (.inl (by simp [hd])) rfl (fun c hc => by simp [atoms] at hc)⟩
      case int ki =>
        obtain ⟨n, rfl, rfl, hw⟩ := DataW.trod_int hu h
        exact ⟨[.int ki n], ⟨n, rfl, hw⟩, read_one (.inl (by simp [hd])) rfl (fun c hc => by simp [atoms] at hc)⟩
      case slice e =>
        rcases DataW.trod_slice hu h with ⟨rfl, rfl⟩ | ⟨a, len, cap, elems, rest, n, hk, rfl, hx, hb, hl, hc, he, hel, _, _⟩
        · refine ⟨[.im false none 0 0 []], ⟨none, 0, 0, [], rfl, Nat.zero_le _, by simp, fun i hi => absurd hi (Nat.not_lt_zero i)⟩, read_one (.inl (by simp [hd])) rfl (fun c hc => ?_)⟩
          simp only [atoms, atomsL, List.mem_singleton] at hc
          subst hc
          exact ⟨Nat.le_refl _, rfl, rfl⟩
        · cases hk
          have hch : ∀ i, i < len → ∃ c : List V, c.length = P.cellsOf e ∧ (Sh P m e c ∧ ∃ l, w.cells? 0 (a.add (i * P.cellsOf e)) (P.cellsOf e) = some l ∧ Read w l c) := by
            intro i hi
            have h1 := hel i hi
            rw [List.getElem?_eq_getElem (by omega)] at h1
            cases hcl : w.cells? 0 (a.add (i * P.cellsOf e)) (P.cellsOf e) with
            | none => rw [hcl] at h1; cases h1
            | some l =>
              rw [hcl] at h1
              obtain ⟨vs, h2, h3⟩ := read_ok k m e l _ hB h1
              exact ⟨vs, by rw [h3.len]; exact (cells?_ok hcl).1, h2, l, rfl, h3⟩
          obtain ⟨cs, hlen, hq⟩ := chunks len hch
          refine ⟨[.im false (some a) cap len cs], ⟨some a, cap, len, cs, rfl, Nat.le_trans hl hc, hlen, fun i hi => (hq i hi).1⟩, read_one (.inl (by simp [hd])) rfl (fun b hb => ?_)⟩
          have hnr : noRowL cs = true := noRowL_of fun x hx => by
            obtain ⟨i, hi, hx⟩ := in_chunk hlen hx
            obtain ⟨_, l, _, hr⟩ := hq i hi
            exact noRowL_mem hr.flat hx
          simp only [atoms, List.mem_cons] at hb
          rcases hb with rfl | hb
          · refine ⟨hl, hnr, fun j x hx => ?_, fun _ => ⟨trivial, fun h => h⟩⟩
            have hj : j < len * P.cellsOf e := by rw [← hlen]; exact (List.getElem?_eq_some_iff.1 hx).1
            have hsz : 0 < P.cellsOf e := by
              rcases Nat.eq_zero_or_pos (P.cellsOf e) with h0 | h0
              · rw [h0, Nat.mul_zero] at hj; omega
              · exact h0
            have hd' : j / P.cellsOf e < len := by rw [Nat.div_lt_iff_lt_mul hsz]; exact hj
            have hjj : j / P.cellsOf e * P.cellsOf e + j % P.cellsOf e = j := by rw [Nat.mul_comm]; exact Nat.div_add_mod j _
            obtain ⟨_, l, hcl, hr⟩ := hq _ hd'
            have hx' : ((cs.drop (j / P.cellsOf e * P.cellsOf e)).take (P.cellsOf e))[j % P.cellsOf e]? = some x := by
              rw [take_cells (Nat.mod_lt _ hsz), hjj]; exact hx
            obtain ⟨u, hu', hm⟩ := hr.cell _ x hx'
            refine ⟨u, ?_, hm⟩
            have := (cells?_ok hcl).2 _ (Nat.mod_lt j hsz)
            rw [add_of_add, hjj, hu'] at this
            exact this
          · obtain ⟨x, hx, hb⟩ := atomsL_mem hb
            obtain ⟨i, hi, hx⟩ := in_chunk hlen hx
            obtain ⟨_, l, _, hr⟩ := hq i hi
            exact hr.at_ b (atoms_mem hx hb)
      case struct fs =>
        rw [Bool.and_eq_true] at hB
        obtain ⟨hlay, hall⟩ := hB
        rw [Array.all_eq_true_iff_forall_mem] at hall
        obtain ⟨xs, n, hk, hx, hlen, hxs, hf⟩ := DataW.trod_struct hu h
        cases hk
        have hfield : ∀ f ∈ fs.toList, ∃ c : List V, Sh P m f.type c ∧ Read w ((cs.drop f.offset).take (P.cellsOf f.type)) c := by
          intro f hfm
          obtain ⟨i, hi, rfl⟩ := List.getElem_of_mem hfm
          have h1 := hf i _ (by rw [← Array.getElem?_toList]; exact List.getElem?_eq_getElem hi)
          rw [List.getElem?_eq_getElem (by rw [hxs]; simpa using hi)] at h1
          exact read_ok k m _ _ _ (hall _ (Array.mem_toList_iff.1 hfm)) h1
        have build : ∀ (l : List Field) (off : Nat), layB P (P.cellsOf t) off l = true → off ≤ P.cellsOf t → (∀ f ∈ l, ∃ c : List V, Sh P m f.type c ∧ Read w ((cs.drop f.offset).take (P.cellsOf f.type)) c) →
            ∃ vs : List V, Read w (cs.drop off) vs ∧ ∀ f ∈ l, off ≤ f.offset ∧ Sh P m f.type ((vs.drop (f.offset - off)).take (P.cellsOf f.type)) := by
          intro l
          induction l with
          | nil =>
            intro off hlay _ _
            simp only [layB, beq_iff_eq] at hlay
            refine ⟨[], ⟨by simp [hlen, hlay], fun j x hx => by simp at hx, rfl, fun b hb => by simp [atomsL] at hb⟩, fun f hf => by cases hf⟩
          | cons f l ih =>
            intro off hlay hle hfs
            simp only [layB, Bool.and_eq_true, beq_iff_eq] at hlay
            obtain ⟨ho, hlay⟩ := hlay
            have hmono : ∀ (l : List Field) (o : Nat), layB P (P.cellsOf t) o l = true → o ≤ P.cellsOf t := by
              intro l
              induction l with
              | nil => intro o h; simp only [layB, beq_iff_eq] at h; omega
              | cons g l ih2 =>
                intro o h
                simp only [layB, Bool.and_eq_true, beq_iff_eq] at h
                have := ih2 _ h.2
                omega
            obtain ⟨c, h1, h2⟩ := hfs f List.mem_cons_self
            have hle2 := hmono l _ hlay
            obtain ⟨vs, h3, h4⟩ := ih (off + P.cellsOf f.type) hlay hle2 fun g hg => hfs g (List.mem_cons_of_mem _ hg)
            have hcl : c.length = P.cellsOf f.type := by
              rw [h2.len, List.length_take, List.length_drop]; omega
            refine ⟨c ++ vs, ⟨by rw [List.length_append, hcl, h3.len, List.length_drop, List.length_drop]; omega, fun j x hx => ?_, noRowL_of fun x hx => ?_, fun b hb => ?_⟩, fun g hg => ?_⟩
            · rcases Nat.lt_or_ge j (P.cellsOf f.type) with hj | hj
              · rw [List.getElem?_append_left (by omega)] at hx
                obtain ⟨u, hu', hm⟩ := h2.cell j x hx
                rw [take_cells hj, ho] at hu'
                exact ⟨u, by rw [List.getElem?_drop]; exact hu', hm⟩
              · rw [List.getElem?_append_right (by omega), hcl] at hx
                obtain ⟨u, hu', hm⟩ := h3.cell _ x hx
                rw [List.getElem?_drop] at hu'
                refine ⟨u, ?_, hm⟩
                rw [List.getElem?_drop]
                have : off + j = off + P.cellsOf f.type + (j - P.cellsOf f.type) := by omega
                rw [this]; exact hu'
            · rcases List.mem_append.1 hx with hx | hx
              · exact noRowL_mem h2.flat hx
              · exact noRowL_mem h3.flat hx
            · rw [atomsL_append] at hb
              rcases List.mem_append.1 hb with hb | hb
              · exact h2.at_ b hb
              · exact h3.at_ b hb
            · rcases List.mem_cons.1 hg with rfl | hg
              · refine ⟨by omega, ?_⟩
                rw [ho, Nat.sub_self, List.drop_zero, ← hcl, List.take_left]; exact h1
              · obtain ⟨q1, q2⟩ := h4 g hg
                refine ⟨by omega, ?_⟩
                have : g.offset - off = c.length + (g.offset - (off + P.cellsOf f.type)) := by omega
                rw [this, ← List.drop_drop, List.drop_left]; exact q2
        obtain ⟨vs, h3, h4⟩ := build fs.toList 0 hlay (Nat.zero_le _) hfield
        rw [List.drop_zero] at h3
        refine ⟨vs, ⟨by rw [h3.len, hlen], fun f hfm => ?_⟩, h3⟩
        exact (h4 f (Array.mem_toList_iff.2 hfm)).2
end Go.Abs
end
/- A law's row, from the evaluator's answer. -/
set_option linter.unusedVariables false
noncomputable section
namespace Go.Abs
open Go Go.ChangeShapes Go.WideShapes Go.ChangeAt Go.RowKit

def ArgSh (P : Program) (m : Nat) (t : TypeId) (x : V) : Prop := match P.underlying t with
  | some (.struct _) => ∃ vs, x = .agg vs ∧ Sh P m t vs
  | _ => Sh P m t [x]
def ArgShL (P : Program) (m : Nat) : List TypeId → List V → Prop
  | [], [] => True
  | t :: ts, x :: xs => ArgSh P m t x ∧ ArgShL P m ts xs
  | _, _ => False

variable {P : Program} {H : Hint} {W : World} {K : Type} {enc : TypeId × Value → K}

theorem one_cell {m : Nat} {t : TypeId} {vs : List V} (h : Sh P m t vs) (ht : ∀ fs, P.underlying t ≠ some (.struct fs)) : ∃ x, vs = [x] := by
  cases m with
  | zero => cases h
  | succ m =>
    unfold Sh at h
    split at h
    · obtain ⟨b, rfl⟩ := h; exact ⟨_, rfl⟩
    · obtain ⟨n, rfl, _⟩ := h; exact ⟨_, rfl⟩
    · obtain ⟨A, cap, n, cs, rfl, _⟩ := h; exact ⟨_, rfl⟩
    · rename_i fs hu; exact absurd hu (ht fs)
    · cases h
theorem arg_ok {m : Nat} {t : TypeId} {v : Value} {d : DataW K} {ps : List MemPlace} {base : Nat} (hB : shB P m t = true) (hval : Value.okWide P W .any base t v) (h : DataW.Trod enc P W 0 (fun _ => true) true t v d ps) :
    ∃ x, ArgSh P m t x ∧ (∀ D, PR (fun _ => 0) D x v) ∧ noRow x = true ∧ ∀ b ∈ atoms x, AtOk (rootEnv W) W 0 (fun _ => False) b := by
  obtain ⟨k, hk⟩ := h
  obtain ⟨vs, h1, h2⟩ := read_ok k m t _ _ hB hk
  unfold ArgSh
  by_cases hst : ∃ fs, P.underlying t = some (.struct fs)
  · obtain ⟨fs, hu⟩ := hst
    obtain ⟨cs, rfl, hsz⟩ := okWide_struct hu hval
    rw [hu]
    refine ⟨.agg vs, ⟨vs, rfl, h1⟩, fun D => ⟨cs.toList, by simp, PRL_of (by rw [h2.len]; simp [Value.cells]) fun j x hx => ?_⟩, by simpa [noRow] using h2.flat, fun b hb => h2.at_ b (by simpa [atoms] using hb)⟩
    obtain ⟨u, hu', hm⟩ := h2.cell j x hx
    exact ⟨u, by simpa [Value.cells] using hu', MR_PR hm⟩
  · have hst' : ∀ fs, P.underlying t ≠ some (.struct fs) := fun fs h => hst ⟨fs, h⟩
    obtain ⟨x, rfl⟩ := one_cell h1 hst'
    have hlen := h2.len
    obtain ⟨u, hu', hm⟩ := h2.cell 0 x rfl
    have hv : v.cells.toList = [u] := by
      match hc : v.cells.toList, hlen with
      | [u'], _ => rw [hc] at hu'; simp at hu'; rw [hu']
    refine ⟨x, ?_, fun D => ?_, by simpa [noRowL] using h2.flat, fun b hb => h2.at_ b (by simp [atomsL, hb])⟩
    · split
      · rename_i fs hu; exact absurd hu (hst' fs)
      · exact h1
    · have : v = u := by
        have hval' := hval
        unfold Value.okWide at hval'
        cases m with
        | zero => cases h1
        | succ m =>
          unfold Sh at h1
          split at h1
          · rename_i hu; obtain ⟨b, rfl⟩ := okWide_bool hu hval; simpa [Value.cells] using hv
          · rename_i ki hu; obtain ⟨b, rfl⟩ := okWide_int hu hval; simpa [Value.cells] using hv
          · rename_i e hu; obtain ⟨a, l, c, rfl⟩ := okWide_slice hu hval; simpa [Value.cells] using hv
          · rename_i fs hu; exact absurd hu (hst' fs)
          · cases h1
      rw [this]; exact MR_PR hm

theorem args_read {m : Nat} {base : Nat} : ∀ {ts : List TypeId} {vs : List Value} {ds : List (DataW K)} {ps : List MemPlace}, (∀ t ∈ ts, shB P m t = true) → (∀ (j : Nat) t v, ts[j]? = some t → vs[j]? = some v → Value.okWide P W .any base t v) →
    DataW.TrodAll enc P W 0 (fun _ => true) true ts vs ds ps → ∃ as, ArgShL P m ts as ∧ (∀ D, PRL (fun _ => 0) D as vs) ∧ noRowL as = true ∧ ∀ b ∈ atomsL as, AtOk (rootEnv W) W 0 (fun _ => False) b
  | [], vs, ds, ps, hB, hval, h => by
    cases vs <;> cases ds <;> simp [DataW.TrodAll] at h
    exact ⟨[], trivial, fun _ => rfl, rfl, fun b hb => by simp [atomsL] at hb⟩
  | t :: ts, vs, ds, ps, hB, hval, h => by
    obtain ⟨v, vs', d, ds', p, q, rfl, rfl, rfl, h1, h2⟩ := trodAll_cons h
    obtain ⟨x, a1, a2, a3, a4⟩ := arg_ok (hB t List.mem_cons_self) (hval 0 t v rfl rfl) h1
    obtain ⟨xs, b1, b2, b3, b4⟩ := args_read (fun u hu => hB u (List.mem_cons_of_mem _ hu)) (fun j t v ht hv => hval (j + 1) t v (by simpa using ht) (by simpa using hv)) h2
    refine ⟨x :: xs, ⟨a1, b1⟩, fun D => ⟨v, vs', rfl, a2 D, b2 D⟩, by simp [noRowL, a3, b3], fun b hb => ?_⟩
    rcases List.mem_append.1 hb with hb | hb
    · exact a4 b hb
    · exact b4 b hb

theorem root_inv : Inv (rootEnv W) 0 (emptyS [] 0) [] W := by
  refine ⟨fun e he => ?_, ?_, fun b hb => ?_, fun e he => ?_, ?_, fun k hk => ?_, fun k hk => hk, fun k hk => trivial⟩
  · simp [rowsD, slotRows, boxRows, rowsL, emptyS] at he
  · simp [keysD, rowsD, slotRows, boxRows, rowsL, emptyS, keysOf]
  · simp [atomsD, slotAtoms, boxAtoms, atomsL, emptyS] at hb
  · cases he
  · simp [emptyS]
  · simp [keysD, rowsD, slotRows, boxRows, rowsL, emptyS, keysOf] at hk
theorem root_keys : keysD 0 (emptyS [] 0) [] = [] := by simp [keysD, rowsD, slotRows, boxRows, rowsL, emptyS, keysOf]

/-- A call from outside that answers with a truth value. -/
theorem law_calls {f : Nat} {fn : Func} {c : Code} {as : List V} {us : List Value} {n : Nat} {bb : Bool} {m2 : List (Nat × Box)} {nx2 : Nat} (hm : P.follows .mixedOrders = true) (hX : XSm H) (hP : progB P H = true) (hCX : CalleeOk P H (CX H)) (hG : ∀ g, H.G g = none)
    (hf : P.funcs[f]? = some fn) (hb : fn.body = some c) (hpr : ∀ D, PRL (fun _ => 0) D as us) (hfl : noRowL as = true) (hat : ∀ b ∈ atomsL as, AtOk (rootEnv W) W 0 (fun _ => False) b)
    (hev : evCall P H n f as [] 0 = some (.bool bb, m2, nx2)) : Calls P f us.toArray W fun e W' => e = .returned (.bool bb) ∧ Below W.heap.size W W' := by
  have hgood := evCall_ok hm hX hP hCX n f as [] 0 _ _ _ hev (rootEnv W) [] W us root_inv hpr hfl (fun b hb => (hat b hb).mono (Nat.le_refl _) (fun k hk => by rw [root_keys] at hk; cases hk)) (fun g cs h => by rw [hG] at h; cases h)
  rcases hgood with ⟨_, h⟩ | ⟨v, w', h, _⟩
  · refine h.mono fun e W' he => ?_
    cases e with
    | returned v =>
      obtain ⟨E', r', m2', s1, s2, hB, hpr', hT⟩ := he
      cases s1
      have : v = .bool bb := hpr' (emptyS [] 0)
      subst this
      refine ⟨rfl, hT.os, hT.tape, hT.out, hT.size, fun k hk => hT.same k hk ?_⟩
      rw [root_keys]; intro h; cases h
    | panicked c => exact he.elim
    | outgrown => exact he.elim
  · have hgood : H.good f = true := by
      cases n with
      | zero => cases hev
      | succ n =>
        unfold evCall at hev
        split at hev
        · cases hev
        · rename_i hg; simpa using hg
    obtain ⟨_, hn⟩ := progB_spec hP hgood hf hb
    rw [enter_run hf hb hn] at h
    cases h

theorem trodAll_below {W' : World} (hl : laidOutB P = true) (hb : Below W.heap.size W W') : ∀ {ts : List TypeId} {vs : List Value} {ds : List (DataW K)} {ps : List MemPlace}, (∀ t ∈ ts, P.readableRec t = true ∧ t < P.types.size) →
    DataW.TrodAll enc P W 0 (fun _ => true) true ts vs ds ps → DataW.TrodAll enc P W' 0 (fun b => decide (b < W.heap.size)) true ts vs ds ps
  | [], vs, ds, ps, hr, h => by
    cases vs <;> cases ds <;> simp [DataW.TrodAll] at h ⊢
    exact h
  | t :: ts, vs, ds, ps, hr, h => by
    obtain ⟨v, vs', d, ds', p, q, rfl, rfl, rfl, h1, h2⟩ := trodAll_cons h
    have hr1 := hr t List.mem_cons_self
    refine ⟨p, q, Below.trod hl hr1.1 hr1.2 h1 hb (fun x hx => ?_), trodAll_below hl hb (fun u hu => hr u (List.mem_cons_of_mem _ hu)) h2, rfl⟩
    obtain ⟨k, hk⟩ := h1
    exact DataW.trod_lt k t _ _ hk x hx

/-- THE ROW's STEP, for a law. -/
theorem law_contract {f : Nat} {fn : Func} {c : Code} {s : ChangeSpec} {apart fresh handsOn : Bool} {m : Nat} {tb : TypeId} (hm : P.follows .mixedOrders = true) (hX : XSm H) (hP : progB P H = true) (hCX : CalleeOk P H (CX H)) (hG : ∀ g, H.G g = none)
    (hf : P.funcs[f]? = some fn) (hb : fn.body = some c) (hl : laidOutB P = true) (hts : (fn.params.toList.all fun t => shB P m t && P.readableRec t && decide (t < P.types.size)) = true) (hvars : s.vars = []) (hres : fn.resultTypes = #[tb]) (htb : P.underlying tb = some .bool)
    (hs : ∀ ds : List (DataW K), ds.length = fn.params.size → s.fn K ds = { results := [.lit (.bool true)], args := ds })
    (hev : ∀ as, ArgShL P m fn.params.toList as → ∃ n m2 nx2, evCall P H n f as [] 0 = some (.bool true, m2, nx2))
    (W : World) (base : Nat) (args : Array Value) (ds gs : List (DataW K)) (before : List MemPlace) (hval : ∀ (j : Nat) t v, fn.params[j]? = some t → args[j]? = some v → Value.okWide P W .any base t v)
    (hW : DataW.Whole enc P fn.params.toList s.vars apart W args.toList ds gs before) :
    Calls P f args W fun e W' => ∃ v, e = .returned v ∧ s.post enc P fn apart fresh handsOn false W args v W' := by
  have hW' := hW
  obtain ⟨p, q, hA, hV, hbe, hfz, hnd⟩ := hW
  rw [hvars] at hV
  obtain ⟨hgs, hq⟩ := trodVars_none hV
  rw [List.all_eq_true] at hts
  have hts1 : ∀ t ∈ fn.params.toList, shB P m t = true ∧ P.readableRec t = true ∧ t < P.types.size := fun t ht => by
    have := hts t ht
    simp only [Bool.and_eq_true, decide_eq_true_eq] at this
    exact ⟨this.1.1, this.1.2, this.2⟩
  obtain ⟨as, a1, a2, a3, a4⟩ := args_read (fun t ht => (hts1 t ht).1) (fun j t v ht hv => hval j t v (by rw [← Array.getElem?_toList]; exact ht) (by rw [← Array.getElem?_toList]; exact hv)) hA
  obtain ⟨n, m2, nx2, h⟩ := hev as a1
  have hcall := law_calls (W := W) hm hX hP hCX hG hf hb a2 a3 a4 h
  rw [Array.toArray_toList] at hcall
  refine hcall.mono fun e W' ⟨he, hbel⟩ => ⟨.bool true, he, ?_⟩
  have hdl : ds.length = fn.params.size := by
    have key : ∀ {ts : List TypeId} {vs : List Value} {ds : List (DataW K)} {ps : List MemPlace}, DataW.TrodAll enc P W 0 (fun _ => true) true ts vs ds ps → ds.length = ts.length := by
      intro ts
      induction ts with
      | nil => intro vs ds ps h; cases vs <;> cases ds <;> simp [DataW.TrodAll] at h ⊢
      | cons t ts ih =>
        intro vs ds ps h
        obtain ⟨v, vs', d, ds', p, q, rfl, rfl, rfl, h1, h2⟩ := trodAll_cons h
        simp [ih h2]
    simpa using key hA
  have hsf := hs (ds ++ gs) (by rw [hgs, List.append_nil]; exact hdl)
  refine ⟨ds, gs, before, [], p, [], hW', ?_, ?_, ?_, hbel.frame _, fun h => by cases h⟩
  · rw [hsf, hres]
    exact trodAll_mk1 (shut_bool htb true)
  · rw [hsf, hgs, List.append_nil]
    exact trodAll_below hl hbel (fun t ht => (hts1 t ht).2) hA
  · rw [hsf, hvars]
    exact rfl
end Go.Abs
end
/- Slices against nil; slices.Clone. -/
set_option linter.unusedVariables false
noncomputable section
namespace Go.Abs
open Go

variable {P : Program} {H : Hint} {E : Env} {nt : Nat} {D D1 : St} {ex : List V} {w : World} {a : Act} {o : Oper} {K : Act → World → Prop} {Q : Exit → Act → World → Prop}

theorem Back.sm {m : List (Nat × Box)} {nx : Nat} {r r2 : V} {m2 : List (Nat × Box)} {nx2 : Nat} {v : Value} {w' : World} (h : Back E m nx ex w r2 m2 nx2 v w') (hs : Sm r r2) : Back E m nx ex w r m2 nx2 v w' := by
  obtain ⟨E', r', m2', s1, s2, h3⟩ := h
  exact ⟨E', r', m2', hs.trans s1, s2, h3⟩
theorem op_nilcmp {t t2 e : TypeId} {x : Operand} {pm : Bool} {A : Option Addr} {cap n : Nat} {cs : List V} (hN : Now H E nt D ex w a) (hd : ∀ t, o.dst = some t → t < nt) (ho : o.op = .binOp .eql t x (.const (.slice none 0 0)) t2) (hu : P.underlying t = some (.slice e))
    (hx : ev H D x = some (.im pm A cap n cs)) (hK : Leads H E nt D ex w (D.lay o.dst (.bool A.isNone)) K) : o.wp P a w K Q := by
  have ex1 : a.eval x = .slice A n cap := (ev_ok hN hx).pr
  refine op_value hN hd (seen_bool _) ?_ hK
  have hr : (Op.equal t (.slice A n cap) (.slice none 0 0)).run P w = .ok A.isNone w := equal_of fun d => by
    cases A <;> simp [Op.equalIn, run_underlying' hu]
  have ey : a.eval (.const (.slice none 0 0)) = .slice none 0 0 := rfl
  have hf : (∀ us, a.eval x ≠ .agg us) ∧ a.eval x ≠ .nilIface := by rw [ex1]; exact ⟨fun _ h => (by cases h), fun h => (by cases h)⟩
  have hb : (binOp .eql t (a.eval x) (a.eval (.const (.slice none 0 0)))).run P w = .ok (.bool A.isNone) w := by
    rw [ex1, ey]
    have : binOp .eql t (.slice A n cap) (.slice none 0 0) = (do pure (.bool (← Op.equal t (.slice A n cap) (.slice none 0 0)))) := rfl
    rw [this]
    simp [hr]
  simp [execOp, ho, eqGuard_free hf, hb]

/-- No contracts, no globals. -/
def bare0 : Hint := { G := fun _ => none, sg := fun _ => [], fz := fun _ _ _ => false, live := fun _ _ => none, fr := fun _ => false, X := fun _ _ => none, plan := fun _ _ => none, mc := fun _ _ => [], good := fun _ => true }
def noC : Callee := fun _ _ _ _ => none
theorem bare0_sm : XSm bare0 := fun f as as' _ => .none
theorem noC_sm : CSm noC := fun f as as' m m' nx _ _ => .none
theorem noC_ok : CallsOk P bare0 noC := by
  intro E nt D D1 ex w a o K Q c g hN hd ho hc h hK
  have : ∀ fz, evOp P bare0 noC fz o D = none := by
    intro fz
    unfold evOp
    simp only [ho, hc]
    split
    · unfold doCall
      split
      · rename_i as Dl _
        have e1 : bare0.X = fun _ _ => none := rfl
        simp only [e1, noC]
        split <;> rfl
      · rfl
    · rfl
  rcases h with h | h <;> (rw [this] at h; cases h)

def cloneX (by_ : Nat) : List V → Option V
  | [.im pm A cap n cs] => if cs.length = n ∧ cs.all cellIn ∧ n * by_ ≤ 140737488355328 ∧ n ≤ 140737488355328 then some (.own .nil 0 n cs) else none
  | _ => none
/-- slices.Clone, as its code stands. -/
def cloneCode (r0 r1 r2 r3 : Array Oper) : Code :=
  .seq (.region 0 r0 false) (.seq (.seq (.region 1 r1 false) (.cond (.tmp 4) (.seq (.region 2 r2 false) .ret) .skip)) (.seq (.region 3 r3 false) .ret))

theorem clone_ok {f : Nat} {fn : Func} {t t2 e : TypeId} {by_ : Nat} {z : V} {r0 r1 r2 r3 : Array Oper} {o1 o2 : Oper} (hm : P.follows .mixedOrders = true) (hf : P.funcs[f]? = some fn) (hname : (fn.name == "runtime.NumGoroutine") = false) (hnt : fn.ntmps = 8) (hres : fn.results = #[.tmp 2]) (hb : fn.body = some (cloneCode r0 r1 r2 r3))
    (hr1 : r1 = #[o1, o2]) (ho1 : o1.op = .move (.tmp 0)) (hd1 : o1.dst = some 3) (hg1 : o1.guard = none) (ho2 : o2.op = .binOp .eql t (.tmp 3) (.const (.slice none 0 0)) t2) (hd2 : o2.dst = some 4) (hg2 : o2.guard = none) (hu : P.underlying t = some (.slice e))
    (hB0 : codeB bare0 f 8 (.region 0 r0 false) = true) (hB2 : codeB bare0 f 8 (.seq (.region 2 r2 false) .ret) = true) (hB3 : codeB bare0 f 8 (.seq (.region 3 r3 false) .ret) = true)
    (h0 : ∀ D, evCode P bare0 noC f 0 (.region 0 r0 false) D = some (.norm, D.lay (some 2) (.own .nil 0 0 [])))
    (h2 : ∀ D, evCode P bare0 noC f 0 (.seq (.region 2 r2 false) .ret) D = some (.ret, D.lay (some 2) (.own .nil 0 0 [])))
    (h3 : ∀ D pm A cap n cs, D.s 0 = .im pm A cap n cs → cs.length = n → cs.all cellIn = true → n * by_ ≤ 140737488355328 → n ≤ 140737488355328 → ∃ D2, evCode P bare0 noC f 0 (.seq (.region 3 r3 false) .ret) D = some (.ret, D2) ∧ D2.s 2 = .own .nil 0 n cs ∧ D2.m = D.m ∧ D2.nx = D.nx)
    {as : List V} {r : V} (hX : cloneX by_ as = some r) {nx : Nat} {us : List Value} (hI : Inv E 0 (emptyS [] nx) ex w) (hu' : ∀ D, PRL E.β D as us) (hflat : noRowL as = true) (hat : ∀ b ∈ atomsL as, AtOk E w nx (fun k => k ∈ keysD 0 (emptyS [] nx) ex) b) :
    FGood P f us w (Back E [] nx ex w r [] nx) := by
  unfold cloneX at hX
  split at hX
  case h_2 => cases hX
  rename_i pm A cap n cs
  split at hX
  case isFalse => cases hX
  rename_i hc
  cases hX
  obtain ⟨c1, c2, c3, c4⟩ := hc
  have hN0 : Now bare0 E (sizeA fn us) (entryS [.im pm A cap n cs] [] nx) ex w (entryA fn us) := entry_ok hI hu' hflat hat (fun g cs h => by cases h)
  have hsz : 8 ≤ sizeA fn us := by unfold sizeA; omega
  refine .inl ⟨enter_run hf hb hname, calls_of_wp hf hb ?_⟩
  unfold cloneCode
  refine wp_seq (code_ok noC_ok bare0_sm noC_sm hm f 0 _ (codeB_mono hsz _ hB0) hN0 (h0 _) ?_)
  intro E1 D1 w1 a1 s1 T1 N1
  refine wp_seq (wp_seq (wp_region_list ?_))
  rw [hr1]
  -- the move
  have hw1 : Region.wanted o1 (yielded #[o1, o2] a1.tmps) = true := by unfold Region.wanted; rw [hg1]
  show wpList P #[o1, o2] _ [o1, o2] a1 w1
  unfold wpList
  rw [if_pos hw1]
  left
  have hmv : evOp P bare0 noC false o1 D1 = some (D1.lay (some 3) (view (.slot 0) [] (D1.s 0))) := by unfold evOp; simp only [ho1, ev, hd1]
  refine op_move (nt := sizeA fn us) (C := noC) (fz := false) N1 (by intro t ht; rw [hd1] at ht; cases ht; exact Nat.lt_of_lt_of_le (by decide) hsz) hmv ?_ ho1
  intro E2 D2 w2 a2 s2 T2 N2
  have hw2 : Region.wanted o2 (yielded #[o1, o2] a2.tmps) = true := by unfold Region.wanted; rw [hg2]
  unfold wpList
  rw [if_pos hw2]
  left
  -- the slots
  have hs0 : ∃ A' cap' cs', D2.s 0 = .im pm A' cap' n cs' ∧ SmL cs cs' ∧ ∃ A3 cap3 cs3, D2.s 3 = .im pm A3 cap3 n cs3 ∧ SmL cs cs3 := by
    have k1 := s1.s 0
    have e1 : ((entryS [.im pm A cap n cs] [] nx).lay (some 2) (.own .nil 0 0 [])).s 0 = .im pm A cap n cs := by simp [St.lay, noRow, killAll, St.put, entryS, kill]
    rw [e1] at k1
    generalize hq : D1.s 0 = y at k1
    cases k1 with
    | @im _ _ A1 _ cap1 _ _ cs1 hs1 =>
      have k2 := s2.s 0
      have k3 := s2.s 3
      have e2 : (D1.lay (some 3) (view (.slot 0) [] (D1.s 0))).s 0 = .im pm A1 cap1 n cs1 := by rw [hq]; simp [St.lay, noRow, view, St.put, hq]
      have e3 : (D1.lay (some 3) (view (.slot 0) [] (D1.s 0))).s 3 = .im pm A1 cap1 n cs1 := by rw [hq]; simp [St.lay, noRow, view, St.put]
      rw [e2] at k2
      rw [e3] at k3
      generalize hq2 : D2.s 0 = y2 at k2
      generalize hq3 : D2.s 3 = y3 at k3
      cases k2 with
      | im hs2 =>
        cases k3 with
        | im hs3 => exact ⟨_, _, _, rfl, hs1.trans hs2, _, _, _, rfl, hs1.trans hs3⟩
  obtain ⟨A', cap', cs', e0, hs', A3, cap3, cs3, e3, hs3⟩ := hs0
  have hmnx : D2.m = [] ∧ D2.nx = nx := by
    have q1 := s1.m; have q2 := s2.m; have q3 := s1.nx; have q4 := s2.nx
    have e1 : ((entryS [.im pm A cap n cs] [] nx).lay (some 2) (.own .nil 0 0 [])).m = [] := by simp [St.lay, noRow, killAll, St.put, entryS]
    have e2 : ((entryS [.im pm A cap n cs] [] nx).lay (some 2) (.own .nil 0 0 [])).nx = nx := by simp [St.lay, noRow, killAll, St.put, entryS]
    rw [e1] at q1
    rw [e2] at q3
    have e4 : ∀ (D : St) (v : V), (D.lay (some 3) v).m = D.m ∧ (D.lay (some 3) v).nx = D.nx := by
      intro D v; simp only [St.lay]; split <;> exact ⟨rfl, rfl⟩
    rw [(e4 _ _).1] at q2
    rw [(e4 _ _).2] at q4
    generalize D1.m = m1 at q1 q2
    cases q1
    generalize D2.m = m2 at q2
    cases q2
    exact ⟨rfl, by rw [q4, q3]⟩
  refine op_nilcmp (nt := sizeA fn us) (e := e) (pm := pm) (A := A3) (cap := cap3) (n := n) (cs := cs3) N2 (by intro t ht; rw [hd2] at ht; cases ht; exact Nat.lt_of_lt_of_le (by decide) hsz) ho2 hu (x := .tmp 3) (by simp only [ev, e3, view]) ?_
  intro E4 D4 w4 a4 s4 T4 N4
  show (Code.cond (.tmp 4) (.seq (.region 2 r2 false) .ret) .skip).wp P _ a4 w4
  have hb4 : a4.eval (.tmp 4) = .bool A3.isNone := by
    have k := s4.s 4
    have e1 : (D2.lay o2.dst (.bool A3.isNone)).s 4 = .bool A3.isNone := by rw [hd2]; simp [St.lay, noRow, St.put]
    rw [e1] at k
    have hp := N4.slots.slot 4
    generalize D4.s 4 = y at k hp
    cases k
    exact hp
  have hTall : To E (sizeA fn us) (entryS [.im pm A cap n cs] [] nx) ex w E4 D4 ex w4 := (T1.trans T2).trans T4
  have hD40 : ∃ A5 cap5 cs5, D4.s 0 = .im pm A5 cap5 n cs5 ∧ SmL cs cs5 ∧ D4.m = [] ∧ D4.nx = nx := by
    have k := s4.s 0
    have e1 : (D2.lay o2.dst (.bool A3.isNone)).s 0 = D2.s 0 := by rw [hd2]; simp [St.lay, noRow, St.put]
    rw [e1, e0] at k
    have q1 := s4.m; have q2 := s4.nx
    have e2 : (D2.lay o2.dst (.bool A3.isNone)).m = [] ∧ (D2.lay o2.dst (.bool A3.isNone)).nx = nx := by rw [hd2]; exact hmnx
    rw [e2.1] at q1
    rw [e2.2] at q2
    generalize hq : D4.s 0 = y at k
    generalize hqm : D4.m = y2 at q1
    cases k with
    | im hs5 => cases q1; exact ⟨_, _, _, rfl, hs'.trans hs5, rfl, q2⟩
  obtain ⟨A5, cap5, cs5, e5, hs5, em5, en5⟩ := hD40
  -- the end
  have fin : ∀ (D5 : St) (cs6 : List V), SmL cs cs6 → D5.s 2 = .own .nil 0 n cs6 → D5.m = [] → D5.nx = nx → ∀ E6 D6 w6 a6, SmS D5 D6 → To E (sizeA fn us) (entryS [.im pm A cap n cs] [] nx) ex w E6 D6 ex w6 → Now bare0 E6 (sizeA fn us) D6 ex w6 a6 →
      a6.defers = [] ∧ ∃ v, (results fn a6.tmps).run P w6 = .ok v w6 ∧ Back E [] nx ex w (.own .nil 0 n cs) [] nx v w6 := by
    intro D5 cs6 hs6 e6 em6 en6 E6 D6 w6 a6 s6 T6 N6
    have hres' : evRes P D5 fn.results.toList = some ([.own .nil 0 n cs6], setAt D5 (.slot 2) [] .dead) := by
      rw [hres]
      simp [evRes, e6, view, settle, take, look, go]
    obtain ⟨g1, v, g2, g3⟩ := exit_ok (fn := fn) (frb := false) (r := .own .nil 0 n cs6) (m2 := []) (nx2 := nx) hI hflat hres' (by simp) (by
      have e7 : (setAt D5 (.slot 2) [] .dead).m = [] := by simp [setAt, em6]
      have e8 : (setAt D5 (.slot 2) [] .dead).nx = nx := by simp [setAt, en6]
      simp [e7, e8, packRes]) s6 T6 N6
    exact ⟨g1, v, g2, g3.sm (.own hs6)⟩
  refine wp_cond hb4 ?_
  cases hA : A3.isNone with
  | true =>
    simp only [if_true]
    -- nil
    have hA3 : A3 = none := by cases A3 with | none => rfl | some a => cases hA
    have hn0 : n = 0 := by
      have hat3 := N2.inv.atoms (.i pm A3 cap3 n cs3) (List.mem_append_left _ (slotAtoms_mem (t := 3) (by omega) (by rw [e3]; simp [atoms])))
      rw [hA3] at hat3
      exact hat3.2.1
    subst hn0
    have hcs : cs = [] := List.eq_nil_of_length_eq_zero c1
    subst hcs
    refine code_ok noC_ok bare0_sm noC_sm hm f 0 _ (codeB_mono hsz _ hB2) N4 (h2 _) ?_
    intro E6 D6 w6 a6 s6 T6 N6
    refine fin (D4.lay (some 2) (.own .nil 0 0 [])) [] .nil (by simp [St.lay, noRow, killAll, St.put, kill]) (by simp [St.lay, noRow, killAll, St.put, em5]) (by simp [St.lay, noRow, killAll, St.put, en5]) E6 D6 w6 a6 s6 (hTall.trans T6) N6
  | false =>
    simp only [Bool.false_eq_true, if_false]
    refine wp_skip ?_
    obtain ⟨D5, q1, q2, q3, q4⟩ := h3 D4 pm A5 cap5 n cs5 e5 (by rw [hs5.length, c1]) (by rw [all_sm (f := cellIn) cellIn_sm hs5]; exact c2) c3 c4
    refine code_ok noC_ok bare0_sm noC_sm hm f 0 _ (codeB_mono hsz _ hB3) N4 q1 ?_
    intro E6 D6 w6 a6 s6 T6 N6
    exact fin D5 cs5 hs5 q2 (by rw [q3, em5]) (by rw [q4, en5]) E6 D6 w6 a6 s6 (hTall.trans T6) N6
end Go.Abs
end
/- Reckoning with the evaluator: rules. -/
set_option linter.unusedVariables false
noncomputable section
namespace Go.Abs
open Go

/-- A function answers: enough rounds given, without boxes. -/
def Ans (P : Program) (H : Hint) (f : Nat) (xs : List V) (r : V) : Prop := ∃ N, ∀ n, N ≤ n → ∀ nx, evCall P H n f xs [] nx = some (r, [], nx)

/-- Slots by a list. -/
def ofS : List (Nat × V) → Nat → V
  | [], _ => .dead
  | (t, v) :: l, i => if i = t then v else ofS l i
theorem clear_eq {live : List Nat} {L : List (Nat × V)} {D : St} (h : ∀ t, t ∈ live → D.s t = ofS L t) (h2 : ∀ t, t ∉ live → ofS L t = .dead) : clear (some live) D = ⟨ofS L, D.m, D.nx⟩ := by
  show St.mk (fun i => if live.contains i then D.s i else .dead) D.m D.nx = _
  congr 1
  funext i
  by_cases hi : i ∈ live
  · simp [hi, h i hi]
  · simp [hi, h2 i hi]

variable {P : Program} {H : Hint} {C : Callee} {f k : Nat}

def EvP (P : Program) (H : Hint) (C : Callee) (f k : Nat) (c : Code) (D : St) (Φ : Ex → St → Prop) : Prop := ∃ e D', evCode P H C f k c D = some (e, D') ∧ Φ e D'
def thenE (K : St → Prop) (Φ : Ex → St → Prop) : Ex → St → Prop
  | .norm, D => K D
  | .ret, D => Φ .ret D
  | .exit i, D => Φ (.exit i) D
def blockE (id : Nat) (Φ : Ex → St → Prop) : Ex → St → Prop
  | .norm, D => Φ .norm D
  | .ret, D => Φ .ret D
  | .exit i, D => if i = id then Φ .norm D else Φ (.exit i) D
def optE {α : Type} (x : Option α) (K : α → Prop) : Prop := match x with | some y => K y | none => False
@[simp] theorem optE_some {α : Type} (y : α) (K : α → Prop) : optE (some y) K = K y := rfl
@[simp] theorem thenE_norm (K : St → Prop) (Φ : Ex → St → Prop) (D : St) : thenE K Φ .norm D = K D := rfl
@[simp] theorem thenE_ret (K : St → Prop) (Φ : Ex → St → Prop) (D : St) : thenE K Φ .ret D = Φ .ret D := rfl
@[simp] theorem thenE_exit (K : St → Prop) (Φ : Ex → St → Prop) (i : Nat) (D : St) : thenE K Φ (.exit i) D = Φ (.exit i) D := rfl
@[simp] theorem blockE_norm (id : Nat) (Φ : Ex → St → Prop) (D : St) : blockE id Φ .norm D = Φ .norm D := rfl
@[simp] theorem blockE_ret (id : Nat) (Φ : Ex → St → Prop) (D : St) : blockE id Φ .ret D = Φ .ret D := rfl
@[simp] theorem blockE_exit (id i : Nat) (Φ : Ex → St → Prop) (D : St) : blockE id Φ (.exit i) D = if i = id then Φ .norm D else Φ (.exit i) D := rfl
theorem optE_elim {α : Type} {x : Option α} {K : α → Prop} (h : optE x K) : ∃ y, x = some y ∧ K y := by
  cases x with
  | none => exact h.elim
  | some y => exact ⟨y, rfl, h⟩

theorem EvP.skip {D : St} {Φ : Ex → St → Prop} (h : Φ .norm D) : EvP P H C f k .skip D Φ := ⟨_, _, rfl, h⟩
theorem EvP.ret {D : St} {Φ : Ex → St → Prop} (h : Φ .ret D) : EvP P H C f k .ret D Φ := ⟨_, _, rfl, h⟩
theorem EvP.exit {D : St} {i : Nat} {Φ : Ex → St → Prop} (h : Φ (.exit i) D) : EvP P H C f k (.exit i) D Φ := ⟨_, _, rfl, h⟩
theorem EvP.region {D : St} {id : Nat} {ops : Array Oper} {Φ : Ex → St → Prop} (h : optE (evOps P H C ops (H.fz f id) 0 ops.toList D) (Φ .norm)) : EvP P H C f k (.region id ops false) D Φ := by
  obtain ⟨y, hy, h⟩ := optE_elim h
  exact ⟨.norm, y, by unfold evCode; simp [hy], h⟩
theorem EvP.draw {D : St} {id : Nat} {ops : Array Oper} {Φ : Ex → St → Prop} (h : optE (evDraw P H C ops (H.fz f id) (muOf H f id ops) (planOf H f id ops) D) (Φ .norm)) (ht : H.tree f id = none := by rfl) : EvP P H C f k (.region id ops true) D Φ := by
  obtain ⟨y, hy, h⟩ := optE_elim h
  exact ⟨.norm, y, by unfold evCode; simp [hy, ht], h⟩
theorem EvP.drawT {D : St} {id : Nat} {ops : Array Oper} {Φ : Ex → St → Prop} {T : Pl} (ht : H.tree f id = some T) (h : optE (evDrawT P H C ops (H.fz f id) (muOf H f id ops) T D) (Φ .norm)) : EvP P H C f k (.region id ops true) D Φ := by
  obtain ⟨y, hy, h⟩ := optE_elim h
  exact ⟨.norm, y, by unfold evCode; simp [hy, ht], h⟩
theorem EvP.seq {D : St} {a b : Code} {Φ : Ex → St → Prop} (h : EvP P H C f k a D (thenE (fun D1 => EvP P H C f k b D1 Φ) Φ)) : EvP P H C f k (.seq a b) D Φ := by
  obtain ⟨e, D1, h1, h2⟩ := h
  cases e with
  | norm =>
    obtain ⟨e', D2, h3, h4⟩ := h2
    exact ⟨e', D2, by unfold evCode; rw [h1]; exact h3, h4⟩
  | ret => exact ⟨_, _, by unfold evCode; rw [h1], h2⟩
  | exit i => exact ⟨_, _, by unfold evCode; rw [h1], h2⟩
theorem EvP.cond {D : St} {c : Operand} {a b : Code} {Φ : Ex → St → Prop} {t : Bool} (hc : ev H D c = some (.bool t)) (ht : t = true → EvP P H C f k a D Φ) (hf : t = false → EvP P H C f k b D Φ) : EvP P H C f k (.cond c a b) D Φ := by
  cases t with
  | true =>
    obtain ⟨e, D1, h1, h2⟩ := ht rfl
    exact ⟨e, D1, by unfold evCode; rw [hc]; exact h1, h2⟩
  | false =>
    obtain ⟨e, D1, h1, h2⟩ := hf rfl
    exact ⟨e, D1, by unfold evCode; rw [hc]; exact h1, h2⟩
theorem EvP.block {D : St} {id : Nat} {c : Code} {Φ : Ex → St → Prop} (h : EvP P H C f k c D (blockE id Φ)) : EvP P H C f k (.block id c) D Φ := by
  obtain ⟨e, D1, h1, h2⟩ := h
  cases e with
  | norm => exact ⟨_, _, by unfold evCode; rw [h1], h2⟩
  | ret => exact ⟨_, _, by unfold evCode; rw [h1], h2⟩
  | exit i =>
    simp only [blockE] at h2
    by_cases hi : i = id
    · rw [if_pos hi] at h2
      exact ⟨.norm, D1, by unfold evCode; rw [h1]; simp [hi], h2⟩
    · rw [if_neg hi] at h2
      exact ⟨.exit i, D1, by unfold evCode; rw [h1]; simp [hi], h2⟩
theorem EvP.mono {D : St} {c : Code} {Φ Ψ : Ex → St → Prop} (h : EvP P H C f k c D Φ) (hm : ∀ e D, Φ e D → Ψ e D) : EvP P H C f k c D Ψ := by
  obtain ⟨e, D1, h1, h2⟩ := h
  exact ⟨e, D1, h1, hm _ _ h2⟩
def liveOf (H : Hint) (f : Nat) (c : Code) : Option (List Nat) := match firstReg c with | some i => H.live f i | none => none
/-- A LOOP: an invariant that counts the rounds that are left at most. -/
theorem EvP.loop {c : Code} {Φ : Ex → St → Prop} (I : Nat → St → Prop) {n : Nat} {D : St} (h0 : I n D) (hk : n < k)
    (h : ∀ n D, I n D → EvP P H C f k c (clear (liveOf H f c) D) (thenE (fun D1 => ∃ n', n' < n ∧ I n' D1) Φ)) : EvP P H C f k (.loop c) D Φ := by
  have key : ∀ (j n : Nat) (D : St), n < j → I n D → ∃ e D', iter (evCode P H C f k c) (liveOf H f c) j D = some (e, D') ∧ Φ e D' := by
    intro j
    induction j with
    | zero => intro n D hn; omega
    | succ j ih =>
      intro n D hn hI
      obtain ⟨e, D1, h1, h2⟩ := h n D hI
      unfold iter
      rw [h1]
      cases e with
      | norm =>
        obtain ⟨n', hn', hI'⟩ := h2
        exact ih n' D1 (by omega) hI'
      | ret => exact ⟨_, _, rfl, h2⟩
      | exit i => exact ⟨_, _, rfl, h2⟩
  obtain ⟨e, D', h1, h2⟩ := key k n D hk h0
  exact ⟨e, D', by unfold evCode; exact h1, h2⟩

/-- What stands in the result's slot, handed out. -/
theorem settle_slot {t : Nat} {r : V} {D : St} (h : D.s t = r) (hr : (∃ d k n cs, r = .own d k n cs) ∨ ∃ A, view (.slot t) [] r = r ∧ settle false r A = some (r, A) ∧ ∀ B, settle false r B = some (r, B)) :
    ∃ D1, settle false (view (.slot t) [] (D.s t)) D = some (r, D1) ∧ D1.m = D.m ∧ D1.nx = D.nx := by
  rcases hr with ⟨d, k, n, cs, rfl⟩ | ⟨_, h1, _, h2⟩
  · refine ⟨setAt D (.slot t) [] .dead, ?_, rfl, rfl⟩
    rw [h]
    simp [view, settle, take, look, go, h]
  · exact ⟨D, by rw [h, h1, h2], rfl, rfl⟩
/-- Plain: a value that is handed out as it stands. -/
def plainV : V → Bool
  | .own _ _ _ cs => (ptrsL cs).isEmpty
  | .int _ _ | .bool _ | .nilp | .nilf => true
  | .im _ _ _ _ cs => (ptrsL cs).isEmpty
  | _ => false
theorem plain_settle {t : Nat} {r : V} {D : St} (h : D.s t = r) (hr : plainV r = true) : (∃ D1, settle false (view (.slot t) [] (D.s t)) D = some (r, D1) ∧ D1.m = D.m ∧ D1.nx = D.nx) ∧ ptrs r = [] := by
  cases r <;> simp only [plainV] at hr <;> try (cases hr; done)
  all_goals first
    | exact ⟨settle_slot h (.inr ⟨D, rfl, rfl, fun _ => rfl⟩), rfl⟩
    | exact ⟨settle_slot h (.inl ⟨_, _, _, _, rfl⟩), by simpa [ptrs] using hr⟩
    | exact ⟨settle_slot h (.inr ⟨D, rfl, rfl, fun _ => rfl⟩), by simpa [ptrs] using hr⟩
/-- A function's answer from its body's: one result. -/
theorem Ans.of {fn : Func} {c : Code} {xs : List V} {r : V} {t : Nat} (hg : H.good f = true) (hf : P.funcs[f]? = some fn) (hb : fn.body = some c) (hres : fn.results = #[.tmp t]) (hfr : H.fr f = false) (hr : plainV r = true)
    (h : ∃ N, ∀ k, N ≤ k → ∀ nx, EvP P H (evCall P H k) f k c (entryS xs [] nx) (fun e D => (e = .norm ∨ e = .ret) ∧ D.s t = r ∧ ∀ b ∈ D.m, nx ≤ b.1)) : Ans P H f xs r := by
  obtain ⟨N, h⟩ := h
  refine ⟨N + 1, fun n hn nx => ?_⟩
  obtain ⟨k, rfl⟩ : ∃ k, n = k + 1 := ⟨n - 1, by omega⟩
  obtain ⟨e, D, h1, h2, h3, h4⟩ := h k (by omega) nx
  obtain ⟨⟨D1, q1, q2, q3⟩, q4⟩ := plain_settle h3 hr
  unfold evCall
  simp only [hg, hf, hb]
  have h1' : evCode P H (evCall P H k) f k c { s := fun i => match xs[i]? with | some v => v | none => .dead, m := [], nx := nx } = some (e, D) := h1
  have hres' : evRes P D fn.results.toList = some ([r], D1) := by rw [hres]; simp [evRes, q1]
  have hfil : D1.m.filter (fun e => decide (e.1 < nx)) = [] := by
    rw [List.filter_eq_nil_iff, q2]
    intro b hb
    have := h4 b hb
    simp; omega
  rw [if_neg (by simp)]
  generalize hq : evCode P H (evCall P H k) f k c _ = q
  have : q = some (e, D) := by rw [← hq]; exact h1'
  subst this
  simp only [if_pos h2, hres', hfr, Bool.false_and, packRes, Bool.false_eq_true, if_false, hfil, q4, List.flatMap_nil, List.append_nil, List.any_nil]
end Go.Abs
end
