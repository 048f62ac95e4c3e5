/- Joined: AbsAZ AbsBA AbsBB AbsBC AbsBD AbsBE. -/
import Derived.Test.YteolodabmljaaaaAbs6
set_option linter.all false
/- Code. -/
set_option linter.unusedVariables false
noncomputable section
namespace Go.Abs
open Go

variable {P : Program} {H : Hint} {E : Env} {nt : Nat} {D D1 : St} {ex : List V} {w : World} {a : Act} {Q : Exit → Act → World → Prop}

theorem slotRows_clear (nt : Nat) (s : Nat → V) (p : Nat → Bool) : ∃ S, (slotRows nt s).Perm (S ++ slotRows nt (fun i => if p i then s i else .dead)) := by
  unfold slotRows
  generalize List.range nt = l
  induction l with
  | nil => exact ⟨[], .refl _⟩
  | cons t l ih =>
    obtain ⟨S, hS⟩ := ih
    simp only [List.flatMap_cons]
    by_cases hp : p t = true
    · refine ⟨S, ?_⟩
      simp only [hp, if_true]
      refine (List.Perm.append_left _ hS).trans ?_
      rw [← List.append_assoc, ← List.append_assoc]
      exact List.Perm.append_right _ List.perm_append_comm
    · refine ⟨rows (s t) ++ S, ?_⟩
      have : rows V.dead = [] := by simp [rows]
      simp only [hp, if_false, this, List.nil_append, Bool.false_eq_true]
      rw [List.append_assoc]
      exact List.Perm.append_left _ hS
/-- Slots forgotten. -/
theorem clear_ok (l : Option (List Nat)) (hN : Now H E nt D ex w a) : Now H E nt (clear l D) ex w a ∧ To E nt D ex w E (clear l D) ex w := by
  cases l with
  | none => exact ⟨hN, To.refl _ _ _ _ _⟩
  | some live =>
    obtain ⟨S, hS⟩ := slotRows_clear nt D.s (fun i => live.contains i)
    have hr : (rowsD nt D ex).Perm (S ++ rowsD nt (clear (some live) D) ex) := by
      unfold rowsD
      rw [← List.append_assoc S]
      exact List.Perm.append_right _ hS
    have hkept : Kept D (clear (some live) D) := by
      intro r q d k n cs hq
      cases r with
      | slot t =>
        simp only [look, clear] at hq ⊢
        split at hq
        · exact ⟨cs, hq⟩
        · cases q <;> simp [go] at hq
      | box b => exact ⟨cs, hq⟩
    have hat : ∀ b ∈ atomsD nt (clear (some live) D) ex, b ∈ atomsD nt D ex := by
      intro b hb
      unfold atomsD at hb ⊢
      rcases List.mem_append.1 hb with hb | hb
      · refine List.mem_append_left _ ?_
        obtain ⟨t, ht, hb⟩ := List.mem_flatMap.1 hb
        simp only [clear] at hb
        split at hb
        · exact List.mem_flatMap.2 ⟨t, ht, hb⟩
        · simp [atoms] at hb
      · exact List.mem_append_right _ hb
    refine ⟨⟨hN.inv.weaken S _ _ hr (RLeL.refl _ _) (.refl _) hat (fun e he => ⟨e, he, rfl, rfl⟩) hN.inv.ids rfl, ⟨hN.slots.size, hN.slots.defers, fun t => ?_, fun t ht => ?_⟩, hN.glob⟩,
      To.of_keys rfl (keys_sub hr (RLeL.refl E.β _) (.refl _))⟩
    · refine PR_kept hkept ?_
      show PR E.β D (if live.contains t then D.s t else .dead) _
      split
      · exact hN.slots.slot t
      · trivial
    · show (if live.contains t then D.s t else .dead) = .dead
      split
      · exact hN.slots.high t ht
      · rfl

def exitOf : Ex → Exit
  | .norm => .normal
  | .ret => .ret
  | .exit i => .exit i
/-- Slots below the frame's size; plans that hold. -/
def codeB (H : Hint) (f nt : Nat) : Code → Bool
  | .region id ops dr => (ops.all fun o => match o.dst with | some t => decide (t < nt) | none => true) && (!dr || (match H.tree f id with | some T => planTOk ops (muOf H f id ops) T | none => planOk ops (muOf H f id ops) (planOf H f id ops)))
  | .seq a b => codeB H f nt a && codeB H f nt b
  | .cond _ a b => codeB H f nt a && codeB H f nt b
  | .block _ c => codeB H f nt c
  | .loop c => codeB H f nt c
  | _ => true
theorem dst_of {ops : Array Oper} (h : (ops.all fun o => match o.dst with | some t => decide (t < nt) | none => true) = true) : ∀ o ∈ ops, ∀ t, o.dst = some t → t < nt := by
  intro o ho t ht
  rw [Array.all_eq_true_iff_forall_mem] at h
  have := h o ho
  rw [ht] at this
  simpa using this
theorem region_ok {C : Callee} (hC : CallsOk P H C) (hX : XSm H) (hS : CSm C) (hm : P.follows .mixedOrders = true) {f id : Nat} {ops : Array Oper} {dr : Bool} (hB : codeB H f nt (.region id ops dr) = true) {D2 : St} (hN : Now H E nt D ex w a)
    (h : (if dr then (match H.tree f id with | some T => evDrawT P H C ops (H.fz f id) (muOf H f id ops) T D | none => evDraw P H C ops (H.fz f id) (muOf H f id ops) (planOf H f id ops) D) else evOps P H C ops (H.fz f id) 0 ops.toList D) = some D2) (hK : Leads H E nt D ex w D2 (Q .normal)) : (Code.region id ops dr).wp P Q a w := by
  unfold codeB at hB
  rw [Bool.and_eq_true] at hB
  obtain ⟨hd, hp⟩ := hB
  have hd := dst_of hd
  cases dr with
  | false => exact wp_region_list (ops_ok hC hX hS ops _ ops.toList 0 (fun o ho => hd o (Array.mem_toList_iff.1 ho)) hN h hK)
  | true =>
    simp only [Bool.not_true, Bool.false_or] at hp
    simp only [if_true] at h
    cases htree : H.tree f id with
    | none =>
      rw [htree] at hp h
      simp only at hp h
      unfold planOk at hp
      simp only [Bool.and_eq_true, decide_eq_true_eq] at hp
      obtain ⟨⟨h1, h2⟩, h3⟩ := hp
      refine wp_mono (Q := fun e a w => match e with | .panic _ => False | e => Q e a w) (wp_region_any hm (wpAny_of_X (mu := muOf H f id ops) _ _ _ _ ?_)) (fun e a w h => by cases e <;> first | exact h | exact h.elim)
      have hg : Grow w { w with drawn := w.drawn + 1 } := ⟨Nat.le_refl _, fun _ _ => rfl⟩
      have key := fun hcl => draw_ok hC hX hS ops _ _ (Q := fun e a w => match e with | .panic _ => False | e => Q e a w) h1 hd (fun c a a' w h => h) _ _ h3 hcl (by simp) (hN.grow hg) h (fun E' D1' w' a' hs hT hN' => hK _ _ _ _ hs ⟨hT.beta, hT.gp, hT.gb, hT.nx, hT.size, hT.keys, hT.same, hT.os, hT.tape, hT.out⟩ hN')
      rw [h2] at key
      refine key fun j o _ hl => ?_
      rw [Array.getD_eq_getD_getElem?, Array.getElem?_replicate] at hl
      split at hl <;> cases hl
    | some T =>
      rw [htree] at hp h
      simp only at hp h
      unfold planTOk at hp
      rw [Bool.and_eq_true] at hp
      obtain ⟨h1, h3⟩ := hp
      refine wp_mono (Q := fun e a w => match e with | .panic _ => False | e => Q e a w) (wp_region_any hm (wpAny_of_X (mu := muOf H f id ops) _ _ _ _ ?_)) (fun e a w h => by cases e <;> first | exact h | exact h.elim)
      have hg : Grow w { w with drawn := w.drawn + 1 } := ⟨Nat.le_refl _, fun _ _ => rfl⟩
      refine drawT_ok hC hX hS ops _ _ (Q := fun e a w => match e with | .panic _ => False | e => Q e a w) h1 hd (fun c a a' w h => h) T _ _ h3 ?_ (by simp) (hN.grow hg) h (fun E' D1' w' a' hs hT hN' => hK _ _ _ _ hs ⟨hT.beta, hT.gp, hT.gb, hT.nx, hT.size, hT.keys, hT.same, hT.os, hT.tape, hT.out⟩ hN')
      intro j o _ hl
      rw [Array.getD_eq_getD_getElem?, Array.getElem?_replicate] at hl
      split at hl <;> cases hl

theorem least_of {p : Nat → Prop} (h : ∃ k, p k) : ∃ m, p m ∧ ∀ k, p k → m ≤ k := by
  obtain ⟨k, hk⟩ := h
  induction k using Nat.strongRecOn with
  | _ k ih =>
    by_cases hex : ∃ j, j < k ∧ p j
    · obtain ⟨j, hj, hp⟩ := hex; exact ih j hj hp
    · exact ⟨k, hk, fun j hj => by
        rcases Nat.lt_or_ge j k with h | h
        · exact absurd ⟨j, h, hj⟩ hex
        · exact h⟩
theorem iter_ok {C : Callee} {c : Code} {b : St → Option (Ex × St)} (hsm : ∀ {D D' : St}, SmS D D' → OptR ExR (b D) (b D'))
    (hb : ∀ {E : Env} {D : St} {e : Ex} {D2 : St} {w : World} {a : Act} {Q : Exit → Act → World → Prop}, Now H E nt D ex w a → b D = some (e, D2) → Leads H E nt D ex w D2 (Q (exitOf e)) → c.wp P Q a w) (l : Option (List Nat)) :
    ∀ (k : Nat) {E : Env} {D : St} {e : Ex} {D2 : St} {w : World} {a : Act} {Q : Exit → Act → World → Prop}, Now H E nt D ex w a → iter b l k D = some (e, D2) → Leads H E nt D ex w D2 (Q (exitOf e)) → (Code.loop c).wp P Q a w := by
  intro k E D e D2 w a Q hN h hK
  let J : Nat → Act → World → Prop := fun k a w => ∃ (E : Env) (D : St) (e : Ex) (D2 : St), Now H E nt D ex w a ∧ iter b l k D = some (e, D2) ∧ Leads H E nt D ex w D2 (Q (exitOf e))
  classical
  let μ : Act → World → Nat := fun a w => if h : ∃ k, J k a w then Classical.choose (least_of h) else 0
  have hμ : ∀ {k a w}, J k a w → μ a w ≤ k ∧ J (μ a w) a w := by
    intro k a w hj
    have hex : ∃ k, J k a w := ⟨k, hj⟩
    have : μ a w = Classical.choose (least_of hex) := dif_pos hex
    rw [this]
    exact ⟨(Classical.choose_spec (least_of hex)).2 k hj, (Classical.choose_spec (least_of hex)).1⟩
  refine wp_loop (I := fun a w => ∃ k, J k a w) (μ := μ) ⟨k, E, D, e, D2, hN, h, hK⟩ ?_
  rintro a w ⟨k, hj⟩
  obtain ⟨_, hj⟩ := hμ hj
  generalize hm : μ a w = m at hj ⊢
  obtain ⟨E, D, e, D2, hN, h, hK⟩ := hj
  cases m with
  | zero => cases h
  | succ m =>
    obtain ⟨hN1, hT1⟩ := clear_ok l hN
    unfold iter at h
    cases hq : b (clear l D) with
    | none => rw [hq] at h; cases h
    | some r =>
      obtain ⟨e1, D1⟩ := r
      rw [hq] at h
      refine hb hN1 hq ?_
      intro E' D1' w' a' hs hT hN'
      cases e1 with
      | norm =>
        have k2 := iter_sm hsm l m hs
        simp only at h
        rw [h] at k2
        generalize hr : iter b l m D1' = r' at k2
        cases k2 with
        | @some x y hx =>
          obtain ⟨e', D2'⟩ := y
          obtain ⟨he, hs2⟩ := hx
          simp only at he hs2
          subst he
          have hj' : J m a' w' := ⟨E', D1', e, D2', hN', hr, fun E2 D3 w2 a2 hs3 hT2 hN2 => hK _ _ _ _ (hs2.trans hs3) ((hT1.trans hT).trans hT2) hN2⟩
          exact ⟨⟨m, hj'⟩, Nat.lt_succ_of_le (hμ hj').1⟩
      | ret => simp only [Option.some.injEq, Prod.mk.injEq] at h; obtain ⟨rfl, rfl⟩ := h; exact hK _ _ _ _ hs (hT1.trans hT) hN'
      | exit i => simp only [Option.some.injEq, Prod.mk.injEq] at h; obtain ⟨rfl, rfl⟩ := h; exact hK _ _ _ _ hs (hT1.trans hT) hN'

/-- CODE. -/
theorem code_ok {C : Callee} (hC : CallsOk P H C) (hX : XSm H) (hS : CSm C) (hm : P.follows .mixedOrders = true) (f k : Nat) : ∀ (c : Code), codeB H f nt c = true →
    ∀ {E : Env} {D : St} {e : Ex} {D2 : St} {w : World} {a : Act} {Q : Exit → Act → World → Prop}, Now H E nt D ex w a → evCode P H C f k c D = some (e, D2) → Leads H E nt D ex w D2 (Q (exitOf e)) → c.wp P Q a w
  | .skip, hB, E, D, e, D2, w, a, Q, hN, h, hK => by
    cases h
    exact wp_skip (hK _ _ _ _ (SmS.refl _) (To.refl _ _ _ _ _) hN)
  | .region id ops dr, hB, E, D, e, D2, w, a, Q, hN, h, hK => by
    unfold evCode at h
    split at h
    · rename_i D1 h1
      cases h
      exact region_ok hC hX hS hm hB hN h1 hK
    · cases h
  | .seq x y, hB, E, D, e, D2, w, a, Q, hN, h, hK => by
    unfold codeB at hB
    rw [Bool.and_eq_true] at hB
    unfold evCode at h
    cases hq : evCode P H C f k x D with
    | none => rw [hq] at h; cases h
    | some r =>
      obtain ⟨e1, D1⟩ := r
      rw [hq] at h
      refine wp_seq (code_ok hC hX hS hm f k x hB.1 hN hq ?_)
      intro E' D1' w' a' hs hT hN'
      cases e1 with
      | norm =>
        have k2 := evCode_sm (P := P) hX hS f k y hs
        simp only at h
        rw [h] at k2
        generalize hr : evCode P H C f k y D1' = r' at k2
        cases k2 with
        | @some _ z hx =>
          obtain ⟨e', D2'⟩ := z
          obtain ⟨he, hs2⟩ := hx
          simp only at he hs2
          subst he
          exact code_ok hC hX hS hm f k y hB.2 hN' hr (fun E2 D3 w2 a2 hs3 hT2 hN2 => hK _ _ _ _ (hs2.trans hs3) (hT.trans hT2) hN2)
      | ret => simp only [Option.some.injEq, Prod.mk.injEq] at h; obtain ⟨rfl, rfl⟩ := h; exact hK _ _ _ _ hs hT hN'
      | exit i => simp only [Option.some.injEq, Prod.mk.injEq] at h; obtain ⟨rfl, rfl⟩ := h; exact hK _ _ _ _ hs hT hN'
  | .cond c x y, hB, E, D, e, D2, w, a, Q, hN, h, hK => by
    unfold codeB at hB
    rw [Bool.and_eq_true] at hB
    unfold evCode at h
    split at h
    · rename_i t ht
      have hc : a.eval c = .bool t := (ev_ok hN ht).pr
      refine wp_cond hc ?_
      cases t with
      | true => exact code_ok hC hX hS hm f k x hB.1 hN h hK
      | false => exact code_ok hC hX hS hm f k y hB.2 hN h hK
    · cases h
  | .block id c, hB, E, D, e, D2, w, a, Q, hN, h, hK => by
    unfold evCode at h
    cases hq : evCode P H C f k c D with
    | none => rw [hq] at h; cases h
    | some r =>
      obtain ⟨e1, D1⟩ := r
      rw [hq] at h
      refine wp_block (code_ok hC hX hS hm f k c hB hN hq ?_)
      intro E' D1' w' a' hs hT hN'
      cases e1 with
      | norm => simp only [Option.some.injEq, Prod.mk.injEq] at h; obtain ⟨rfl, rfl⟩ := h; exact hK _ _ _ _ hs hT hN'
      | ret => simp only [Option.some.injEq, Prod.mk.injEq] at h; obtain ⟨rfl, rfl⟩ := h; exact hK _ _ _ _ hs hT hN'
      | exit i =>
        simp only at h
        show (if i = id then Q .normal a' w' else Q (.exit i) a' w')
        split at h
        · rename_i hi
          cases h
          rw [if_pos hi]
          exact hK _ _ _ _ hs hT hN'
        · rename_i hi
          cases h
          rw [if_neg hi]
          exact hK _ _ _ _ hs hT hN'
  | .loop c, hB, E, D, e, D2, w, a, Q, hN, h, hK => by
    unfold evCode at h
    exact iter_ok (C := C) (fun hs => evCode_sm (P := P) hX hS f k c hs) (fun hN h hK => code_ok hC hX hS hm f k c hB hN h hK) _ k hN h hK
  | .exit id, hB, E, D, e, D2, w, a, Q, hN, h, hK => by
    cases h
    exact wp_exit (hK _ _ _ _ (SmS.refl _) (To.refl _ _ _ _ _) hN)
  | .ret, hB, E, D, e, D2, w, a, Q, hN, h, hK => by
    cases h
    exact wp_ret (hK _ _ _ _ (SmS.refl _) (To.refl _ _ _ _ _) hN)
  | .rangeFunc .., hB, E, D, e, D2, w, a, Q, hN, h, hK => by cases h
  | .scope _, hB, E, D, e, D2, w, a, Q, hN, h, hK => by cases h
  | .label _, hB, E, D, e, D2, w, a, Q, hN, h, hK => by cases h
  | .goto _, hB, E, D, e, D2, w, a, Q, hN, h, hK => by cases h
  | .refuse _, hB, E, D, e, D2, w, a, Q, hN, h, hK => by cases h
end Go.Abs
end
/- Arguments: lent, or made read-only. -/
set_option linter.unusedVariables false
noncomputable section
namespace Go.Abs
open Go

/-- What an argument leans on, as the callee sees it: for good, what the caller may lean on for good and does not own. -/
def lentEnv (E : Env) (nt : Nat) (D : St) (ex : List V) : Env := ⟨E.β, fun k => E.Gp k ∧ k ∉ keysD nt D ex, fun _ => True⟩

structure Lent (E : Env) (nt : Nat) (D D1 : St) (ex : List V) (w : World) (a : Act) (free : Prop) (x : V) (u : Value) : Prop where
  step : Step E nt D D1 ex ex w a
  pr : ∀ D', PR E.β D' x u
  flat : noRow x = true
  all : ∀ b ∈ atoms x, AtOk (lentEnv E nt D1 ex) w D1.nx (fun _ => False) b
  own : free → ∀ b ∈ atoms x, AtOk E w D1.nx (fun k => k ∈ keysD nt D1 ex) b
structure LentL (E : Env) (nt : Nat) (D D1 : St) (ex : List V) (w : World) (a : Act) (free : Prop) (xs : List V) (us : List Value) : Prop where
  step : Step E nt D D1 ex ex w a
  pr : ∀ D', PRL E.β D' xs us
  flat : noRowL xs = true
  all : ∀ b ∈ atomsL xs, AtOk (lentEnv E nt D1 ex) w D1.nx (fun _ => False) b
  own : free → ∀ b ∈ atomsL xs, AtOk E w D1.nx (fun k => k ∈ keysD nt D1 ex) b

variable {E : Env} {nt : Nat} {D D1 : St} {ex : List V} {w : World} {a : Act}

theorem Step.refl (hI : Inv E nt D ex w) (hS : SlotsOk E nt D a) : Step E nt D D ex ex w a := ⟨hI, hS, Kept.refl D, rfl, fun _ h => h⟩
theorem Step.trans {D2 : St} {ex1 ex2 : List V} (h : Step E nt D D1 ex ex1 w a) (k : Step E nt D1 D2 ex1 ex2 w a) : Step E nt D D2 ex ex2 w a :=
  ⟨k.inv, k.slots, h.kept.trans k.kept, k.nx.trans h.nx, fun q hq => h.keys q (k.keys q hq)⟩
/-- As the caller sees it, so the callee may. -/
theorem AtOk.lent {b : At} (h : AtOk E w D.nx (fun k => k ∈ keysD nt D ex) b) : AtOk (lentEnv E nt D ex) w D.nx (fun _ => False) b := by
  have hF : ∀ {pm A cs}, FOk E w (fun k => k ∈ keysD nt D ex) pm A cs → FOk (lentEnv E nt D ex) w (fun _ => False) pm A cs := fun h => ⟨h.1, h.2.1, fun hc => ⟨by
    obtain ⟨h1, h2⟩ := h.2.2 hc
    unfold Env.good at h1 ⊢
    split
    · rename_i hp; rw [if_pos hp] at h1; exact ⟨h1, h2⟩
    · trivial, fun h => h⟩⟩
  cases b with
  | p b => exact h
  | i pm A cap n cs =>
    refine ⟨h.1, ?_⟩
    have h2 := h.2
    cases A with
    | none => exact h2
    | some A => exact hF h2
  | f pm A cs => exact hF h
theorem lentEnv_mono {D2 : St} {w : World} {nx : Nat} (hk : ∀ k, k ∈ keysD nt D2 ex → k ∈ keysD nt D ex) {b : At} (h : AtOk (lentEnv E nt D ex) w nx (fun _ => False) b) : AtOk (lentEnv E nt D2 ex) w nx (fun _ => False) b := by
  have hF : ∀ {pm A cs}, FOk (lentEnv E nt D ex) w (fun _ => False) pm A cs → FOk (lentEnv E nt D2 ex) w (fun _ => False) pm A cs := fun h => ⟨h.1, h.2.1, fun hc => ⟨by
    obtain ⟨h1, h2⟩ := h.2.2 hc
    unfold Env.good at h1 ⊢
    split
    · rename_i hp; rw [if_pos hp] at h1; exact ⟨h1.1, fun q => h1.2 (hk _ q)⟩
    · trivial, fun h => h⟩⟩
  cases b with
  | p b => exact h
  | i pm A cap n cs =>
    refine ⟨h.1, ?_⟩
    have h2 := h.2
    cases A with
    | none => exact h2
    | some A => exact hF h2
  | f pm A cs => exact hF h
/-- A value without rows, whole: read-only for the call. -/
theorem frz_false {v : V} (hn : noRow v = true) (hI : ∀ k, E.Gp k → E.Gb k) (hv : ∀ b ∈ atoms v, AtOk E w D.nx (fun k => k ∈ keysD nt D ex) b) : ∀ b ∈ atoms (frz false v), AtOk E w D.nx (fun k => k ∈ keysD nt D ex) b := by
  refine frz_atoms (E := E) (E' := E) (pm := false) (fun pm0 k _ hg hk => ⟨?_, hk⟩) rfl v (by rw [rows_noRow hn]; intro e he; cases he) (by rw [rows_noRow hn]; intro k hk; cases hk) hv (fun h => by cases h)
  unfold Env.good at hg ⊢
  cases pm0 with
  | true => simpa using hI k (by simpa using hg)
  | false => simpa using hg

theorem lent_val {md : Nat} {v : V} {u : Value} (hI : Inv E nt D ex w) (hS : SlotsOk E nt D a) (hn : noRow v = true) (hu : ∀ D', PR E.β D' v u) (hu' : ∀ D', PR E.β D' (frz false v) u) (hv : VOk E nt D ex w v) {free : Prop} {x : V}
    (h : (if md = 2 then (if noBor v then some (v, D) else none) else some (frz false v, D)) = some (x, D1)) : Lent E nt D D1 ex w a free x u := by
  split at h
  · split at h
    · cases h
      exact ⟨.refl hI hS, hu, hn, fun b hb => (hv b hb).lent, fun _ b hb => hv b hb⟩
    · cases h
  · cases h
    have := frz_false (nt := nt) (D := D) (ex := ex) hn hI.gpb hv
    exact ⟨.refl hI hS, hu', noRow_frz _ _, fun b hb => (this b hb).lent, fun _ b hb => this b hb⟩

mutual
theorem lend_ok {md : Nat} : ∀ {v : V} {D D1 : St} {x : V} {u : Value}, Inv E nt D ex w → SlotsOk E nt D a → PR E.β D v u → VOk E nt D ex w v → (∀ e ∈ rows v, RowOk E w e ∧ keyOf e = none) →
    lend md v D = some (x, D1) → Lent E nt D D1 ex w a (md ≠ 0 ∨ hasRef v = false) x u
  | .ref r p, D, D1, x, u, hI, hS, hu, hv, hr, h => by
    simp only [lend] at h
    split at h
    · rename_i hmd
      split at h
      case h_2 => cases h
      rename_i d k n cs hl
      cases h
      have hr0 := hS.lt hl
      obtain ⟨R0, hR0⟩ := row_of_look (ex := ex) hr0 hl (e := (d, k, n, cs.map sh)) (by simp [rows])
      have hrow : RowOk E w (d, k, n, cs.map sh) := hI.rows _ (hR0.mem_iff.2 (List.mem_append_left _ (by simp [rows])))
      have hh := hu _ _ _ _ hl
      refine ⟨.refl hI hS, fun D' => PR_frz_own hrow hh, noRow_frz _ _, ?_, fun hf => ?_⟩
      · refine frz_atoms (E := E) (E' := lentEnv E nt D ex) (K := fun k => k ∈ keysD nt D ex) (pm := false) (fun pm0 k _ hg hk => ⟨by simp [Env.good, lentEnv], fun h => h⟩) rfl (.own d k n cs) ?_ ?_ ?_ (fun h => by cases h)
        · exact fun e he => hI.rows e (hR0.mem_iff.2 (List.mem_append_left _ he))
        · exact fun k _ => ⟨by simp [Env.good, lentEnv], fun h => h⟩
        · exact fun c hc => hI.atoms c (atoms_look hr0 hl hc)
      · rcases hf with hf | hf
        · exact absurd hmd hf
        · simp [hasRef] at hf
    · rename_i hmd
      split at h
      case h_2 => cases h
      rename_i y D2 hy
      obtain ⟨h1, h2, h3, h4, h5, d, k, n, cs, h6, h7, h8⟩ := takeF_ok hI hS hy
      have hpy : noRow y = true := by rw [h7]; exact noRow_frz _ _
      have hI2 := h1.drop
      have hk : ∀ q, q ∈ keysD nt D2 (y :: ex) ↔ q ∈ keysD nt D2 ex := fun q => by
        constructor
        · intro hq
          have := (keysOf_perm (rowsD_ex nt D2 y ex)).mem_iff.1 hq
          rw [rows_noRow hpy] at this; exact this
        · exact keysD_drop
      have hat : ∀ b ∈ atoms y, AtOk E w D2.nx (fun k => k ∈ keysD nt D2 ex) b := fun b hb => (h1.atoms b (atomsD_ex.2 (.inl hb))).mono (Nat.le_refl _) (fun q hq => (hk q).2 hq)
      have hst : Step E nt D D2 ex ex w a := ⟨hI2, h2, h3, h4, fun q hq => h5 q (keysD_drop hq)⟩
      have hpr : ∀ D', PR E.β D' y u := fun D' => hd_PR (h8 u (hu _ _ _ _ h6))
      split at h
      · cases h
        have hf := frz_false (nt := nt) (ex := ex) hpy hI.gpb hat
        refine ⟨hst, fun D' => ?_, noRow_frz _ _, fun b hb => (hf b hb).lent, fun _ b hb => hf b hb⟩
        have : hd E.β (frz false y) = some u := by rw [hd_frz E.β false (fun e he => by rw [rows_noRow hpy] at he; cases he)]; exact h8 u (hu _ _ _ _ h6)
        exact hd_PR this
      · split at h
        · cases h
          exact ⟨hst, hpr, hpy, fun b hb => (hat b hb).lent, fun _ b hb => hat b hb⟩
        · cases h
  | .loc _ _, D, D1, x, u, hI, hS, hu, hv, hr, h => by simp [lend] at h
  | .own d k n cs, D, D1, x, u, hI, hS, hu, hv, hr, h => by
    simp only [lend] at h
    split at h
    · rename_i hn
      cases h
      subst hn
      have hrow := (hr (d, k, 0, cs.map sh) (by simp [rows])).1
      have hcs : cs = [] := by
        cases d with
        | nil => simpa using hrow.2
        | emp A => simpa using hrow.2
        | blk g cap kk => simpa using hrow.2.2.2.1
      subst hcs
      have hat : ∀ b ∈ atoms (frz (decide (md = 2)) (.own d k 0 [])), AtOk E w D.nx (fun k => k ∈ keysD nt D ex) b := by
        intro b hb
        simp only [frz, frzL, atoms, atomsL, List.mem_singleton] at hb
        subst hb
        refine ⟨Nat.zero_le _, ?_⟩
        cases d with
        | nil => exact ⟨rfl, rfl⟩
        | emp A => exact ⟨rfl, fun j x hx => by simp at hx, fun h => absurd rfl h⟩
        | blk g cap kk => exact ⟨rfl, fun j x hx => by simp at hx, fun h => absurd rfl h⟩
      exact ⟨.refl hI hS, fun D' => PR_frz_own hrow hu, noRow_frz _ _, fun b hb => (hat b hb).lent, fun _ b hb => hat b hb⟩
    · cases h
  | .agg cs, D, D1, x, u, hI, hS, hu, hv, hr, h => by
    simp only [lend] at h
    split at h
    · rename_i l D' hl
      cases h
      obtain ⟨us, rfl, hus⟩ := hu
      have k := lendL_ok hI hS hus hv hr hl
      exact ⟨k.step, fun D' => ⟨us, rfl, k.pr D'⟩, k.flat, k.all, k.own⟩
    · cases h
  | .tup cs, D, D1, x, u, hI, hS, hu, hv, hr, h => by
    simp only [lend] at h
    split at h
    · rename_i l D' hl
      cases h
      obtain ⟨us, rfl, hus⟩ := hu
      have k := lendL_ok hI hS hus hv hr hl
      exact ⟨k.step, fun D' => ⟨us, rfl, k.pr D'⟩, k.flat, k.all, k.own⟩
    · cases h
  | .fn f l1 l2, D, D1, x, u, hI, hS, hu, hv, hr, h => by
    simp only [lend] at h
    split at h
    · rename_i a' D2 h1
      split at h
      · rename_i b' D3 h2
        cases h
        obtain ⟨ua, ub, rfl, hua, hub⟩ := hu
        have k1 := lendL_ok hI hS hua (fun b hb => hv b (by simp only [atoms]; exact List.mem_append_left _ hb)) (fun e he => hr e (by simp only [rows]; exact List.mem_append_left _ he)) h1
        have k2 := lendL_ok k1.step.inv k1.step.slots (PRL_kept k1.step.kept hub) (fun b hb => (hv b (by simp only [atoms]; exact List.mem_append_right _ hb)).mono (Nat.le_of_eq k1.step.nx.symm) k1.step.keys) (fun e he => hr e (by simp only [rows]; exact List.mem_append_right _ he)) h2
        refine ⟨k1.step.trans k2.step, fun D' => ⟨ua, ub, rfl, k1.pr D', k2.pr D'⟩, by simp [noRow, k1.flat, k2.flat], fun b hb => ?_, fun hf b hb => ?_⟩
        · rcases List.mem_append.1 hb with hb | hb
          · have := lentEnv_mono k2.step.keys (k1.all b hb)
            rw [k2.step.nx]; exact this
          · exact k2.all b hb
        · have hf1 : md ≠ 0 ∨ hasRefL l1 = false := hf.imp id fun h => by simp only [hasRef, Bool.or_eq_false_iff] at h; exact h.1
          have hf2 : md ≠ 0 ∨ hasRefL l2 = false := hf.imp id fun h => by simp only [hasRef, Bool.or_eq_false_iff] at h; exact h.2
          rcases List.mem_append.1 hb with hb | hb
          · exact (k1.own hf1 b hb).mono (Nat.le_of_eq k2.step.nx.symm) k2.step.keys
          · exact k2.own hf2 b hb
      · cases h
    · cases h
  | .int k n, D, D1, x, u, hI, hS, hu, hv, hr, h => by
    simp only [lend] at h
    exact lent_val (v := .int k n) (u := u) hI hS rfl (fun _ => hu) (fun _ => hu) hv h
  | .bool b, D, D1, x, u, hI, hS, hu, hv, hr, h => by
    simp only [lend] at h
    exact lent_val (v := .bool b) (u := u) hI hS rfl (fun _ => hu) (fun _ => hu) hv h
  | .nilp, D, D1, x, u, hI, hS, hu, hv, hr, h => by
    simp only [lend] at h
    exact lent_val (v := .nilp) (u := u) hI hS rfl (fun _ => hu) (fun _ => hu) hv h
  | .nilf, D, D1, x, u, hI, hS, hu, hv, hr, h => by
    simp only [lend] at h
    exact lent_val (v := .nilf) (u := u) hI hS rfl (fun _ => hu) (fun _ => hu) hv h
  | .bptr b o, D, D1, x, u, hI, hS, hu, hv, hr, h => by
    simp only [lend] at h
    exact lent_val (v := .bptr b o) (u := u) hI hS rfl (fun _ => hu) (fun _ => hu) hv h
  | .ip pm A cs, D, D1, x, u, hI, hS, hu, hv, hr, h => by
    simp only [lend] at h
    exact lent_val (v := .ip pm A cs) (u := u) hI hS rfl (fun _ => hu) (fun _ => hu) hv h
  | .im pm A cap n cs, D, D1, x, u, hI, hS, hu, hv, hr, h => by
    simp only [lend] at h
    exact lent_val (v := .im pm A cap n cs) (u := u) hI hS rfl (fun _ => hu) (fun _ => hu) hv h
  | .dead, D, D1, x, u, hI, hS, hu, hv, hr, h => by
    simp only [lend] at h
    exact lent_val (v := .dead) (u := u) hI hS rfl (fun _ => trivial) (fun _ => trivial) hv h
theorem lendL_ok {md : Nat} : ∀ {l : List V} {D D1 : St} {xs : List V} {us : List Value}, Inv E nt D ex w → SlotsOk E nt D a → PRL E.β D l us → (∀ b ∈ atomsL l, AtOk E w D.nx (fun k => k ∈ keysD nt D ex) b) → (∀ e ∈ rowsL l, RowOk E w e ∧ keyOf e = none) →
    lendL md l D = some (xs, D1) → LentL E nt D D1 ex w a (md ≠ 0 ∨ hasRefL l = false) xs us
  | [], D, D1, xs, us, hI, hS, hu, hv, hr, h => by
    simp only [lendL] at h
    cases h
    exact ⟨.refl hI hS, fun _ => hu, rfl, fun b hb => by simp [atomsL] at hb, fun _ b hb => by simp [atomsL] at hb⟩
  | v :: l, D, D1, xs, us, hI, hS, hu, hv, hr, h => by
    simp only [lendL] at h
    split at h
    · rename_i y D2 h1
      split at h
      · rename_i ys D3 h2
        cases h
        obtain ⟨u, us', rfl, hu1, hu2⟩ := hu
        have k1 := lend_ok hI hS hu1 (fun b hb => hv b (List.mem_append_left _ hb)) (fun e he => hr e (List.mem_append_left _ he)) h1
        have k2 := lendL_ok k1.step.inv k1.step.slots (PRL_kept k1.step.kept hu2) (fun b hb => (hv b (List.mem_append_right _ hb)).mono (Nat.le_of_eq k1.step.nx.symm) k1.step.keys) (fun e he => hr e (List.mem_append_right _ he)) h2
        refine ⟨k1.step.trans k2.step, fun D' => ⟨u, us', rfl, k1.pr D', k2.pr D'⟩, by simp [noRowL, k1.flat, k2.flat], fun b hb => ?_, fun hf b hb => ?_⟩
        · rcases List.mem_append.1 hb with hb | hb
          · have := lentEnv_mono k2.step.keys (k1.all b hb)
            rw [k2.step.nx]; exact this
          · exact k2.all b hb
        · have hf1 : md ≠ 0 ∨ hasRef v = false := hf.imp id fun h => by simp only [hasRefL, Bool.or_eq_false_iff] at h; exact h.1
          have hf2 : md ≠ 0 ∨ hasRefL l = false := hf.imp id fun h => by simp only [hasRefL, Bool.or_eq_false_iff] at h; exact h.2
          rcases List.mem_append.1 hb with hb | hb
          · exact (k1.own hf1 b hb).mono (Nat.le_of_eq k2.step.nx.symm) k2.step.keys
          · exact k2.own hf2 b hb
      · cases h
    · cases h
end
theorem lendArgs_ok : ∀ {md : List Nat} {l : List V} {D D1 : St} {xs : List V} {us : List Value}, Inv E nt D ex w → SlotsOk E nt D a → PRL E.β D l us → (∀ b ∈ atomsL l, AtOk E w D.nx (fun k => k ∈ keysD nt D ex) b) → (∀ e ∈ rowsL l, RowOk E w e ∧ keyOf e = none) →
    lendArgs md l D = some (xs, D1) → LentL E nt D D1 ex w a (lendsB md l = false) xs us
  | md, [], D, D1, xs, us, hI, hS, hu, hv, hr, h => by
    simp only [lendArgs] at h
    cases h
    exact ⟨.refl hI hS, fun _ => hu, rfl, fun b hb => by simp [atomsL] at hb, fun _ b hb => by simp [atomsL] at hb⟩
  | md, v :: l, D, D1, xs, us, hI, hS, hu, hv, hr, h => by
    simp only [lendArgs] at h
    split at h
    · rename_i y D2 h1
      split at h
      · rename_i ys D3 h2
        cases h
        obtain ⟨u, us', rfl, hu1, hu2⟩ := hu
        have k1 := lend_ok hI hS hu1 (fun b hb => hv b (List.mem_append_left _ hb)) (fun e he => hr e (List.mem_append_left _ he)) h1
        have k2 := lendArgs_ok k1.step.inv k1.step.slots (PRL_kept k1.step.kept hu2) (fun b hb => (hv b (List.mem_append_right _ hb)).mono (Nat.le_of_eq k1.step.nx.symm) k1.step.keys) (fun e he => hr e (List.mem_append_right _ he)) h2
        refine ⟨k1.step.trans k2.step, fun D' => ⟨u, us', rfl, k1.pr D', k2.pr D'⟩, by simp [noRowL, k1.flat, k2.flat], fun b hb => ?_, fun hf b hb => ?_⟩
        · rcases List.mem_append.1 hb with hb | hb
          · have := lentEnv_mono k2.step.keys (k1.all b hb)
            rw [k2.step.nx]; exact this
          · exact k2.all b hb
        · simp only [lendsB, Bool.or_eq_false_iff, Bool.and_eq_false_iff, beq_eq_false_iff_ne] at hf
          rcases List.mem_append.1 hb with hb | hb
          · exact (k1.own hf.1 b hb).mono (Nat.le_of_eq k2.step.nx.symm) k2.step.keys
          · exact k2.own hf.2 b hb
      · cases h
    · cases h
end Go.Abs
end
/- A function's body, from its arguments to its results. -/
set_option linter.unusedVariables false
noncomputable section
namespace Go.Abs
open Go

def emptyS (m : List (Nat × Box)) (nx : Nat) : St := { s := fun _ => .dead, m := m, nx := nx }
/-- A function is called and comes back. -/
def FGood (P : Program) (f : Nat) (us : List Value) (w : World) (R : Value → World → Prop) : Prop :=
  ((callFunc f us.toArray).run P w = .ok (.enter f us.toArray) w ∧ Calls P f us.toArray w (fun e w' => match e with | .returned v => R v w' | _ => False)) ∨
    ∃ v w', (callFunc f us.toArray).run P w = .ok (.value v) w' ∧ R v w'
/-- What has come back. -/
def Back (E : Env) (m : List (Nat × Box)) (nx : Nat) (ex : List V) (w : World) (r : V) (m2 : List (Nat × Box)) (nx2 : Nat) (v : Value) (w' : World) : Prop :=
  ∃ E' r' m2', Sm r r' ∧ SmM m2 m2' ∧ Inv E' 0 (emptyS m2' nx2) (r' :: ex) w' ∧ (∀ D, PR E'.β D r' v) ∧ To E 0 (emptyS m nx) ex w E' (emptyS m2' nx2) (r' :: ex) w'
def GlobIn (H : Hint) (ex : List V) : Prop := ∀ g cs, H.G g = some cs → V.ip true ⟨g, 0, none⟩ cs ∈ ex
def CalleeOk (P : Program) (H : Hint) (C : Callee) : Prop :=
  ∀ (f : Nat) (as : List V) (m : List (Nat × Box)) (nx : Nat) (r : V) (m2 : List (Nat × Box)) (nx2 : Nat), C f as m nx = some (r, m2, nx2) →
    ∀ (E : Env) (ex : List V) (w : World) (us : List Value), Inv E 0 (emptyS m nx) ex w → (∀ D, PRL E.β D as us) → noRowL as = true → (∀ b ∈ atomsL as, AtOk E w nx (fun k => k ∈ keysD 0 (emptyS m nx) ex) b) → GlobIn H ex →
      FGood P f us w (Back E m nx ex w r m2 nx2)

theorem slotRows_zero (s : Nat → V) : slotRows 0 s = [] := rfl
theorem slotRows_none {nt : Nat} {s : Nat → V} (h : ∀ t, noRow (s t) = true) : slotRows nt s = [] := by
  unfold slotRows
  rw [List.flatMap_eq_nil_iff]
  exact fun t _ => rows_noRow (h t)
theorem ptrs_atoms : ∀ {v : V} {b : Nat}, At.p b ∈ atoms v → b ∈ ptrs v := by
  have key : ∀ v : V, ∀ b, At.p b ∈ atoms v → b ∈ ptrs v := by
    intro v
    refine V.rec (motive_1 := fun v => ∀ b, At.p b ∈ atoms v → b ∈ ptrs v) (motive_2 := fun l => ∀ b, At.p b ∈ atomsL l → b ∈ ptrsL l)
      ?_ ?_ ?_ ?_ ?_ ?_ ?_ ?_ ?_ ?_ ?_ ?_ ?_ ?_ ?_ ?_ v
    case refine_16 =>
      intro x l h1 h2 b hb
      rcases List.mem_append.1 hb with hb | hb
      · exact List.mem_append_left _ (h1 b hb)
      · exact List.mem_append_right _ (h2 b hb)
    all_goals (intros; simp_all [atoms, ptrs, atomsL, ptrsL])
    rename_i hb
    exact hb.imp (fun h => by simp_all) (fun h => by simp_all)
  exact fun {v b} => key v b
theorem ptrsL_atoms {l : List V} {b : Nat} (h : At.p b ∈ atomsL l) : b ∈ ptrsL l := by
  have := ptrs_atoms (v := .agg l) (b := b) (by simpa [atoms] using h)
  simpa [ptrs] using this

variable {P : Program} {H : Hint} {E : Env} {nt : Nat} {D D1 : St} {ex : List V} {w : World} {a : Act}

/-- Without globals. -/
def Hint.bare (H : Hint) : Hint := { H with G := fun _ => none }
theorem now_bare (hI : Inv E nt D ex w) (hS : SlotsOk E nt D a) : Now H.bare E nt D ex w a := ⟨hI, hS, fun g cs h => by cases h⟩

def resSem (tmps : Array Value) : ResultVar → Sem Value
  | .tmp t => pure (tmps.getD t undef)
  | .cell q t => do loadVar t (← asAddr (tmps.getD q undef))
theorem results_eq (fn : Func) (tmps : Array Value) : results fn tmps = (do let vs ← fn.results.mapM (resSem tmps); pure (if h : vs.size = 1 then vs[0] else .tuple vs)) := by
  unfold results
  congr 1
theorem evRes_ok : ∀ {l : List ResultVar} {D D2 : St} {ex : List V} {ys : List V}, Inv E nt D ex w → SlotsOk E nt D a → evRes P D l = some (ys, D2) →
    ∃ us, (l.mapM (resSem a.tmps)).run P w = .ok us w ∧ (∀ D', PRL E.β D' ys us) ∧ Step E nt D D2 ex (ys ++ ex) w a
  | [], D, D2, ex, ys, hI, hS, h => by
    simp only [evRes] at h
    cases h
    exact ⟨[], rfl, fun _ => rfl, .refl hI hS⟩
  | .tmp t :: l, D, D2, ex, ys, hI, hS, h => by
    simp only [evRes] at h
    split at h
    case h_2 => cases h
    rename_i y D1 hy
    split at h
    case h_2 => cases h
    rename_i ys' D3 hys
    cases h
    have hs : Seen E nt D ex w (view (.slot t) [] (D.s t)) (a.tmps.getD t undef) := ev_ok (H := Hint.bare { G := fun _ => none, sg := fun _ => [], fz := fun _ _ _ => false, live := fun _ _ => none, fr := fun _ => false, X := fun _ _ => none, plan := fun _ _ => none, mc := fun _ _ => [], good := fun _ => true }) (now_bare hI hS) (x := .tmp t) rfl
    obtain ⟨h1, h2⟩ := settle_ok hI hS hs.pr hs.ok hs.flat hy
    obtain ⟨us, q1, q2, q3⟩ := evRes_ok h1.inv h1.slots hys
    refine ⟨_ :: us, ?_, fun D' => ⟨_, us, rfl, h2 D', q2 D'⟩, ?_⟩
    · rw [List.mapM_cons]
      simp only [Sem.run_bind, resSem, Sem.run_pure, Result.andThen_ok, q1]
    · have hp : (ys' ++ y :: ex).Perm (y :: ys' ++ ex) := List.perm_middle
      exact ⟨q3.inv.perm hp, q3.slots, h1.kept.trans q3.kept, q3.nx.trans h1.nx, fun k hk => h1.keys k (q3.keys k (keysD_perm hp hk))⟩
  | .cell q t :: l, D, D2, ex, ys, hI, hS, h => by
    simp only [evRes] at h
    split at h
    case h_2 => cases h
    rename_i v hv
    split at h
    case h_2 => cases h
    rename_i y D1 hy
    split at h
    case h_2 => cases h
    rename_i ys' D3 hys
    cases h
    have hvo : VOk E nt D ex w (D.s q) := by
      intro b hb
      rcases Nat.lt_or_ge q nt with ht | ht
      · exact hI.atoms b (List.mem_append_left _ (slotAtoms_mem ht hb))
      · rw [hS.high q ht] at hb; simp [atoms] at hb
    obtain ⟨A, r, e1, e2, hs⟩ := loadV_ok hI hS (hS.slot q) hvo hv
    obtain ⟨h1, h2⟩ := settle_ok hI hS hs.pr hs.ok hs.flat hy
    obtain ⟨us, q1, q2, q3⟩ := evRes_ok h1.inv h1.slots hys
    refine ⟨r :: us, ?_, fun D' => ⟨_, us, rfl, h2 D', q2 D'⟩, ?_⟩
    · rw [List.mapM_cons]
      simp only [Sem.run_bind, resSem, Sem.run_pure, Result.andThen_ok, q1, e1, asAddr, e2]
    · have hp : (ys' ++ y :: ex).Perm (y :: ys' ++ ex) := List.perm_middle
      exact ⟨q3.inv.perm hp, q3.slots, h1.kept.trans q3.kept, q3.nx.trans h1.nx, fun k hk => h1.keys k (q3.keys k (keysD_perm hp hk))⟩

mutual
theorem PR_frz {pm : Bool} : ∀ {v : V} {u : Value}, (∀ e ∈ rows v, RowOk E w e) → PR E.β D v u → PR E.β D (frz pm v) u
  | .own d k n cs, u, hr, hu => hd_PR (by rw [hd_frz E.β pm (fun e he => (hr e he).zero)]; exact hu)
  | .agg cs, u, hr, hu => by
    obtain ⟨us, rfl, h⟩ := hu
    exact ⟨us, rfl, PRL_frz hr h⟩
  | .tup cs, u, hr, hu => by
    obtain ⟨us, rfl, h⟩ := hu
    exact ⟨us, rfl, PRL_frz hr h⟩
  | .fn f l1 l2, u, hr, hu => by
    obtain ⟨ua, ub, rfl, h1, h2⟩ := hu
    exact ⟨ua, ub, rfl, PRL_frz (fun e he => hr e (by simp only [rows]; exact List.mem_append_left _ he)) h1, PRL_frz (fun e he => hr e (by simp only [rows]; exact List.mem_append_right _ he)) h2⟩
  | .int _ _, u, hr, hu | .bool _, u, hr, hu | .nilp, u, hr, hu | .nilf, u, hr, hu | .bptr _ _, u, hr, hu | .ip _ _ _, u, hr, hu | .im _ _ _ _ _, u, hr, hu | .ref _ _, u, hr, hu | .loc _ _, u, hr, hu | .dead, u, hr, hu => hu
theorem PRL_frz {pm : Bool} : ∀ {l : List V} {us : List Value}, (∀ e ∈ rowsL l, RowOk E w e) → PRL E.β D l us → PRL E.β D (frzL pm l) us
  | [], us, hr, hu => hu
  | v :: l, us, hr, hu => by
    obtain ⟨u, us', rfl, h1, h2⟩ := hu
    exact ⟨u, us', rfl, PR_frz (fun e he => hr e (List.mem_append_left _ he)) h1, PRL_frz (fun e he => hr e (List.mem_append_right _ he)) h2⟩
end
theorem rowsD_exL (nt : Nat) (D : St) (l ex : List V) : (rowsD nt D (l ++ ex)).Perm (rowsL l ++ rowsD nt D ex) := by
  unfold rowsD
  rw [rowsL_append]
  have h1 : (boxRows D.m ++ (rowsL l ++ rowsL ex)).Perm (rowsL l ++ (boxRows D.m ++ rowsL ex)) := by
    rw [← List.append_assoc, ← List.append_assoc]; exact List.Perm.append_right _ List.perm_append_comm
  have h2 : (slotRows nt D.s ++ (rowsL l ++ (boxRows D.m ++ rowsL ex))).Perm (rowsL l ++ (slotRows nt D.s ++ (boxRows D.m ++ rowsL ex))) := by
    rw [← List.append_assoc, ← List.append_assoc (rowsL l)]; exact List.Perm.append_right _ List.perm_append_comm
  exact (List.Perm.append_left _ h1).trans h2
theorem atomsD_exL {l : List V} {b : At} : b ∈ atomsD nt D (l ++ ex) ↔ b ∈ atomsL l ∨ b ∈ atomsD nt D ex := by
  unfold atomsD
  simp only [atomsL_append, List.mem_append]
  constructor
  · rintro (h | h | h | h)
    · exact .inr (.inl h)
    · exact .inr (.inr (.inl h))
    · exact .inl h
    · exact .inr (.inr (.inr h))
  · rintro (h | h | h | h)
    · exact .inr (.inr (.inl h))
    · exact .inl h
    · exact .inr (.inl h)
    · exact .inr (.inr (.inr h))
/-- Results made read-only. -/
theorem freeze_ok {rs : List V} (hI : Inv E nt D (rs ++ ex) w) (hb : noBorL rs = true) : Inv E nt D (frzL true rs ++ ex) w ∧ (∀ k, k ∈ keysD nt D (frzL true rs ++ ex) → k ∈ keysD nt D (rs ++ ex)) ∧
    ∀ {D' us}, PRL E.β D' rs us → PRL E.β D' (frzL true rs) us := by
  have hr : ∀ e ∈ rowsL rs, RowOk E w e := fun e he => hI.rows e ((rowsD_exL nt D rs ex).mem_iff.2 (List.mem_append_left _ he))
  have hp2 : (rowsD nt D (frzL true rs ++ ex)).Perm (rowsD nt D ex) := by
    refine (rowsD_exL nt D (frzL true rs) ex).trans ?_
    rw [rowsL_noRow (noRowL_frz true rs), List.nil_append]
  refine ⟨?_, keys_sub (rowsD_exL nt D rs ex) (RLeL.refl E.β _) hp2, fun h => PRL_frz hr h⟩
  refine hI.weaken2 (rowsL rs) _ _ (rowsD_exL nt D rs ex) (RLeL.refl _ _) hp2 (fun b hb' => ?_) (fun e he => ⟨e, he, rfl, rfl⟩) hI.ids rfl
  rcases atomsD_exL.1 hb' with hb' | hb'
  · refine .inr fun hK hK2 => ?_
    refine frzL_atoms (E := E) (E' := E) (K := fun k => k ∈ keysD nt D (rs ++ ex)) (pm := true) (fun pm0 k hp hg hk => ⟨by rw [hp rfl] at hg; exact hg, fun h => hk (hK k h)⟩) rfl rs hr (fun k hk => ⟨?_, hK2 k hk⟩) (fun c hc => hI.atoms c (atomsD_exL.2 (.inl hc))) (fun _ => hb) b hb'
    exact hI.keysG k ((keysOf_perm (rowsD_exL nt D rs ex)).mem_iff.2 (by rw [keysOf_append]; exact List.mem_append_left _ hk))
  · exact .inl (atomsD_exL.2 (.inr hb'))
/-- Slots are forgotten. -/
theorem forget_slots (hI : Inv E nt D ex w) : Inv E 0 (emptyS D.m D.nx) ex w ∧ ∀ k, k ∈ keysD 0 (emptyS D.m D.nx) ex → k ∈ keysD nt D ex := by
  have hp : (rowsD nt D ex).Perm (slotRows nt D.s ++ rowsD 0 (emptyS D.m D.nx) ex) := .refl _
  refine ⟨hI.weaken (slotRows nt D.s) _ _ hp (RLeL.refl _ _) (.refl _) (fun b hb => ?_) (fun e he => ⟨e, he, rfl, rfl⟩) hI.ids rfl, keys_sub hp (RLeL.refl E.β _) (.refl _)⟩
  unfold atomsD at hb ⊢
  exact List.mem_append_right _ hb
theorem boxRows_filter (p : Nat → Bool) : ∀ m : List (Nat × Box), ∃ S, (boxRows m).Perm (S ++ boxRows (m.filter fun e => p e.1))
  | [] => ⟨[], .refl _⟩
  | (i, c) :: m => by
    obtain ⟨S, hS⟩ := boxRows_filter p m
    by_cases hp : p i = true
    · refine ⟨S, ?_⟩
      simp only [List.filter_cons, hp, if_true, boxRows]
      have h1 : (boxRow c :: (rowsL c.cs ++ boxRows m)).Perm ((boxRow c :: rowsL c.cs) ++ (S ++ boxRows (m.filter fun e => p e.1))) := List.Perm.append_left (boxRow c :: rowsL c.cs) hS
      refine h1.trans ?_
      rw [← List.append_assoc]
      refine (List.Perm.append_right _ List.perm_append_comm).trans ?_
      rw [List.append_assoc]; exact .refl _
    · refine ⟨(boxRow c :: rowsL c.cs) ++ S, ?_⟩
      simp only [List.filter_cons, hp, if_false, boxRows, Bool.false_eq_true]
      have h1 : (boxRow c :: (rowsL c.cs ++ boxRows m)).Perm ((boxRow c :: rowsL c.cs) ++ (S ++ boxRows (m.filter fun e => p e.1))) := List.Perm.append_left (boxRow c :: rowsL c.cs) hS
      rw [List.append_assoc]
      exact h1
theorem boxAtoms_filter (p : Nat → Bool) {b : At} : ∀ {m : List (Nat × Box)}, b ∈ boxAtoms (m.filter fun e => p e.1) → b ∈ boxAtoms m
  | [], h => h
  | (i, c) :: m, h => by
    by_cases hp : p i = true
    · simp only [List.filter_cons, hp, if_true, boxAtoms] at h ⊢
      rcases List.mem_append.1 h with h | h
      · exact List.mem_append_left _ h
      · exact List.mem_append_right _ (boxAtoms_filter p h)
    · simp only [List.filter_cons, hp, if_false, Bool.false_eq_true] at h
      exact List.mem_append_right _ (boxAtoms_filter p h)
theorem boxAtoms_ex {m : List (Nat × Box)} {b : At} (h : b ∈ boxAtoms m) : ∃ e ∈ m, b ∈ atomsL e.2.cs := by
  induction m with
  | nil => simp [boxAtoms] at h
  | cons x m ih =>
    obtain ⟨i, c⟩ := x
    rcases List.mem_append.1 h with h | h
    · exact ⟨_, List.mem_cons_self, h⟩
    · obtain ⟨e, he, h⟩ := ih h; exact ⟨e, List.mem_cons_of_mem _ he, h⟩
theorem filter_fst (p : Nat → Bool) (m : List (Nat × Box)) (h : (m.map (·.1)).Nodup) : ((m.filter fun e => p e.1).map (·.1)).Nodup :=
  h.sublist (List.Sublist.map _ List.filter_sublist)
/-- New boxes that nobody leads to are forgotten. -/
theorem forget_boxes {m : List (Nat × Box)} {nx nx0 : Nat} {r : V} (hI : Inv E 0 (emptyS m nx) (r :: ex) w) (hle : nx0 ≤ nx) (hr : ∀ b ∈ ptrs r, b < nx0) (hm : ∀ e ∈ m.filter (fun e => decide (e.1 < nx0)), ∀ b ∈ ptrsL e.2.cs, b < nx0)
    (hex : ∀ b, At.p b ∈ atomsL ex → b < nx0) :
    Inv E 0 (emptyS (m.filter fun e => decide (e.1 < nx0)) nx0) (r :: ex) w ∧ ∀ k, k ∈ keysD 0 (emptyS (m.filter fun e => decide (e.1 < nx0)) nx0) (r :: ex) → k ∈ keysD 0 (emptyS m nx) (r :: ex) := by
  obtain ⟨S, hS⟩ := boxRows_filter (fun i => decide (i < nx0)) m
  have hp : (rowsD 0 (emptyS m nx) (r :: ex)).Perm (S ++ rowsD 0 (emptyS (m.filter fun e => decide (e.1 < nx0)) nx0) (r :: ex)) := by
    unfold rowsD
    simp only [slotRows_zero, List.nil_append, emptyS]
    rw [← List.append_assoc]
    exact List.Perm.append_right _ hS
  have hks := keys_sub hp (RLeL.refl E.β _) (.refl _)
  have hat : ∀ b ∈ atomsD 0 (emptyS (m.filter fun e => decide (e.1 < nx0)) nx0) (r :: ex), b ∈ atomsD 0 (emptyS m nx) (r :: ex) := by
    intro b hb
    unfold atomsD at hb ⊢
    rcases List.mem_append.1 hb with hb | hb
    · exact List.mem_append_left _ hb
    · refine List.mem_append_right _ ?_
      rcases List.mem_append.1 hb with hb | hb
      · exact List.mem_append_left _ (boxAtoms_filter (fun i => decide (i < nx0)) hb)
      · exact List.mem_append_right _ hb
  refine ⟨⟨fun e he => hI.rows e (hp.mem_iff.2 (List.mem_append_right _ he)), ?_, fun b hb => ?_, fun e he => ?_, filter_fst (fun i => decide (i < nx0)) m hI.ids, fun k hk => hI.keysG k (hks k hk), hI.newG, hI.gpb⟩, hks⟩
  · have := (keysOf_perm hp).nodup_iff.1 hI.nodup
    rw [keysOf_append] at this
    exact (List.nodup_append.1 this).2.1
  · cases b with
    | p b =>
      show b < nx0
      unfold atomsD at hb
      rcases List.mem_append.1 hb with hb | hb
      · simp [slotAtoms] at hb
      · rcases List.mem_append.1 hb with hb | hb
        · obtain ⟨e, he, hb⟩ := boxAtoms_ex hb
          exact hm e he b (ptrsL_atoms hb)
        · rcases List.mem_append.1 hb with hb | hb
          · exact hr b (ptrs_atoms hb)
          · exact hex b hb
    | i pm A cap n cs => exact (hI.atoms _ (hat _ hb)).mono (nx' := nx0) (nx := nx0) (Nat.le_refl _) hks
    | f pm A cs => exact (hI.atoms _ (hat _ hb)).mono (nx' := nx0) (nx := nx0) (Nat.le_refl _) hks
  · have h1 := List.mem_filter.1 he
    have h2 : e.1 < nx0 := by simpa using h1.2
    exact ⟨(hI.boxes e h1.1).1, h2⟩
end Go.Abs
end
/- A function's body, from its arguments to its results: all together. -/
set_option linter.unusedVariables false
noncomputable section
namespace Go.Abs
open Go

variable {P : Program} {H : Hint} {E : Env} {nt : Nat} {D D1 : St} {ex : List V} {w : World} {a : Act}

theorem codeB_mono {f nt nt' : Nat} (h : nt ≤ nt') : ∀ c : Code, codeB H f nt c = true → codeB H f nt' c = true
  | .region id ops dr, hB => by
    unfold codeB at hB ⊢
    rw [Bool.and_eq_true] at hB ⊢
    refine ⟨?_, hB.2⟩
    have := dst_of hB.1
    rw [Array.all_eq_true_iff_forall_mem]
    intro o ho
    cases hd : o.dst with
    | none => rfl
    | some t => simpa using Nat.lt_of_lt_of_le (this o ho t hd) h
  | .seq a b, hB => by
    unfold codeB at hB ⊢
    rw [Bool.and_eq_true] at hB ⊢
    exact ⟨codeB_mono h a hB.1, codeB_mono h b hB.2⟩
  | .cond _ a b, hB => by
    unfold codeB at hB ⊢
    rw [Bool.and_eq_true] at hB ⊢
    exact ⟨codeB_mono h a hB.1, codeB_mono h b hB.2⟩
  | .block _ c, hB => codeB_mono h c hB
  | .loop c, hB => codeB_mono h c hB
  | .skip, _ | .exit _, _ | .ret, _ | .rangeFunc .., _ | .scope _, _ | .label _, _ | .goto _, _ | .refuse _, _ => rfl

/-- The program's functions, looked at once. -/
def progB (P : Program) (H : Hint) : Bool := (List.range P.funcs.size).all fun f => match P.funcs[f]? with
  | some fn => match fn.body with | some c => !H.good f || (codeB H f fn.ntmps c && !(fn.name == "runtime.NumGoroutine")) | none => true
  | none => true
theorem progB_spec (h : progB P H = true) {f : Nat} {fn : Func} {c : Code} (hg : H.good f = true) (hf : P.funcs[f]? = some fn) (hc : fn.body = some c) : codeB H f fn.ntmps c = true ∧ (fn.name == "runtime.NumGoroutine") = false := by
  unfold progB at h
  rw [List.all_eq_true] at h
  have := h f (List.mem_range.2 (Array.getElem?_eq_some_iff.1 hf).1)
  simp only [hf, hc, hg, Bool.not_true, Bool.false_or, Bool.and_eq_true, Bool.not_eq_true'] at this
  exact this

theorem packRes_rows (l : List V) : rows (packRes l) = rowsL l ∧ atoms (packRes l) = atomsL l := by
  unfold packRes
  split
  · simp [rowsL, atomsL]
  · simp [rows, atoms]
theorem packRes_PR {β : Nat → Nat} {D : St} : ∀ {l : List V} {us : List Value}, PRL β D l us → PR β D (packRes l) (if h : us.toArray.size = 1 then us.toArray[0] else .tuple us.toArray)
  | [], us, h => by
    simp only [PRL] at h
    subst h
    exact ⟨[], rfl, rfl⟩
  | [v], us, h => by
    obtain ⟨u, us', rfl, h1, h2⟩ := h
    simp only [PRL] at h2
    subst h2
    exact h1
  | v :: v2 :: l, us, h => by
    have hl := (PRL_get h).1
    have : ¬ us.toArray.size = 1 := by
      intro h1
      simp at h1
      rw [h1] at hl
      simp at hl
    rw [dif_neg this]
    exact ⟨us, rfl, h⟩

theorem enter_run {f : Nat} {fn : Func} {c : Code} {us : List Value} (hf : P.funcs[f]? = some fn) (hc : fn.body = some c) (hn : (fn.name == "runtime.NumGoroutine") = false) : (callFunc f us.toArray).run P w = .ok (.enter f us.toArray) w := by
  have hn' : ¬ fn.name = "runtime.NumGoroutine" := by simpa using hn
  simp [callFunc, hf, hc, hn']

/-- The state at a function's entry. -/
def entryS (as : List V) (m : List (Nat × Box)) (nx : Nat) : St := { s := fun i => match as[i]? with | some v => v | none => .dead, m := m, nx := nx }
def entryA (fn : Func) (us : List Value) : Act := { tmps := us.toArray ++ Array.replicate (fn.ntmps - us.toArray.size) undef, defers := [] }
def sizeA (fn : Func) (us : List Value) : Nat := us.length + (fn.ntmps - us.length)
theorem entry_keys {as : List V} {m : List (Nat × Box)} {nx : Nat} (hflat : noRowL as = true) : rowsD nt (entryS as m nx) ex = rowsD 0 (emptyS m nx) ex ∧ keysD nt (entryS as m nx) ex = keysD 0 (emptyS m nx) ex := by
  have hnoRow : ∀ t, noRow ((entryS as m nx).s t) = true := by
    intro t
    simp only [entryS]
    cases hq : as[t]? with
    | none => rfl
    | some v => exact noRowL_get hflat hq
  have hrows : rowsD nt (entryS as m nx) ex = rowsD 0 (emptyS m nx) ex := by
    unfold rowsD
    rw [slotRows_none hnoRow, slotRows_zero]
    rfl
  exact ⟨hrows, by unfold keysD; rw [hrows]⟩
theorem entry_ok {fn : Func} {as : List V} {m : List (Nat × Box)} {nx : Nat} {us : List Value} (hI : Inv E 0 (emptyS m nx) ex w) (hu : ∀ D, PRL E.β D as us) (hflat : noRowL as = true)
    (hat : ∀ b ∈ atomsL as, AtOk E w nx (fun k => k ∈ keysD 0 (emptyS m nx) ex) b) (hG : GlobIn H ex) : Now H E (sizeA fn us) (entryS as m nx) ex w (entryA fn us) := by
  obtain ⟨hrows, hkeys⟩ := entry_keys (nt := sizeA fn us) (ex := ex) (m := m) (nx := nx) hflat
  have hlen : as.length = us.length := (PRL_get (hu (emptyS m nx))).1
  refine ⟨⟨fun e he => hI.rows e (by rw [← hrows]; exact he), by rw [hkeys]; exact hI.nodup, fun b hb => ?_, fun e he => hI.boxes e he, hI.ids, fun k hk => hI.keysG k (by rw [← hkeys]; exact hk), hI.newG, hI.gpb⟩, ⟨by simp [entryA, sizeA], rfl, fun t => ?_, fun t ht => ?_⟩, hG⟩
  · rw [hkeys]
    unfold atomsD at hb
    rcases List.mem_append.1 hb with hb | hb
    · obtain ⟨t, _, hb⟩ := List.mem_flatMap.1 hb
      simp only [entryS] at hb
      cases hq : as[t]? with
      | none => rw [hq] at hb; simp [atoms] at hb
      | some v => rw [hq] at hb; exact hat b (atoms_mem (List.mem_of_getElem? hq) hb)
    · exact hI.atoms b (List.mem_append_right _ hb)
  · show PR E.β (entryS as m nx) (match as[t]? with | some v => v | none => .dead) _
    cases hq : as[t]? with
    | none => trivial
    | some v =>
      obtain ⟨u, h1, h2⟩ := (PRL_get (hu (entryS as m nx))).2 t v hq
      have : (entryA fn us).tmps.getD t undef = u := by
        have hlt : t < us.length := (List.getElem?_eq_some_iff.1 h1).1
        simp only [entryA]
        rw [Array.getD_eq_getD_getElem?, Array.getElem?_append_left (by simpa using hlt)]
        simp [h1]
      rw [this]
      exact h2
  · show (match as[t]? with | some v => v | none => V.dead) = .dead
    have : as[t]? = none := List.getElem?_eq_none (by unfold sizeA at ht; omega)
    rw [this]
/-- The end of a body. -/
theorem exit_ok {fn : Func} {as : List V} {m : List (Nat × Box)} {nx : Nat} {frb : Bool} {rs : List V} {D D1 : St} {r : V} {m2 : List (Nat × Box)} {nx2 : Nat} (hI : Inv E 0 (emptyS m nx) ex w) (hflat : noRowL as = true)
    (hres : evRes P D fn.results.toList = some (rs, D1)) (hfr : ¬ (frb && !noBorL rs) = true)
    (h : (if ((ptrs (packRes (if frb then frzL true rs else rs))) ++ (D1.m.filter fun e => decide (e.1 < nx)).flatMap fun e => ptrsL e.2.cs).any (fun b => decide (nx ≤ b)) then some (packRes (if frb then frzL true rs else rs), D1.m, D1.nx) else some (packRes (if frb then frzL true rs else rs), D1.m.filter fun e => decide (e.1 < nx), nx)) = some (r, m2, nx2))
    {E' : Env} {D' : St} {w' : World} {a' : Act} (hs : SmS D D') (hT : To E nt (entryS as m nx) ex w E' D' ex w') (hN' : Now H E' nt D' ex w' a') :
    a'.defers = [] ∧ ∃ v, (results fn a'.tmps).run P w' = .ok v w' ∧ Back E m nx ex w r m2 nx2 v w' := by
  have hkeys := (entry_keys (nt := nt) (ex := ex) (m := m) (nx := nx) hflat).2
  refine ⟨hN'.slots.defers, ?_⟩
  have k2 := evRes_sm (P := P) fn.results.toList hs
  rw [hres] at k2
  generalize hq : evRes P D' fn.results.toList = q at k2
  cases k2 with
  | @some _ y hy =>
    obtain ⟨rs', D1'⟩ := y
    obtain ⟨hrs, hs1⟩ := hy
    simp only at hrs hs1
    obtain ⟨vs, g1, g2, g3⟩ := evRes_ok hN'.inv hN'.slots hq
    refine ⟨(if h : vs.toArray.size = 1 then vs.toArray[0] else .tuple vs.toArray), by rw [results_eq]; simp only [Array.mapM_eq_mapM_toList, Sem.run_bind, Sem.run_map, g1, Result.andThen_ok, Sem.run_pure], ?_⟩
    -- made read-only, perhaps
    obtain ⟨ys, hys⟩ : ∃ ys, ys = (if frb then frzL true rs' else rs') := ⟨_, rfl⟩
    have hysm : SmL (if frb then frzL true rs else rs) ys := by
      rw [hys]
      split
      · exact frzL_sm true hrs
      · exact hrs
    have hys2 : Inv E' nt D1' (ys ++ ex) w' ∧ (∀ k, k ∈ keysD nt D1' (ys ++ ex) → k ∈ keysD nt D1' (rs' ++ ex)) ∧ ∀ D, PRL E'.β D ys vs := by
      rw [hys]
      cases hH : frb with
      | false => exact ⟨g3.inv, fun _ h => h, g2⟩
      | true =>
        rw [hH, Bool.true_and] at hfr
        have hnb : noBorL rs' = true := by rw [noBorL_sm hrs]; simpa using hfr
        obtain ⟨q1, q2, q3⟩ := freeze_ok g3.inv hnb
        exact ⟨q1, q2, fun D => q3 (g2 D)⟩
    obtain ⟨i1, i2, i3⟩ := hys2
    obtain ⟨pr1, pr2⟩ := packRes_rows ys
    have i4 : Inv E' nt D1' (packRes ys :: ex) w' := i1.pack pr1 pr2
    have i5 := forget_slots i4
    have hsmr : Sm (packRes (if frb then frzL true rs else rs)) (packRes ys) := packRes_sm hysm
    have hnx1 : D1'.nx = D'.nx := g3.nx
    have hkk : ∀ k, k ∈ keysD 0 (emptyS D1'.m D1'.nx) (packRes ys :: ex) → k ∈ keysD 0 (emptyS m nx) ex ∨ w.heap.size ≤ k := by
      intro k hk
      have h1 := i5.2 k hk
      rw [keysD_pack pr1] at h1
      have h3 := g3.keys k (i2 k h1)
      have h4 := hT.keys k h3
      rw [hkeys] at h4
      exact h4
    have hTo : ∀ m' nx', nx ≤ nx' → (∀ k, k ∈ keysD 0 (emptyS m' nx') (packRes ys :: ex) → k ∈ keysD 0 (emptyS D1'.m D1'.nx) (packRes ys :: ex)) → To E 0 (emptyS m nx) ex w E' (emptyS m' nx') (packRes ys :: ex) w' := by
      intro m' nx' hle hsub
      refine ⟨fun b hb => hT.beta b hb, hT.gp, hT.gb, hle, hT.size, fun k hk => hkk k (hsub k hk), fun k hk hn => hT.same k hk (by rw [hkeys]; exact hn), hT.os, hT.tape, hT.out⟩
    have hle1 : nx ≤ D1'.nx := by rw [hnx1]; exact hT.nx
    have hmsm := hs1.m.filter (fun i => decide (i < nx))
    have hpt : ptrs (packRes ys) = ptrs (packRes (if frb then frzL true rs else rs)) := ptrs_sm hsmr
    have hfl := flatPtrs_sm hmsm
    generalize packRes (if frb then frzL true rs else rs) = r0 at h hsmr hpt
    split at h
    · cases h
      refine ⟨E', packRes ys, D1'.m, hsmr, hs1.m, ?_, fun D => packRes_PR (i3 D), ?_⟩
      · rw [← hs1.nx]; exact i5.1
      · rw [← hs1.nx]; exact hTo _ _ hle1 (fun k hk => hk)
    · rename_i hno
      cases h
      rw [← hpt, ← hfl] at hno
      have hno' : ∀ b, b ∈ ptrs (packRes ys) ∨ b ∈ ((D1'.m.filter fun e => decide (e.1 < nx)).flatMap fun e => ptrsL e.2.cs) → b < nx := by
        intro b hb
        simp only [List.any_eq_true, List.mem_append, decide_eq_true_eq, not_exists, not_and] at hno
        have := hno b hb
        omega
      have hexp : ∀ b, At.p b ∈ atomsL ex → b < nx := fun b hb => hI.atoms (.p b) (List.mem_append_right _ (List.mem_append_right _ hb))
      have i6 := forget_boxes (nx0 := nx) i5.1 hle1 (fun b hb => hno' b (.inl hb)) (fun e he b hb => hno' b (.inr (List.mem_flatMap.2 ⟨e, he, hb⟩))) hexp
      exact ⟨E', packRes ys, _, hsmr, hmsm, i6.1, fun D => packRes_PR (i3 D), hTo _ _ (Nat.le_refl _) i6.2⟩

theorem body_ok (hm : P.follows .mixedOrders = true) (hX : XSm H) (hP : progB P H = true) {k : Nat} (hC : CallsOk P H (evCall P H k)) : CalleeOk P H (evCall P H (k + 1)) := by
  intro f as m nx r m2 nx2 h E ex w us hI hu hflat hat hG
  unfold evCall at h
  split at h
  · cases h
  rename_i hgood
  have hgood : H.good f = true := by simpa using hgood
  cases hf : P.funcs[f]? with
  | none => rw [hf] at h; cases h
  | some fn =>
    rw [hf] at h
    simp only at h
    cases hb : fn.body with
    | none => rw [hb] at h; cases h
    | some c =>
      rw [hb] at h
      simp only at h
      obtain ⟨hcB, hname⟩ := progB_spec hP hgood hf hb
      split at h
      case h_2 => cases h
      rename_i e D hcode
      split at h
      case isFalse => cases h
      rename_i he
      split at h
      case h_2 => cases h
      rename_i rs D1 hres
      split at h
      · cases h
      rename_i hfr
      refine .inl ⟨enter_run hf hb hname, calls_of_wp hf hb ?_⟩
      have hN0 : Now H E (sizeA fn us) (entryS as m nx) ex w (entryA fn us) := entry_ok hI hu hflat hat hG
      have hcode : evCode P H (evCall P H k) f k c (entryS as m nx) = some (e, D) := hcode
      refine code_ok hC hX (evCall_sm hX k) hm f k c (codeB_mono (by unfold sizeA; omega) c hcB) hN0 hcode ?_
      intro E' D' w' a' hs hT hN'
      have hfin := exit_ok (fn := fn) hI hflat hres hfr h hs hT hN'
      rcases he with rfl | rfl
      · exact hfin
      · exact hfin
end Go.Abs
end
/- A call, seen from the caller. -/
set_option linter.unusedVariables false
noncomputable section
namespace Go.Abs
open Go

def hitB (ids : List Nat) (nx : Nat) : Root → Bool
  | .box b => ids.contains b || decide (nx ≤ b)
  | .slot _ => false
theorem addrOf_off {β : Nat → Nat} {D D' : St} {r : Root} (hk : ∀ q d k n cs, look D' r q = some (.own d k n cs) → ∃ cs', look D r q = some (.own d k n cs')) {p : List Nat} {a : Addr} (h : addrOf β D' r p = some a) : addrOf β D r p = some a := by
  unfold addrOf at h ⊢
  cases hl : p.getLast? with
  | none => rw [hl] at h; cases h
  | some o =>
    rw [hl] at h
    cases r with
    | box b =>
      cases hd : p.dropLast with
      | nil => rw [hd] at h; exact h
      | cons x q =>
        rw [hd] at h
        simp only at h ⊢
        split at h
        · rename_i g c1 c2 c3 c4 c5 hlk
          obtain ⟨cs', h'⟩ := hk _ _ _ _ _ hlk
          rw [h']; exact h
        · cases h
    | slot t =>
      simp only at h ⊢
      split at h
      · rename_i g c1 c2 c3 c4 c5 hlk
        obtain ⟨cs', h'⟩ := hk _ _ _ _ _ hlk
        rw [h']; exact h
      · cases h
mutual
theorem PR_killB {β : Nat → Nat} {D D' : St} {ids : List Nat} {nx : Nat} (hk : ∀ r, hitB ids nx r = false → ∀ q d k n cs, look D' r q = some (.own d k n cs) → ∃ cs', look D r q = some (.own d k n cs')) :
    ∀ {v : V} {u : Value}, PR β D v u → PR β D' (killB ids nx v) u
  | .ref (.slot t) q, u, h => by
    intro d k n cs hq
    obtain ⟨cs', h'⟩ := hk (.slot t) rfl _ _ _ _ _ hq
    exact h d k n cs' h'
  | .ref (.box b) q, u, h => by
    simp only [killB]
    cases hh : (ids.contains b || decide (nx ≤ b)) with
    | true => simp [PR]
    | false =>
      simp only [Bool.false_eq_true, if_false]
      intro d k n cs hq
      obtain ⟨cs', h'⟩ := hk (.box b) hh _ _ _ _ _ hq
      exact h d k n cs' h'
  | .loc (.slot t) q, u, h => fun a ha => h a (addrOf_off (hk (.slot t) rfl) ha)
  | .loc (.box b) q, u, h => by
    simp only [killB]
    cases hh : (ids.contains b || decide (nx ≤ b)) with
    | true => simp [PR]
    | false =>
      simp only [Bool.false_eq_true, if_false]
      exact fun a ha => h a (addrOf_off (hk (.box b) hh) ha)
  | .agg cs, u, h => by obtain ⟨us, rfl, hl⟩ := h; exact ⟨us, rfl, PRL_killB hk hl⟩
  | .tup cs, u, h => by obtain ⟨us, rfl, hl⟩ := h; exact ⟨us, rfl, PRL_killB hk hl⟩
  | .fn f a b, u, h => by obtain ⟨ua, ub, rfl, ha, hb⟩ := h; exact ⟨ua, ub, rfl, PRL_killB hk ha, PRL_killB hk hb⟩
  | .dead, _, _ => trivial
  | .int _ _, _, h | .bool _, _, h | .nilp, _, h | .nilf, _, h | .bptr _ _, _, h | .ip _ _ _, _, h | .im _ _ _ _ _, _, h | .own _ _ _ _, _, h => h
theorem PRL_killB {β : Nat → Nat} {D D' : St} {ids : List Nat} {nx : Nat} (hk : ∀ r, hitB ids nx r = false → ∀ q d k n cs, look D' r q = some (.own d k n cs) → ∃ cs', look D r q = some (.own d k n cs')) :
    ∀ {l : List V} {us : List Value}, PRL β D l us → PRL β D' (killBL ids nx l) us
  | [], us, h => h
  | v :: l, us, h => by obtain ⟨u, us', rfl, h1, h2⟩ := h; exact ⟨u, us', rfl, PR_killB hk h1, PRL_killB hk h2⟩
end
mutual
theorem killB_mild (ids : List Nat) (nx : Nat) : ∀ (v : V) (q : List Nat) (d : Dec) (k n : Nat) (cs : List V), go q (killB ids nx v) = some (.own d k n cs) → go q v = some (.own d k n cs)
  | .ref (.box b) q', q, d, k, n, cs, h => by simp only [killB] at h; split at h <;> cases q <;> simp [go] at h
  | .loc (.box b) q', q, d, k, n, cs, h => by simp only [killB] at h; split at h <;> cases q <;> simp [go] at h
  | .ref (.slot b) q', q, d, k, n, cs, h => h
  | .loc (.slot b) q', q, d, k, n, cs, h => h
  | .agg l, q, d, k, n, cs, h => by
    cases q with
    | nil => simp [killB, go] at h
    | cons o q => simp only [killB, go] at h ⊢; exact killBL_mild ids nx l o q d k n cs h
  | .tup l, q, d, k, n, cs, h => by
    cases q with
    | nil => simp [killB, go] at h
    | cons o q => simp only [killB, go] at h ⊢; exact killBL_mild ids nx l o q d k n cs h
  | .fn f a b, q, d, k, n, cs, h => by cases q <;> simp [killB, go] at h
  | .dead, q, d, k, n, cs, h | .int _ _, q, d, k, n, cs, h | .bool _, q, d, k, n, cs, h | .nilp, q, d, k, n, cs, h | .nilf, q, d, k, n, cs, h | .bptr _ _, q, d, k, n, cs, h | .ip _ _ _, q, d, k, n, cs, h
  | .im _ _ _ _ _, q, d, k, n, cs, h | .own _ _ _ _, q, d, k, n, cs, h => h
theorem killBL_mild (ids : List Nat) (nx : Nat) : ∀ (l : List V) (o : Nat) (q : List Nat) (d : Dec) (k n : Nat) (cs : List V),
    (match (killBL ids nx l)[o]? with | some y => go q y | none => none) = some (.own d k n cs) → (match l[o]? with | some y => go q y | none => none) = some (.own d k n cs)
  | [], o, q, d, k, n, cs, h => by simp [killBL] at h
  | v :: l, 0, q, d, k, n, cs, h => by simp only [killBL, List.getElem?_cons_zero] at h ⊢; exact killB_mild ids nx v q d k n cs h
  | v :: l, o + 1, q, d, k, n, cs, h => by simp only [killBL, List.getElem?_cons_succ] at h ⊢; exact killBL_mild ids nx l o q d k n cs h
end
mutual
theorem rows_killB (ids : List Nat) (nx : Nat) : ∀ v : V, rows (killB ids nx v) = rows v ∧ atoms (killB ids nx v) = atoms v
  | .ref (.box b) q' => by simp only [killB]; split <;> exact ⟨rfl, rfl⟩
  | .loc (.box b) q' => by simp only [killB]; split <;> exact ⟨rfl, rfl⟩
  | .ref (.slot b) q' | .loc (.slot b) q' => ⟨rfl, rfl⟩
  | .agg l => rowsL_killB ids nx l
  | .tup l => rowsL_killB ids nx l
  | .fn f a b => by simp only [killB, rows, atoms, (rowsL_killB ids nx a).1, (rowsL_killB ids nx b).1, (rowsL_killB ids nx a).2, (rowsL_killB ids nx b).2, and_self]
  | .dead | .int _ _ | .bool _ | .nilp | .nilf | .bptr _ _ | .ip _ _ _ | .im _ _ _ _ _ | .own _ _ _ _ => ⟨rfl, rfl⟩
theorem rowsL_killB (ids : List Nat) (nx : Nat) : ∀ l : List V, rowsL (killBL ids nx l) = rowsL l ∧ atomsL (killBL ids nx l) = atomsL l
  | [] => ⟨rfl, rfl⟩
  | v :: l => by simp only [killBL, rowsL, atomsL, (rows_killB ids nx v).1, (rowsL_killB ids nx l).1, (rows_killB ids nx v).2, (rowsL_killB ids nx l).2, and_self]
end
mutual
/-- Where nothing of a loan is in it, all is read-only for good. -/
theorem noBor_atoms : ∀ {v : V}, noBor v = true → ∀ b ∈ atoms v, (∀ pm A cap n cs, b = At.i pm A cap n cs → pm = true) ∧ (∀ pm A cs, b = At.f pm A cs → pm = true)
  | .im pm A cap n cs, h, b, hb => by
    simp only [noBor, Bool.and_eq_true] at h
    rcases List.mem_cons.1 hb with rfl | hb
    · exact ⟨fun pm' A' cap' n' cs' e => (by cases e; exact h.1), fun _ _ _ e => (by cases e)⟩
    · exact noBorL_atoms h.2 b hb
  | .ip pm A cs, h, b, hb => by
    simp only [noBor, Bool.and_eq_true] at h
    rcases List.mem_cons.1 hb with rfl | hb
    · exact ⟨fun _ _ _ _ _ e => (by cases e), fun pm' A' cs' e => (by cases e; exact h.1)⟩
    · exact noBorL_atoms h.2 b hb
  | .own d k n cs, h, b, hb => noBorL_atoms (by simpa [noBor] using h) b hb
  | .agg cs, h, b, hb => noBorL_atoms (by simpa [noBor] using h) b hb
  | .tup cs, h, b, hb => noBorL_atoms (by simpa [noBor] using h) b hb
  | .fn f l1 l2, h, b, hb => by
    simp only [noBor, Bool.and_eq_true] at h
    rcases List.mem_append.1 hb with hb | hb
    · exact noBorL_atoms h.1 b hb
    · exact noBorL_atoms h.2 b hb
  | .bptr c o, h, b, hb => by
    simp only [atoms, List.mem_singleton] at hb
    subst hb
    exact ⟨fun _ _ _ _ _ e => (by cases e), fun _ _ _ e => (by cases e)⟩
  | .dead, h, b, hb | .int _ _, h, b, hb | .bool _, h, b, hb | .nilp, h, b, hb | .nilf, h, b, hb | .ref _ _, h, b, hb | .loc _ _, h, b, hb => by simp [atoms] at hb
theorem noBorL_atoms : ∀ {l : List V}, noBorL l = true → ∀ b ∈ atomsL l, (∀ pm A cap n cs, b = At.i pm A cap n cs → pm = true) ∧ (∀ pm A cs, b = At.f pm A cs → pm = true)
  | [], h, b, hb => by simp [atomsL] at hb
  | v :: l, h, b, hb => by
    simp only [noBorL, Bool.and_eq_true] at h
    rcases List.mem_append.1 hb with hb | hb
    · exact noBor_atoms h.1 b hb
    · exact noBorL_atoms h.2 b hb
end
/-- From one surrounding to another, atom by atom. -/
theorem AtOk.move {E E' : Env} {w w' : World} {nx nx' : Nat} {K K' : Nat → Prop} {b : At} (hnx : nx ≤ nx') (hβ : E'.β = E.β)
    (hg : ∀ pm k, ((∃ A cap n cs, b = .i pm A cap n cs) ∨ ∃ A cs, b = .f pm A cs) → E.good pm k → ¬ K k → k < w.heap.size → E'.good pm k ∧ ¬ K' k ∧ w'.heap[k]? = w.heap[k]?)
    (h : AtOk E w nx K b) : AtOk E' w' nx' K' b := by
  have hF : ∀ {pm A cs}, (∀ k, E.good pm k → ¬ K k → k < w.heap.size → E'.good pm k ∧ ¬ K' k ∧ w'.heap[k]? = w.heap[k]?) → FOk E w K pm A cs → FOk E' w' K' pm A cs := by
    intro pm A cs hg h
    have hlt : cs ≠ [] → A.block < w.heap.size := by
      intro hc
      match cs, hc, h with
      | x :: l, _, h =>
        obtain ⟨u, hu, _⟩ := h.2.1 0 x rfl
        have : A.add 0 = A := rfl
        rw [this] at hu
        unfold World.cell? at hu
        split at hu
        · rename_i he; exact (Array.getElem?_eq_some_iff.1 he).1
        · cases hu
    refine ⟨h.1, fun j x hx => ?_, fun hc => ?_⟩
    · obtain ⟨u, hu, hm⟩ := h.2.1 j x hx
      have hc : cs ≠ [] := by intro e; rw [e] at hx; simp at hx
      have h2 := h.2.2 hc
      refine ⟨u, ?_, by rw [hβ]; exact hm⟩
      unfold World.cell? at hu ⊢
      rw [block_of_add] at hu ⊢
      rw [(hg A.block h2.1 h2.2 (hlt hc)).2.2]; exact hu
    · have h2 := h.2.2 hc
      have := hg A.block h2.1 h2.2 (hlt hc)
      exact ⟨this.1, this.2.1⟩
  cases b with
  | p b => exact Nat.lt_of_lt_of_le h hnx
  | i pm A cap n cs =>
    refine ⟨h.1, ?_⟩
    have h2 := h.2
    cases A with
    | none => exact h2
    | some A => exact hF (fun k => hg pm k (.inl ⟨_, _, _, _, rfl⟩)) h2
  | f pm A cs => exact hF (fun k => hg pm k (.inr ⟨_, _, rfl⟩)) h
theorem getBox_split {m : List (Nat × Box)} {ids : List Nat} {b : Nat} (h : ids.contains b = false) : getBox (othersM m ids) b = getBox m b := by
  induction m with
  | nil => rfl
  | cons x m ih =>
    obtain ⟨i, c⟩ := x
    unfold othersM at ih ⊢
    by_cases hc : ids.contains i = true
    · have hib : i ≠ b := fun e => by subst e; rw [hc] at h; cases h
      simp only [List.filter_cons, hc, Bool.not_true, Bool.false_eq_true, if_false, getBox, if_neg hib]
      exact ih
    · have hc' : ids.contains i = false := by simpa using hc
      simp only [List.filter_cons, hc', Bool.not_false, if_true, getBox]
      split
      · rfl
      · exact ih
theorem getBox_app : ∀ (m m' : List (Nat × Box)) (b : Nat), getBox (m ++ m') b = match getBox m b with | some x => some x | none => getBox m' b
  | [], m', b => rfl
  | (i, c) :: m, m', b => by
    simp only [List.cons_append, getBox]
    split
    · rfl
    · exact getBox_app m m' b
theorem getBox_none {m : List (Nat × Box)} {b : Nat} (h : ∀ e ∈ m, e.1 ≠ b) : getBox m b = none := by
  induction m with
  | nil => rfl
  | cons x m ih =>
    obtain ⟨i, c⟩ := x
    simp only [getBox, if_neg (h (i, c) List.mem_cons_self)]
    exact ih fun e he => h e (List.mem_cons_of_mem _ he)
theorem boxRows_split (p : Nat → Bool) : ∀ m : List (Nat × Box), (boxRows m).Perm (boxRows (m.filter fun e => p e.1) ++ boxRows (m.filter fun e => !p e.1))
  | [] => .refl _
  | (i, c) :: m => by
    have ih := boxRows_split p m
    by_cases hp : p i = true
    · simp only [List.filter_cons, hp, if_true, boxRows, Bool.not_true, Bool.false_eq_true, if_false]
      have h1 : (boxRow c :: (rowsL c.cs ++ boxRows m)).Perm ((boxRow c :: rowsL c.cs) ++ (boxRows (m.filter fun e => p e.1) ++ boxRows (m.filter fun e => !p e.1))) := List.Perm.append_left (boxRow c :: rowsL c.cs) ih
      refine h1.trans ?_
      rw [← List.append_assoc]; exact .refl _
    · have hp' : p i = false := by simpa using hp
      simp only [List.filter_cons, hp', if_false, boxRows, Bool.not_false, Bool.false_eq_true, if_true]
      have h1 : (boxRow c :: (rowsL c.cs ++ boxRows m)).Perm ((boxRow c :: rowsL c.cs) ++ (boxRows (m.filter fun e => p e.1) ++ boxRows (m.filter fun e => !p e.1))) := List.Perm.append_left (boxRow c :: rowsL c.cs) ih
      refine h1.trans ?_
      rw [← List.append_assoc]
      refine (List.Perm.append_right _ List.perm_append_comm).trans ?_
      rw [List.append_assoc]; exact .refl _
end Go.Abs
end
/- A call, seen from the caller: what has come back. -/
set_option linter.unusedVariables false
noncomputable section
namespace Go.Abs
open Go

def ipOnly : V → Bool
  | .ip _ _ _ => true
  | _ => false
def globs (ex : List V) : List V := ex.filter ipOnly
theorem globs_rows : ∀ ex : List V, rowsL (globs ex) = []
  | [] => rfl
  | v :: l => by
    unfold globs
    cases v <;> simp only [List.filter_cons, ipOnly, Bool.false_eq_true, if_false, if_true] <;> first
      | exact globs_rows l
      | (simp only [rowsL, rows, List.nil_append]; exact globs_rows l)
theorem globs_mem {ex : List V} {b : At} (h : b ∈ atomsL (globs ex)) : b ∈ atomsL ex := by
  obtain ⟨x, hx, hb⟩ := atomsL_mem h
  exact atoms_mem (List.mem_filter.1 hx).1 hb
theorem globs_in {H : Hint} {ex : List V} (h : ∀ g cs, H.G g = some cs → V.ip true ⟨g, 0, none⟩ cs ∈ ex) : GlobIn H (globs ex) := fun g cs hg => List.mem_filter.2 ⟨h g cs hg, rfl⟩
theorem keys_globs (m : List (Nat × Box)) (nx : Nat) (ex : List V) : keysD 0 (emptyS m nx) (globs ex) = keysOf (boxRows m) := by
  unfold keysD rowsD
  rw [slotRows_zero, globs_rows]
  simp [emptyS]
theorem keys_back (m : List (Nat × Box)) (nx : Nat) (r : V) (ex : List V) : keysD 0 (emptyS m nx) (r :: globs ex) = keysOf (boxRows m ++ rows r) := by
  unfold keysD rowsD
  rw [slotRows_zero]
  simp only [rowsL, globs_rows, List.append_nil, List.nil_append, emptyS]

def calleeEnv (E : Env) (nt : Nat) (D : St) (ex : List V) (w : World) (m' : List (Nat × Box)) (L : Bool) : Env :=
  ⟨E.β, fun k => (E.Gp k ∧ k ∉ keysD nt D ex) ∨ k ∈ keysOf (boxRows m') ∨ w.heap.size ≤ k, fun k => L = true ∨ (E.Gb k ∧ k ∉ keysD nt D ex) ∨ k ∈ keysOf (boxRows m') ∨ w.heap.size ≤ k⟩

variable {P : Program} {H : Hint} {E : Env} {nt : Nat} {D : St} {ex : List V} {w w' : World} {a : Act}

theorem RowOk.env {E' : Env} (hβ : E'.β = E.β) {e : RowE} (h : RowOk E w e) : RowOk E' w e := by
  obtain ⟨d, k, n, cs⟩ := e
  cases d with
  | nil => exact h
  | emp A => exact h
  | blk g cap kk =>
    obtain ⟨q1, q2, q3, q4, q5, cur, el, q6, q7, q8⟩ := h
    exact ⟨q1, q2, q3, q4, q5, cur, el, q6, q7, fun j x hx => by rw [hβ]; exact q8 j x hx⟩
theorem good_callee {L : Bool} {m' : List (Nat × Box)} {pm : Bool} {k : Nat} (hg : E.good pm k) (hk : k ∉ keysD nt D ex) : (calleeEnv E nt D ex w m' L).good pm k := by
  unfold Env.good at hg ⊢
  cases pm with
  | true => exact .inl ⟨by simpa using hg, hk⟩
  | false => exact .inr (.inl ⟨by simpa using hg, hk⟩)
theorem sub_keys (p : Nat → Bool) {k : Nat} (h : k ∈ keysOf (boxRows (D.m.filter fun e => p e.1))) : k ∈ keysD nt D ex := by
  obtain ⟨S, hS⟩ := boxRows_filter p D.m
  have h1 : k ∈ keysOf (boxRows D.m) := (keysOf_perm hS).mem_iff.2 (by rw [keysOf_append]; exact List.mem_append_right _ h)
  obtain ⟨e, he, hk⟩ := List.mem_filterMap.1 h1
  exact List.mem_filterMap.2 ⟨e, List.mem_append_right _ (List.mem_append_left _ he), hk⟩
/-- The callee's state at its entry. -/
theorem callee_inv (L : Bool) (p : Nat → Bool) (hI : Inv E nt D ex w) : Inv (calleeEnv E nt D ex w (D.m.filter fun e => p e.1) L) 0 (emptyS (D.m.filter fun e => p e.1) D.nx) (globs ex) w := by
  obtain ⟨S, hS⟩ := boxRows_filter p D.m
  have hmem : ∀ e ∈ rowsD 0 (emptyS (D.m.filter fun e => p e.1) D.nx) (globs ex), e ∈ rowsD nt D ex := by
    intro e he
    unfold rowsD at he
    rw [slotRows_zero, globs_rows, List.nil_append, List.append_nil] at he
    exact List.mem_append_right _ (List.mem_append_left _ (hS.mem_iff.2 (List.mem_append_right _ he)))
  have hkn : (keysOf (boxRows D.m)).Nodup := by
    have := hI.nodup
    unfold keysD rowsD at this
    rw [keysOf_append, keysOf_append] at this
    exact (List.nodup_append.1 (List.nodup_append.1 this).2.1).1
  refine ⟨fun e he => (hI.rows e (hmem e he)).env rfl, ?_, fun b hb => ?_, fun e he => ?_, filter_fst p D.m hI.ids, fun k hk => .inr (.inl (by rw [keys_globs] at hk; exact hk)), fun k hk => .inr (.inr hk), fun k hk => .inr (by
    rcases hk with ⟨h1, h2⟩ | hk
    · exact .inl ⟨hI.gpb k h1, h2⟩
    · exact .inr hk)⟩
  · rw [keys_globs]
    have := (keysOf_perm hS).nodup_iff.1 hkn
    rw [keysOf_append] at this
    exact (List.nodup_append.1 this).2.1
  · have hb' : b ∈ atomsD nt D ex := by
      unfold atomsD at hb ⊢
      rcases List.mem_append.1 hb with hb | hb
      · simp [slotAtoms] at hb
      · refine List.mem_append_right _ ?_
        rcases List.mem_append.1 hb with hb | hb
        · exact List.mem_append_left _ (boxAtoms_filter p hb)
        · exact List.mem_append_right _ (globs_mem hb)
    refine AtOk.move (E := E) (K := fun k => k ∈ keysD nt D ex) (Nat.le_refl _) rfl (fun pm k _ hg hk _ => ⟨good_callee hg hk, fun h => hk ?_, rfl⟩) (hI.atoms b hb')
    rw [keys_globs] at h
    exact sub_keys p h
  · have h1 := List.mem_filter.1 he
    exact hI.boxes e h1.1

theorem perm_five {α : Type} (a b c d e : List α) : (a ++ ((b ++ c) ++ (d ++ e))).Perm ((a ++ (b ++ e)) ++ (c ++ d)) := by
  rw [List.append_assoc a, List.append_assoc b, List.append_assoc b]
  refine List.Perm.append_left a (List.Perm.append_left b ?_)
  rw [← List.append_assoc c]
  exact List.perm_append_comm

/-- WHAT HAS COME BACK. -/
theorem back_core {L : Bool} {ids : List Nat} {E' : Env} {r' : V} {mm : List (Nat × Box)} {nx2 : Nat} {s' : Nat → V} (hI : Inv E nt D ex w) (hS : SlotsOk E nt D a)
    (hB : Inv E' 0 (emptyS mm nx2) (r' :: globs ex) w') (hT : To (calleeEnv E nt D ex w (D.m.filter fun e => ids.contains e.1) L) 0 (emptyS (D.m.filter fun e => ids.contains e.1) D.nx) (globs ex) w E' (emptyS mm nx2) (r' :: globs ex) w')
    (hL : L = true → noBor r' = true ∧ (mm.all fun e => noBorL e.2.cs) = true) (hmm : ∀ e ∈ mm, ids.contains e.1 = true ∨ D.nx ≤ e.1)
    (hs : ∀ t, rows (s' t) = rows (D.s t) ∧ atoms (s' t) = atoms (D.s t)) (hpr : ∀ t u, PR E'.β D (D.s t) u → PR E'.β ⟨s', othersM D.m ids ++ mm, nx2⟩ (s' t) u) (hdead : ∀ t, D.s t = .dead → s' t = .dead) :
    Inv (E.at E'.β) nt ⟨s', othersM D.m ids ++ mm, nx2⟩ (r' :: ex) w' ∧ SlotsOk (E.at E'.β) nt ⟨s', othersM D.m ids ++ mm, nx2⟩ a ∧ To E nt D ex w (E.at E'.β) ⟨s', othersM D.m ids ++ mm, nx2⟩ (r' :: ex) w' := by
  obtain ⟨m', hm'⟩ : ∃ m', m' = D.m.filter fun e => ids.contains e.1 := ⟨_, rfl⟩
  rw [← hm'] at hT
  have hbeta : ∀ b, b < D.nx → E'.β b = E.β b := fun b hb => hT.beta b hb
  have hI2 : Inv (E.at E'.β) nt D ex w := hI.beta hbeta
  have hslot : slotRows nt s' = slotRows nt D.s := by unfold slotRows; congr 1; funext t; exact (hs t).1
  obtain ⟨A, hA⟩ : ∃ A, A = slotRows nt D.s ++ (boxRows (othersM D.m ids) ++ rowsL ex) := ⟨_, rfl⟩
  have hsplit : (boxRows D.m).Perm (boxRows (othersM D.m ids) ++ boxRows m') := by
    rw [hm']; exact (boxRows_split (fun i => ids.contains i) D.m).trans List.perm_append_comm
  have hpA : (rowsD nt D ex).Perm (A ++ boxRows m') := by
    rw [hA]
    unfold rowsD
    refine (List.Perm.append_left _ (List.Perm.append_right _ hsplit)).trans ?_
    have := perm_five (slotRows nt D.s) (boxRows (othersM D.m ids)) (boxRows m') [] (rowsL ex)
    simpa using this
  have hp2 : (rowsD nt ⟨s', othersM D.m ids ++ mm, nx2⟩ (r' :: ex)).Perm (A ++ (boxRows mm ++ rows r')) := by
    rw [hA]
    unfold rowsD
    simp only [rowsL, hslot, boxRows_append]
    exact perm_five _ _ _ _ _
  have hn := (keysOf_perm hpA).nodup_iff.1 hI.nodup
  rw [keysOf_append] at hn
  have hAK : ∀ k, k ∈ keysOf A → k ∈ keysD nt D ex ∧ k ∉ keysOf (boxRows m') ∧ k < w.heap.size := by
    intro k hk
    have h1 : k ∈ keysD nt D ex := (keysOf_perm hpA).mem_iff.2 (by rw [keysOf_append]; exact List.mem_append_left _ hk)
    exact ⟨h1, fun h2 => (List.nodup_append.1 hn).2.2 k hk k h2 rfl, hI.key_lt h1⟩
  have hm'K : ∀ k, k ∈ keysOf (boxRows m') → k ∈ keysD nt D ex := fun k hk => (keysOf_perm hpA).mem_iff.2 (by rw [keysOf_append]; exact List.mem_append_right _ hk)
  have hBK : ∀ k, k ∈ keysOf (boxRows mm ++ rows r') → k ∈ keysOf (boxRows m') ∨ w.heap.size ≤ k := by
    intro k hk
    have := hT.keys k (by rw [keys_back]; exact hk)
    rw [keys_globs] at this
    exact this
  have hsame : ∀ k, k < w.heap.size → k ∉ keysOf (boxRows m') → w'.heap[k]? = w.heap[k]? := fun k hk hn => hT.same k hk (by rw [keys_globs]; exact hn)
  have hK2 : ∀ k, k ∈ keysD nt ⟨s', othersM D.m ids ++ mm, nx2⟩ (r' :: ex) ↔ k ∈ keysOf A ∨ k ∈ keysOf (boxRows mm ++ rows r') := by
    intro k
    unfold keysD
    rw [(keysOf_perm hp2).mem_iff, keysOf_append, List.mem_append]
  -- atoms of the caller's
  have hold : ∀ b, b ∈ atomsD nt D ex → AtOk (E.at E'.β) w' nx2 (fun k => k ∈ keysD nt ⟨s', othersM D.m ids ++ mm, nx2⟩ (r' :: ex)) b := by
    intro b hb
    refine AtOk.move (E := E.at E'.β) (K := fun k => k ∈ keysD nt D ex) (w := w) hT.nx rfl (fun pm k _ hg hk hlt => ⟨hg, fun h => ?_, hsame k hlt fun h => hk (hm'K k h)⟩) (hI2.atoms b hb)
    rcases (hK2 k).1 h with h | h
    · exact hk (hAK k h).1
    · rcases hBK k h with h | h
      · exact hk (hm'K k h)
      · omega
  -- atoms of what has come back
  have hnew : ∀ b, b ∈ atomsD 0 (emptyS mm nx2) (r' :: globs ex) → (b ∈ boxAtoms mm ∨ b ∈ atoms r') → AtOk (E.at E'.β) w' nx2 (fun k => k ∈ keysD nt ⟨s', othersM D.m ids ++ mm, nx2⟩ (r' :: ex)) b := by
    intro b hb hb2
    refine AtOk.move (E := E') (K := fun k => k ∈ keysD 0 (emptyS mm nx2) (r' :: globs ex)) (w := w') (Nat.le_refl _) rfl (fun pm k hbk hg hk hlt => ?_) (hB.atoms b hb)
    have hkB : k ∉ keysOf (boxRows mm ++ rows r') := by rw [keys_back] at hk; exact hk
    -- what the callee may lean on
    have hgood : ((E.good pm k ∧ k ∉ keysD nt D ex) ∨ k ∈ keysOf (boxRows m') ∨ w.heap.size ≤ k) := by
      unfold Env.good at hg
      rw [hT.gp, hT.gb] at hg
      cases pm with
      | true =>
        simp only [if_true, calleeEnv] at hg
        exact hg.imp (fun h => ⟨by unfold Env.good; simpa using h.1, h.2⟩) id
      | false =>
        simp only [Bool.false_eq_true, if_false, calleeEnv] at hg
        rcases hg with hg | hg
        · exfalso
          obtain ⟨h1, h2⟩ := hL hg
          have h3 : ∀ pm', ((∃ A cap n cs, b = .i pm' A cap n cs) ∨ ∃ A cs, b = .f pm' A cs) → pm' = true := by
            have h4 : (∀ pm A cap n cs, b = At.i pm A cap n cs → pm = true) ∧ (∀ pm A cs, b = At.f pm A cs → pm = true) := by
              rcases hb2 with hb2 | hb2
              · obtain ⟨e, he, hb3⟩ := boxAtoms_ex hb2
                rw [List.all_eq_true] at h2
                exact noBorL_atoms (h2 e he) b hb3
              · exact noBor_atoms h1 b hb2
            rintro pm' (⟨A, cap, n, cs, e⟩ | ⟨A, cs, e⟩)
            · exact h4.1 _ _ _ _ _ e
            · exact h4.2 _ _ _ e
          have := h3 false hbk
          cases this
        · exact hg.imp (fun h => ⟨by unfold Env.good; simpa using h.1, h.2⟩) id
    refine ⟨?_, fun h => ?_, rfl⟩
    · have hGp : ∀ k, E.Gp k → (E.at E'.β).good pm k := by
        intro k h
        unfold Env.good
        split
        · exact h
        · exact hI.gpb k h
      rcases hgood with ⟨h, _⟩ | h | h
      · exact h
      · exact hGp k (hI.keysG k (hm'K k h))
      · exact hGp k (hI.newG k h)
    · rcases (hK2 k).1 h with h | h
      · have h1 := hAK k h
        rcases hgood with ⟨_, h2⟩ | h2 | h2
        · exact h2 h1.1
        · exact h1.2.1 h2
        · omega
      · exact hkB h
  refine ⟨⟨fun e he => ?_, ?_, fun b hb => ?_, fun e he => ?_, ?_, fun k hk => ?_, fun k hk => hI.newG k (Nat.le_trans hT.size hk), hI.gpb⟩, ⟨hS.size, hS.defers, fun t => hpr t _ ((hS.beta hI hbeta).slot t), fun t ht => hdead t (hS.high t ht)⟩,
    ⟨hbeta, rfl, rfl, hT.nx, hT.size, fun k hk => ?_, fun k hk hn => hsame k hk fun h => hn (hm'K k h), hT.os, hT.tape, hT.out⟩⟩
  · rcases List.mem_append.1 (hp2.mem_iff.1 he) with he | he
    · refine (hI2.rows e (hpA.mem_iff.2 (List.mem_append_left _ he))).ext fun g hg => ?_
      have := hAK g (List.mem_filterMap.2 ⟨e, he, hg⟩)
      exact hsame g this.2.2 this.2.1
    · refine RowOk.env (E := E') rfl (hB.rows e ?_)
      unfold rowsD
      simp only [rowsL, globs_rows, List.append_nil, slotRows_zero, List.nil_append, emptyS]
      exact he
  · unfold keysD
    rw [(keysOf_perm hp2).nodup_iff, keysOf_append, List.nodup_append]
    refine ⟨(List.nodup_append.1 hn).1, ?_, fun k hk k' hk' e => ?_⟩
    · have := hB.nodup; rw [keys_back] at this; exact this
    · subst e
      have h1 := hAK k hk
      rcases hBK k hk' with h | h
      · exact h1.2.1 h
      · omega
  · unfold atomsD at hb
    rcases List.mem_append.1 hb with hb | hb
    · refine hold b ?_
      obtain ⟨t, ht, hb⟩ := List.mem_flatMap.1 hb
      rw [(hs t).2] at hb
      exact List.mem_append_left _ (List.mem_flatMap.2 ⟨t, ht, hb⟩)
    · rcases List.mem_append.1 hb with hb | hb
      · rw [boxAtoms_append] at hb
        rcases List.mem_append.1 hb with hb | hb
        · exact hold b (List.mem_append_right _ (List.mem_append_left _ (boxAtoms_filter (fun i => !ids.contains i) hb)))
        · exact hnew b (List.mem_append_right _ (List.mem_append_left _ hb)) (.inl hb)
      · rcases List.mem_append.1 hb with hb | hb
        · exact hnew b (List.mem_append_right _ (List.mem_append_right _ (List.mem_append_left _ hb))) (.inr hb)
        · exact hold b (List.mem_append_right _ (List.mem_append_right _ hb))
  · rcases List.mem_append.1 he with he | he
    · have h1 := hI2.boxes e (List.mem_filter.1 he).1
      exact ⟨h1.1, Nat.lt_of_lt_of_le h1.2 hT.nx⟩
    · exact hB.boxes e he
  · rw [List.map_append, List.nodup_append]
    refine ⟨filter_fst (fun i => !ids.contains i) D.m hI.ids, hB.ids, fun i hi j hj e => ?_⟩
    subst e
    obtain ⟨e1, he1, rfl⟩ := List.mem_map.1 hi
    obtain ⟨e2, he2, h3⟩ := List.mem_map.1 hj
    have h1 := List.mem_filter.1 he1
    have h2 := (hI.boxes e1 h1.1).2
    rcases hmm e2 he2 with h4 | h4
    · rw [h3] at h4; rw [h4] at h1; simp at h1
    · omega
  · rcases (hK2 k).1 hk with h | h
    · exact hI.keysG k (hAK k h).1
    · rcases hBK k h with h | h
      · exact hI.keysG k (hm'K k h)
      · exact hI.newG k h
  · rcases (hK2 k).1 hk with h | h
    · exact .inl (hAK k h).1
    · rcases hBK k h with h | h
      · exact .inl (hm'K k h)
      · exact .inr h
end Go.Abs
end
