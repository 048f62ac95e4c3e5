/- Joined: AbsPNYG AbsPNYH AbsPNYI. -/
import Derived.Test.YtbkhamjlfadfoaaDoorAbs10
import Derived.Test.YtbkhamjlfadfoaaDoorAbs145
set_option linter.all false
set_option linter.unusedVariables false
noncomputable section
namespace Go.Abs
open Go Go.Proofs
set_option maxRecDepth 100000
theorem sw_at2 {S : List (List (List Nat))} {f w : Nat} : sw S f w = (at2 S f w).getD [] := rfl
end Go.Abs
end
set_option linter.unusedVariables false
noncomputable section
namespace Go.Abs
open Go Go.Proofs
set_option maxRecDepth 100000
structure Two (nx b1 b2 : Nat) (tp1 tp2 : List Nat) (c : Box) (O : List (Nat × Box)) (x : Nat) : Prop where
  g : getBox O nx = some c
  o : ∀ e ∈ O, nx ≤ e.1 ∧ e.1 < x ∧ e.1 ∉ b1 :: tp1 ∧ e.1 ∉ b2 :: tp2
  t1 : ∀ y ∈ b1 :: tp1, nx ≤ y ∧ y < x ∧ y ∉ b2 :: tp2
  t2 : ∀ y ∈ b2 :: tp2, nx ≤ y ∧ y < x
section
variable {nx b1 b2 x : Nat} {tp1 tp2 : List Nat} {c c' : Box} {O tb1 tb2 : List (Nat × Box)} {σ σ' τ τ' : NetS}
theorem Two.add (h : Two nx b1 b2 tp1 tp2 c O x) : Two nx b1 b2 tp1 tp2 c (O ++ [(x, c')]) (x + 1) := by
  refine ⟨getBox_app_old h.g, fun e he => ?_, fun y hy => ?_, fun y hy => ?_⟩
  · rcases List.mem_append.1 he with he | he
    · obtain ⟨h1, h2, h3, h4⟩ := h.o e he; exact ⟨h1, by omega, h3, h4⟩
    · rw [List.mem_singleton] at he
      subst he
      obtain ⟨h1, h2, _⟩ := h.t1 b1 List.mem_cons_self
      exact ⟨by show nx ≤ x; omega, by show x < x + 1; omega, fun hx => absurd (h.t1 _ hx).2.1 (Nat.lt_irrefl _), fun hx => absurd (h.t2 _ hx).2 (Nat.lt_irrefl _)⟩
  · obtain ⟨h1, h2, h3⟩ := h.t1 y hy; exact ⟨h1, by omega, h3⟩
  · obtain ⟨h1, h2⟩ := h.t2 y hy; exact ⟨h1, by omega⟩
theorem Two.mem (h : Two nx b1 b2 σ.tp τ.tp c O x) (hT1 : TB b1 σ.tp tb1) (hT2 : TB b2 τ.tp tb2) : ∀ e ∈ O ++ ((b1, (⟨0, netC σ⟩ : Box)) :: tb1) ++ ((b2, ⟨0, netC τ⟩) :: tb2), nx ≤ e.1 ∧ e.1 < x := fun e he => by
  rcases List.mem_append.1 he with he | he
  · rcases List.mem_append.1 he with he | he
    · exact ⟨(h.o e he).1, (h.o e he).2.1⟩
    · have := h.t1 _ (net_keys hT1 e he); exact ⟨this.1, this.2.1⟩
  · exact h.t2 _ (net_keys hT2 e he)
variable {P : Program} {H : Hint} {f k N : Nat} {xs : List V} {r : V}
end
end Go.Abs
end
set_option linter.unusedVariables false
noncomputable section
namespace Go.Abs
open Go Go.Proofs
set_option maxRecDepth 100000
section
variable {nx b1 b2 x : Nat} {tp1 tp2 : List Nat} {c c' c2 : Box} {O O1 O2 tb1 tb2 : List (Nat × Box)} {σ σ' τ τ' : NetS}
theorem getBox_skip {t : Nat} {M : List (Nat × Box)} : ∀ {N : List (Nat × Box)}, (∀ e ∈ N, e.1 ≠ t) → getBox (N ++ M) t = getBox M t
  | [], _ => rfl
  | (i, d) :: N, h => by
    have hi : ¬ i = t := h (i, d) List.mem_cons_self
    show (if i = t then some d else getBox (N ++ M) t) = getBox M t
    rw [if_neg hi]
    exact getBox_skip fun e he => h e (List.mem_cons_of_mem _ he)
theorem setBox_skip {t : Nat} {M : List (Nat × Box)} : ∀ {N : List (Nat × Box)}, (∀ e ∈ N, e.1 ≠ t) → setBox (N ++ M) t c' = N ++ setBox M t c'
  | [], _ => rfl
  | (i, d) :: N, h => by
    have hi : ¬ i = t := h (i, d) List.mem_cons_self
    show (if i = t then (i, c') :: (N ++ M) else (i, d) :: setBox (N ++ M) t c') = (i, d) :: (N ++ setBox M t c')
    rw [if_neg hi, setBox_skip fun e he => h e (List.mem_cons_of_mem _ he)]
variable {P : Program} {H : Hint} {f k N : Nat} {xs : List V} {r : V}
end
def VW (σ : NetS) : Prop := ∀ v ∈ σ.views, ∀ e ∈ v, e.w.l.length ≤ 1000
theorem vw_evOf {rd : Int} {w : Nat} {W : Nat → RD} (hW : ∀ f, (W f).l.length ≤ 1000) (k : Nat) : ∀ e ∈ (List.range k).flatMap (evOf rd w W), e.w.l.length ≤ 1000 := fun e he => by
  obtain ⟨f, _, hf⟩ := List.mem_flatMap.1 he
  unfold evOf at hf
  split at hf
  · rw [List.mem_singleton] at hf; subst hf; exact hW f
  · cases hf
theorem VW.sent {n : Nat} {σ : NetS} (h : VW σ) (cp : List Nat → RD) (hcp : ∀ l, (cp l).l = l) {S : List (List (List Nat))} (hS : ∀ f w, (sw S f w).length ≤ 1000) : VW (sentS cp S n σ) := by
  intro v hv e he
  obtain ⟨i, hi⟩ := List.getElem?_of_mem hv
  have hi2 : (hearAll (fun w f => cp (sw S f w)) n n σ).views[i]? = some v := hi
  rw [views_hearAll] at hi2
  cases hu : σ.views[i]? with
  | none => rw [hu] at hi2; cases hi2
  | some u =>
    rw [hu, Option.map_some] at hi2
    have := Option.some.inj hi2
    subst this
    split at he
    · rcases List.mem_append.1 he with he | he
      · exact h u (List.mem_of_getElem? hu) e he
      · exact vw_evOf (fun f => by rw [hcp]; exact hS f i) n e he
    · exact h u (List.mem_of_getElem? hu) e he
theorem VW.cast {n : Nat} {σ : NetS} (h : VW σ) (cp : List Nat → RD) (hcp : ∀ l, (cp l).l = l) {L : List (List Nat)} (hL : ∀ l ∈ L, l.length ≤ 1000) : VW (castS cp L n σ) := by
  intro v hv e he
  obtain ⟨i, hi⟩ := List.getElem?_of_mem hv
  have hi2 : (hearB (fun f => cp (L[f]?.getD [])) n n σ).views[i]? = some v := hi
  rw [views_hearB] at hi2
  cases hu : σ.views[i]? with
  | none => rw [hu] at hi2; cases hi2
  | some u =>
    rw [hu, Option.map_some] at hi2
    have := Option.some.inj hi2
    subst this
    split at he
    · rcases List.mem_append.1 he with he | he
      · exact h u (List.mem_of_getElem? hu) e he
      · refine vw_evOf (fun f => ?_) n e he
        rw [hcp]
        cases hq : L[f]? with
        | none => simp
        | some l => exact hL l (List.mem_of_getElem? hq)
    · exact h u (List.mem_of_getElem? hu) e he
theorem pq_pos {p q : Nat} (hq : (p, q) ∈ pq7) : 0 < p := by
  obtain ⟨hp1, hq1, hq2⟩ := pq_facts hq
  have : 2 ^ 5 ≤ 2 ^ q := Nat.pow_le_pow_right (by omega) hq1
  omega
theorem NetI.said_ok {N b n : Nat} {σ : NetS} {tb : List (Nat × Box)} (I : NetI N b σ tb) {out : List (List (List Nat))} (h : MsOk σ.scn.p n out) : MsOk σ.scn.p n (netSaid σ n out) := by
  obtain ⟨q, hq⟩ := I.hp
  exact msg_ok (pq_pos hq) h
theorem drawT_ex {P : Program} {H : Hint} {C : Callee} {ops : Array Oper} {fz mu : Nat → Bool} {T : Pl} {D : St} {Q : St → Prop} (h : ∃ f m y, (∀ p ∈ paths T, optE (evDraw P H C ops fz mu p D) (IsSt f m y)) ∧ Q ⟨f, m, y⟩) : optE (evDrawT P H C ops fz mu T D) Q := by
  obtain ⟨f, m, y, h1, h2⟩ := h
  refine optE_mono (IsSt f m y) (tree_all _ IsSt.sm _ _ h1) fun D2 ⟨z1, z2, z3⟩ => ?_
  have : D2 = ⟨f, m, y⟩ := by
    obtain ⟨s, m', y'⟩ := D2
    simp only at z1 z2 z3
    subst z2 z3
    have : s = f := funext z1
    rw [this]
  rw [this]
  exact h2
end Go.Abs
end
