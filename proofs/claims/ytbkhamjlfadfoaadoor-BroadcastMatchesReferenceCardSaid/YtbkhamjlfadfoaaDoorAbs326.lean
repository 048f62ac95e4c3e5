/- Joined: AbsPNYG AbsPNYH AbsPNYI. -/
import Derived.Test.YtbkhamjlfadfoaaDoorAbs310
import Derived.Test.YtbkhamjlfadfoaaDoorAbs325
set_option linter.all false
set_option maxHeartbeats 16000000
noncomputable section
namespace Go.Abs
open Go Go.Proofs
set_option maxRecDepth 100000
theorem frzL_evsC2 (b : Bool) (es : List Ev) : frzL false (frzL b (evsC es)) = evsC (es.map lentE) := by
 induction es with
 | nil => rfl
 | cons e l ih =>
   show frz false (frz b (.int .i64 e.round)) :: frz false (frz b (.int .i64 e.frm)) :: frz false (frz b (rV e.w)) :: frzL false (frzL b (evsC l)) = .int .i64 e.round :: .int .i64 e.frm :: rV (lent e.w) :: evsC (l.map lentE)
   rw [ih]; simp [rV, frz, lent]
theorem evOf_K {k : Int} {j f : Nat} {W W' : Nat → RD} (h : (W f).l = (W' f).l) : (evOf k j W f).map evK = (evOf k j W' f).map evK := by
 unfold evOf
 rw [h]
 split
 ·simp [evK, h]
 ·rfl
theorem flat_K {k : Int} {j : Nat} {W W' : Nat → RD} : ∀ c, (∀ f, f < c → (W f).l = (W' f).l) → ((List.range c).flatMap (evOf k j W)).map evK = ((List.range c).flatMap (evOf k j W')).map evK
 | 0, _ => rfl
 | c + 1, h => by
   rw [List.range_succ, List.flatMap_append, List.flatMap_append, List.map_append, List.map_append, flat_K c fun f hf => h f (by omega)]
   simp only [List.flatMap_cons, List.flatMap_nil, List.append_nil]
   rw [evOf_K (h c (by omega))]
theorem sw_at2 {S : List (List (List Nat))} {f w : Nat} : sw S f w = (at2 S f w).getD [] := rfl
def Alike (n : Nat) (Q : Nat → Prop) (σ τ : NetS) : Prop := ∀ w, w < n → Q w → ∃ v u, σ.views[w]? = some v ∧ τ.views[w]? = some u ∧ v.map evK = u.map evK
theorem alike_sent {n : Nat} {Q : Nat → Prop} {σ τ : NetS} (h : Alike n Q σ τ) (hr : τ.round = σ.round) (cp cp' : List Nat → RD) (hcp : ∀ l, (cp l).l = (cp' l).l) {S S' : List (List (List Nat))} (hS : ∀ f w, f < n → w < n → Q w → sw S f w = sw S' f w) : Alike n Q (sentS cp S n σ) (sentS cp' S' n τ) := by
 intro w hw hq
 obtain ⟨v, u, hv, hu, hk⟩ := h w hw hq
 refine ⟨v ++ (List.range n).flatMap (evOf σ.round w fun f => cp (sw S f w)), u ++ (List.range n).flatMap (evOf τ.round w fun f => cp' (sw S' f w)), ?_, ?_, ?_⟩
 ·show (hearAll _ n n σ).views[w]? = _
  rw [views_hearAll, hv]; simp only [if_pos hw, Option.map_some]
 ·show (hearAll _ n n τ).views[w]? = _
  rw [views_hearAll, hu]; simp only [if_pos hw, Option.map_some]
 ·rw [List.map_append, List.map_append, hk, hr]
  congr 1
  exact flat_K n fun f hf => by rw [hS f w hf hw hq]; exact hcp _
section
variable {nx b1 b2 x : Nat} {tp1 tp2 : List Nat} {c c' : Box} {O tb1 tb2 : List (Nat × Box)} {σ σ' τ τ' : NetS}
variable {P : Program} {H : Hint} {f k N : Nat} {xs : List V} {r : V}
end
section
variable {nx b1 b2 x : Nat} {tp1 tp2 : List Nat} {c c' c2 : Box} {O O1 O2 tb1 tb2 : List (Nat × Box)} {σ σ' τ τ' : NetS}
theorem getBox_skip {t : Nat} {M : List (Nat × Box)} : ∀ {N : List (Nat × Box)}, (∀ e ∈ N, e.1 ≠ t) → getBox (N ++ M) t = getBox M t
 | [], _ => rfl
 | (i, d) :: N, h => by
   have hi : ¬ i = t := h (i, d) List.mem_cons_self
   show (if i = t then some d else getBox (N ++ M) t) = getBox M t
   rw [if_neg hi]
   exact getBox_skip fun e he => h e (List.mem_cons_of_mem _ he)
theorem setBox_skip {t : Nat} {M : List (Nat × Box)} : ∀ {N : List (Nat × Box)}, (∀ e ∈ N, e.1 ≠ t) → setBox (N ++ M) t c' = N ++ setBox M t c'
 | [], _ => rfl
 | (i, d) :: N, h => by
   have hi : ¬ i = t := h (i, d) List.mem_cons_self
   show (if i = t then (i, c') :: (N ++ M) else (i, d) :: setBox (N ++ M) t c') = (i, d) :: (N ++ setBox M t c')
   rw [if_neg hi, setBox_skip fun e he => h e (List.mem_cons_of_mem _ he)]
variable {P : Program} {H : Hint} {f k N : Nat} {xs : List V} {r : V}
end
def VW (σ : NetS) : Prop := ∀ v ∈ σ.views, ∀ e ∈ v, e.w.l.length ≤ 1000
theorem vw_evOf {rd : Int} {w : Nat} {W : Nat → RD} (hW : ∀ f, (W f).l.length ≤ 1000) (k : Nat) : ∀ e ∈ (List.range k).flatMap (evOf rd w W), e.w.l.length ≤ 1000 := fun e he => by
 obtain ⟨f, _, hf⟩ := List.mem_flatMap.1 he
 unfold evOf at hf
 split at hf
 ·rw [List.mem_singleton] at hf; subst hf; exact hW f
 ·cases hf
theorem VW.sent {n : Nat} {σ : NetS} (h : VW σ) (cp : List Nat → RD) (hcp : ∀ l, (cp l).l = l) {S : List (List (List Nat))} (hS : ∀ f w, (sw S f w).length ≤ 1000) : VW (sentS cp S n σ) := by
 intro v hv e he
 obtain ⟨i, hi⟩ := List.getElem?_of_mem hv
 have hi2 : (hearAll (fun w f => cp (sw S f w)) n n σ).views[i]? = some v := hi
 rw [views_hearAll] at hi2
 cases hu : σ.views[i]? with
 | none => rw [hu] at hi2; cases hi2
 | some u =>
   rw [hu, Option.map_some] at hi2
   have := Option.some.inj hi2
   subst this
   split at he
   ·rcases List.mem_append.1 he with he | he
    ·exact h u (List.mem_of_getElem? hu) e he
    ·exact vw_evOf (fun f => by rw [hcp]; exact hS f i) n e he
   ·exact h u (List.mem_of_getElem? hu) e he
theorem sw_le {p n : Nat} {S : List (List (List Nat))} (h : MsOk p n S) (f w : Nat) : (sw S f w).length ≤ 1000 := by
 unfold sw
 cases hq : S[f]? with
 | none => simp
 | some r =>
   cases hz : r[w]? with
   | none => simp [hz]
   | some l =>
     simp only [Option.getD_some, hz]
     exact ((h.2 r (List.mem_of_getElem? hq)).2 l (List.mem_of_getElem? hz)).1
theorem pq_pos {p q : Nat} (hq : (p, q) ∈ pq7) : 0 < p := by
 obtain ⟨hp1, hq1, hq2⟩ := pq_facts hq
 have : 2 ^ 5 ≤ 2 ^ q := Nat.pow_le_pow_right (by omega) hq1
 omega
theorem NetI.said_ok {N b n : Nat} {σ : NetS} {tb : List (Nat × Box)} (I : NetI N b σ tb) {out : List (List (List Nat))} (h : MsOk σ.scn.p n out) : MsOk σ.scn.p n (netSaid σ n out) := by
 obtain ⟨q, hq⟩ := I.hp
 exact msg_ok (pq_pos hq) h
theorem vw_net0 (s : Scn) (nx i : Nat) : VW (net0 s nx i) := fun v hv e he => by
 have : v = [] := (List.mem_replicate.1 (show v ∈ List.replicate s.n.toNat [] from hv)).2
 subst this; cases he
theorem frzL_map (b : Bool) : ∀ l : List V, frzL b l = l.map (frz b)
 | [] => rfl
 | v :: l => by show frz b v :: frzL b l = frz b v :: l.map (frz b); rw [frzL_map b l]
theorem drawT_ex {P : Program} {H : Hint} {C : Callee} {ops : Array Oper} {fz mu : Nat → Bool} {T : Pl} {D : St} {Q : St → Prop} (h : ∃ f m y, (∀ p ∈ paths T, optE (evDraw P H C ops fz mu p D) (IsSt f m y)) ∧ Q ⟨f, m, y⟩) : optE (evDrawT P H C ops fz mu T D) Q := by
 obtain ⟨f, m, y, h1, h2⟩ := h
 refine optE_mono (IsSt f m y) (tree_all _ IsSt.sm _ _ h1) fun D2 ⟨z1, z2, z3⟩ => ?_
 have : D2 = ⟨f, m, y⟩ := by
  obtain ⟨s, m', y'⟩ := D2
  simp only at z1 z2 z3
  subst z2 z3
  have : s = f := funext z1
  rw [this]
 rw [this]
 exact h2
end Go.Abs
end
