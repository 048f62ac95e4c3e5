/- Joined: AbsNYG. -/
import Derived.Test.YtjdgcblikhkioaaDoorAbs23
set_option linter.all false
/- The seat of privitylaw14: what the views of two networks, or a view and what was sent, have in common. -/
set_option linter.unusedVariables false
noncomputable section
namespace Go.Abs
open Go Go.Proofs
set_option maxRecDepth 100000
theorem set_same8 {α : Type} {l : List α} {i : Nat} {a : α} (h : l[i]? = some a) : l.set i a = l := by
  apply List.ext_getElem?
  intro j
  rw [List.getElem?_set]
  by_cases hij : i = j
  · subst hij
    have := (List.getElem?_eq_some_iff.1 h).1
    rw [if_pos rfl, if_pos this, h]
  · rw [if_neg hij]
/-- What party j is sent by f in a round. -/
def rowOf (r : RSp) (f j : Nat) : RD := if r.cast then (firsts r.ms)[f]?.getD ⟨false, none, 0, []⟩ else ((r.ms[f]?.map fun m => m.l[j]?.getD ⟨false, none, 0, []⟩).getD ⟨false, none, 0, []⟩)
def evsOf (k : Int) (r : RSp) (j c : Nat) : List Ev := (List.range c).flatMap (evOf k j fun f => rowOf r f j)
theorem evsOf_succ (k : Int) (r : RSp) (j c : Nat) : evsOf k r j (c + 1) = evsOf k r j c ++ evOf k j (fun f => rowOf r f j) c := by
  unfold evsOf; rw [List.range_succ, List.flatMap_append]; simp
theorem rowOf_le {p : Nat} {n : Int} {r : RSp} (h : RoundOk p n r) (f j : Nat) : (rowOf r f j).l.length ≤ 8 := by
  unfold rowOf
  split
  · cases hq : (firsts r.ms)[f]? with
    | none => simp
    | some w =>
      obtain ⟨m, hm, rfl⟩ := List.mem_map.1 (List.mem_of_getElem? hq)
      rw [Option.getD_some]
      cases hz : m.l[0]? with
      | none => simp
      | some y => rw [Option.getD_some]; exact ((h.2 m hm).2 y (List.mem_of_getElem? hz)).1
  · cases hq : r.ms[f]? with
    | none => simp
    | some m =>
      rw [Option.map_some, Option.getD_some]
      cases hz : m.l[j]? with
      | none => simp
      | some y => rw [Option.getD_some]; exact ((h.2 m (List.mem_of_getElem? hq)).2 y (List.mem_of_getElem? hz)).1
theorem evsOf_le {p : Nat} {n : Int} {r : RSp} (h : RoundOk p n r) (k : Int) (j c : Nat) : ∀ e ∈ evsOf k r j c, e.w.l.length ≤ 8 := fun e he => by
  obtain ⟨f, _, hf⟩ := List.mem_flatMap.1 he
  unfold evOf at hf
  split at hf
  · rw [List.mem_singleton] at hf; subst hf; exact rowOf_le h f j
  · cases hf
theorem frzL_evsC2 (b : Bool) (es : List Ev) : frzL false (frzL b (evsC es)) = evsC (es.map lentE) := by
  induction es with
  | nil => rfl
  | cons e l ih =>
    show frz false (frz b (.int .i64 e.round)) :: frz false (frz b (.int .i64 e.frm)) :: frz false (frz b (rV e.w)) :: frzL false (frzL b (evsC l)) = .int .i64 e.round :: .int .i64 e.frm :: rV (lent e.w) :: evsC (l.map lentE)
    rw [ih]; simp [rV, frz, lent]
theorem evsOf_length (k : Int) (r : RSp) (j : Nat) : ∀ c, (evsOf k r j c).length ≤ c
  | 0 => by simp [evsOf]
  | c + 1 => by
    rw [evsOf_succ, List.length_append]
    have := evsOf_length k r j c
    have : (evOf k j (fun f => rowOf r f j) c).length ≤ 1 := by unfold evOf; split <;> simp
    omega
theorem evOf_K {k : Int} {j f : Nat} {W W' : Nat → RD} (h : (W f).l = (W' f).l) : (evOf k j W f).map evK = (evOf k j W' f).map evK := by
  unfold evOf
  rw [h]
  split
  · simp [evK, h]
  · rfl
theorem flat_K {k : Int} {j : Nat} {W W' : Nat → RD} : ∀ c, (∀ f, f < c → (W f).l = (W' f).l) → ((List.range c).flatMap (evOf k j W)).map evK = ((List.range c).flatMap (evOf k j W')).map evK
  | 0, _ => rfl
  | c + 1, h => by
    rw [List.range_succ, List.flatMap_append, List.flatMap_append, List.map_append, List.map_append, flat_K c fun f hf => h f (by omega)]
    simp only [List.flatMap_cons, List.flatMap_nil, List.append_nil]
    rw [evOf_K (h c (by omega))]
/-- Without deviations a round adds what is sent. -/
theorem round_K (n : Nat) (σ : NetS) (r : RSp) (j : Nat) (hj : j < n) (hd : σ.scn.devs = []) (hl : r.ms.length = n) (hm : ∀ m ∈ r.ms, m.l.length = n) {u : List Ev} (hu : σ.views[j]? = some u) :
    ∃ v, (roundS cpW n σ r).views[j]? = some v ∧ v.map evK = u.map evK ++ (evsOf σ.round r j n).map evK := by
  unfold roundS
  cases hc : r.cast with
  | true =>
    refine ⟨_, by show (hearB _ n n σ).views[j]? = _; rw [views_hearB, hu]; simp only [if_pos hj, Option.map_some]; rfl, ?_⟩
    rw [List.map_append]
    congr 1
    refine flat_K n fun f hf => ?_
    unfold rowOf netTold
    rw [hd, hc]
    show ((((firsts r.ms).map (·.l))[f]?).getD []) = ((firsts r.ms)[f]?.getD ⟨false, none, 0, []⟩).l
    rw [List.getElem?_map]
    cases (firsts r.ms)[f]? <;> rfl
  | false =>
    refine ⟨_, by show (hearAll _ n n σ).views[j]? = _; rw [views_hearAll, hu]; simp only [if_pos hj, Option.map_some]; rfl, ?_⟩
    rw [List.map_append]
    congr 1
    refine flat_K n fun f hf => ?_
    unfold rowOf netSaid
    rw [hd, hc]
    have hfm : f < r.ms.length := by omega
    have hjm : j < (r.ms[f]).l.length := by rw [hm _ (List.getElem_mem hfm)]; exact hj
    show ((((mls r.ms)[f]?.getD [])[j]?).getD []) = _
    simp [mls, hfm, hjm]
/-- Without echoes a message depends on nothing else that is sent. -/
theorem msg_plain {p n : Nat} {c : List Int} {rd : Int} {a b : List (List (List Nat))} {devs : List Dev} (hd : ∀ x ∈ devs, x.kind ≠ 3) {i j : Nat} (hj : j < n) (h : at2 a i j = at2 b i j) : at2 (msgS p c rd n a devs) i j = at2 (msgS p c rd n b devs) i j := by
  rw [msg_cell hj, msg_cell hj, h]
  congr 1
  funext w
  refine foldl_congr' fun x hx v => ?_
  unfold cellM
  by_cases hq : x.round = rd ∧ x.from_ ∈ c ∧ (x.from_ - 1).toNat = i ∧ onJ x j
  · rw [if_pos hq, if_pos hq]
    congr 1
    unfold saidS
    rw [if_neg (hd x hx), if_neg (hd x hx)]
  · rw [if_neg hq, if_neg hq]
theorem sw_at2 {S : List (List (List Nat))} {f w : Nat} : sw S f w = (at2 S f w).getD [] := rfl
/-- Views of two networks, alike but for those of some parties. -/
def Alike (n : Nat) (Q : Nat → Prop) (σ τ : NetS) : Prop := ∀ w, w < n → Q w → ∃ v u, σ.views[w]? = some v ∧ τ.views[w]? = some u ∧ v.map evK = u.map evK
theorem alike_sent {n : Nat} {Q : Nat → Prop} {σ τ : NetS} (h : Alike n Q σ τ) (hr : τ.round = σ.round) (cp cp' : List Nat → RD) (hcp : ∀ l, (cp l).l = (cp' l).l) {S S' : List (List (List Nat))} (hS : ∀ f w, f < n → w < n → Q w → sw S f w = sw S' f w) : Alike n Q (sentS cp S n σ) (sentS cp' S' n τ) := by
  intro w hw hq
  obtain ⟨v, u, hv, hu, hk⟩ := h w hw hq
  refine ⟨v ++ (List.range n).flatMap (evOf σ.round w fun f => cp (sw S f w)), u ++ (List.range n).flatMap (evOf τ.round w fun f => cp' (sw S' f w)), ?_, ?_, ?_⟩
  · show (hearAll _ n n σ).views[w]? = _
    rw [views_hearAll, hv]; simp only [if_pos hw, Option.map_some]
  · show (hearAll _ n n τ).views[w]? = _
    rw [views_hearAll, hu]; simp only [if_pos hw, Option.map_some]
  · rw [List.map_append, List.map_append, hk, hr]
    congr 1
    exact flat_K n fun f hf => by rw [hS f w hf hw hq]; exact hcp _
theorem alike_cast {n : Nat} {Q : Nat → Prop} {σ τ : NetS} (h : Alike n Q σ τ) (hr : τ.round = σ.round) (cp cp' : List Nat → RD) (hcp : ∀ l, (cp l).l = (cp' l).l) (L : List (List Nat)) : Alike n Q (castS cp L n σ) (castS cp' L n τ) := by
  intro w hw hq
  obtain ⟨v, u, hv, hu, hk⟩ := h w hw hq
  refine ⟨v ++ (List.range n).flatMap (evOf σ.round w fun f => cp (L[f]?.getD [])), u ++ (List.range n).flatMap (evOf τ.round w fun f => cp' (L[f]?.getD [])), ?_, ?_, ?_⟩
  · show (hearB _ n n σ).views[w]? = _
    rw [views_hearB, hv]; simp only [if_pos hw, Option.map_some]
  · show (hearB _ n n τ).views[w]? = _
    rw [views_hearB, hu]; simp only [if_pos hw, Option.map_some]
  · rw [List.map_append, List.map_append, hk, hr]
    congr 1
    exact flat_K n fun f hf => hcp _
end Go.Abs
end
