/- Joined: AbsNYG AbsNYH AbsNYI. -/
import Derived.Test.YtjdgcblikhkioaaDoorAbs7
import Derived.Test.YtjdgcblikhkioaaDoorAbs23
set_option linter.all false
/- The seat of privitylaw14: what the views of two networks, or a view and what was sent, have in common. -/
set_option linter.unusedVariables false
noncomputable section
namespace Go.Abs
open Go Go.Proofs
set_option maxRecDepth 100000
theorem set_same8 {α : Type} {l : List α} {i : Nat} {a : α} (h : l[i]? = some a) : l.set i a = l := by
  apply List.ext_getElem?
  intro j
  rw [List.getElem?_set]
  by_cases hij : i = j
  · subst hij
    have := (List.getElem?_eq_some_iff.1 h).1
    rw [if_pos rfl, if_pos this, h]
  · rw [if_neg hij]
/-- What party j is sent by f in a round. -/
def rowOf (r : RSp) (f j : Nat) : RD := if r.cast then (firsts r.ms)[f]?.getD ⟨false, none, 0, []⟩ else ((r.ms[f]?.map fun m => m.l[j]?.getD ⟨false, none, 0, []⟩).getD ⟨false, none, 0, []⟩)
def evsOf (k : Int) (r : RSp) (j c : Nat) : List Ev := (List.range c).flatMap (evOf k j fun f => rowOf r f j)
theorem evsOf_succ (k : Int) (r : RSp) (j c : Nat) : evsOf k r j (c + 1) = evsOf k r j c ++ evOf k j (fun f => rowOf r f j) c := by
  unfold evsOf; rw [List.range_succ, List.flatMap_append]; simp
theorem rowOf_le {p : Nat} {n : Int} {r : RSp} (h : RoundOk p n r) (f j : Nat) : (rowOf r f j).l.length ≤ 8 := by
  unfold rowOf
  split
  · cases hq : (firsts r.ms)[f]? with
    | none => simp
    | some w =>
      obtain ⟨m, hm, rfl⟩ := List.mem_map.1 (List.mem_of_getElem? hq)
      rw [Option.getD_some]
      cases hz : m.l[0]? with
      | none => simp
      | some y => rw [Option.getD_some]; exact ((h.2 m hm).2 y (List.mem_of_getElem? hz)).1
  · cases hq : r.ms[f]? with
    | none => simp
    | some m =>
      rw [Option.map_some, Option.getD_some]
      cases hz : m.l[j]? with
      | none => simp
      | some y => rw [Option.getD_some]; exact ((h.2 m (List.mem_of_getElem? hq)).2 y (List.mem_of_getElem? hz)).1
theorem evsOf_le {p : Nat} {n : Int} {r : RSp} (h : RoundOk p n r) (k : Int) (j c : Nat) : ∀ e ∈ evsOf k r j c, e.w.l.length ≤ 8 := fun e he => by
  obtain ⟨f, _, hf⟩ := List.mem_flatMap.1 he
  unfold evOf at hf
  split at hf
  · rw [List.mem_singleton] at hf; subst hf; exact rowOf_le h f j
  · cases hf
theorem frzL_evsC2 (b : Bool) (es : List Ev) : frzL false (frzL b (evsC es)) = evsC (es.map lentE) := by
  induction es with
  | nil => rfl
  | cons e l ih =>
    show frz false (frz b (.int .i64 e.round)) :: frz false (frz b (.int .i64 e.frm)) :: frz false (frz b (rV e.w)) :: frzL false (frzL b (evsC l)) = .int .i64 e.round :: .int .i64 e.frm :: rV (lent e.w) :: evsC (l.map lentE)
    rw [ih]; simp [rV, frz, lent]
theorem evsOf_length (k : Int) (r : RSp) (j : Nat) : ∀ c, (evsOf k r j c).length ≤ c
  | 0 => by simp [evsOf]
  | c + 1 => by
    rw [evsOf_succ, List.length_append]
    have := evsOf_length k r j c
    have : (evOf k j (fun f => rowOf r f j) c).length ≤ 1 := by unfold evOf; split <;> simp
    omega
theorem evOf_K {k : Int} {j f : Nat} {W W' : Nat → RD} (h : (W f).l = (W' f).l) : (evOf k j W f).map evK = (evOf k j W' f).map evK := by
  unfold evOf
  rw [h]
  split
  · simp [evK, h]
  · rfl
theorem flat_K {k : Int} {j : Nat} {W W' : Nat → RD} : ∀ c, (∀ f, f < c → (W f).l = (W' f).l) → ((List.range c).flatMap (evOf k j W)).map evK = ((List.range c).flatMap (evOf k j W')).map evK
  | 0, _ => rfl
  | c + 1, h => by
    rw [List.range_succ, List.flatMap_append, List.flatMap_append, List.map_append, List.map_append, flat_K c fun f hf => h f (by omega)]
    simp only [List.flatMap_cons, List.flatMap_nil, List.append_nil]
    rw [evOf_K (h c (by omega))]
/-- Without deviations a round adds what is sent. -/
theorem round_K (n : Nat) (σ : NetS) (r : RSp) (j : Nat) (hj : j < n) (hd : σ.scn.devs = []) (hl : r.ms.length = n) (hm : ∀ m ∈ r.ms, m.l.length = n) {u : List Ev} (hu : σ.views[j]? = some u) :
    ∃ v, (roundS cpW n σ r).views[j]? = some v ∧ v.map evK = u.map evK ++ (evsOf σ.round r j n).map evK := by
  unfold roundS
  cases hc : r.cast with
  | true =>
    refine ⟨_, by show (hearB _ n n σ).views[j]? = _; rw [views_hearB, hu]; simp only [if_pos hj, Option.map_some]; rfl, ?_⟩
    rw [List.map_append]
    congr 1
    refine flat_K n fun f hf => ?_
    unfold rowOf netTold
    rw [hd, hc]
    show ((((firsts r.ms).map (·.l))[f]?).getD []) = ((firsts r.ms)[f]?.getD ⟨false, none, 0, []⟩).l
    rw [List.getElem?_map]
    cases (firsts r.ms)[f]? <;> rfl
  | false =>
    refine ⟨_, by show (hearAll _ n n σ).views[j]? = _; rw [views_hearAll, hu]; simp only [if_pos hj, Option.map_some]; rfl, ?_⟩
    rw [List.map_append]
    congr 1
    refine flat_K n fun f hf => ?_
    unfold rowOf netSaid
    rw [hd, hc]
    have hfm : f < r.ms.length := by omega
    have hjm : j < (r.ms[f]).l.length := by rw [hm _ (List.getElem_mem hfm)]; exact hj
    show ((((mls r.ms)[f]?.getD [])[j]?).getD []) = _
    simp [mls, hfm, hjm]
/-- Without echoes a message depends on nothing else that is sent. -/
theorem msg_plain {p n : Nat} {c : List Int} {rd : Int} {a b : List (List (List Nat))} {devs : List Dev} (hd : ∀ x ∈ devs, x.kind ≠ 3) {i j : Nat} (hj : j < n) (h : at2 a i j = at2 b i j) : at2 (msgS p c rd n a devs) i j = at2 (msgS p c rd n b devs) i j := by
  rw [msg_cell hj, msg_cell hj, h]
  congr 1
  funext w
  refine foldl_congr' fun x hx v => ?_
  unfold cellM
  by_cases hq : x.round = rd ∧ x.from_ ∈ c ∧ (x.from_ - 1).toNat = i ∧ onJ x j
  · rw [if_pos hq, if_pos hq]
    congr 1
    unfold saidS
    rw [if_neg (hd x hx), if_neg (hd x hx)]
  · rw [if_neg hq, if_neg hq]
theorem sw_at2 {S : List (List (List Nat))} {f w : Nat} : sw S f w = (at2 S f w).getD [] := rfl
/-- Views of two networks, alike but for those of some parties. -/
def Alike (n : Nat) (Q : Nat → Prop) (σ τ : NetS) : Prop := ∀ w, w < n → Q w → ∃ v u, σ.views[w]? = some v ∧ τ.views[w]? = some u ∧ v.map evK = u.map evK
theorem alike_sent {n : Nat} {Q : Nat → Prop} {σ τ : NetS} (h : Alike n Q σ τ) (hr : τ.round = σ.round) (cp cp' : List Nat → RD) (hcp : ∀ l, (cp l).l = (cp' l).l) {S S' : List (List (List Nat))} (hS : ∀ f w, f < n → w < n → Q w → sw S f w = sw S' f w) : Alike n Q (sentS cp S n σ) (sentS cp' S' n τ) := by
  intro w hw hq
  obtain ⟨v, u, hv, hu, hk⟩ := h w hw hq
  refine ⟨v ++ (List.range n).flatMap (evOf σ.round w fun f => cp (sw S f w)), u ++ (List.range n).flatMap (evOf τ.round w fun f => cp' (sw S' f w)), ?_, ?_, ?_⟩
  · show (hearAll _ n n σ).views[w]? = _
    rw [views_hearAll, hv]; simp only [if_pos hw, Option.map_some]
  · show (hearAll _ n n τ).views[w]? = _
    rw [views_hearAll, hu]; simp only [if_pos hw, Option.map_some]
  · rw [List.map_append, List.map_append, hk, hr]
    congr 1
    exact flat_K n fun f hf => by rw [hS f w hf hw hq]; exact hcp _
theorem alike_cast {n : Nat} {Q : Nat → Prop} {σ τ : NetS} (h : Alike n Q σ τ) (hr : τ.round = σ.round) (cp cp' : List Nat → RD) (hcp : ∀ l, (cp l).l = (cp' l).l) (L : List (List Nat)) : Alike n Q (castS cp L n σ) (castS cp' L n τ) := by
  intro w hw hq
  obtain ⟨v, u, hv, hu, hk⟩ := h w hw hq
  refine ⟨v ++ (List.range n).flatMap (evOf σ.round w fun f => cp (L[f]?.getD [])), u ++ (List.range n).flatMap (evOf τ.round w fun f => cp' (L[f]?.getD [])), ?_, ?_, ?_⟩
  · show (hearB _ n n σ).views[w]? = _
    rw [views_hearB, hv]; simp only [if_pos hw, Option.map_some]
  · show (hearB _ n n τ).views[w]? = _
    rw [views_hearB, hu]; simp only [if_pos hw, Option.map_some]
  · rw [List.map_append, List.map_append, hk, hr]
    congr 1
    exact flat_K n fun f hf => hcp _
end Go.Abs
end
/- The seat of privitylaw14: two networks in a law's memory. -/
set_option linter.unusedVariables false
noncomputable section
namespace Go.Abs
open Go Go.Proofs
set_option maxRecDepth 100000
/-- Two networks, and what stands beside them. -/
structure Two (nx b1 b2 : Nat) (tp1 tp2 : List Nat) (c : Box) (O : List (Nat × Box)) (x : Nat) : Prop where
  g : getBox O nx = some c
  o : ∀ e ∈ O, nx ≤ e.1 ∧ e.1 < x ∧ e.1 ∉ b1 :: tp1 ∧ e.1 ∉ b2 :: tp2
  t1 : ∀ y ∈ b1 :: tp1, nx ≤ y ∧ y < x ∧ y ∉ b2 :: tp2
  t2 : ∀ y ∈ b2 :: tp2, nx ≤ y ∧ y < x
section
variable {nx b1 b2 x : Nat} {tp1 tp2 : List Nat} {c c' : Box} {O tb1 tb2 : List (Nat × Box)} {σ σ' τ τ' : NetS}
theorem Two.add (h : Two nx b1 b2 tp1 tp2 c O x) : Two nx b1 b2 tp1 tp2 c (O ++ [(x, c')]) (x + 1) := by
  refine ⟨getBox_app_old h.g, fun e he => ?_, fun y hy => ?_, fun y hy => ?_⟩
  · rcases List.mem_append.1 he with he | he
    · obtain ⟨h1, h2, h3, h4⟩ := h.o e he; exact ⟨h1, by omega, h3, h4⟩
    · rw [List.mem_singleton] at he
      subst he
      obtain ⟨h1, h2, _⟩ := h.t1 b1 List.mem_cons_self
      exact ⟨by show nx ≤ x; omega, by show x < x + 1; omega, fun hx => absurd (h.t1 _ hx).2.1 (Nat.lt_irrefl _), fun hx => absurd (h.t2 _ hx).2 (Nat.lt_irrefl _)⟩
  · obtain ⟨h1, h2, h3⟩ := h.t1 y hy; exact ⟨h1, by omega, h3⟩
  · obtain ⟨h1, h2⟩ := h.t2 y hy; exact ⟨h1, by omega⟩
theorem Two.mem (h : Two nx b1 b2 σ.tp τ.tp c O x) (hT1 : TB b1 σ.tp tb1) (hT2 : TB b2 τ.tp tb2) : ∀ e ∈ O ++ ((b1, (⟨0, netC σ⟩ : Box)) :: tb1) ++ ((b2, ⟨0, netC τ⟩) :: tb2), nx ≤ e.1 ∧ e.1 < x := fun e he => by
  rcases List.mem_append.1 he with he | he
  · rcases List.mem_append.1 he with he | he
    · exact ⟨(h.o e he).1, (h.o e he).2.1⟩
    · have := h.t1 _ (net_keys hT1 e he); exact ⟨this.1, this.2.1⟩
  · exact h.t2 _ (net_keys hT2 e he)
variable {P : Program} {H : Hint} {f k N : Nat} {xs : List V} {r : V}
/-- A call on the first, a box made behind. -/
theorem Two.callA (h : Two nx b1 b2 σ.tp τ.tp c O x) (hT1 : TB b1 σ.tp tb1) (hl : 1 ≤ tb1.length) (hT2 : TB b2 τ.tp tb2) (h' : σ'.tp = σ.tp) (hans : AnsM N P H f xs ((b1, ⟨0, netC σ⟩) :: tb1) r ((b1, ⟨0, netC σ'⟩) :: tb1)) (hk : N ≤ k) (hp : ptrsL xs = [b1]) (hX : H.X f xs = none) (s : Nat → V) (dst : Option Nat) :
    doCallB H (evCall P H k) f false xs ⟨s, (O ++ ((b1, ⟨0, netC σ⟩) :: tb1) ++ ((b2, ⟨0, netC τ⟩) :: tb2)) ++ [(x, c')], x + 1⟩ dst = some ((St.mk (fun i => killB (b1 :: σ.tp) (x + 1) (s i)) (((O ++ ((b2, ⟨0, netC τ⟩) :: tb2)) ++ [(x, c')]) ++ ((b1, ⟨0, netC σ'⟩) :: tb1)) (x + 1)).lay dst r) := by
  have := netCall (nx := x + 1) (O1 := O) (O2 := ((b2, ⟨0, netC τ⟩) :: tb2) ++ [(x, c')]) hT1 hl (fun e he => by
    rcases List.mem_append.1 he with he | he
    · exact (h.o e he).2.2.1
    rcases List.mem_append.1 he with he | he
    · exact fun hx => (h.t1 _ hx).2.2 (net_keys hT2 e he)
    · rw [List.mem_singleton] at he; subst he
      exact fun hx => absurd (h.t1 _ hx).2.1 (Nat.lt_irrefl _)) h' hans hk hp hX (fun e he => by have := (h.t1 _ (net_keys hT1 e he)).2.1; omega) s dst
  rw [← List.append_assoc, ← List.append_assoc O] at this
  exact this
/-- A call on the second, behind that. -/
theorem Two.callB (h : Two nx b1 b2 σ.tp τ.tp c O x) (hT1 : TB b1 σ.tp tb1) (hT2 : TB b2 τ.tp tb2) (hl : 1 ≤ tb2.length) (h' : τ'.tp = τ.tp) (hans : AnsM N P H f xs ((b2, ⟨0, netC τ⟩) :: tb2) r ((b2, ⟨0, netC τ'⟩) :: tb2)) (hk : N ≤ k) (hp : ptrsL xs = [b2]) (hX : H.X f xs = none) (s : Nat → V) (dst : Option Nat) :
    doCallB H (evCall P H k) f false xs ⟨s, ((O ++ ((b2, ⟨0, netC τ⟩) :: tb2)) ++ [(x, c')]) ++ ((b1, ⟨0, netC σ⟩) :: tb1), x + 1⟩ dst = some ((St.mk (fun i => killB (b2 :: τ.tp) (x + 1) (s i)) (((O ++ [(x, c')]) ++ ((b1, ⟨0, netC σ⟩) :: tb1)) ++ ((b2, ⟨0, netC τ'⟩) :: tb2)) (x + 1)).lay dst r) := by
  have := netCall (nx := x + 1) (O1 := O) (O2 := [(x, c')] ++ ((b1, ⟨0, netC σ⟩) :: tb1)) hT2 hl (fun e he => by
    rcases List.mem_append.1 he with he | he
    · exact (h.o e he).2.2.2
    rcases List.mem_append.1 he with he | he
    · rw [List.mem_singleton] at he; subst he
      exact fun hx => absurd (h.t2 _ hx).2 (Nat.lt_irrefl _)
    · exact (h.t1 _ (net_keys hT1 e he)).2.2) h' hans hk hp hX (fun e he => by have := (h.t2 _ (net_keys hT2 e he)).2; omega) s dst
  rw [← List.append_assoc (O ++ _), ← List.append_assoc O] at this
  exact this
/-- The same, no box made. -/
theorem Two.callA0 (h : Two nx b1 b2 σ.tp τ.tp c O x) (hT1 : TB b1 σ.tp tb1) (hl : 1 ≤ tb1.length) (hT2 : TB b2 τ.tp tb2) (h' : σ'.tp = σ.tp) (hans : AnsM N P H f xs ((b1, ⟨0, netC σ⟩) :: tb1) r ((b1, ⟨0, netC σ'⟩) :: tb1)) (hk : N ≤ k) (hp : ptrsL xs = [b1]) (hX : H.X f xs = none) (s : Nat → V) (dst : Option Nat) :
    doCallB H (evCall P H k) f false xs ⟨s, O ++ ((b1, ⟨0, netC σ⟩) :: tb1) ++ ((b2, ⟨0, netC τ⟩) :: tb2), x⟩ dst = some ((St.mk (fun i => killB (b1 :: σ.tp) x (s i)) (O ++ ((b2, ⟨0, netC τ⟩) :: tb2) ++ ((b1, ⟨0, netC σ'⟩) :: tb1)) x).lay dst r) :=
  netCall (O1 := O) (O2 := (b2, ⟨0, netC τ⟩) :: tb2) hT1 hl (fun e he => by
    rcases List.mem_append.1 he with he | he
    · exact (h.o e he).2.2.1
    · exact fun hx => (h.t1 _ hx).2.2 (net_keys hT2 e he)) h' hans hk hp hX (fun e he => (h.t1 _ (net_keys hT1 e he)).2.1) s dst
theorem Two.callB0 (h : Two nx b1 b2 σ.tp τ.tp c O x) (hT1 : TB b1 σ.tp tb1) (hT2 : TB b2 τ.tp tb2) (hl : 1 ≤ tb2.length) (h' : τ'.tp = τ.tp) (hans : AnsM N P H f xs ((b2, ⟨0, netC τ⟩) :: tb2) r ((b2, ⟨0, netC τ'⟩) :: tb2)) (hk : N ≤ k) (hp : ptrsL xs = [b2]) (hX : H.X f xs = none) (s : Nat → V) (dst : Option Nat) :
    doCallB H (evCall P H k) f false xs ⟨s, O ++ ((b2, ⟨0, netC τ⟩) :: tb2) ++ ((b1, ⟨0, netC σ⟩) :: tb1), x⟩ dst = some ((St.mk (fun i => killB (b2 :: τ.tp) x (s i)) (O ++ ((b1, ⟨0, netC σ⟩) :: tb1) ++ ((b2, ⟨0, netC τ'⟩) :: tb2)) x).lay dst r) :=
  netCall (O1 := O) (O2 := (b1, ⟨0, netC σ⟩) :: tb1) hT2 hl (fun e he => by
    rcases List.mem_append.1 he with he | he
    · exact (h.o e he).2.2.2
    · exact (h.t1 _ (net_keys hT1 e he)).2.2) h' hans hk hp hX (fun e he => (h.t2 _ (net_keys hT2 e he)).2) s dst
end
end Go.Abs
end
/- The seat of privitylaw14: two networks in a law's memory, more; one message changed. -/
set_option linter.unusedVariables false
noncomputable section
namespace Go.Abs
open Go Go.Proofs
set_option maxRecDepth 100000
section
variable {nx b1 b2 x : Nat} {tp1 tp2 : List Nat} {c c' c2 : Box} {O O1 O2 tb1 tb2 : List (Nat × Box)} {σ σ' τ τ' : NetS}
theorem Two.mem2 (h : Two nx b1 b2 σ.tp τ.tp c (O1 ++ O2) x) (hT1 : TB b1 σ.tp tb1) (hT2 : TB b2 τ.tp tb2) : ∀ e ∈ O1 ++ ((b1, (⟨0, netC σ⟩ : Box)) :: tb1) ++ (O2 ++ ((b2, ⟨0, netC τ⟩) :: tb2)), nx ≤ e.1 ∧ e.1 < x := fun e he => by
  rcases List.mem_append.1 he with he | he
  · rcases List.mem_append.1 he with he | he
    · exact ⟨(h.o e (List.mem_append_left _ he)).1, (h.o e (List.mem_append_left _ he)).2.1⟩
    · have := h.t1 _ (net_keys hT1 e he); exact ⟨this.1, this.2.1⟩
  · rcases List.mem_append.1 he with he | he
    · exact ⟨(h.o e (List.mem_append_right _ he)).1, (h.o e (List.mem_append_right _ he)).2.1⟩
    · exact h.t2 _ (net_keys hT2 e he)
theorem getBox_skip {t : Nat} {M : List (Nat × Box)} : ∀ {N : List (Nat × Box)}, (∀ e ∈ N, e.1 ≠ t) → getBox (N ++ M) t = getBox M t
  | [], _ => rfl
  | (i, d) :: N, h => by
    have hi : ¬ i = t := h (i, d) List.mem_cons_self
    show (if i = t then some d else getBox (N ++ M) t) = getBox M t
    rw [if_neg hi]
    exact getBox_skip fun e he => h e (List.mem_cons_of_mem _ he)
theorem setBox_skip {t : Nat} {M : List (Nat × Box)} : ∀ {N : List (Nat × Box)}, (∀ e ∈ N, e.1 ≠ t) → setBox (N ++ M) t c' = N ++ setBox M t c'
  | [], _ => rfl
  | (i, d) :: N, h => by
    have hi : ¬ i = t := h (i, d) List.mem_cons_self
    show (if i = t then (i, c') :: (N ++ M) else (i, d) :: setBox (N ++ M) t c') = (i, d) :: (N ++ setBox M t c')
    rw [if_neg hi, setBox_skip fun e he => h e (List.mem_cons_of_mem _ he)]
/-- The law's own box, wherever it stands. -/
theorem Two.get2 (h : Two nx b1 b2 σ.tp τ.tp c (O1 ++ O2) x) (hT1 : TB b1 σ.tp tb1) : getBox (O1 ++ ((b1, (⟨0, netC σ⟩ : Box)) :: tb1) ++ (O2 ++ ((b2, ⟨0, netC τ⟩) :: tb2))) nx = some c := by
  have hk : ∀ e ∈ O1 ++ O2, e.1 ∉ b1 :: σ.tp := fun e he => (h.o e he).2.2.1
  have hn : nx ∉ b1 :: σ.tp := by
    intro hx
    have key : ∀ l : List (Nat × Box), getBox l nx = some c → ∃ d, (nx, d) ∈ l := by
      intro l
      induction l with
      | nil => intro hg; cases hg
      | cons e l ih =>
        obtain ⟨i, d⟩ := e
        intro hg
        replace hg : (if i = nx then some d else getBox l nx) = some c := hg
        by_cases hi : i = nx
        · subst hi; exact ⟨d, List.mem_cons_self⟩
        · rw [if_neg hi] at hg
          obtain ⟨d, hd⟩ := ih hg
          exact ⟨d, List.mem_cons_of_mem _ hd⟩
    obtain ⟨d, hd⟩ := key _ h.g
    exact hk _ hd hx
  have hN : ∀ e ∈ (b1, (⟨0, netC σ⟩ : Box)) :: tb1, e.1 ≠ nx := fun e he hx => hn (hx ▸ net_keys hT1 e he)
  have key : ∀ (L : List (Nat × Box)), getBox (L ++ ((b1, (⟨0, netC σ⟩ : Box)) :: tb1) ++ (O2 ++ ((b2, ⟨0, netC τ⟩) :: tb2))) nx = getBox (L ++ (O2 ++ ((b2, ⟨0, netC τ⟩) :: tb2))) nx := by
    intro L
    induction L with
    | nil => rw [List.nil_append, List.nil_append]; exact getBox_skip hN
    | cons e L ih =>
      obtain ⟨i, d⟩ := e
      show getBox ((i, d) :: (L ++ _ ++ _)) nx = getBox ((i, d) :: (L ++ _)) nx
      unfold getBox
      by_cases hi : i = nx
      · rw [if_pos hi, if_pos hi]
      · rw [if_neg hi, if_neg hi]; exact ih
  rw [key, ← List.append_assoc]
  exact getBox_app_old h.g
variable {P : Program} {H : Hint} {f k N : Nat} {xs : List V} {r : V}
/-- A call on the first, a box made behind; what stands beside them in two parts. -/
theorem Two.callA2 (h : Two nx b1 b2 σ.tp τ.tp c (O1 ++ O2) x) (hT1 : TB b1 σ.tp tb1) (hl : 1 ≤ tb1.length) (hT2 : TB b2 τ.tp tb2) (h' : σ'.tp = σ.tp) (hans : AnsM N P H f xs ((b1, ⟨0, netC σ⟩) :: tb1) r ((b1, ⟨0, netC σ'⟩) :: tb1)) (hk : N ≤ k) (hp : ptrsL xs = [b1]) (hX : H.X f xs = none) (s : Nat → V) (dst : Option Nat) :
    doCallB H (evCall P H k) f false xs ⟨s, (O1 ++ ((b1, ⟨0, netC σ⟩) :: tb1) ++ (O2 ++ ((b2, ⟨0, netC τ⟩) :: tb2))) ++ [(x, c')], x + 1⟩ dst = some ((St.mk (fun i => killB (b1 :: σ.tp) (x + 1) (s i)) (((O1 ++ O2 ++ ((b2, ⟨0, netC τ⟩) :: tb2)) ++ [(x, c')]) ++ ((b1, ⟨0, netC σ'⟩) :: tb1)) (x + 1)).lay dst r) := by
  have := netCall (nx := x + 1) (O1 := O1) (O2 := O2 ++ ((b2, ⟨0, netC τ⟩) :: tb2) ++ [(x, c')]) hT1 hl (fun e he => by
    rcases List.mem_append.1 he with he | he
    · exact (h.o e (List.mem_append_left _ he)).2.2.1
    rcases List.mem_append.1 he with he | he
    · rcases List.mem_append.1 he with he | he
      · exact (h.o e (List.mem_append_right _ he)).2.2.1
      · exact fun hx => (h.t1 _ hx).2.2 (net_keys hT2 e he)
    · rw [List.mem_singleton] at he; subst he
      exact fun hx => absurd (h.t1 _ hx).2.1 (Nat.lt_irrefl _)) h' hans hk hp hX (fun e he => by have := (h.t1 _ (net_keys hT1 e he)).2.1; omega) s dst
  simp only [List.append_assoc] at this ⊢
  exact this
theorem Two.callA02 (h : Two nx b1 b2 σ.tp τ.tp c (O1 ++ O2) x) (hT1 : TB b1 σ.tp tb1) (hl : 1 ≤ tb1.length) (hT2 : TB b2 τ.tp tb2) (h' : σ'.tp = σ.tp) (hans : AnsM N P H f xs ((b1, ⟨0, netC σ⟩) :: tb1) r ((b1, ⟨0, netC σ'⟩) :: tb1)) (hk : N ≤ k) (hp : ptrsL xs = [b1]) (hX : H.X f xs = none) (s : Nat → V) (dst : Option Nat) :
    doCallB H (evCall P H k) f false xs ⟨s, O1 ++ ((b1, ⟨0, netC σ⟩) :: tb1) ++ (O2 ++ ((b2, ⟨0, netC τ⟩) :: tb2)), x⟩ dst = some ((St.mk (fun i => killB (b1 :: σ.tp) x (s i)) ((O1 ++ O2 ++ ((b2, ⟨0, netC τ⟩) :: tb2)) ++ ((b1, ⟨0, netC σ'⟩) :: tb1)) x).lay dst r) := by
  have := netCall (nx := x) (O1 := O1) (O2 := O2 ++ ((b2, ⟨0, netC τ⟩) :: tb2)) hT1 hl (fun e he => by
    rcases List.mem_append.1 he with he | he
    · exact (h.o e (List.mem_append_left _ he)).2.2.1
    rcases List.mem_append.1 he with he | he
    · exact (h.o e (List.mem_append_right _ he)).2.2.1
    · exact fun hx => (h.t1 _ hx).2.2 (net_keys hT2 e he)) h' hans hk hp hX (fun e he => (h.t1 _ (net_keys hT1 e he)).2.1) s dst
  simp only [List.append_assoc] at this ⊢
  exact this
/-- The law's own box between the two calls. -/
theorem Two.getN (h : Two nx b1 b2 σ.tp τ.tp c O x) : getBox ((O ++ ((b2, (⟨0, netC τ⟩ : Box)) :: tb2)) ++ ((b1, ⟨0, netC σ⟩) :: tb1)) nx = some c := by
  rw [List.append_assoc]
  exact getBox_app_old h.g
theorem Two.getNX (h : Two nx b1 b2 σ.tp τ.tp c O x) : getBox (((O ++ ((b2, (⟨0, netC τ⟩ : Box)) :: tb2)) ++ [(x, c')]) ++ ((b1, ⟨0, netC σ⟩) :: tb1)) nx = some c := by
  rw [List.append_assoc, List.append_assoc]
  exact getBox_app_old h.g
/-- The box behind, between the two calls. -/
theorem Two.getX (h : Two nx b1 b2 σ.tp τ.tp c O x) (hT2 : TB b2 τ.tp tb2) : getBox (((O ++ ((b2, (⟨0, netC τ⟩ : Box)) :: tb2)) ++ [(x, c')]) ++ ((b1, ⟨0, netC σ⟩) :: tb1)) x = some c' := by
  have hne : ∀ e ∈ O ++ ((b2, (⟨0, netC τ⟩ : Box)) :: tb2), e.1 ≠ x := fun e he hx => by
    rcases List.mem_append.1 he with he | he
    · have := (h.o e he).2.1; omega
    · have := (h.t2 _ (net_keys hT2 e he)).2; omega
  rw [List.append_assoc, getBox_skip hne]
  simp [getBox]
theorem Two.setX (h : Two nx b1 b2 σ.tp τ.tp c O x) (hT2 : TB b2 τ.tp tb2) : setBox (((O ++ ((b2, (⟨0, netC τ⟩ : Box)) :: tb2)) ++ [(x, c')]) ++ ((b1, ⟨0, netC σ⟩) :: tb1)) x c2 = ((O ++ ((b2, (⟨0, netC τ⟩ : Box)) :: tb2)) ++ [(x, c2)]) ++ ((b1, ⟨0, netC σ⟩) :: tb1) := by
  have hne : ∀ e ∈ O ++ ((b2, (⟨0, netC τ⟩ : Box)) :: tb2), e.1 ≠ x := fun e he hx => by
    rcases List.mem_append.1 he with he | he
    · have := (h.o e he).2.1; omega
    · have := (h.t2 _ (net_keys hT2 e he)).2; omega
  rw [List.append_assoc, setBox_skip hne]
  simp [setBox]
end
/-- No message of a view is long. -/
def VW (σ : NetS) : Prop := ∀ v ∈ σ.views, ∀ e ∈ v, e.w.l.length ≤ 1000
theorem vw_evOf {rd : Int} {w : Nat} {W : Nat → RD} (hW : ∀ f, (W f).l.length ≤ 1000) (k : Nat) : ∀ e ∈ (List.range k).flatMap (evOf rd w W), e.w.l.length ≤ 1000 := fun e he => by
  obtain ⟨f, _, hf⟩ := List.mem_flatMap.1 he
  unfold evOf at hf
  split at hf
  · rw [List.mem_singleton] at hf; subst hf; exact hW f
  · cases hf
theorem VW.sent {n : Nat} {σ : NetS} (h : VW σ) (cp : List Nat → RD) (hcp : ∀ l, (cp l).l = l) {S : List (List (List Nat))} (hS : ∀ f w, (sw S f w).length ≤ 1000) : VW (sentS cp S n σ) := by
  intro v hv e he
  obtain ⟨i, hi⟩ := List.getElem?_of_mem hv
  have hi2 : (hearAll (fun w f => cp (sw S f w)) n n σ).views[i]? = some v := hi
  rw [views_hearAll] at hi2
  cases hu : σ.views[i]? with
  | none => rw [hu] at hi2; cases hi2
  | some u =>
    rw [hu, Option.map_some] at hi2
    have := Option.some.inj hi2
    subst this
    split at he
    · rcases List.mem_append.1 he with he | he
      · exact h u (List.mem_of_getElem? hu) e he
      · exact vw_evOf (fun f => by rw [hcp]; exact hS f i) n e he
    · exact h u (List.mem_of_getElem? hu) e he
theorem VW.cast {n : Nat} {σ : NetS} (h : VW σ) (cp : List Nat → RD) (hcp : ∀ l, (cp l).l = l) {L : List (List Nat)} (hL : ∀ l ∈ L, l.length ≤ 1000) : VW (castS cp L n σ) := by
  intro v hv e he
  obtain ⟨i, hi⟩ := List.getElem?_of_mem hv
  have hi2 : (hearB (fun f => cp (L[f]?.getD [])) n n σ).views[i]? = some v := hi
  rw [views_hearB] at hi2
  cases hu : σ.views[i]? with
  | none => rw [hu] at hi2; cases hi2
  | some u =>
    rw [hu, Option.map_some] at hi2
    have := Option.some.inj hi2
    subst this
    split at he
    · rcases List.mem_append.1 he with he | he
      · exact h u (List.mem_of_getElem? hu) e he
      · refine vw_evOf (fun f => ?_) n e he
        rw [hcp]
        cases hq : L[f]? with
        | none => simp
        | some l => exact hL l (List.mem_of_getElem? hq)
    · exact h u (List.mem_of_getElem? hu) e he
theorem sw_le {p n : Nat} {S : List (List (List Nat))} (h : MsOk p n S) (f w : Nat) : (sw S f w).length ≤ 1000 := by
  unfold sw
  cases hq : S[f]? with
  | none => simp
  | some r =>
    cases hz : r[w]? with
    | none => simp [hz]
    | some l =>
      simp only [Option.getD_some, hz]
      exact ((h.2 r (List.mem_of_getElem? hq)).2 l (List.mem_of_getElem? hz)).1
theorem pq_pos {p q : Nat} (hq : (p, q) ∈ pq7) : 0 < p := by
  obtain ⟨hp1, hq1, hq2⟩ := pq_facts hq
  have : 2 ^ 5 ≤ 2 ^ q := Nat.pow_le_pow_right (by omega) hq1
  omega
theorem NetI.said_ok {N b n : Nat} {σ : NetS} {tb : List (Nat × Box)} (I : NetI N b σ tb) {out : List (List (List Nat))} (h : MsOk σ.scn.p n out) : MsOk σ.scn.p n (netSaid σ n out) := by
  obtain ⟨q, hq⟩ := I.hp
  exact msg_ok (pq_pos hq) h
theorem NetI.told_ok {N b : Nat} {σ : NetS} {tb : List (Nat × Box)} (I : NetI N b σ tb) {out : List (List Nat)} (h : LsOk σ.scn.p out) : ∀ l ∈ netTold σ out, l.length ≤ 1000 := fun l hl => by
  obtain ⟨q, hq⟩ := I.hp
  exact ((fold_ok (pq_pos hq) h).1 l hl).1
theorem vw_net0 (s : Scn) (nx i : Nat) : VW (net0 s nx i) := fun v hv e he => by
  have : v = [] := (List.mem_replicate.1 (show v ∈ List.replicate s.n.toNat [] from hv)).2
  subst this; cases he
theorem arg_at {m : Nat} {x : V} (h : ArgSh Tryd.prog (m + 1 + 1) 52 x) : ∃ a0 a1 a2 : Nat, a0 < 256 ∧ a1 < 256 ∧ a2 < 256 ∧ x = .agg [.int .u8 (a0 : Int), .int .u8 (a1 : Int), .int .u8 (a2 : Int)] := by
  obtain ⟨l, h1, h2, h3⟩ := arg_u8s Tryd.underlying52 Tryd.underlying5 (by kernel_rfl) h
  match l, h1 with
  | [a, b, c], _ => exact ⟨a, b, c, h2 a (by simp), h2 b (by simp), h2 c (by simp), h3⟩
/-- One message changed. -/
def chM (ms : List MD) (f t : Nat) (m : MD) (A : Option Addr) (cap : Nat) (w : List Nat) : List MD := ms.set f ⟨false, none, 0, m.l.set t ⟨false, A, cap, w⟩⟩
theorem chM_at {ms : List MD} {f t : Nat} {m : MD} {A : Option Addr} {cap : Nat} {w : List Nat} (hm : ms[f]? = some m) {i j : Nat} (h : ¬ (i = f ∧ j = t)) : at2 (mls (chM ms f t m A cap w)) i j = at2 (mls ms) i j := by
  unfold at2 mls chM
  rw [List.getElem?_map, List.getElem?_map, List.getElem?_set]
  have hfl := (List.getElem?_eq_some_iff.1 hm).1
  by_cases hi : f = i
  · subst hi
    rw [if_pos rfl, if_pos hfl, hm]
    simp only [Option.map_some, Option.getD_some, List.getElem?_map, List.getElem?_set]
    by_cases hj : t = j
    · exact absurd ⟨rfl, hj.symm⟩ h
    · rw [if_neg hj]
  · rw [if_neg hi]
theorem chM_ok {p n : Nat} {ms : List MD} {f t : Nat} {m : MD} {A : Option Addr} {cap : Nat} {w : List Nat} (hm : ms[f]? = some m) (h : MsOk p n (mls ms)) (hw : w.length ≤ 1000 ∧ ∀ x ∈ w, x < p) : MsOk p n (mls (chM ms f t m A cap w)) := by
  obtain ⟨h1, h2⟩ := h
  refine ⟨by rw [← h1]; simp [mls, chM], fun l hl => ?_⟩
  obtain ⟨m', hm', rfl⟩ := List.mem_map.1 hl
  rcases List.mem_or_eq_of_mem_set hm' with hm' | rfl
  · exact h2 _ (List.mem_map_of_mem hm')
  · have h3 := h2 _ (List.mem_map_of_mem (List.mem_of_getElem? hm))
    refine ⟨by have := h3.1; rw [List.length_map] at this; rw [List.length_map, List.length_set]; exact this, fun x hx => ?_⟩
    obtain ⟨r, hr, rfl⟩ := List.mem_map.1 hx
    rcases List.mem_or_eq_of_mem_set hr with hr | rfl
    · exact h3.2 _ (List.mem_map_of_mem hr)
    · exact hw
theorem frzL_map (b : Bool) : ∀ l : List V, frzL b l = l.map (frz b)
  | [] => rfl
  | v :: l => by show frz b v :: frzL b l = frz b v :: l.map (frz b); rw [frzL_map b l]
theorem chM_cells {b : Bool} {ms : List MD} {f t n : Nat} {m : MD} {A : Option Addr} {cap : Nat} {w : List Nat} (hl : ms.map lentM = ms) (hm : ms[f]? = some m) (hn : m.l.length = n) : frzL false (frzL b ((msV ms).set f (.own .nil 0 n ((rsV m.l).set t (.im false A cap w.length (uL w)))))) = msV (chM ms f t m A cap w) := by
  have hml : m.l.map lent = m.l := by
    have := congrArg (fun l : List MD => l[f]?) hl
    simp only [List.getElem?_map, hm, Option.map_some, Option.some.injEq] at this
    exact congrArg MD.l this
  have h1 : frzL false (frzL b (msV ms)) = msV ms := by
    conv => rhs; rw [← hl]
    clear hm hl
    induction ms with
    | nil => rfl
    | cons x l ih =>
      show frz false (frz b (mV x)) :: frzL false (frzL b (msV l)) = mV (lentM x) :: msV (l.map lentM)
      rw [ih]
      simp only [mV, frz, lentM, rsV_lent2, List.length_map]
  have h2 : frzL false (frzL b (rsV m.l)) = rsV m.l := by rw [rsV_lent2, hml]
  rw [frzL_map, frzL_map] at h1 h2 ⊢
  rw [List.map_set, List.map_set, h1]
  unfold chM msV
  rw [List.map_set]
  congr 1
  show V.im false none 0 n (frzL false (frzL b ((rsV m.l).set t (.im false A cap w.length (uL w))))) = mV _
  rw [frzL_map, frzL_map, List.map_set, List.map_set, h2]
  unfold mV rsV
  rw [List.map_set]
  simp only [List.length_set, hn]
  simp [frz, rV]
theorem net0_two (s : Scn) (nx a : Nat) (c c1 c2 : Box) (O : List (Nat × Box)) (hg : getBox O nx = some c) (hO : ∀ e ∈ O, nx ≤ e.1 ∧ e.1 < a) (ha : nx < a) :
    Two nx (a + 1) (a + (2 + s.tapes.length) + 1) (net0 s a s.tapes.length).tp (net0 s (a + (2 + s.tapes.length)) s.tapes.length).tp c ((O ++ [(a, c1)]) ++ [(a + (2 + s.tapes.length), c2)]) (a + (2 + s.tapes.length) + (2 + s.tapes.length)) := by
  have key : ∀ (d y : Nat), y ∈ (d + 1) :: (net0 s d s.tapes.length).tp → d + 1 ≤ y ∧ y < d + (2 + s.tapes.length) := fun d y hy => by
    rcases List.mem_cons.1 hy with rfl | hy
    · omega
    · obtain ⟨j, hj, rfl⟩ := List.mem_map.1 (show y ∈ (List.range s.tapes.length).map (d + 2 + ·) from hy)
      have := List.mem_range.1 hj
      omega
  refine ⟨getBox_app_old (getBox_app_old hg), fun e he => ?_, fun y hy => ?_, fun y hy => ?_⟩
  · have hk : (nx ≤ e.1 ∧ e.1 < a) ∨ e.1 = a ∨ e.1 = a + (2 + s.tapes.length) := by
      rcases List.mem_append.1 he with he | he
      · rcases List.mem_append.1 he with he | he
        · exact .inl (hO e he)
        · rw [List.mem_singleton] at he; subst he; exact .inr (.inl rfl)
      · rw [List.mem_singleton] at he; subst he; exact .inr (.inr rfl)
    exact ⟨by omega, by omega, fun hx => by have := key _ _ hx; omega, fun hx => by have := key _ _ hx; omega⟩
  · have h1 := key _ _ hy
    exact ⟨by omega, by omega, fun hx => by have := key _ _ hx; omega⟩
  · have h1 := key _ _ hy
    exact ⟨by omega, by omega⟩
theorem chM_length (ms : List MD) (f t : Nat) (m : MD) (A : Option Addr) (cap : Nat) (w : List Nat) : (chM ms f t m A cap w).length = ms.length := by simp [chM]
theorem two_ge {nx : Nat} {c1 c2 : Box} : ∀ (a : Nat) (b : Box), a = nx ∧ b = c1 ∨ a = nx + 1 ∧ b = c2 → nx ≤ a := by
  rintro a b (⟨rfl, -⟩ | ⟨rfl, -⟩) <;> omega
theorem EvP.assoc {P : Program} {H : Hint} {C : Callee} {f k : Nat} {a b c : Code} {D : St} {Φ : Ex → St → Prop} (h : EvP P H C f k (.seq (.seq a b) c) D Φ) : EvP P H C f k (.seq a (.seq b c)) D Φ := by
  rw [ev_seq, ev_seq] at h
  rw [ev_seq]
  refine h.mono fun e D1 h => ?_
  cases e with
  | norm =>
    show EvP P H C f k (.seq b c) D1 Φ
    rw [ev_seq]
    exact h
  | ret => exact h
  | exit i => exact h
/-- The messages of the honest changed: what concerns a corrupted party stays. -/
theorem sw_hidden {p n : Nat} {c : List Int} {rd : Int} {a b : List (List (List Nat))} {devs : List Dev} (hd : ∀ x ∈ devs, DevP n x) {ff tt : Nat} (h1 : (ff : Int) + 1 ∉ c) (h2 : (tt : Int) + 1 ∉ c) (h : ∀ f w, f < n → w < n → ¬ (f = ff ∧ w = tt) → at2 a f w = at2 b f w) {f w : Nat} (hf : f < n) (hw : w < n) (hc : (f : Int) + 1 ∈ c ∨ (w : Int) + 1 ∈ c) : sw (msgS p c rd n b devs) f w = sw (msgS p c rd n a devs) f w := by
  have hab : ∀ i j : Nat, i < n → j < n → ((i : Int) + 1 ∈ c ∨ (j : Int) + 1 ∈ c) → at2 b i j = at2 a i j := fun i j hi hj hq => (h i j hi hj fun he => by
    obtain ⟨rfl, rfl⟩ := he
    exact hq.elim h1 h2).symm
  rw [sw_at2, sw_at2]
  by_cases hfc : (f : Int) + 1 ∈ c
  · rw [msg_local hd hab (Int.le_refl _) hf hw hfc]
  · rw [msg_honest hd hw (.inl hfc), msg_honest hd hw (.inl hfc), hab f w hf hw hc]
/-- A region where several orders are walked, its end found by the first. -/
theorem drawT_ex {P : Program} {H : Hint} {C : Callee} {ops : Array Oper} {fz mu : Nat → Bool} {T : Pl} {D : St} {Q : St → Prop} (h : ∃ f m y, (∀ p ∈ paths T, optE (evDraw P H C ops fz mu p D) (IsSt f m y)) ∧ Q ⟨f, m, y⟩) : optE (evDrawT P H C ops fz mu T D) Q := by
  obtain ⟨f, m, y, h1, h2⟩ := h
  refine optE_mono (IsSt f m y) (tree_all _ IsSt.sm _ _ h1) fun D2 ⟨z1, z2, z3⟩ => ?_
  have : D2 = ⟨f, m, y⟩ := by
    obtain ⟨s, m', y'⟩ := D2
    simp only at z1 z2 z3
    subst z2 z3
    have : s = f := funext z1
    rw [this]
  rw [this]
  exact h2
end Go.Abs
end
