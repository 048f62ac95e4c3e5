/- Joined: AbsPK. -/
import Derived.WalkKit
set_option linter.all false
set_option maxHeartbeats 16000000
namespace Go.Abs
def votes (n : Nat) (h : Nat → List Nat) (x : Nat) : Nat := (List.range n).countP fun f => decide ((h f).head? = some x)
def leastS (n : Nat) (h : Nat → List Nat) (m : Nat) : Option Nat := (((List.range n).filterMap fun f => (h f).head?).filter fun x => decide (m ≤ votes n h x)).min?
theorem votes_pos {n : Nat} {h : Nat → List Nat} {x : Nat} : 0 < votes n h x ↔ ∃ f, f < n ∧ (h f).head? = some x := by
 unfold votes
 rw [List.countP_pos_iff]
 simp
theorem leastS_some {n m : Nat} {h : Nat → List Nat} (hm : 0 < m) {x : Nat} : leastS n h m = some x ↔ m ≤ votes n h x ∧ ∀ y, m ≤ votes n h y → x ≤ y := by
 have key : ∀ y, y ∈ (((List.range n).filterMap fun f => (h f).head?).filter fun x => decide (m ≤ votes n h x)) ↔ m ≤ votes n h y := fun y => by
  simp only [List.mem_filter, List.mem_filterMap, List.mem_range, decide_eq_true_eq]
  refine ⟨fun h => h.2, fun hy => ⟨votes_pos.1 (by omega), hy⟩⟩
 unfold leastS
 rw [List.min?_eq_some_iff, key]
 exact ⟨fun ⟨h1, h2⟩ => ⟨h1, fun y hy => h2 y ((key y).2 hy)⟩, fun ⟨h1, h2⟩ => ⟨h1, fun y hy => h2 y ((key y).1 hy)⟩⟩
theorem leastS_none {n m : Nat} {h : Nat → List Nat} (hm : 0 < m) : leastS n h m = none ↔ ∀ y, votes n h y < m := by
 have key : ∀ y, y ∈ (((List.range n).filterMap fun f => (h f).head?).filter fun x => decide (m ≤ votes n h x)) ↔ m ≤ votes n h y := fun y => by
  simp only [List.mem_filter, List.mem_filterMap, List.mem_range, decide_eq_true_eq]
  refine ⟨fun h => h.2, fun hy => ⟨votes_pos.1 (by omega), hy⟩⟩
 unfold leastS
 rw [List.min?_eq_none_iff, List.eq_nil_iff_forall_not_mem]
 exact ⟨fun h y => by have := h y; rw [key] at this; omega, fun h y hy => by rw [key] at hy; have := h y; omega⟩
def cnt (n : Nat) (q : Nat → Bool) : Nat := (List.range n).countP q
theorem cnt_mono {n : Nat} {q r : Nat → Bool} (h : ∀ f, f < n → q f = true → r f = true) : cnt n q ≤ cnt n r := by
 unfold cnt
 exact List.countP_mono_left fun f hf => h f (List.mem_range.1 hf)
theorem cnt_split {n : Nat} (q r : Nat → Bool) : cnt n q = cnt n (fun f => q f && r f) + cnt n (fun f => q f && !r f) := by
 unfold cnt
 induction List.range n with
 | nil => rfl
 | cons f l ih =>
   simp only [List.countP_cons, ih]
   cases q f <;> cases r f <;> simp <;> omega
theorem cnt_disj {n : Nat} {q r s : Nat → Bool} (h : ∀ f, f < n → q f = true → r f = true → False) (hq : ∀ f, f < n → q f = true → s f = true) (hr : ∀ f, f < n → r f = true → s f = true) : cnt n q + cnt n r ≤ cnt n s := by
 unfold cnt
 have : ∀ l : List Nat, (∀ f ∈ l, f < n) → l.countP q + l.countP r ≤ l.countP s := by
  intro l
  induction l with
  | nil => intro _; simp
  | cons f l ih =>
    intro hl
    have h1 := ih fun g hg => hl g (List.mem_cons_of_mem _ hg)
    have hf := hl f List.mem_cons_self
    have h2 := h f hf
    have h3 := hq f hf
    have h4 := hr f hf
    simp only [List.countP_cons]
    cases hqf : q f <;> cases hrf : r f <;> cases hsf : s f <;> simp_all <;> omega
 exact this _ fun f hf => List.mem_range.1 hf
theorem cnt_ex {n : Nat} {q : Nat → Bool} (h : 0 < cnt n q) : ∃ f, f < n ∧ q f = true := by
 unfold cnt at h
 rw [List.countP_pos_iff] at h
 obtain ⟨f, hf, hq⟩ := h
 exact ⟨f, List.mem_range.1 hf, hq⟩
theorem cnt_not {n : Nat} (q : Nat → Bool) : cnt n q + cnt n (fun f => !q f) = n := by
 have h := cnt_split (n := n) (fun _ => true) q
 have : cnt n (fun _ => true) = n := by
  unfold cnt
  rw [List.countP_eq_length.2 (fun _ _ => rfl), List.length_range]
 simp only [Bool.true_and, this] at h
 exact h.symm
structure Good (n t : Nat) (H : Nat → Bool) : Prop where
 few : cnt n (fun f => !H f) ≤ t
 third : 3 * t < n
section
variable {n t : Nat} {H : Nat → Bool}
theorem Good.many (g : Good n t H) : n ≤ cnt n H + t := by have := cnt_not (n := n) H; have := g.few; omega
def Heard (n : Nat) (H : Nat → Bool) (said : Nat → List Nat) (heard : Nat → Nat → List Nat) : Prop := ∀ w f, w < n → f < n → H f = true → heard w f = said f
theorem votes_le_honest (g : Good n t H) {said : Nat → List Nat} {heard : Nat → Nat → List Nat} (hh : Heard n H said heard) {w x : Nat} (hw : w < n) : votes n (heard w) x ≤ cnt n (fun f => H f && decide ((said f).head? = some x)) + t := by
 have h1 : votes n (heard w) x = cnt n (fun f => decide ((heard w f).head? = some x)) := rfl
 rw [h1, cnt_split _ H]
 have h2 : cnt n (fun f => decide ((heard w f).head? = some x) && !H f) ≤ t := Nat.le_trans (cnt_mono fun f _ h => by simp only [Bool.and_eq_true] at h; exact h.2) g.few
 have h3 : cnt n (fun f => decide ((heard w f).head? = some x) && H f) ≤ cnt n (fun f => H f && decide ((said f).head? = some x)) := cnt_mono fun f hf h => by
  simp only [Bool.and_eq_true, decide_eq_true_eq] at h ⊢
  exact ⟨h.2, by rw [← hh w f hw hf h.2]; exact h.1⟩
 omega
theorem votes_ge_honest {said : Nat → List Nat} {heard : Nat → Nat → List Nat} (hh : Heard n H said heard) {w x : Nat} (hw : w < n) : cnt n (fun f => H f && decide ((said f).head? = some x)) ≤ votes n (heard w) x :=
 cnt_mono (r := fun f => decide ((heard w f).head? = some x)) fun f hf h => by
  simp only [Bool.and_eq_true, decide_eq_true_eq] at h ⊢
  rw [hh w f hw hf h.1]; exact h.2
theorem all_votes (g : Good n t H) {said : Nat → List Nat} {heard : Nat → Nat → List Nat} (hh : Heard n H said heard) {x : Nat} (hx : ∀ f, f < n → H f = true → (said f).head? = some x) {w : Nat} (hw : w < n) : n - t ≤ votes n (heard w) x ∧ ∀ y, y ≠ x → votes n (heard w) y ≤ t := by
 constructor
 ·have h1 := votes_ge_honest hh (x := x) hw
  have h2 : cnt n H ≤ cnt n (fun f => H f && decide ((said f).head? = some x)) := cnt_mono fun f hf h => by
   simp only [Bool.and_eq_true, decide_eq_true_eq]
   exact ⟨h, hx f hf h⟩
  have := g.many
  omega
 ·intro y hy
  have h1 := votes_le_honest g hh (x := y) hw
  have h2 : cnt n (fun f => H f && decide ((said f).head? = some y)) = 0 := by
   rcases Nat.eq_zero_or_pos (cnt n (fun f => H f && decide ((said f).head? = some y))) with h | h
   ·exact h
   ·obtain ⟨f, hf, h3⟩ := cnt_ex h
    simp only [Bool.and_eq_true, decide_eq_true_eq] at h3
    rw [hx f hf h3.1] at h3
    exact absurd (Option.some.inj h3.2).symm hy
  omega
theorem least_one {h : Nat → List Nat} {m x : Nat} (hm : 0 < m) (h1 : m ≤ votes n h x) (h2 : ∀ y, y ≠ x → votes n h y < m) : leastS n h m = some x := by
 rw [leastS_some hm]
 refine ⟨h1, fun y hy => ?_⟩
 by_cases hyx : y = x
 ·omega
 ·have := h2 y hyx; omega
def prop1 (n t : Nat) (h1 : Nat → Nat → List Nat) (w : Nat) : List Nat := match leastS n (h1 w) (n - t) with | some x => [x] | none => []
def val2 (n t : Nat) (v : Nat → Nat) (h2 : Nat → Nat → List Nat) (w : Nat) : Nat := match leastS n (h2 w) (t + 1) with | some x => x | none => v w
def lock2 (n t : Nat) (h2 : Nat → Nat → List Nat) (w : Nat) : Bool := (leastS n (h2 w) (n - t)).isSome
def out3 (n t king : Nat) (v : Nat → Nat) (h2 h3 : Nat → Nat → List Nat) (w : Nat) : Nat := if lock2 n t h2 w then val2 n t v h2 w else (h3 w king).headD 0
theorem prop_one (g : Good n t H) {v : Nat → Nat} {h1 : Nat → Nat → List Nat} (k1 : Heard n H (fun f => [v f]) h1) {a b x y : Nat} (ha : a < n) (hb : b < n) (hx : (prop1 n t h1 a).head? = some x) (hy : (prop1 n t h1 b).head? = some y) : x = y := by
 have e : ∀ {c z}, (prop1 n t h1 c).head? = some z → n - t ≤ votes n (h1 c) z := by
  intro c z hc
  unfold prop1 at hc
  split at hc
  ·rename_i u hu
   cases hc
   exact ((leastS_some (by have := g.third; omega)).1 hu).1
  ·cases hc
 have e1 := e hx
 have e2 := e hy
 have l1 := votes_le_honest g k1 (x := x) ha
 have l2 := votes_le_honest g k1 (x := y) hb
 rcases Decidable.em (x = y) with h | h
 ·exact h
 ·have hd := cnt_disj (n := n) (q := fun f => H f && decide (([v f] : List Nat).head? = some x)) (r := fun f => H f && decide (([v f] : List Nat).head? = some y)) (s := H) (fun f _ h1 h2 => by
   simp only [Bool.and_eq_true, decide_eq_true_eq, List.head?_cons, Option.some.injEq] at h1 h2
   exact h (h1.2.symm.trans h2.2)) (fun f _ h => by simp only [Bool.and_eq_true] at h; exact h.1) (fun f _ h => by simp only [Bool.and_eq_true] at h; exact h.1)
  have c1 : cnt n (fun f => H f && decide (([v f] : List Nat).head? = some x)) + cnt n (fun f => !H f) ≥ n - t := by
   have h1' : votes n (h1 a) x = cnt n (fun f => decide ((h1 a f).head? = some x)) := rfl
   have := cnt_split (n := n) (fun f => decide ((h1 a f).head? = some x)) H
   have h3 : cnt n (fun f => decide ((h1 a f).head? = some x) && !H f) ≤ cnt n (fun f => !H f) := cnt_mono fun f _ h => by simp only [Bool.and_eq_true] at h; exact h.2
   have h4 : cnt n (fun f => decide ((h1 a f).head? = some x) && H f) ≤ cnt n (fun f => H f && decide (([v f] : List Nat).head? = some x)) := cnt_mono fun f hf h => by
    simp only [Bool.and_eq_true, decide_eq_true_eq] at h ⊢
    exact ⟨h.2, by have := k1 a f ha hf h.2; simp only at this; rw [← this]; exact h.1⟩
   omega
  have c2 : cnt n (fun f => H f && decide (([v f] : List Nat).head? = some y)) + cnt n (fun f => !H f) ≥ n - t := by
   have h1' : votes n (h1 b) y = cnt n (fun f => decide ((h1 b f).head? = some y)) := rfl
   have := cnt_split (n := n) (fun f => decide ((h1 b f).head? = some y)) H
   have h3 : cnt n (fun f => decide ((h1 b f).head? = some y) && !H f) ≤ cnt n (fun f => !H f) := cnt_mono fun f _ h => by simp only [Bool.and_eq_true] at h; exact h.2
   have h4 : cnt n (fun f => decide ((h1 b f).head? = some y) && H f) ≤ cnt n (fun f => H f && decide (([v f] : List Nat).head? = some y)) := cnt_mono fun f hf h => by
    simp only [Bool.and_eq_true, decide_eq_true_eq] at h ⊢
    exact ⟨h.2, by have := k1 b f hb hf h.2; simp only at this; rw [← this]; exact h.1⟩
   omega
  have := cnt_not (n := n) H
  have := g.few
  have := g.third
  omega
theorem vote_prop (g : Good n t H) {said : Nat → List Nat} {h2 : Nat → Nat → List Nat} (k2 : Heard n H said h2) {w x : Nat} (hw : w < n) (hx : t + 1 ≤ votes n (h2 w) x) : ∃ f, f < n ∧ H f = true ∧ (said f).head? = some x := by
 have h1 := votes_le_honest g k2 (x := x) hw
 obtain ⟨f, hf, h⟩ := cnt_ex (n := n) (q := fun f => H f && decide ((said f).head? = some x)) (by omega)
 simp only [Bool.and_eq_true, decide_eq_true_eq] at h
 exact ⟨f, hf, h.1, h.2⟩
theorem vote_one (g : Good n t H) {v : Nat → Nat} {h1 h2 : Nat → Nat → List Nat} (k1 : Heard n H (fun f => [v f]) h1) (k2 : Heard n H (prop1 n t h1) h2) {a b x y : Nat} (ha : a < n) (hb : b < n) (hx : t + 1 ≤ votes n (h2 a) x) (hy : t + 1 ≤ votes n (h2 b) y) : x = y := by
 obtain ⟨f, hf, _, h3⟩ := vote_prop g k2 ha hx
 obtain ⟨f', hf', _, h4⟩ := vote_prop g k2 hb hy
 exact prop_one g k1 hf hf' h3 h4
theorem lock_val (g : Good n t H) {v : Nat → Nat} {h1 h2 : Nat → Nat → List Nat} (k1 : Heard n H (fun f => [v f]) h1) (k2 : Heard n H (prop1 n t h1) h2) {a : Nat} (ha : a < n) (hl : lock2 n t h2 a = true) : ∃ x, leastS n (h2 a) (n - t) = some x ∧ ∀ b, b < n → val2 n t v h2 b = x := by
 have g3 := g.third
 unfold lock2 at hl
 obtain ⟨x, hx⟩ := Option.isSome_iff_exists.1 hl
 refine ⟨x, hx, fun b hb => ?_⟩
 have hv := ((leastS_some (by omega)).1 hx).1
 have l1 := votes_le_honest g k2 (x := x) ha
 have l2 := votes_ge_honest k2 (x := x) hb
 have hvb : t + 1 ≤ votes n (h2 b) x := by omega
 have : leastS n (h2 b) (t + 1) = some x := least_one (by omega) hvb fun y hy => by
  rcases Nat.lt_or_ge (votes n (h2 b) y) (t + 1) with h | h
  ·exact h
  ·exact absurd (vote_one g k1 k2 hb hb h hvb) hy
 unfold val2
 rw [this]
theorem king_one (g : Good n t H) {v : Nat → Nat} {h1 h2 h3 : Nat → Nat → List Nat} {king : Nat} (hk : king < n) (hH : H king = true) (k1 : Heard n H (fun f => [v f]) h1) (k2 : Heard n H (prop1 n t h1) h2) (k3 : Heard n H (fun f => if f = king then [val2 n t v h2 king] else []) h3) : ∀ a, a < n → out3 n t king v h2 h3 a = val2 n t v h2 king := by
 intro a ha
 unfold out3
 split
 ·rename_i hl
  obtain ⟨x, _, h⟩ := lock_val g k1 k2 ha hl (v := v)
  rw [h a ha, h king hk]
 ·have := k3 a king ha hk hH
  simp only [if_true] at this
  rw [this]; rfl
theorem persist (g : Good n t H) {v : Nat → Nat} {h1 h2 h3 : Nat → Nat → List Nat} {king x : Nat} (k1 : Heard n H (fun f => [v f]) h1) (k2 : Heard n H (prop1 n t h1) h2) (hx : ∀ f, f < n → H f = true → v f = x) : ∀ a, a < n → out3 n t king v h2 h3 a = x := by
 have g3 := g.third
 have p1 : ∀ a, a < n → prop1 n t h1 a = [x] := fun a ha => by
  obtain ⟨q1, q2⟩ := all_votes g k1 (x := x) (fun f hf h => by simp [hx f hf h]) ha
  unfold prop1
  rw [least_one (n := n) (by omega) q1 fun y hy => by have := q2 y hy; omega]
 intro a ha
 obtain ⟨q1, q2⟩ := all_votes g k2 (x := x) (fun f hf _ => by rw [p1 f hf]; rfl) ha
 have e1 : leastS n (h2 a) (t + 1) = some x := least_one (by omega) (by omega) fun y hy => by have := q2 y hy; omega
 have e2 : leastS n (h2 a) (n - t) = some x := least_one (by omega) q1 fun y hy => by have := q2 y hy; omega
 unfold out3 lock2 val2
 rw [e1, e2]; rfl
theorem lock_ref (g : Good n t H) {v : Nat → Nat} {h1 h2 : Nat → Nat → List Nat} (k1 : Heard n H (fun f => [v f]) h1) (k2 : Heard n H (prop1 n t h1) h2) {a : Nat} (ha : a < n) : lock2 n t h2 a = ((leastS n (h2 a) (t + 1)).isSome && decide (n - t ≤ votes n (h2 a) (val2 n t v h2 a))) := by
 have g3 := g.third
 cases hl : lock2 n t h2 a with
 | true =>
   obtain ⟨x, h1', h2'⟩ := lock_val g k1 k2 ha hl (v := v)
   have hv := ((leastS_some (by omega)).1 h1').1
   rw [h2' a ha]
   have : (leastS n (h2 a) (t + 1)).isSome = true := by
    cases hq : leastS n (h2 a) (t + 1) with
    | some y => rfl
    | none => have := (leastS_none (by omega)).1 hq x; omega
   rw [this]; simp [hv]
 | false =>
   unfold lock2 at hl
   have hn : leastS n (h2 a) (n - t) = none := by
    cases hq : leastS n (h2 a) (n - t) with
    | none => rfl
    | some y => rw [hq] at hl; cases hl
   have := (leastS_none (by omega)).1 hn (val2 n t v h2 a)
   have hnot : ¬ (n - t ≤ votes n (h2 a) (val2 n t v h2 a)) := by omega
   simp [hnot]
structure Run (n t : Nat) (H : Nat → Bool) (K : Nat) (vs : Nat → Nat → Nat) (h1 h2 h3 : Nat → Nat → Nat → List Nat) : Prop where
 s1 : ∀ k, k < K → Heard n H (fun f => [vs k f]) (h1 k)
 s2 : ∀ k, k < K → Heard n H (prop1 n t (h1 k)) (h2 k)
 s3 : ∀ k, k < K → Heard n H (fun f => if f = k then [val2 n t (vs k) (h2 k) k] else []) (h3 k)
 nxt : ∀ k, k < K → ∀ w, w < n → vs (k + 1) w = out3 n t k (vs k) (h2 k) (h3 k) w
section
variable {K : Nat} {vs : Nat → Nat → Nat} {h1 h2 h3 : Nat → Nat → Nat → List Nat}
theorem Run.persist (g : Good n t H) (r : Run n t H K vs h1 h2 h3) {k x : Nat} (hx : ∀ f, f < n → H f = true → vs k f = x) : ∀ j, k + j ≤ K → ∀ f, f < n → H f = true → vs (k + j) f = x
 | 0, _, f, hf, h => hx f hf h
 | j + 1, hj, f, hf, h => by
   have ih := Run.persist g r hx j (by omega)
   rw [show k + (j + 1) = k + j + 1 by omega, r.nxt (k + j) (by omega) f hf]
   exact Abs.persist g (r.s1 _ (by omega)) (r.s2 _ (by omega)) ih f hf
theorem honest_king (g : Good n t H) : ∃ k, k < t + 1 ∧ H k = true := by
 have g1 := g.few
 have g3 := g.third
 rcases Classical.em (∃ k, k < t + 1 ∧ H k = true) with h | h
 ·exact h
 ·have h2 : ∀ k ∈ List.range (t + 1), (fun f => !H f) k = true := fun k hk => by
   have hk2 := List.mem_range.1 hk
   cases hq : H k with
   | true => exact absurd ⟨k, hk2, hq⟩ h
   | false => simp [hq]
  have h3 : (List.range (t + 1)).countP (fun f => !H f) = t + 1 := by rw [List.countP_eq_length.2 h2, List.length_range]
  have h4 : (List.range (t + 1)).Sublist (List.range n) := by
   have : List.range n = List.range (t + 1) ++ (List.range (n - (t + 1))).map (t + 1 + ·) := by
    rw [← List.range_add, show t + 1 + (n - (t + 1)) = n by omega]
   rw [this]
   exact List.sublist_append_left _ _
  have h5 := h4.countP_le (p := fun f => !H f)
  have h6 : cnt n (fun f => !H f) = (List.range n).countP (fun f => !H f) := rfl
  omega
theorem Run.agree (g : Good n t H) (r : Run n t H (t + 1) vs h1 h2 h3) : ∃ x, ∀ f, f < n → H f = true → vs (t + 1) f = x := by
 have g3 := g.third
 obtain ⟨k, hk, hH⟩ := honest_king g
 have h := king_one g (show k < n by omega) hH (r.s1 k hk) (r.s2 k hk) (r.s3 k hk)
 refine ⟨val2 n t (vs k) (h2 k) k, fun f hf hHf => ?_⟩
 have := Run.persist g r (k := k + 1) (x := val2 n t (vs k) (h2 k) k) (fun f hf _ => by rw [r.nxt k hk f hf]; exact h f hf) (t - k) (by omega) f hf hHf
 rwa [show k + 1 + (t - k) = t + 1 by omega] at this
theorem Run.valid (g : Good n t H) (r : Run n t H (t + 1) vs h1 h2 h3) {x : Nat} (hx : ∀ f, f < n → H f = true → vs 0 f = x) : ∀ f, f < n → H f = true → vs (t + 1) f = x := by
 have := Run.persist g r hx (t + 1) (by omega)
 rwa [Nat.zero_add] at this
end
end
end Go.Abs
