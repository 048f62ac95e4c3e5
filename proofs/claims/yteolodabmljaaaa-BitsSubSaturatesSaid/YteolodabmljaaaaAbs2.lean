/- Joined: AbsG AbsH AbsI AbsJ AbsK. -/
import Derived.Test.YteolodabmljaaaaAbs1
set_option linter.all false
/- The invariant between a state of the evaluator and the model's memory. -/
set_option linter.unusedVariables false
noncomputable section
namespace Go.Abs
open Go

theorem block_of_add (a : Addr) (n : Nat) : (a.add n).block = a.block := by unfold Addr.add; split <;> rfl
theorem add_of_add (a : Addr) (i j : Nat) : (a.add i).add j = a.add (i + j) := by
  unfold Addr.add
  by_cases hi : i = 0 <;> by_cases hj : j = 0 <;> simp [hi, hj, Nat.add_assoc]

/-- The surroundings: where boxes lie; which blocks may be leant on (for good; for the call). -/
structure Env where
  β : Nat → Nat
  Gp : Nat → Prop
  Gb : Nat → Prop

def Env.good (E : Env) (pm : Bool) (k : Nat) : Prop := if pm then E.Gp k else E.Gb k
def FOk (E : Env) (w : World) (K : Nat → Prop) (pm : Bool) (A : Addr) (cs : List V) : Prop :=
  noRowL cs = true ∧ (∀ (j : Nat) (x : V), cs[j]? = some x → ∃ u, w.cell? (A.add j) = some u ∧ MR E.β x u) ∧ (cs ≠ [] → E.good pm A.block ∧ ¬ K A.block)
def AtOk (E : Env) (w : World) (nx : Nat) (K : Nat → Prop) : At → Prop
  | .p b => b < nx
  | .i pm A cap n cs => n ≤ cap ∧ match A with | none => n = 0 ∧ cs = [] | some a => FOk E w K pm a cs
  | .f pm A cs => FOk E w K pm A cs
def RowOk (E : Env) (w : World) : RowE → Prop
  | (d, k, n, cs) => match d with
    | .nil => n = 0 ∧ cs = []
    | .emp _ => n = 0 ∧ cs = []
    | .blk g cap kk => n ≤ cap ∧ cap ≤ 9223372036854775807 ∧ 0 < kk ∧ cs.length = n * kk ∧ (0 < n ∨ k = kk ∨ cap = 0) ∧
      ∃ (cur : Array Value) (e : TypeId), w.heap[g]? = some (.cells cur e (0, 0)) ∧ cur.size = cap * kk ∧ ∀ (j : Nat) (x : V), cs[j]? = some x → ∃ u, cur[j]? = some u ∧ MR E.β x u

structure Inv (E : Env) (nt : Nat) (D : St) (ex : List V) (w : World) : Prop where
  rows : ∀ e ∈ rowsD nt D ex, RowOk E w e
  nodup : (keysD nt D ex).Nodup
  atoms : ∀ a ∈ atomsD nt D ex, AtOk E w D.nx (fun k => k ∈ keysD nt D ex) a
  boxes : ∀ e ∈ D.m, e.2.g = E.β e.1 ∧ e.1 < D.nx
  ids : (D.m.map (·.1)).Nodup
  keysG : ∀ k ∈ keysD nt D ex, E.Gp k
  newG : ∀ k, w.heap.size ≤ k → E.Gp k
  gpb : ∀ k, E.Gp k → E.Gb k

structure SlotsOk (E : Env) (nt : Nat) (D : St) (a : Act) : Prop where
  size : a.tmps.size = nt
  defers : a.defers = []
  slot : ∀ t, PR E.β D (D.s t) (a.tmps.getD t undef)
  high : ∀ t, nt ≤ t → D.s t = .dead

/-! ### small movers -/
theorem AtOk.mono {E : Env} {w : World} {nx nx' : Nat} {K K' : Nat → Prop} (hn : nx ≤ nx') (hK : ∀ k, K' k → K k) {a : At} (h : AtOk E w nx K a) : AtOk E w nx' K' a := by
  have hf : ∀ {pm A cs}, FOk E w K pm A cs → FOk E w K' pm A cs := fun h => ⟨h.1, h.2.1, fun hc => ⟨(h.2.2 hc).1, fun hk => (h.2.2 hc).2 (hK _ hk)⟩⟩
  cases a with
  | p b => exact Nat.lt_of_lt_of_le h hn
  | i pm A cap n cs =>
    refine ⟨h.1, ?_⟩
    have h2 := h.2
    cases A with
    | none => exact h2
    | some a => exact hf h2
  | f pm A cs => exact hf h
theorem keysOf_perm {l l' : List RowE} (h : l.Perm l') : (keysOf l).Perm (keysOf l') := h.filterMap _
theorem keysOf_append (l l' : List RowE) : keysOf (l ++ l') = keysOf l ++ keysOf l' := List.filterMap_append
theorem RLeL.keys {β : Nat → Nat} {l' l : List RowE} (h : RLeL β l' l) : keysOf l' = keysOf l := by
  induction h with
  | nil => rfl
  | @cons e' e l' l h1 _ ih =>
    have : keyOf e' = keyOf e := by
      obtain ⟨d', r'⟩ := e'; obtain ⟨d, r⟩ := e
      have : d' = d := h1.1
      subst this; cases d' <;> rfl
    simp only [keysOf, List.filterMap_cons, this] at ih ⊢
    cases keyOf e <;> simp [ih]
theorem RowOk.le {E : Env} {w : World} {e' e : RowE} (h : RLe E.β e' e) (k : RowOk E w e) : RowOk E w e' := by
  obtain ⟨d', k', n', cs'⟩ := e'
  obtain ⟨d, k0, n, cs⟩ := e
  obtain ⟨h1, h2, h3, h4, h5⟩ := h
  simp only at h1 h2 h3 h4 h5
  subst h1 h2 h3
  cases d' with
  | nil => exact ⟨k.1, List.eq_nil_of_length_eq_zero (by rw [h4, k.2]; rfl)⟩
  | emp A => exact ⟨k.1, List.eq_nil_of_length_eq_zero (by rw [h4, k.2]; rfl)⟩
  | blk g cap kk =>
    obtain ⟨q1, q2, q3, q4, q5, cur, el, q6, q7, q8⟩ := k
    refine ⟨q1, q2, q3, h4.trans q4, q5, cur, el, q6, q7, fun j x hx => ?_⟩
    have hj : j < cs.length := by rw [← h4]; exact (List.getElem?_eq_some_iff.1 hx).1
    obtain ⟨u, hu, hm⟩ := q8 j _ (List.getElem?_eq_getElem hj)
    exact ⟨u, hu, h5 j _ x (List.getElem?_eq_getElem hj) hx u hm⟩

/-- A state whose rows are among those of another (a part forgotten, said less of), whose atoms are among the other's or well by themselves. -/
theorem Inv.weaken {E : Env} {nt nt' : Nat} {D D' : St} {ex ex' : List V} {w : World} (h : Inv E nt D ex w) (S R R' : List RowE) (hS : (rowsD nt D ex).Perm (S ++ R)) (hR : RLeL E.β R' R) (hS' : (rowsD nt' D' ex').Perm R')
    (ha : ∀ a ∈ atomsD nt' D' ex', a ∈ atomsD nt D ex) (hm : ∀ e' ∈ D'.m, ∃ e ∈ D.m, e.2.g = e'.2.g ∧ e.1 = e'.1) (hi : (D'.m.map (·.1)).Nodup) (hx : D'.nx = D.nx) : Inv E nt' D' ex' w := by
  have hk : ∀ k, k ∈ keysD nt' D' ex' → k ∈ keysD nt D ex := by
    intro k hk
    have h1 := (keysOf_perm hS').mem_iff.1 hk
    rw [hR.keys] at h1
    exact (keysOf_perm hS).mem_iff.2 (by rw [keysOf_append]; exact List.mem_append_right _ h1)
  refine ⟨fun e he => ?_, ?_, fun a haa => ?_, fun e' he' => ?_, hi, fun k hkk => h.keysG k (hk k hkk), h.newG, h.gpb⟩
  · obtain ⟨e0, he0, hle⟩ := hR.mem (hS'.mem_iff.1 he)
    exact (h.rows e0 (hS.mem_iff.2 (List.mem_append_right _ he0))).le hle
  · refine (keysOf_perm hS').nodup_iff.2 ?_
    rw [hR.keys]
    have := (keysOf_perm hS).nodup_iff.1 h.nodup
    rw [keysOf_append] at this
    exact (List.nodup_append.1 this).2.1
  · exact (h.atoms a (ha a haa)).mono (by rw [hx]; exact Nat.le_refl _) hk
  · obtain ⟨e, he, h1, h2⟩ := hm e' he'
    have := h.boxes e he
    rw [← h1, ← h2, hx]; exact this

theorem keys_sub {β : Nat → Nat} {nt nt' : Nat} {D D' : St} {ex ex' : List V} {S R R' : List RowE} (hS : (rowsD nt D ex).Perm (S ++ R)) (hR : RLeL β R' R) (hS' : (rowsD nt' D' ex').Perm R') :
    ∀ k, k ∈ keysD nt' D' ex' → k ∈ keysD nt D ex := by
  intro k hk
  have h1 := (keysOf_perm hS').mem_iff.1 hk
  rw [hR.keys] at h1
  exact (keysOf_perm hS).mem_iff.2 (by rw [keysOf_append]; exact List.mem_append_right _ h1)
theorem setAt_m (D : St) (r : Root) (p : List Nat) (y : V) : (setAt D r p y).nx = D.nx ∧ ((setAt D r p y).m.map (·.1)) = D.m.map (·.1) ∧ ∀ e' ∈ (setAt D r p y).m, ∃ e ∈ D.m, e.2.g = e'.2.g ∧ e.1 = e'.1 := by
  cases r with
  | slot t => exact ⟨rfl, rfl, fun e he => ⟨e, he, rfl, rfl⟩⟩
  | box b =>
    simp only [setAt]
    cases hb : getBox D.m b with
    | none => exact ⟨rfl, rfl, fun e he => ⟨e, he, rfl, rfl⟩⟩
    | some c =>
      cases p with
      | nil => exact ⟨rfl, rfl, fun e he => ⟨e, he, rfl, rfl⟩⟩
      | cons o q =>
        refine ⟨rfl, setBox_fst _ _ _, fun e he => ?_⟩
        have key : ∀ (m : List (Nat × Box)) (c' : Box), getBox m b = some c → c'.g = c.g → ∀ e ∈ setBox m b c', ∃ e0 ∈ m, e0.2.g = e.2.g ∧ e0.1 = e.1 := by
          intro m
          induction m with
          | nil => intro c' h; simp [getBox] at h
          | cons x m ih =>
            intro c' h hg e he
            obtain ⟨i, c0⟩ := x
            simp only [getBox] at h
            by_cases ei : i = b
            · rw [if_pos ei] at h; cases h
              simp only [setBox, if_pos ei] at he
              rcases List.mem_cons.1 he with rfl | he
              · exact ⟨_, List.mem_cons_self, hg.symm, rfl⟩
              · exact ⟨e, List.mem_cons_of_mem _ he, rfl, rfl⟩
            · rw [if_neg ei] at h
              simp only [setBox, if_neg ei] at he
              rcases List.mem_cons.1 he with rfl | he
              · exact ⟨(i, c0), List.mem_cons_self, rfl, rfl⟩
              · obtain ⟨e0, h0, h1⟩ := ih c' h hg e he
                exact ⟨e0, List.mem_cons_of_mem _ h0, h1⟩
        have he' : e ∈ setBox D.m b { c with cs := match c.cs[o]? with | some x => c.cs.set o (goSet q y x) | none => c.cs } := he
        exact key D.m { c with cs := match c.cs[o]? with | some x => c.cs.set o (goSet q y x) | none => c.cs } hb rfl e he'

/-! ### slots behind a turn of a tree that memory doesn't see -/
mutual
theorem PR_goSet {β : Nat → Nat} {D : St} : ∀ (p : List Nat) (x old y : V) (u : Value), go p x = some old → (∀ u, PR β D old u → PR β D y u) → PR β D x u → PR β D (goSet p y x) u
  | [], x, old, y, u, h, hy, hx => by simp only [go, Option.some.injEq] at h; subst h; exact hy u hx
  | o :: p, .own d k n cs, old, y, u, h, hy, hx => hx
  | o :: p, .agg cs, old, y, u, h, hy, hx => by
    obtain ⟨us, rfl, hl⟩ := hx
    refine ⟨us, rfl, ?_⟩
    simp only [go] at h
    cases hc : cs[o]? with
    | none => simp [hc] at h
    | some z =>
      simp only [hc] at h
      exact PRL_set cs us o z _ hc (fun u hu => PR_goSet p z old y u h hy hu) hl
  | o :: p, .tup cs, old, y, u, h, hy, hx => by
    obtain ⟨us, rfl, hl⟩ := hx
    refine ⟨us, rfl, ?_⟩
    simp only [go] at h
    cases hc : cs[o]? with
    | none => simp [hc] at h
    | some z =>
      simp only [hc] at h
      exact PRL_set cs us o z _ hc (fun u hu => PR_goSet p z old y u h hy hu) hl
  | _ :: _, .int _ _, _, _, _, h, _, _ | _ :: _, .bool _, _, _, _, h, _, _ | _ :: _, .nilp, _, _, _, h, _, _ | _ :: _, .nilf, _, _, _, h, _, _ | _ :: _, .bptr _ _, _, _, _, h, _, _
  | _ :: _, .ip _ _ _, _, _, _, h, _, _ | _ :: _, .im _ _ _ _ _, _, _, _, h, _, _ | _ :: _, .fn _ _ _, _, _, _, h, _, _ | _ :: _, .ref _ _, _, _, _, h, _, _ | _ :: _, .loc _ _, _, _, _, h, _, _ | _ :: _, .dead, _, _, _, h, _, _ => by
    simp [go] at h
theorem PRL_set {β : Nat → Nat} {D : St} : ∀ (l : List V) (us : List Value) (o : Nat) (z y : V), l[o]? = some z → (∀ u, PR β D z u → PR β D y u) → PRL β D l us → PRL β D (l.set o y) us
  | [], us, o, z, y, h, _, _ => by simp at h
  | v :: l, us, 0, z, y, h, hy, hl => by
    obtain ⟨u, us', rfl, h1, h2⟩ := hl
    simp at h; subst h
    exact ⟨u, us', rfl, hy u h1, h2⟩
  | v :: l, us, o + 1, z, y, h, hy, hl => by
    obtain ⟨u, us', rfl, h1, h2⟩ := hl
    simp at h
    exact ⟨u, us', rfl, h1, PRL_set l us' o z y h hy h2⟩
end
theorem SlotsOk.lt {E : Env} {nt : Nat} {D : St} {a : Act} (h : SlotsOk E nt D a) {r : Root} {p : List Nat} {d : Dec} {k n : Nat} {cs : List V} (hl : look D r p = some (.own d k n cs)) : ∀ t, r = .slot t → t < nt := by
  intro t hr
  subst hr
  rcases Nat.lt_or_ge t nt with h1 | h1
  · exact h1
  · simp only [look, h.high t h1] at hl
    cases p <;> simp [go] at hl
/-- Slots, behind a place turned to what memory says as well (a hole; the same, read-only). -/
theorem SlotsOk.setAt {E : Env} {nt : Nat} {D : St} {a : Act} (h : SlotsOk E nt D a) {r : Root} {p : List Nat} {old y : V} (hr : ∀ t, r = .slot t → t < nt) (hl : look D r p = some old) (hn : noRow y = true) (hy : ∀ u, PR E.β D old u → PR E.β D y u) :
    SlotsOk E nt (Abs.setAt D r p y) a := by
  have hk := (setAt_turned (y := y) hl).2 hn
  refine ⟨h.size, h.defers, fun t => ?_, fun t ht => ?_⟩
  case refine_2 =>
    cases r with
    | slot t' =>
      have : t ≠ t' := fun e => by have := hr t' rfl; omega
      simp only [Abs.setAt, if_neg this]
      exact h.high t ht
    | box b =>
      have : (Abs.setAt D (.box b) p y).s = D.s := by
        simp only [Abs.setAt]
        cases getBox D.m b with
        | none => rfl
        | some c => cases p <;> rfl
      rw [this]; exact h.high t ht
  refine PR_kept hk ?_
  cases r with
  | slot t' =>
    simp only [Abs.setAt]
    by_cases e : t = t'
    · subst e; rw [if_pos rfl]; exact PR_goSet p _ old y _ hl hy (h.slot t)
    · rw [if_neg e]; exact h.slot t
  | box b =>
    have : (Abs.setAt D (.box b) p y).s = D.s := by
      simp only [Abs.setAt]
      cases getBox D.m b with
      | none => rfl
      | some c => cases p <;> rfl
    rw [this]; exact h.slot t

theorem rowsD_ex (nt : Nat) (D : St) (x : V) (ex : List V) : (rowsD nt D (x :: ex)).Perm (rows x ++ rowsD nt D ex) := by
  unfold rowsD
  simp only [rowsL]
  have h1 : (boxRows D.m ++ (rows x ++ rowsL ex)).Perm (rows x ++ (boxRows D.m ++ rowsL ex)) := by
    rw [← List.append_assoc, ← List.append_assoc]; exact List.Perm.append_right _ List.perm_append_comm
  have h2 : (slotRows nt D.s ++ (rows x ++ (boxRows D.m ++ rowsL ex))).Perm (rows x ++ (slotRows nt D.s ++ (boxRows D.m ++ rowsL ex))) := by
    rw [← List.append_assoc, ← List.append_assoc (rows x)]; exact List.Perm.append_right _ List.perm_append_comm
  exact (List.Perm.append_left _ h1).trans h2
theorem atomsD_ex {nt : Nat} {D : St} {x : V} {ex : List V} {b : At} : b ∈ atomsD nt D (x :: ex) ↔ b ∈ atoms x ∨ b ∈ atomsD nt D ex := by
  unfold atomsD
  simp only [atomsL, List.mem_append]
  constructor
  · rintro (h | h | h | h)
    · exact .inr (.inl h)
    · exact .inr (.inr (.inl h))
    · exact .inl h
    · exact .inr (.inr (.inr h))
  · rintro (h | h | h | h)
    · exact .inr (.inr (.inl h))
    · exact .inl h
    · exact .inr (.inl h)
    · exact .inr (.inr (.inr h))

/-- TAKEN: a hole is left, what was owned is in flight. -/
theorem take_ok {E : Env} {nt : Nat} {D D1 : St} {ex : List V} {w : World} {a : Act} {r : Root} {p : List Nat} {x : V} (hI : Inv E nt D ex w) (hS : SlotsOk E nt D a)
    (h : take D r p = some (x, D1)) : Inv E nt D1 (x :: ex) w ∧ SlotsOk E nt D1 a ∧ Kept D D1 ∧ D1.nx = D.nx ∧ (∀ k, k ∈ keysD nt D1 (x :: ex) → k ∈ keysD nt D ex) ∧ look D r p = some x ∧ ∃ d k n cs, x = .own d k n cs := by
  unfold take at h
  cases hl : look D r p with
  | none => simp [hl] at h
  | some y =>
    cases y <;> simp [hl] at h
    rename_i d k n cs
    have hr := hS.lt hl
    obtain ⟨rfl, rfl⟩ := h
    obtain ⟨R, R', hR, h1, h2⟩ := rows_setAt (β := E.β) (ex := ex) (y := .dead) hl hr (fun u _ => .inr rfl)
    obtain ⟨m1, m2, m3⟩ := setAt_m D r p .dead
    have hp : (rowsD nt (setAt D r p .dead) (.own d k n cs :: ex)).Perm (rows (.own d k n cs) ++ R') :=
      (rowsD_ex _ _ _ _).trans (List.Perm.append_left _ (by simpa [rows] using h2))
    refine ⟨?_, hS.setAt hr hl rfl (fun u _ => by simp [PR]), (setAt_turned hl).2 rfl, m1, keys_sub (S := []) h1 ((RLeL.refl E.β _).append hR) hp, rfl, _, _, _, _, rfl⟩
    refine hI.weaken [] (rows (.own d k n cs) ++ R) (rows (.own d k n cs) ++ R') h1 ((RLeL.refl _ _).append hR) hp ?_ m3 (by rw [m2]; exact hI.ids) m1
    intro b hb
    rcases atomsD_ex.1 hb with hb | hb
    · exact atoms_look hr hl hb
    · rcases atoms_setAt hr hb with hb | hb
      · simp [atoms] at hb
      · exact hb

end Go.Abs
end
/- Freezing; names replaced; values settled; values laid. -/
set_option linter.unusedVariables false
noncomputable section
namespace Go.Abs
open Go

/-! ### frz -/
theorem frzL_eq (pm : Bool) (l : List V) : frzL pm l = l.map (frz pm) := by
  induction l with
  | nil => rfl
  | cons x l ih => simp [frzL, ih]
mutual
theorem noRow_frz (pm : Bool) : ∀ x : V, noRow (frz pm x) = true
  | .own d k n cs => rfl
  | .agg cs => by simp only [frz, noRow]; exact noRowL_frz pm cs
  | .tup cs => by simp only [frz, noRow]; exact noRowL_frz pm cs
  | .fn f a b => by simp only [frz, noRow, noRowL_frz pm a, noRowL_frz pm b, Bool.and_self]
  | .dead | .int _ _ | .bool _ | .nilp | .nilf | .bptr _ _ | .ip _ _ _ | .im _ _ _ _ _ | .ref _ _ | .loc _ _ => rfl
theorem noRowL_frz (pm : Bool) : ∀ l : List V, noRowL (frzL pm l) = true
  | [] => rfl
  | v :: l => by simp only [frzL, noRowL, noRow_frz pm v, noRowL_frz pm l, Bool.and_self]
end
/-- The header stays, where nil and the empty have no elements. -/
def ZeroOk : V → Prop
  | .own d _ n _ => match d with | .blk _ _ _ => True | _ => n = 0
  | _ => True
mutual
theorem hd_frz (β : Nat → Nat) (pm : Bool) : ∀ {x : V}, (∀ e ∈ rows x, match e.1 with | .blk _ _ _ => True | _ => e.2.2.1 = 0) → hd β (frz pm x) = hd β x
  | .own d k n cs, h => by
    have h0 := h (d, k, n, cs.map sh) (by simp [rows])
    cases d with
    | nil => simp only at h0; subst h0; rfl
    | emp A => simp only at h0; subst h0; rfl
    | blk g cap kk => rfl
  | .fn f a b, h => by
    have ha := hdL_frz β pm (l := a) (fun e he => h e (by simp [rows, he]))
    have hb := hdL_frz β pm (l := b) (fun e he => h e (by simp [rows, he]))
    simp only [frz, hd, ha, hb]
  | .dead, _ | .int _ _, _ | .bool _, _ | .nilp, _ | .nilf, _ | .bptr _ _, _ | .ip _ _ _, _ | .im _ _ _ _ _, _ | .ref _ _, _ | .loc _ _, _ | .agg _, _ | .tup _, _ => rfl
theorem hdL_frz (β : Nat → Nat) (pm : Bool) : ∀ {l : List V}, (∀ e ∈ rowsL l, match e.1 with | .blk _ _ _ => True | _ => e.2.2.1 = 0) → hdL β (frzL pm l) = hdL β l
  | [], _ => rfl
  | v :: l, h => by
    have h1 := hd_frz β pm (x := v) (fun e he => h e (by simp [rowsL, he]))
    have h2 := hdL_frz β pm (l := l) (fun e he => h e (by simp [rowsL, he]))
    simp only [frzL, hdL, h1, h2]
end
theorem RowOk.zero {E : Env} {w : World} {e : RowE} (h : RowOk E w e) : match e.1 with | .blk _ _ _ => True | _ => e.2.2.1 = 0 := by
  obtain ⟨d, k, n, cs⟩ := e
  cases d with
  | nil => exact h.1
  | emp A => exact h.1
  | blk g cap kk => trivial
theorem frz_dead (pm : Bool) (x : V) : frz pm x = .dead ↔ x = .dead := by cases x <;> simp [frz]
theorem MR_frz {E : Env} {w : World} {pm : Bool} {x : V} {u : Value} (h : ∀ e ∈ rows x, RowOk E w e) (hm : MR E.β x u) : MR E.β (frz pm x) u := by
  rcases hm with hm | rfl
  · exact .inl (by rw [hd_frz E.β pm (fun e he => (h e he).zero)]; exact hm)
  · exact .inr rfl

theorem rowsL_mem_of {l : List V} {x : V} (h : x ∈ l) {e : RowE} (he : e ∈ rows x) : e ∈ rowsL l := by
  induction l with
  | nil => cases h
  | cons y l ih =>
    rcases List.mem_cons.1 h with rfl | h
    · exact List.mem_append_left _ he
    · exact List.mem_append_right _ (ih h)
theorem noRowL_mem {l : List V} (h : noRowL l = true) {x : V} (hx : x ∈ l) : noRow x = true := by
  obtain ⟨i, hi⟩ := List.getElem?_of_mem hx
  exact noRowL_get h hi
theorem keysOf_tail {e : RowE} {l : List RowE} {k : Nat} (h : k ∈ keysOf l) : k ∈ keysOf (e :: l) := by
  obtain ⟨x, hx, hk⟩ := List.mem_filterMap.1 h
  exact List.mem_filterMap.2 ⟨x, List.mem_cons_of_mem _ hx, hk⟩
theorem FOk.frz_ {E E' : Env} {w : World} {K K' : Nat → Prop} {pm pm0 : Bool} (hg : ∀ pm0 k, (pm = true → pm0 = true) → E.good pm0 k → ¬ K k → E'.good pm k ∧ ¬ K' k) (hβ : E'.β = E.β) (hp : pm = true → pm0 = true) {A : Addr} {cs : List V}
    (h : FOk E w K pm0 A cs) : FOk E' w K' pm A (frzL pm cs) := by
  refine ⟨noRowL_frz pm cs, fun j x hx => ?_, fun hc => ?_⟩
  · rw [frzL_eq, List.getElem?_map, Option.map_eq_some_iff] at hx
    obtain ⟨z, hz, rfl⟩ := hx
    obtain ⟨u, hu, hm⟩ := h.2.1 j z hz
    refine ⟨u, hu, ?_⟩
    rw [hβ]
    exact MR_frz (E := E) (w := w) (by rw [rows_noRow (noRowL_get h.1 hz)]; intro e he; cases he) hm
  · have hc' : cs ≠ [] := fun e => hc (by rw [e]; rfl)
    exact hg pm0 _ hp (h.2.2 hc').1 (h.2.2 hc').2

mutual
/-- What is leant on once all is read-only. -/
theorem frz_atoms {E E' : Env} {w : World} {nx : Nat} {K K' : Nat → Prop} {pm : Bool} (hg : ∀ pm0 k, (pm = true → pm0 = true) → E.good pm0 k → ¬ K k → E'.good pm k ∧ ¬ K' k) (hβ : E'.β = E.β) :
    ∀ (x : V), (∀ e ∈ rows x, RowOk E w e) → (∀ k ∈ keysOf (rows x), E'.good pm k ∧ ¬ K' k) → (∀ a ∈ atoms x, AtOk E w nx K a) → (pm = true → noBor x = true) → ∀ a ∈ atoms (frz pm x), AtOk E' w nx K' a
  | .own d k n cs, hr, hk, ha, hp, a, hm => by
    have hr' : ∀ e ∈ rowsL cs, RowOk E w e := fun e he => hr e (by simp [rows, he])
    have ih := frzL_atoms hg hβ cs hr' (fun k hk' => hk k (keysOf_tail hk')) ha (fun h => by simpa [noBor] using hp h)
    simp only [frz, atoms] at hm
    rcases List.mem_cons.1 hm with rfl | hm
    · have h0 := hr (d, k, n, cs.map sh) (by simp [rows])
      cases d with
      | nil =>
        have : cs = [] := by have := h0.2; simpa using this
        subst this
        exact ⟨by have := h0.1; omega, h0.1, rfl⟩
      | emp A =>
        have : cs = [] := by have := h0.2; simpa using this
        subst this
        refine ⟨by have := h0.1; omega, rfl, fun j x hx => by simp [frzL] at hx, fun h => absurd rfl h⟩
      | blk g cap kk =>
        obtain ⟨q1, q2, q3, q4, q5, cur, el, q6, q7, q8⟩ := h0
        refine ⟨q1, noRowL_frz pm cs, fun j x hx => ?_, fun _ => ?_⟩
        · rw [frzL_eq, List.getElem?_map, Option.map_eq_some_iff] at hx
          obtain ⟨z, hz, rfl⟩ := hx
          obtain ⟨u, hu, hm'⟩ := q8 j (sh z) (by rw [List.getElem?_map, hz]; rfl)
          refine ⟨u, ?_, ?_⟩
          · have : (⟨g, 0, none⟩ : Addr).add j = ⟨g, j, none⟩ := by unfold Addr.add; split <;> simp_all
            rw [this]
            simp only [World.cell?, q6]
            simpa using hu
          · rw [hβ]
            exact MR_frz (E := E) (w := w) (fun e he => hr' e (rowsL_mem_of (List.mem_of_getElem? hz) he)) (MR_sh.1 hm')
        · exact hk g (by simp [rows, keysOf, keyOf])
    · exact ih a hm
  | .im pm0 A cap n cs, hr, hk, ha, hp, a, hm => by
    have h0 := ha (.i pm0 A cap n cs) (by simp [atoms])
    have hpm : pm = true → pm0 = true := fun h => by have := hp h; simp only [noBor, Bool.and_eq_true] at this; exact this.1
    simp only [frz, atoms] at hm
    rcases List.mem_cons.1 hm with rfl | hm2
    · refine ⟨h0.1, ?_⟩
      have h2 := h0.2
      cases A with
      | none => exact ⟨h2.1, by rw [h2.2]; rfl⟩
      | some a0 => exact FOk.frz_ hg hβ hpm h2
    · cases A with
      | none =>
        rw [h0.2.2] at hm2; simp [frzL, atomsL] at hm2
      | some a0 =>
        exact frzL_atoms hg hβ cs (by rw [rowsL_noRow h0.2.1]; intro e he; cases he) (by rw [rowsL_noRow h0.2.1]; intro k hk'; cases hk') (fun b hb => ha b (by simp [atoms, hb])) (fun h => by have := hp h; simp only [noBor, Bool.and_eq_true] at this; exact this.2) a hm2
  | .ip pm0 A cs, hr, hk, ha, hp, a, hm => by
    have h0 := ha (.f pm0 A cs) (by simp [atoms])
    have hpm : pm = true → pm0 = true := fun h => by have := hp h; simp only [noBor, Bool.and_eq_true] at this; exact this.1
    simp only [frz, atoms] at hm
    rcases List.mem_cons.1 hm with rfl | hm
    · exact FOk.frz_ hg hβ hpm h0
    · exact frzL_atoms hg hβ cs (by rw [rowsL_noRow h0.1]; intro e he; cases he) (by rw [rowsL_noRow h0.1]; intro k hk'; cases hk') (fun b hb => ha b (by simp [atoms, hb])) (fun h => by have := hp h; simp only [noBor, Bool.and_eq_true] at this; exact this.2) a hm
  | .agg cs, hr, hk, ha, hp, a, hm => frzL_atoms hg hβ cs hr hk ha (fun h => by simpa [noBor] using hp h) a hm
  | .tup cs, hr, hk, ha, hp, a, hm => frzL_atoms hg hβ cs hr hk ha (fun h => by simpa [noBor] using hp h) a hm
  | .fn f l1 l2, hr, hk, ha, hp, a, hm => by
    simp only [frz, atoms] at hm
    rcases List.mem_append.1 hm with hm | hm
    · exact frzL_atoms hg hβ l1 (fun e he => hr e (by simp [rows, he])) (fun k hk' => hk k (by simp only [rows, keysOf_append]; exact List.mem_append_left _ hk')) (fun b hb => ha b (by simp [atoms, hb])) (fun h => by have := hp h; simp only [noBor, Bool.and_eq_true] at this; exact this.1) a hm
    · exact frzL_atoms hg hβ l2 (fun e he => hr e (by simp [rows, he])) (fun k hk' => hk k (by simp only [rows, keysOf_append]; exact List.mem_append_right _ hk')) (fun b hb => ha b (by simp [atoms, hb])) (fun h => by have := hp h; simp only [noBor, Bool.and_eq_true] at this; exact this.2) a hm
  | .bptr b o, hr, hk, ha, hp, a, hm => by
    simp only [frz, atoms, List.mem_singleton] at hm; subst hm
    exact ha (.p b) (by simp [atoms])
  | .dead, _, _, _, _, a, hm | .int _ _, _, _, _, _, a, hm | .bool _, _, _, _, _, a, hm | .nilp, _, _, _, _, a, hm | .nilf, _, _, _, _, a, hm | .ref _ _, _, _, _, _, a, hm | .loc _ _, _, _, _, _, a, hm => by
    simp [frz, atoms] at hm
theorem frzL_atoms {E E' : Env} {w : World} {nx : Nat} {K K' : Nat → Prop} {pm : Bool} (hg : ∀ pm0 k, (pm = true → pm0 = true) → E.good pm0 k → ¬ K k → E'.good pm k ∧ ¬ K' k) (hβ : E'.β = E.β) :
    ∀ (l : List V), (∀ e ∈ rowsL l, RowOk E w e) → (∀ k ∈ keysOf (rowsL l), E'.good pm k ∧ ¬ K' k) → (∀ a ∈ atomsL l, AtOk E w nx K a) → (pm = true → noBorL l = true) → ∀ a ∈ atomsL (frzL pm l), AtOk E' w nx K' a
  | [], _, _, _, _, a, hm => by simp [frzL, atomsL] at hm
  | v :: l, hr, hk, ha, hp, a, hm => by
    simp only [frzL, atomsL] at hm
    rcases List.mem_append.1 hm with hm | hm
    · exact frz_atoms hg hβ v (fun e he => hr e (by simp [rowsL, he])) (fun k hk' => hk k (by simp only [rowsL, keysOf_append]; exact List.mem_append_left _ hk')) (fun b hb => ha b (by simp [atomsL, hb])) (fun h => by have := hp h; simp only [noBorL, Bool.and_eq_true] at this; exact this.1) a hm
    · exact frzL_atoms hg hβ l (fun e he => hr e (by simp [rowsL, he])) (fun k hk' => hk k (by simp only [rowsL, keysOf_append]; exact List.mem_append_right _ hk')) (fun b hb => ha b (by simp [atomsL, hb])) (fun h => by have := hp h; simp only [noBorL, Bool.and_eq_true] at this; exact this.2) a hm
end
end Go.Abs
end
/- Frozen where it stands; settled; laid. -/
set_option linter.unusedVariables false
noncomputable section
namespace Go.Abs
open Go

theorem Inv.weaken2 {E : Env} {nt nt' : Nat} {D D' : St} {ex ex' : List V} {w : World} (h : Inv E nt D ex w) (S R R' : List RowE) (hS : (rowsD nt D ex).Perm (S ++ R)) (hR : RLeL E.β R' R) (hS' : (rowsD nt' D' ex').Perm R')
    (ha : ∀ a ∈ atomsD nt' D' ex', a ∈ atomsD nt D ex ∨ ((∀ k, k ∈ keysD nt' D' ex' → k ∈ keysD nt D ex) → (∀ k, k ∈ keysOf S → k ∉ keysD nt' D' ex') → AtOk E w D'.nx (fun k => k ∈ keysD nt' D' ex') a))
    (hm : ∀ e' ∈ D'.m, ∃ e ∈ D.m, e.2.g = e'.2.g ∧ e.1 = e'.1) (hi : (D'.m.map (·.1)).Nodup) (hx : D'.nx = D.nx) : Inv E nt' D' ex' w := by
  have hk : ∀ k, k ∈ keysD nt' D' ex' → k ∈ keysD nt D ex := by
    intro k hk
    have h1 := (keysOf_perm hS').mem_iff.1 hk
    rw [hR.keys] at h1
    exact (keysOf_perm hS).mem_iff.2 (by rw [keysOf_append]; exact List.mem_append_right _ h1)
  have hn := (keysOf_perm hS).nodup_iff.1 h.nodup
  rw [keysOf_append] at hn
  have hk2 : ∀ k, k ∈ keysOf S → k ∉ keysD nt' D' ex' := by
    intro k h1 h2
    have h3 := (keysOf_perm hS').mem_iff.1 h2
    rw [hR.keys] at h3
    exact (List.nodup_append.1 hn).2.2 k h1 k h3 rfl
  refine ⟨fun e he => ?_, ?_, fun a haa => ?_, fun e' he' => ?_, hi, fun k hkk => h.keysG k (hk k hkk), h.newG, h.gpb⟩
  · obtain ⟨e0, he0, hle⟩ := hR.mem (hS'.mem_iff.1 he)
    exact (h.rows e0 (hS.mem_iff.2 (List.mem_append_right _ he0))).le hle
  · refine (keysOf_perm hS').nodup_iff.2 ?_
    rw [hR.keys]
    exact (List.nodup_append.1 hn).2.1
  · rcases ha a haa with h1 | h1
    · exact (h.atoms a h1).mono (by rw [hx]; exact Nat.le_refl _) hk
    · exact h1 hk hk2
  · obtain ⟨e, he, h1, h2⟩ := hm e' he'
    have := h.boxes e he
    rw [← h1, ← h2, hx]; exact this

/-! ### sub -/
mutual
theorem rows_sub (r : Root) (p : List Nat) {x : V} (hx : noRow x = true) : ∀ v : V, rows (sub r p x v) = rows v
  | .ref r' q' => by simp only [sub]; split; exact (rows_noRow hx).trans rfl; rfl
  | .agg l => rowsL_sub r p hx l
  | .tup l => rowsL_sub r p hx l
  | .fn f a b => by simp only [sub, rows, rowsL_sub r p hx a, rowsL_sub r p hx b]
  | .loc _ _ | .dead | .int _ _ | .bool _ | .nilp | .nilf | .bptr _ _ | .ip _ _ _ | .im _ _ _ _ _ | .own _ _ _ _ => rfl
theorem rowsL_sub (r : Root) (p : List Nat) {x : V} (hx : noRow x = true) : ∀ l : List V, rowsL (subL r p x l) = rowsL l
  | [] => rfl
  | v :: l => by simp only [subL, rowsL, rows_sub r p hx v, rowsL_sub r p hx l]
end
mutual
theorem atoms_sub (r : Root) (p : List Nat) {x : V} {b : At} : ∀ v : V, b ∈ atoms (sub r p x v) → b ∈ atoms x ∨ b ∈ atoms v
  | .ref r' q', h => by
    simp only [sub] at h
    split at h
    · exact .inl h
    · exact .inr h
  | .agg l, h => atomsL_sub r p l h
  | .tup l, h => atomsL_sub r p l h
  | .fn f a c, h => by
    simp only [sub, atoms] at h ⊢
    rcases List.mem_append.1 h with h | h
    · exact (atomsL_sub r p a h).imp id (List.mem_append_left _)
    · exact (atomsL_sub r p c h).imp id (List.mem_append_right _)
  | .loc _ _, h | .dead, h | .int _ _, h | .bool _, h | .nilp, h | .nilf, h | .bptr _ _, h | .ip _ _ _, h | .im _ _ _ _ _, h | .own _ _ _ _, h => .inr h
theorem atomsL_sub (r : Root) (p : List Nat) {x : V} {b : At} : ∀ l : List V, b ∈ atomsL (subL r p x l) → b ∈ atoms x ∨ b ∈ atomsL l
  | [], h => .inr h
  | v :: l, h => by
    simp only [subL, atomsL] at h ⊢
    rcases List.mem_append.1 h with h | h
    · exact (atoms_sub r p v h).imp id (List.mem_append_left _)
    · exact (atomsL_sub r p l h).imp id (List.mem_append_right _)
end
mutual
theorem sub_mild (r : Root) (p : List Nat) {x : V} (hx : noRow x = true) : ∀ (v : V) (q : List Nat) (d : Dec) (k n : Nat) (cs : List V), go q (sub r p x v) = some (.own d k n cs) → go q v = some (.own d k n cs)
  | .ref r' q', q, d, k, n, cs, h => by
    simp only [sub] at h
    split at h
    · have := go_noRow q x _ hx h; simp [noRow] at this
    · exact h
  | .agg l, q, d, k, n, cs, h => by
    cases q with
    | nil => simp [sub, go] at h
    | cons o q => simp only [sub, go] at h ⊢; exact subL_mild r p hx l o q d k n cs h
  | .tup l, q, d, k, n, cs, h => by
    cases q with
    | nil => simp [sub, go] at h
    | cons o q => simp only [sub, go] at h ⊢; exact subL_mild r p hx l o q d k n cs h
  | .fn f a b, q, d, k, n, cs, h => by cases q <;> simp [sub, go] at h
  | .loc _ _, q, d, k, n, cs, h | .dead, q, d, k, n, cs, h | .int _ _, q, d, k, n, cs, h | .bool _, q, d, k, n, cs, h | .nilp, q, d, k, n, cs, h | .nilf, q, d, k, n, cs, h | .bptr _ _, q, d, k, n, cs, h | .ip _ _ _, q, d, k, n, cs, h
  | .im _ _ _ _ _, q, d, k, n, cs, h | .own _ _ _ _, q, d, k, n, cs, h => h
theorem subL_mild (r : Root) (p : List Nat) {x : V} (hx : noRow x = true) : ∀ (l : List V) (o : Nat) (q : List Nat) (d : Dec) (k n : Nat) (cs : List V),
    (match (subL r p x l)[o]? with | some y => go q y | none => none) = some (.own d k n cs) → (match l[o]? with | some y => go q y | none => none) = some (.own d k n cs)
  | [], o, q, d, k, n, cs, h => by simp [subL] at h
  | v :: l, 0, q, d, k, n, cs, h => by simp only [subL, List.getElem?_cons_zero] at h ⊢; exact sub_mild r p hx v q d k n cs h
  | v :: l, o + 1, q, d, k, n, cs, h => by simp only [subL, List.getElem?_cons_succ] at h ⊢; exact subL_mild r p hx l o q d k n cs h
end
mutual
theorem PR_sub {β : Nat → Nat} {D : St} {r : Root} {p : List Nat} {x : V} (hx : ∀ u, PR β D (.ref r p) u → PR β D x u) : ∀ {v : V} {u : Value}, PR β D v u → PR β D (sub r p x v) u
  | .ref r' q, u, h => by
    simp only [sub]
    split
    · rename_i e; obtain ⟨rfl, rfl⟩ := e; exact hx u h
    · exact h
  | .agg cs, u, h => by obtain ⟨us, rfl, hl⟩ := h; exact ⟨us, rfl, PRL_sub hx hl⟩
  | .tup cs, u, h => by obtain ⟨us, rfl, hl⟩ := h; exact ⟨us, rfl, PRL_sub hx hl⟩
  | .fn f a b, u, h => by obtain ⟨ua, ub, rfl, ha, hb⟩ := h; exact ⟨ua, ub, rfl, PRL_sub hx ha, PRL_sub hx hb⟩
  | .dead, _, _ => trivial
  | .loc _ _, _, h | .int _ _, _, h | .bool _, _, h | .nilp, _, h | .nilf, _, h | .bptr _ _, _, h | .ip _ _ _, _, h | .im _ _ _ _ _, _, h | .own _ _ _ _, _, h => h
theorem PRL_sub {β : Nat → Nat} {D : St} {r : Root} {p : List Nat} {x : V} (hx : ∀ u, PR β D (.ref r p) u → PR β D x u) : ∀ {l : List V} {us : List Value}, PRL β D l us → PRL β D (subL r p x l) us
  | [], us, h => h
  | v :: l, us, h => by obtain ⟨u, us', rfl, h1, h2⟩ := h; exact ⟨u, us', rfl, PR_sub hx h1, PRL_sub hx h2⟩
end
theorem slotRows_map {nt : Nat} {s : Nat → V} {f : V → V} (h : ∀ v, rows (f v) = rows v) : slotRows nt (fun i => f (s i)) = slotRows nt s := by
  unfold slotRows; congr 1; funext t; exact h _
theorem slotAtoms_map {nt : Nat} {s : Nat → V} {f : V → V} {P : At → Prop} (h : ∀ v b, b ∈ atoms (f v) → P b ∨ b ∈ atoms v) {b : At} (hb : b ∈ slotAtoms nt (fun i => f (s i))) : P b ∨ b ∈ slotAtoms nt s := by
  obtain ⟨t, ht, hb⟩ := List.mem_flatMap.1 hb
  exact (h _ _ hb).imp id fun h => List.mem_flatMap.2 ⟨t, ht, h⟩

/-- What memory says of a slice is said of it read-only. -/
theorem PR_frz_own {E : Env} {w : World} {D : St} {pm : Bool} {d : Dec} {k n : Nat} {cs : List V} (h : RowOk E w (d, k, n, cs.map sh)) {u : Value} (hu : hd E.β (.own d k n cs) = some u) : PR E.β D (frz pm (.own d k n cs)) u := by
  cases d with
  | nil => have := h.1; subst this; simp only [hd, Option.some.injEq] at hu; exact hu.symm
  | emp A => have := h.1; subst this; simp only [hd, Option.some.injEq] at hu; exact hu.symm
  | blk g cap kk => simp only [hd, Option.some.injEq] at hu; exact hu.symm
theorem row_of_look {nt : Nat} {D : St} {ex : List V} {r : Root} {p : List Nat} {x : V} (hr : ∀ t, r = .slot t → t < nt) (h : look D r p = some x) {e : RowE} (he : e ∈ rows x) : ∃ R, (rowsD nt D ex).Perm (rows x ++ R) := by
  obtain ⟨R, _, _, h1, _⟩ := rows_setAt (β := fun _ => 0) (ex := ex) (y := x) h hr (fun _ h => h)
  exact ⟨R, h1⟩

mutual
theorem sub_look (r : Root) (p : List Nat) {x : V} : ∀ (v : V) (q : List Nat) (d : Dec) (k n : Nat) (cs : List V), go q v = some (.own d k n cs) → go q (sub r p x v) = some (.own d k n cs)
  | .ref r' q', q, d, k, n, cs, h => by cases q <;> simp [go] at h
  | .agg l, q, d, k, n, cs, h => by
    cases q with
    | nil => simp [go] at h
    | cons o q => simp only [sub, go] at h ⊢; exact subL_look r p l o q d k n cs h
  | .tup l, q, d, k, n, cs, h => by
    cases q with
    | nil => simp [go] at h
    | cons o q => simp only [sub, go] at h ⊢; exact subL_look r p l o q d k n cs h
  | .fn f a b, q, d, k, n, cs, h => by cases q <;> simp [go] at h
  | .loc _ _, q, d, k, n, cs, h | .dead, q, d, k, n, cs, h | .int _ _, q, d, k, n, cs, h | .bool _, q, d, k, n, cs, h | .nilp, q, d, k, n, cs, h | .nilf, q, d, k, n, cs, h | .bptr _ _, q, d, k, n, cs, h | .ip _ _ _, q, d, k, n, cs, h
  | .im _ _ _ _ _, q, d, k, n, cs, h | .own _ _ _ _, q, d, k, n, cs, h => h
theorem subL_look (r : Root) (p : List Nat) {x : V} : ∀ (l : List V) (o : Nat) (q : List Nat) (d : Dec) (k n : Nat) (cs : List V),
    (match l[o]? with | some y => go q y | none => none) = some (.own d k n cs) → (match (subL r p x l)[o]? with | some y => go q y | none => none) = some (.own d k n cs)
  | [], o, q, d, k, n, cs, h => by simp at h
  | v :: l, 0, q, d, k, n, cs, h => by simp only [subL, List.getElem?_cons_zero] at h ⊢; exact sub_look r p v q d k n cs h
  | v :: l, o + 1, q, d, k, n, cs, h => by simp only [subL, List.getElem?_cons_succ] at h ⊢; exact subL_look r p l o q d k n cs h
end

/-- FROZEN where it stands. -/
theorem takeF_ok {E : Env} {nt : Nat} {D D2 : St} {ex : List V} {w : World} {a : Act} {r : Root} {p : List Nat} {x : V} (hI : Inv E nt D ex w) (hS : SlotsOk E nt D a)
    (h : takeF D r p = some (x, D2)) : Inv E nt D2 (x :: ex) w ∧ SlotsOk E nt D2 a ∧ Kept D D2 ∧ D2.nx = D.nx ∧ (∀ k, k ∈ keysD nt D2 (x :: ex) → k ∈ keysD nt D ex) ∧ ∃ d k n cs, look D r p = some (.own d k n cs) ∧ x = frz (noBorL cs) (.own d k n cs) ∧ (∀ u, hd E.β (.own d k n cs) = some u → hd E.β x = some u) := by
  unfold takeF at h
  cases hl : look D r p with
  | none => simp [hl] at h
  | some y =>
    cases y <;> simp only [hl, Option.some.injEq, Prod.mk.injEq, reduceCtorEq] at h
    rename_i d k n cs
    have hr := hS.lt hl
    obtain ⟨hxe, hD2⟩ := h
    rw [hxe] at hD2
    have hpx : noRow x = true := by rw [← hxe]; exact noRow_frz _ _
    obtain ⟨R0, hR0⟩ := row_of_look (ex := ex) hr hl (e := (d, k, n, cs.map sh)) (by simp [rows])
    have hrow : RowOk E w (d, k, n, cs.map sh) := hI.rows _ (hR0.mem_iff.2 (List.mem_append_left _ (by simp [rows])))
    have hmr : ∀ u, MR E.β (.own d k n cs) u → MR E.β x u := fun u hu => by
      rw [← hxe]; exact MR_frz (E := E) (w := w) (fun e he => hI.rows e (hR0.mem_iff.2 (List.mem_append_left _ he))) hu
    have hpr : ∀ D0 u, hd E.β (.own d k n cs) = some u → PR E.β D0 x u := fun D0 u hu => by rw [← hxe]; exact PR_frz_own hrow hu
    -- the names first
    obtain ⟨D1, hD1⟩ : ∃ D1 : St, D1 = { D with s := fun i => sub r p x (D.s i) } := ⟨_, rfl⟩
    have hk1 : Kept D D1 := by rw [hD1]; exact mild_kept (f := sub r p x) (fun v q d k n cs => sub_mild r p hpx v q d k n cs)
    have hS1 : SlotsOk E nt D1 a := ⟨hS.size, hS.defers, fun t => by
      have : D1.s t = sub r p x (D.s t) := by rw [hD1]
      rw [this]
      exact PR_kept hk1 (PR_sub (fun u hu => hpr D u (hu d k n cs hl)) (hS.slot t)), fun t ht => by rw [hD1]; simp only [hS.high t ht, sub]⟩
    have hl1 : look D1 r p = some (.own d k n cs) := by
      rw [hD1]
      cases r with
      | slot t => exact sub_look _ _ _ _ _ _ _ _ hl
      | box b => exact hl
    have hm1 : D1.m = D.m := by rw [hD1]
    have hn1 : D1.nx = D.nx := by rw [hD1]
    have hrows1 : rowsD nt D1 ex = rowsD nt D ex := by
      rw [hD1]; unfold rowsD; rw [slotRows_map (f := sub r p x) (rows_sub r p hpx)]
    have hat1 : ∀ b, b ∈ atomsD nt D1 ex → b ∈ atoms x ∨ b ∈ atomsD nt D ex := by
      intro b hb
      rw [hD1] at hb
      unfold atomsD at hb ⊢
      rcases List.mem_append.1 hb with hb | hb
      · exact (slotAtoms_map (f := sub r p x) (P := fun b => b ∈ atoms x) (fun v b => atoms_sub r p v) hb).imp id (List.mem_append_left _)
      · exact .inr (List.mem_append_right _ hb)
    rw [← hD1] at hD2
    obtain ⟨R, R', hR, h1, h2⟩ := rows_setAt (β := E.β) (ex := ex) (y := x) hl1 hr hmr
    obtain ⟨m1, m2, m3⟩ := setAt_m D1 r p x
    rw [hD2] at h2 m1 m2 m3
    have hk2 : Kept D1 D2 := by rw [← hD2]; exact (setAt_turned hl1).2 hpx
    have hS2 : SlotsOk E nt D2 a := by rw [← hD2]; exact hS1.setAt hr hl1 hpx (fun u hu => hpr D1 u hu)
    rw [hrows1] at h1
    have hp2 : (rowsD nt D2 (x :: ex)).Perm R' := by
      refine (rowsD_ex _ _ _ _).trans ?_
      rw [rows_noRow hpx, List.nil_append]
      refine h2.trans ?_
      rw [rows_noRow hpx, List.nil_append]
    have hI2 : Inv E nt D2 (x :: ex) w := by
      refine hI.weaken2 (rows (.own d k n cs)) R R' h1 hR hp2 ?_ (by rw [← hm1]; exact m3) (by rw [m2, hm1]; exact hI.ids) (m1.trans hn1)
      · intro b hb
        have hb' : b ∈ atoms x ∨ b ∈ atomsD nt D ex := by
          rcases atomsD_ex.1 hb with hb | hb
          · exact .inl hb
          · rw [← hD2] at hb
            rcases atoms_setAt hr hb with hb | hb
            · exact .inl hb
            · exact hat1 b hb
        rcases hb' with hb | hb
        · refine .inr fun hK hK2 => ?_
          rw [← hxe] at hb
          refine (frz_atoms (E := E) (E' := E) (w := w) (nx := D.nx) (K := fun k => k ∈ keysD nt D ex) (K' := fun k => k ∈ keysD nt D2 (x :: ex)) (pm := noBorL cs) ?_ rfl (.own d k n cs) ?_ ?_ ?_ ?_ b hb).mono (by rw [m1, hn1]; exact Nat.le_refl _) (fun k h => h)
          · intro pm0 k hp hg hk
            refine ⟨?_, fun h => hk (hK k h)⟩
            unfold Env.good at hg ⊢
            cases hpm : noBorL cs with
            | true => rw [hp hpm] at hg; simpa using hg
            | false =>
              cases pm0 with
              | true => simpa using hI.gpb k (by simpa using hg)
              | false => simpa using hg
          · exact fun e he => hI.rows e (hR0.mem_iff.2 (List.mem_append_left _ he))
          · intro k hk
            refine ⟨?_, hK2 k hk⟩
            have hG := hI.keysG k ((keysOf_perm hR0).mem_iff.2 (by rw [keysOf_append]; exact List.mem_append_left _ hk))
            unfold Env.good
            split
            · exact hG
            · exact hI.gpb k hG
          · exact fun c hc => hI.atoms c (atoms_look hr hl hc)
          · exact fun h => by simpa [noBor] using h
        · exact .inl hb
    refine ⟨hI2, hS2, hk1.trans hk2, m1.trans hn1, keys_sub h1 hR hp2, d, k, n, cs, rfl, hxe.symm, fun u hu => ?_⟩
    rw [← hxe, hd_frz E.β _ (fun e he => (hI.rows e (hR0.mem_iff.2 (List.mem_append_left _ he))).zero)]; exact hu

/-! ### values in flight -/
/-- What is leant on in a value that is looked at is well. -/
def VOk (E : Env) (nt : Nat) (D : St) (ex : List V) (w : World) (v : V) : Prop := ∀ a ∈ atoms v, AtOk E w D.nx (fun k => k ∈ keysD nt D ex) a
/-- A value without rows joins what is in flight. -/
theorem Inv.join {E : Env} {nt : Nat} {D : St} {ex : List V} {w : World} (h : Inv E nt D ex w) {v : V} (hv : ∀ e ∈ Abs.rows v, RowOk E w e ∧ keyOf e = none) (ha : VOk E nt D ex w v) : Inv E nt D (v :: ex) w := by
  have hp := rowsD_ex nt D v ex
  have hk : keysOf (Abs.rows v) = [] := by
    unfold keysOf
    rw [List.filterMap_eq_nil_iff]
    exact fun e he => (hv e he).2
  have hkey : ∀ k, k ∈ keysD nt D (v :: ex) ↔ k ∈ keysD nt D ex := by
    intro k
    rw [show keysD nt D (v :: ex) = keysOf (rowsD nt D (v :: ex)) from rfl, (keysOf_perm hp).mem_iff, keysOf_append, hk]
    rfl
  refine ⟨fun e he => ?_, ?_, fun a haa => ?_, h.boxes, h.ids, fun k hkk => h.keysG k ((hkey k).1 hkk), h.newG, h.gpb⟩
  · rcases List.mem_append.1 (hp.mem_iff.1 he) with h1 | h1
    · exact (hv e h1).1
    · exact h.rows e h1
  · refine (keysOf_perm hp).nodup_iff.2 ?_
    rw [keysOf_append, hk]
    exact h.nodup
  · rcases atomsD_ex.1 haa with h1 | h1
    · exact (ha a h1).mono (Nat.le_refl _) (fun k => (hkey k).1)
    · exact (h.atoms a h1).mono (Nat.le_refl _) (fun k => (hkey k).1)
/-- What is in flight is forgotten. -/
theorem Inv.drop {E : Env} {nt : Nat} {D : St} {v : V} {ex : List V} {w : World} (h : Inv E nt D (v :: ex) w) : Inv E nt D ex w :=
  h.weaken (Abs.rows v) (rowsD nt D ex) (rowsD nt D ex) (rowsD_ex nt D v ex) (RLeL.refl _ _) (List.Perm.refl _) (fun a ha => atomsD_ex.2 (.inr ha)) (fun e he => ⟨e, he, rfl, rfl⟩) h.ids rfl

theorem Inv.perm {E : Env} {nt : Nat} {D : St} {ex ex' : List V} {w : World} (h : Inv E nt D ex w) (hp : ex.Perm ex') : Inv E nt D ex' w := by
  have hr : (rowsL ex).Perm (rowsL ex') := by
    clear h
    induction hp with
    | nil => exact List.Perm.refl _
    | cons x _ ih => exact List.Perm.append_left _ ih
    | swap x y l => simp only [rowsL]; rw [← List.append_assoc, ← List.append_assoc]; exact List.Perm.append_right _ List.perm_append_comm
    | trans _ _ h1 h2 => exact h1.trans h2
  have hR : (rowsD nt D ex').Perm (rowsD nt D ex) := List.Perm.append_left _ (List.Perm.append_left _ hr.symm)
  refine h.weaken [] (rowsD nt D ex) (rowsD nt D ex) (List.Perm.refl _) (RLeL.refl _ _) hR (fun b hb => ?_) (fun e he => ⟨e, he, rfl, rfl⟩) h.ids rfl
  unfold atomsD at hb ⊢
  simp only [List.mem_append] at hb ⊢
  refine hb.imp id (Or.imp id fun hb => ?_)
  obtain ⟨x, hx, hb⟩ := atomsL_mem hb
  exact atoms_mem (hp.mem_iff.2 hx) hb
/-- Several values in flight as one. -/
theorem Inv.pack {E : Env} {nt : Nat} {D : St} {l ex : List V} {w : World} (h : Inv E nt D (l ++ ex) w) {y : V} (hr : Abs.rows y = rowsL l) (ha : Abs.atoms y = atomsL l) : Inv E nt D (y :: ex) w := by
  have hR : rowsD nt D (y :: ex) = rowsD nt D (l ++ ex) := by unfold rowsD; simp only [rowsL, rowsL_append, hr]
  refine h.weaken [] (rowsD nt D (l ++ ex)) (rowsD nt D (l ++ ex)) (List.Perm.refl _) (RLeL.refl _ _) (by rw [hR]) (fun b hb => ?_) (fun e he => ⟨e, he, rfl, rfl⟩) h.ids rfl
  unfold atomsD at hb ⊢
  simpa only [atomsL, atomsL_append, ha] using hb
theorem keysD_pack {nt : Nat} {D : St} {l ex : List V} {y : V} (hr : rows y = rowsL l) : keysD nt D (y :: ex) = keysD nt D (l ++ ex) := by
  unfold keysD rowsD; simp only [rowsL, rowsL_append, hr]
theorem keysD_perm {nt : Nat} {D : St} {ex ex' : List V} (hp : ex.Perm ex') {k : Nat} (h : k ∈ keysD nt D ex') : k ∈ keysD nt D ex := by
  obtain ⟨e, he, hk⟩ := List.mem_filterMap.1 h
  refine List.mem_filterMap.2 ⟨e, ?_, hk⟩
  unfold rowsD at he ⊢
  simp only [List.mem_append] at he ⊢
  refine he.imp id (Or.imp id fun he => ?_)
  obtain ⟨x, hx, he⟩ := rowsL_mem he
  exact rowsL_mem_of (hp.mem_iff.2 hx) he
theorem keysD_drop {nt : Nat} {D : St} {ex : List V} {v : V} {k : Nat} (h : k ∈ keysD nt D ex) : k ∈ keysD nt D (v :: ex) := by
  obtain ⟨e, he, hk⟩ := List.mem_filterMap.1 h
  exact List.mem_filterMap.2 ⟨e, (rowsD_ex nt D v ex).mem_iff.2 (List.mem_append_right _ he), hk⟩
theorem VOk.mono {E : Env} {nt nt' : Nat} {D D' : St} {ex ex' : List V} {w : World} {v : V} (h : VOk E nt D ex w v) (hx : D.nx ≤ D'.nx) (hk : ∀ k, k ∈ keysD nt' D' ex' → k ∈ keysD nt D ex) : VOk E nt' D' ex' w v :=
  fun a ha => (h a ha).mono hx hk
/-- The rows of a looked-at value: none but nil's. -/
def Flat : V → Prop
  | .own d _ n cs => n = 0 ∧ cs = [] ∧ match d with | .blk _ _ _ => False | _ => True
  | v => noRow v = true

mutual
theorem solid_PR {β : Nat → Nat} {D D' : St} : ∀ {v : V} {u : Value}, solid v = true → PR β D v u → PR β D' v u
  | .fn f a b, u, h, hu => by
    simp only [solid, Bool.and_eq_true] at h
    obtain ⟨ua, ub, rfl, h1, h2⟩ := hu
    exact ⟨ua, ub, rfl, solidL_PR h.1 h1, solidL_PR h.2 h2⟩
  | .agg _, _, h, _ | .tup _, _, h, _ | .ref _ _, _, h, _ | .loc _ _, _, h, _ => by simp [solid] at h
  | .own _ _ _ _, _, _, hu => hu
  | .dead, _, _, hu => trivial
  | .int _ _, _, _, hu | .bool _, _, _, hu | .nilp, _, _, hu | .nilf, _, _, hu | .bptr _ _, _, _, hu | .ip _ _ _, _, _, hu | .im _ _ _ _ _, _, _, hu => hu
theorem solidL_PR {β : Nat → Nat} {D D' : St} : ∀ {l : List V} {us : List Value}, solidL l = true → PRL β D l us → PRL β D' l us
  | [], us, h, hu => hu
  | v :: l, us, h, hu => by
    simp only [solidL, Bool.and_eq_true] at h
    obtain ⟨u, us', rfl, h1, h2⟩ := hu
    exact ⟨u, us', rfl, solid_PR h.1 h1, solidL_PR h.2 h2⟩
end
mutual
theorem solid_hd {β : Nat → Nat} {D : St} : ∀ {v : V} {u : Value}, solid v = true → PR β D v u → hd β v = some u
  | .fn f a b, u, h, hu => by
    simp only [solid, Bool.and_eq_true] at h
    obtain ⟨ua, ub, rfl, h1, h2⟩ := hu
    simp only [hd, solidL_hd h.1 h1, solidL_hd h.2 h2]
  | .agg _, _, h, _ | .tup _, _, h, _ | .ref _ _, _, h, _ | .loc _ _, _, h, _ | .own _ _ _ _, _, h, _ | .dead, _, h, _ => by simp [solid] at h
  | .int _ _, _, _, hu | .bool _, _, _, hu | .nilp, _, _, hu | .nilf, _, _, hu | .bptr _ _, _, _, hu | .ip _ _ _, _, _, hu | .im _ _ _ _ _, _, _, hu => by simp only [PR] at hu; simp [hd, hu]
theorem solidL_hd {β : Nat → Nat} {D : St} : ∀ {l : List V} {us : List Value}, solidL l = true → PRL β D l us → hdL β l = some us
  | [], us, h, hu => by simp only [PRL] at hu; subst hu; rfl
  | v :: l, us, h, hu => by
    simp only [solidL, Bool.and_eq_true] at h
    obtain ⟨u, us', rfl, h1, h2⟩ := hu
    simp only [hdL, solid_hd h.1 h1, solidL_hd h.2 h2]
end
theorem cell_MR {β : Nat → Nat} {D : St} {v : V} {u : Value} (h : cellOk v = true) (hu : PR β D v u) : MR β v u := by
  cases v <;> first | exact .inr rfl | exact .inl hu | exact .inl (solid_hd (by simpa [cellOk] using h) hu)

/-- What a step on values gives. -/
structure Step (E : Env) (nt : Nat) (D D1 : St) (ex ex1 : List V) (w : World) (a : Act) : Prop where
  inv : Inv E nt D1 ex1 w
  slots : SlotsOk E nt D1 a
  kept : Kept D D1
  nx : D1.nx = D.nx
  keys : ∀ k, k ∈ keysD nt D1 ex1 → k ∈ keysD nt D ex

theorem takeF_step {E : Env} {nt : Nat} {w : World} {a : Act} {r : Root} {p : List Nat} {D D1 : St} {ex : List V} {y : V} {u : Value} (hI : Inv E nt D ex w) (hS : SlotsOk E nt D a) (hu : PR E.β D (.ref r p) u) (h : takeF D r p = some (y, D1)) :
    Step E nt D D1 ex (y :: ex) w a ∧ ∀ D', PR E.β D' y u := by
  obtain ⟨h1, h2, h3, h4, h5, d, k, n, cs, h6, h7, h8⟩ := takeF_ok hI hS h
  refine ⟨⟨h1, h2, h3, h4, h5⟩, fun D' => ?_⟩
  have := h8 u (hu d k n cs h6)
  rw [h7] at this ⊢
  obtain ⟨R0, hR0⟩ := row_of_look (ex := ex) (hS.lt h6) h6 (e := (d, k, n, cs.map sh)) (by simp [Abs.rows])
  exact PR_frz_own (hI.rows _ (hR0.mem_iff.2 (List.mem_append_left _ (by simp [Abs.rows])))) (hu d k n cs h6)
mutual
/-- SETTLED: what was named is in flight. -/
theorem settle_ok {E : Env} {nt : Nat} {w : World} {a : Act} {fz : Bool} : ∀ {v : V} {D D1 : St} {ex : List V} {y : V} {u : Value}, Inv E nt D ex w → SlotsOk E nt D a → PR E.β D v u → VOk E nt D ex w v → (∀ e ∈ rows v, RowOk E w e ∧ keyOf e = none) →
    settle fz v D = some (y, D1) → Step E nt D D1 ex (y :: ex) w a ∧ ∀ D', PR E.β D' y u
  | .ref r p, D, D1, ex, y, u, hI, hS, hu, hv, hr, h => by
    simp only [settle] at h
    cases fz with
    | true =>
      simp only [if_true] at h
      unfold takeZ at h
      split at h
      · rename_i d hl
        simp only [Option.some.injEq, Prod.mk.injEq] at h
        obtain ⟨rfl, rfl⟩ := h
        obtain ⟨R0, hR0⟩ := row_of_look (ex := ex) (hS.lt hl) hl (e := (d, 0, 0, [])) (by simp [Abs.rows, rowsL])
        have hro : RowOk E w (d, 0, 0, []) := hI.rows _ (hR0.mem_iff.2 (List.mem_append_left _ (by simp [Abs.rows, rowsL])))
        have hrc : RowOk E w (cpD d, 0, 0, []) ∧ keyOf (cpD d, 0, 0, []) = none := by cases d <;> exact ⟨⟨rfl, rfl⟩, rfl⟩
        have hhd : hd E.β (.own d 0 0 []) = hd E.β (.own (cpD d) 0 0 []) := by
          cases d with
          | nil => rfl
          | emp A => rfl
          | blk g cap kk =>
            obtain ⟨_, _, q1, _, q2, _⟩ := hro
            have : cap = 0 := by omega
            subst this; rfl
        refine ⟨⟨hI.join (fun e he => ?_) (fun b hb => by simp [Abs.atoms, atomsL] at hb), hS, Kept.refl _, rfl, fun k hk => ?_⟩, fun D' => ?_⟩
        · simp [Abs.rows, rowsL] at he; subst he; exact hrc
        · rw [show keysD nt D _ = keysOf (rowsD nt D _) from rfl, (keysOf_perm (rowsD_ex nt D _ ex)).mem_iff, keysOf_append] at hk
          rcases List.mem_append.1 hk with hk | hk
          · obtain ⟨e, he, hk⟩ := List.mem_filterMap.1 hk
            simp [Abs.rows, rowsL] at he; subst he
            rw [hrc.2] at hk; cases hk
          · exact hk
        · have := hu d 0 0 [] hl
          rw [hhd] at this; exact this
      exact takeF_step hI hS hu h
    | false =>
      simp only [Bool.false_eq_true, if_false] at h
      obtain ⟨h1, h2, h3, h4, h5, h6, d, k, n, cs, rfl⟩ := take_ok hI hS h
      exact ⟨⟨h1, h2, h3, h4, h5⟩, fun D' => hu d k n cs h6⟩
  | .loc r p, D, D1, ex, y, u, hI, hS, hu, hv, hr, h => by simp [settle] at h
  | .agg cs, D, D1, ex, y, u, hI, hS, hu, hv, hr, h => by
    simp only [settle] at h
    cases hc : settleL fz cs D with
    | none => simp [hc] at h
    | some z =>
      obtain ⟨l, D2⟩ := z
      simp only [hc, Option.some.injEq, Prod.mk.injEq] at h
      obtain ⟨rfl, rfl⟩ := h
      obtain ⟨us, rfl, hl⟩ := hu
      obtain ⟨h1, h2⟩ := settleL_ok hI hS hl hv hr hc
      exact ⟨⟨h1.inv.pack rfl rfl, h1.slots, h1.kept, h1.nx, fun k hk => h1.keys k (by rw [← keysD_pack (y := .agg l) rfl]; exact hk)⟩, fun D' => ⟨us, rfl, h2 D'⟩⟩
  | .tup cs, D, D1, ex, y, u, hI, hS, hu, hv, hr, h => by
    simp only [settle] at h
    cases hc : settleL fz cs D with
    | none => simp [hc] at h
    | some z =>
      obtain ⟨l, D2⟩ := z
      simp only [hc, Option.some.injEq, Prod.mk.injEq] at h
      obtain ⟨rfl, rfl⟩ := h
      obtain ⟨us, rfl, hl⟩ := hu
      obtain ⟨h1, h2⟩ := settleL_ok hI hS hl hv hr hc
      exact ⟨⟨h1.inv.pack rfl rfl, h1.slots, h1.kept, h1.nx, fun k hk => h1.keys k (by rw [← keysD_pack (y := .tup l) rfl]; exact hk)⟩, fun D' => ⟨us, rfl, h2 D'⟩⟩
  | .fn f l1 l2, D, D1, ex, y, u, hI, hS, hu, hv, hr, h => by
    simp only [settle] at h
    cases hc : solidL l1 && solidL l2 with
    | false => simp [hc] at h
    | true =>
      simp only [hc, if_true, Option.some.injEq, Prod.mk.injEq] at h
      obtain ⟨rfl, rfl⟩ := h
      refine ⟨⟨hI.join hr hv, hS, Kept.refl D, rfl, fun k hk => ?_⟩, fun D' => solid_PR (v := .fn f l1 l2) (by simpa [solid] using hc) hu⟩
      rw [show keysD nt D _ = keysOf (rowsD nt D _) from rfl, (keysOf_perm (rowsD_ex nt D _ ex)).mem_iff, keysOf_append] at hk
      rcases List.mem_append.1 hk with hk | hk
      · obtain ⟨e, he, hk⟩ := List.mem_filterMap.1 hk
        rw [(hr e he).2] at hk; cases hk
      · exact hk
  | .dead, D, D1, ex, y, u, hI, hS, hu, hv, hr, h | .int _ _, D, D1, ex, y, u, hI, hS, hu, hv, hr, h | .bool _, D, D1, ex, y, u, hI, hS, hu, hv, hr, h | .nilp, D, D1, ex, y, u, hI, hS, hu, hv, hr, h | .nilf, D, D1, ex, y, u, hI, hS, hu, hv, hr, h
  | .bptr _ _, D, D1, ex, y, u, hI, hS, hu, hv, hr, h | .ip _ _ _, D, D1, ex, y, u, hI, hS, hu, hv, hr, h | .im _ _ _ _ _, D, D1, ex, y, u, hI, hS, hu, hv, hr, h | .own _ _ _ _, D, D1, ex, y, u, hI, hS, hu, hv, hr, h => by
    simp only [settle, Option.some.injEq, Prod.mk.injEq] at h
    obtain ⟨rfl, rfl⟩ := h
    refine ⟨⟨hI.join hr hv, hS, Kept.refl D, rfl, fun k hk => ?_⟩, fun D' => hu⟩
    rw [show keysD nt D _ = keysOf (rowsD nt D _) from rfl, (keysOf_perm (rowsD_ex nt D _ ex)).mem_iff, keysOf_append] at hk
    rcases List.mem_append.1 hk with hk | hk
    · obtain ⟨e, he, hk⟩ := List.mem_filterMap.1 hk
      rw [(hr e he).2] at hk; cases hk
    · exact hk
theorem settleL_ok {E : Env} {nt : Nat} {w : World} {a : Act} {fz : Bool} : ∀ {l : List V} {D D1 : St} {ex ys : List V} {us : List Value}, Inv E nt D ex w → SlotsOk E nt D a → PRL E.β D l us → (∀ a ∈ atomsL l, AtOk E w D.nx (fun k => k ∈ keysD nt D ex) a) →
    (∀ e ∈ rowsL l, RowOk E w e ∧ keyOf e = none) → settleL fz l D = some (ys, D1) → Step E nt D D1 ex (ys ++ ex) w a ∧ ∀ D', PRL E.β D' ys us
  | [], D, D1, ex, ys, us, hI, hS, hu, hv, hr, h => by
    simp only [settleL, Option.some.injEq, Prod.mk.injEq] at h
    obtain ⟨rfl, rfl⟩ := h
    exact ⟨⟨hI, hS, Kept.refl D, rfl, fun k hk => hk⟩, fun D' => hu⟩
  | v :: l, D, D1, ex, ys, us, hI, hS, hu, hv, hr, h => by
    simp only [settleL] at h
    cases hc : settle fz v D with
    | none => simp [hc] at h
    | some z =>
      obtain ⟨x, D2⟩ := z
      simp only [hc] at h
      cases hc2 : settleL fz l D2 with
      | none => simp [hc2] at h
      | some z2 =>
        obtain ⟨xs, D3⟩ := z2
        simp only [hc2, Option.some.injEq, Prod.mk.injEq] at h
        obtain ⟨rfl, rfl⟩ := h
        obtain ⟨u, us', rfl, hu1, hu2⟩ := hu
        obtain ⟨h1, h2⟩ := settle_ok hI hS hu1 (fun b hb => hv b (List.mem_append_left _ hb)) (fun e he => hr e (List.mem_append_left _ he)) hc
        obtain ⟨h3, h4⟩ := settleL_ok h1.inv h1.slots (PRL_kept h1.kept hu2) (fun b hb => (hv b (List.mem_append_right _ hb)).mono (by rw [h1.nx]; exact Nat.le_refl _) h1.keys) (fun e he => hr e (List.mem_append_right _ he)) hc2
        have hp : (xs ++ x :: ex).Perm ((x :: xs) ++ ex) := List.perm_middle
        exact ⟨⟨h3.inv.perm hp, h3.slots, h1.kept.trans h3.kept, h3.nx.trans h1.nx, fun k hk => h1.keys k (h3.keys k (keysD_perm hp hk))⟩, fun D' => ⟨u, us', rfl, h2 D', h4 D'⟩⟩
end

end Go.Abs
end
/- Laid into a slot; new rows; new boxes; memory that grows. -/
set_option linter.unusedVariables false
noncomputable section
namespace Go.Abs
open Go

/-! ### memory that grows -/
theorem FOk.ext {E : Env} {w w' : World} {K : Nat → Prop} {pm : Bool} {A : Addr} {cs : List V} (hb : ∀ k, k < w.heap.size → ¬ K k → w'.heap[k]? = w.heap[k]?) (h : FOk E w K pm A cs) : FOk E w' K pm A cs := by
  refine ⟨h.1, fun j x hx => ?_, h.2.2⟩
  obtain ⟨u, hu, hm⟩ := h.2.1 j x hx
  have hne : cs ≠ [] := fun e => by rw [e] at hx; simp at hx
  have hlt : A.block < w.heap.size := by have := World.block_lt_of_cell? w _ hu; rwa [block_of_add] at this
  refine ⟨u, ?_, hm⟩
  rw [← hu]
  exact World.cell?_of_block (by rw [block_of_add]; exact hb _ hlt (h.2.2 hne).2)
theorem RowOk.lt {E : Env} {w : World} {e : RowE} (h : RowOk E w e) {g : Nat} (hk : keyOf e = some g) : g < w.heap.size := by
  obtain ⟨d, k, n, cs⟩ := e
  cases d <;> simp [keyOf] at hk
  subst hk
  obtain ⟨_, _, _, _, _, cur, el, h6, _⟩ := h
  exact (Array.getElem?_eq_some_iff.1 h6).1
theorem RowOk.ext {E : Env} {w w' : World} {e : RowE} (hb : ∀ g, keyOf e = some g → w'.heap[g]? = w.heap[g]?) (h : RowOk E w e) : RowOk E w' e := by
  obtain ⟨d, k, n, cs⟩ := e
  cases d with
  | nil => exact h
  | emp A => exact h
  | blk g cap kk =>
    obtain ⟨q1, q2, q3, q4, q5, cur, el, q6, q7, q8⟩ := h
    exact ⟨q1, q2, q3, q4, q5, cur, el, by rw [hb g rfl]; exact q6, q7, q8⟩
/-- Memory grows: what was there is as it was. -/
theorem Inv.ext {E : Env} {nt : Nat} {D : St} {ex : List V} {w w' : World} (h : Inv E nt D ex w) (hs : w.heap.size ≤ w'.heap.size) (hb : ∀ k, k < w.heap.size → w'.heap[k]? = w.heap[k]?) : Inv E nt D ex w' := by
  refine ⟨fun e he => (h.rows e he).ext fun g hg => hb g ((h.rows e he).lt hg), h.nodup, fun a ha => ?_, h.boxes, h.ids, h.keysG, fun k hk => h.newG k (by omega), h.gpb⟩
  have h0 := h.atoms a ha
  cases a with
  | p b => exact h0
  | i pm A cap n cs =>
    refine ⟨h0.1, ?_⟩
    have h2 := h0.2
    cases A with
    | none => exact h2
    | some a => exact FOk.ext (fun k hk _ => hb k hk) h2
  | f pm A cs => exact FOk.ext (fun k hk _ => hb k hk) h0
theorem Inv.key_lt {E : Env} {nt : Nat} {D : St} {ex : List V} {w : World} (h : Inv E nt D ex w) {k : Nat} (hk : k ∈ keysD nt D ex) : k < w.heap.size := by
  obtain ⟨e, he, hk⟩ := List.mem_filterMap.1 hk
  exact (h.rows e he).lt hk

/-- A NEW ROW: what was in flight (y: the cells as one) lies in a new block. -/
theorem Inv.newRow {E : Env} {nt : Nat} {D : St} {ex : List V} {w : World} {cs : List V} (h : Inv E nt D (cs ++ ex) w) {cur : Array Value} {el : TypeId} {cap kk r n : Nat}
    (h1 : n ≤ cap) (h2 : cap ≤ 9223372036854775807) (h3 : 0 < kk) (h4 : cs.length = n * kk) (h5 : 0 < n ∨ r = kk ∨ cap = 0) (h6 : cur.size = cap * kk) (h7 : ∀ (j : Nat) (x : V), cs[j]? = some x → ∃ u, cur[j]? = some u ∧ MR E.β x u) :
    Inv E nt D (.own (.blk w.heap.size cap kk) r n cs :: ex) (w.alloc (.cells cur el)) := by
  have hold : ∀ k, k < w.heap.size → (w.alloc (.cells cur el)).heap[k]? = w.heap[k]? := fun k hk => by first | exact heap_alloc_old w _ k hk | exact heap_alloc_old w _ hk
  have hI : Inv E nt D (cs ++ ex) (w.alloc (.cells cur el)) := h.ext (by simp) hold
  have hp : (rowsD nt D (.own (.blk w.heap.size cap kk) r n cs :: ex)).Perm ((.blk w.heap.size cap kk, r, n, cs.map sh) :: rowsD nt D (cs ++ ex)) := by
    refine (rowsD_ex nt D _ ex).trans ?_
    simp only [Abs.rows, List.cons_append]
    refine List.Perm.cons _ ?_
    unfold rowsD
    rw [rowsL_append]
    generalize rowsL cs = a
    generalize slotRows nt D.s = b
    generalize boxRows D.m = c
    generalize rowsL ex = d
    have e1 : (a ++ (b ++ (c ++ d))).Perm ((b ++ c) ++ (a ++ d)) := by
      have e2 : a ++ (b ++ (c ++ d)) = (a ++ (b ++ c)) ++ d := by simp [List.append_assoc]
      have e3 : (b ++ c) ++ (a ++ d) = ((b ++ c) ++ a) ++ d := by simp [List.append_assoc]
      rw [e2, e3]
      exact List.Perm.append_right _ List.perm_append_comm
    rw [List.append_assoc] at e1
    exact e1
  have hkp : (keysD nt D (.own (.blk w.heap.size cap kk) r n cs :: ex)).Perm (w.heap.size :: keysD nt D (cs ++ ex)) := keysOf_perm hp
  refine ⟨fun e he => ?_, ?_, fun a ha => ?_, h.boxes, h.ids, fun k hk => ?_, hI.newG, h.gpb⟩
  · rcases List.mem_cons.1 (hp.mem_iff.1 he) with rfl | he
    · refine ⟨h1, h2, h3, by simpa using h4, h5, cur, el, heap_alloc_new w _, h6, fun j x hx => ?_⟩
      rw [List.getElem?_map, Option.map_eq_some_iff] at hx
      obtain ⟨z, hz, rfl⟩ := hx
      obtain ⟨u, hu, hm⟩ := h7 j z hz
      exact ⟨u, hu, MR_sh.2 hm⟩
    · exact hI.rows e he
  · refine hkp.nodup_iff.2 (List.nodup_cons.2 ⟨fun hk => ?_, h.nodup⟩)
    exact absurd (h.key_lt hk) (by omega)
  · have ha' : a ∈ atomsD nt D (cs ++ ex) := by
      rcases atomsD_ex.1 ha with ha | ha
      · unfold atomsD; rw [atomsL_append]
        exact List.mem_append_right _ (List.mem_append_right _ (List.mem_append_left _ ha))
      · unfold atomsD at ha ⊢; rw [atomsL_append]
        rcases List.mem_append.1 ha with ha | ha
        · exact List.mem_append_left _ ha
        rcases List.mem_append.1 ha with ha | ha
        · exact List.mem_append_right _ (List.mem_append_left _ ha)
        · exact List.mem_append_right _ (List.mem_append_right _ (List.mem_append_right _ ha))
    have h0 := hI.atoms a ha'
    have hw := h.atoms a ha'
    have hf : ∀ {pm A cs'}, FOk E w (fun k => k ∈ keysD nt D (cs ++ ex)) pm A cs' → FOk E (w.alloc (.cells cur el)) (fun k => k ∈ keysD nt D (.own (.blk w.heap.size cap kk) r n cs :: ex)) pm A cs' := by
      intro pm A cs' hf
      have hf2 := FOk.ext (w' := w.alloc (.cells cur el)) (fun k hk _ => hold k hk) hf
      refine ⟨hf2.1, hf2.2.1, fun hc => ⟨(hf.2.2 hc).1, fun hk => ?_⟩⟩
      rcases List.mem_cons.1 (hkp.mem_iff.1 hk) with hk | hk
      · cases cs' with
        | nil => exact hc rfl
        | cons z l =>
          obtain ⟨u, hu, _⟩ := hf.2.1 0 z rfl
          have := World.block_lt_of_cell? w _ hu
          rw [block_of_add] at this
          omega
      · exact (hf.2.2 hc).2 hk
    cases a with
    | p b => exact h0
    | i pm A cap n cs' =>
      refine ⟨hw.1, ?_⟩
      have h2 := hw.2
      cases A with
      | none => exact h2
      | some a => exact hf h2
    | f pm A cs' => exact hf hw
  · rcases List.mem_cons.1 (hkp.mem_iff.1 hk) with rfl | hk
    · exact h.newG _ (Nat.le_refl _)
    · exact h.keysG k hk

/-! ### laid into a slot -/
theorem put_kept {D : St} {t : Nat} {v : V} (hn : noRow v = true) : Kept D (D.put t v) := by
  intro r' q d k n cs hq
  cases r' with
  | slot t' =>
    simp only [look, St.put] at hq
    by_cases e : t' = t
    · rw [if_pos e] at hq
      have := go_noRow q v _ hn hq; simp [noRow] at this
    · rw [if_neg e] at hq; exact ⟨cs, hq⟩
  | box b => exact ⟨cs, hq⟩
theorem put_turned {D : St} {t : Nat} {v : V} : Turned D (D.put t v) (.slot t) [] := by
  intro r' q d k n cs hq
  cases r' with
  | slot t' =>
    simp only [look, St.put] at hq
    by_cases e : t' = t
    · exact .inl (by simp [hitRef, pre, e])
    · rw [if_neg e] at hq; exact .inr ⟨cs, hq⟩
  | box b => exact .inr ⟨cs, hq⟩
theorem Turned.trans_kept {D D1 D2 : St} {r : Root} {p : List Nat} (h : Turned D D1 r p) (k : Kept D1 D2) : Turned D D2 r p := by
  intro r' q d k' n cs hq
  obtain ⟨cs', h'⟩ := k r' q d k' n cs hq
  exact h r' q d k' n cs' h'
theorem Act.put_getD (a : Act) (t i : Nat) (u : Value) (ht : t < a.tmps.size) : (a.put (some t) u).tmps.getD i undef = if i = t then u else a.tmps.getD i undef := by
  simp only [Act.put, Array.getD_eq_getD_getElem?, Array.getElem?_setIfInBounds]
  by_cases e : t = i
  · subst e; simp [ht]
  · simp [e, Ne.symm e]
theorem put_rows {nt : Nat} {D : St} {t : Nat} {v : V} {ex : List V} (ht : t < nt) : ∃ R, (rowsD nt D (v :: ex)).Perm (rows (D.s t) ++ (rows v ++ R)) ∧ (rowsD nt (D.put t v) ex).Perm (rows v ++ R) := by
  obtain ⟨R, h1, h2⟩ := slotRows_set nt t D.s ht
  refine ⟨R ++ (boxRows D.m ++ rowsL ex), ?_, ?_⟩
  · refine (rowsD_ex nt D v ex).trans ?_
    unfold rowsD
    refine (List.Perm.append_left _ (List.Perm.append_right _ h1)).trans ?_
    generalize rows v = a
    generalize rows (D.s t) = b
    generalize boxRows D.m ++ rowsL ex = c
    have : (a ++ ((b ++ R) ++ c)).Perm (b ++ (a ++ (R ++ c))) := by
      have e1 : a ++ ((b ++ R) ++ c) = (a ++ b) ++ (R ++ c) := by simp [List.append_assoc]
      have e2 : b ++ (a ++ (R ++ c)) = (b ++ a) ++ (R ++ c) := by simp [List.append_assoc]
      rw [e1, e2]
      exact List.Perm.append_right _ List.perm_append_comm
    exact this
  · unfold rowsD
    refine (List.Perm.append_right _ (h2 v)).trans ?_
    rw [List.append_assoc]; exact List.Perm.refl _
theorem killAll_rows {nt : Nat} {D : St} {ex : List V} {r : Root} {p : List Nat} : rowsD nt (killAll D r p) ex = rowsD nt D ex := by
  unfold rowsD killAll; simp only; rw [slotRows_map (f := kill r p) (rows_kill r p)]
theorem killAll_atoms {nt : Nat} {D : St} {ex : List V} {r : Root} {p : List Nat} : atomsD nt (killAll D r p) ex = atomsD nt D ex := by
  unfold atomsD killAll slotAtoms; simp only [atoms_kill]

/-- LAID into a slot. -/
theorem lay_ok {E : Env} {nt : Nat} {D : St} {ex : List V} {w : World} {a : Act} {t : Nat} {v : V} {u : Value} (hI : Inv E nt D (v :: ex) w) (hS : SlotsOk E nt D a) (ht : t < nt) (hu : PR E.β D v u) :
    Inv E nt (D.lay (some t) v) ex w ∧ SlotsOk E nt (D.lay (some t) v) (a.put (some t) u) ∧ (D.lay (some t) v).nx = D.nx ∧ (D.lay (some t) v).m = D.m ∧ ∀ k, k ∈ keysD nt (D.lay (some t) v) ex → k ∈ keysD nt D (v :: ex) := by
  obtain ⟨R, h1, h2⟩ := put_rows (nt := nt) (D := D) (t := t) (v := v) (ex := ex) ht
  have hat : ∀ b, b ∈ atomsD nt (D.put t v) ex → b ∈ atomsD nt D (v :: ex) := by
    intro b hb
    unfold atomsD St.put at hb
    simp only at hb
    rcases List.mem_append.1 hb with hb | hb
    · rcases slotAtoms_set hb with hb | hb
      · exact atomsD_ex.2 (.inl hb)
      · exact atomsD_ex.2 (.inr (List.mem_append_left _ hb))
    · exact atomsD_ex.2 (.inr (List.mem_append_right _ hb))
  have hI1 : Inv E nt (D.put t v) ex w := hI.weaken (rows (D.s t)) (rows v ++ R) (rows v ++ R) h1 (RLeL.refl _ _) h2 hat (fun e he => ⟨e, he, rfl, rfl⟩) hI.ids rfl
  have hk1 := keys_sub h1 (RLeL.refl E.β _) h2
  have hsz : (a.put (some t) u).tmps.size = nt := by simp [Act.put, hS.size]
  have hts : t < a.tmps.size := by rw [hS.size]; exact ht
  unfold St.lay
  cases hn : noRow v with
  | true =>
    simp only [if_true]
    have hk := put_kept (D := D) (t := t) hn
    refine ⟨hI1, ⟨hsz, hS.defers, fun i => ?_, fun i hi => ?_⟩, by first | rfl, by first | rfl, hk1⟩
    · rw [Act.put_getD a t i u hts]
      simp only [St.put]
      by_cases e : i = t
      · rw [if_pos e, if_pos e]; exact PR_kept hk hu
      · rw [if_neg e, if_neg e]; exact PR_kept hk (hS.slot i)
    · have : i ≠ t := by omega
      simp only [St.put, if_neg this]; exact hS.high i hi
  | false =>
    simp only [Bool.false_eq_true, if_false]
    have hk := (put_turned (D := D) (t := t) (v := v)).trans_kept (mild_kept (f := kill (.slot t) []) (kill_mild (.slot t) []))
    have hrow := killAll_rows (nt := nt) (D := D.put t v) (ex := ex) (r := .slot t) (p := [])
    have hatm := killAll_atoms (nt := nt) (D := D.put t v) (ex := ex) (r := .slot t) (p := [])
    refine ⟨hI1.weaken [] (rowsD nt (D.put t v) ex) (rowsD nt (D.put t v) ex) (List.Perm.refl _) (RLeL.refl _ _) (by rw [hrow]) (fun b hb => by rw [hatm] at hb; exact hb) (fun e he => ⟨e, he, rfl, rfl⟩) hI1.ids rfl,
      ⟨hsz, hS.defers, fun i => ?_, fun i hi => ?_⟩, by first | rfl, by first | rfl, fun k hk' => hk1 k (by unfold keysD at hk' ⊢; rw [hrow] at hk'; exact hk')⟩
    · rw [Act.put_getD a t i u hts]
      simp only [killAll, St.put]
      by_cases e : i = t
      · rw [if_pos e, if_pos e]; exact PR_kill hk hu
      · rw [if_neg e, if_neg e]; exact PR_kill hk (hS.slot i)
    · have : i ≠ t := by omega
      simp only [killAll, St.put, if_neg this, hS.high i hi, kill]

end Go.Abs
end
/- Boxes placed anew; operands. -/
set_option linter.unusedVariables false
noncomputable section
namespace Go.Abs
open Go

/-! ### where boxes lie: another map that says the same of the boxes there are -/
mutual
theorem hd_beta {β β' : Nat → Nat} : ∀ {x : V}, (∀ b, At.p b ∈ atoms x → β' b = β b) → hd β' x = hd β x
  | .bptr b o, h => by simp only [hd, h b (by simp [atoms])]
  | .fn f l1 l2, h => by
    simp only [hd]
    rw [hdL_beta (l := l1) fun b hb => h b (List.mem_append_left _ hb), hdL_beta (l := l2) fun b hb => h b (List.mem_append_right _ hb)]
  | .int _ _, _ | .bool _, _ | .nilp, _ | .nilf, _ | .ip _ _ _, _ | .im _ _ _ _ _, _ | .own _ _ _ _, _ | .agg _, _ | .tup _, _ | .ref _ _, _ | .loc _ _, _ | .dead, _ => rfl
theorem hdL_beta {β β' : Nat → Nat} : ∀ {l : List V}, (∀ b, At.p b ∈ atomsL l → β' b = β b) → hdL β' l = hdL β l
  | [], _ => rfl
  | v :: l, h => by
    simp only [hdL]
    rw [hd_beta (x := v) fun b hb => h b (List.mem_append_left _ hb), hdL_beta (l := l) fun b hb => h b (List.mem_append_right _ hb)]
end
theorem MR_beta {β β' : Nat → Nat} {x : V} {u : Value} (h : ∀ b, At.p b ∈ atoms x → β' b = β b) (hm : MR β x u) : MR β' x u := by
  unfold MR at hm ⊢; rw [hd_beta h]; exact hm
mutual
theorem PR_beta {β β' : Nat → Nat} {D : St} : ∀ {v : V} {u : Value}, (∀ b, At.p b ∈ atoms v → β' b = β b) → PR β D v u → PR β' D v u
  | .bptr b o, u, h, hu => by simp only [PR] at hu ⊢; rw [h b (by simp [atoms])]; exact hu
  | .fn f l1 l2, u, h, hu => by
    obtain ⟨ua, ub, rfl, h1, h2⟩ := hu
    exact ⟨ua, ub, rfl, PRL_beta (fun b hb => h b (List.mem_append_left _ hb)) h1, PRL_beta (fun b hb => h b (List.mem_append_right _ hb)) h2⟩
  | .agg l, u, h, hu => by obtain ⟨us, rfl, h1⟩ := hu; exact ⟨us, rfl, PRL_beta h h1⟩
  | .tup l, u, h, hu => by obtain ⟨us, rfl, h1⟩ := hu; exact ⟨us, rfl, PRL_beta h h1⟩
  | .ref _ _, _, _, hu => hu
  | .loc _ _, _, _, hu => hu
  | .own _ _ _ _, _, _, hu => hu
  | .int _ _, _, _, hu | .bool _, _, _, hu | .nilp, _, _, hu | .nilf, _, _, hu | .ip _ _ _, _, _, hu | .im _ _ _ _ _, _, _, hu | .dead, _, _, hu => hu
theorem PRL_beta {β β' : Nat → Nat} {D : St} : ∀ {l : List V} {us : List Value}, (∀ b, At.p b ∈ atomsL l → β' b = β b) → PRL β D l us → PRL β' D l us
  | [], _, _, hu => hu
  | v :: l, us, h, hu => by
    obtain ⟨u, us', rfl, h1, h2⟩ := hu
    exact ⟨u, us', rfl, PR_beta (fun b hb => h b (List.mem_append_left _ hb)) h1, PRL_beta (fun b hb => h b (List.mem_append_right _ hb)) h2⟩
end
theorem atoms_sh {x : V} {b : At} (h : b ∈ atoms (sh x)) : b ∈ atoms x := by
  cases x <;> first | exact h | simp [sh, atoms, atomsL] at h
mutual
theorem rows_atoms : ∀ {v : V} {e : RowE}, e ∈ rows v → ∀ {x : V}, x ∈ e.2.2.2 → ∀ {b : At}, b ∈ atoms x → b ∈ atoms v
  | .own d k n cs, e, he, x, hx, b, hb => by
    simp only [rows, List.mem_cons] at he
    rcases he with rfl | he
    · obtain ⟨y, hy, rfl⟩ := List.mem_map.1 hx
      exact atoms_mem hy (atoms_sh hb)
    · exact rowsL_atoms he hx hb
  | .agg l, e, he, x, hx, b, hb => rowsL_atoms he hx hb
  | .tup l, e, he, x, hx, b, hb => rowsL_atoms he hx hb
  | .fn f l1 l2, e, he, x, hx, b, hb => by
    rcases List.mem_append.1 he with he | he
    · exact List.mem_append_left _ (rowsL_atoms he hx hb)
    · exact List.mem_append_right _ (rowsL_atoms he hx hb)
  | .int _ _, _, he, _, _, _, _ | .bool _, _, he, _, _, _, _ | .nilp, _, he, _, _, _, _ | .nilf, _, he, _, _, _, _ | .bptr _ _, _, he, _, _, _, _ | .ip _ _ _, _, he, _, _, _, _ | .im _ _ _ _ _, _, he, _, _, _, _ | .ref _ _, _, he, _, _, _, _ | .loc _ _, _, he, _, _, _, _ | .dead, _, he, _, _, _, _ => by simp [rows] at he
theorem rowsL_atoms : ∀ {l : List V} {e : RowE}, e ∈ rowsL l → ∀ {x : V}, x ∈ e.2.2.2 → ∀ {b : At}, b ∈ atoms x → b ∈ atomsL l
  | [], _, he, _, _, _, _ => by simp [rowsL] at he
  | v :: l, e, he, x, hx, b, hb => by
    rcases List.mem_append.1 he with he | he
    · exact List.mem_append_left _ (rows_atoms he hx hb)
    · exact List.mem_append_right _ (rowsL_atoms he hx hb)
end
theorem boxRows_atoms : ∀ {m : List (Nat × Box)} {e : RowE}, e ∈ boxRows m → ∀ {x : V}, x ∈ e.2.2.2 → ∀ {b : At}, b ∈ atoms x → b ∈ boxAtoms m
  | [], _, he, _, _, _, _ => by simp [boxRows] at he
  | (i, c) :: m, e, he, x, hx, b, hb => by
    simp only [boxRows, List.mem_cons, List.mem_append] at he
    rcases he with rfl | he | he
    · obtain ⟨y, hy, rfl⟩ := List.mem_map.1 hx
      exact List.mem_append_left _ (atoms_mem hy (atoms_sh hb))
    · exact List.mem_append_left _ (rowsL_atoms he hx hb)
    · exact List.mem_append_right _ (boxRows_atoms he hx hb)
theorem rowsD_atoms {nt : Nat} {D : St} {ex : List V} {e : RowE} (he : e ∈ rowsD nt D ex) {x : V} (hx : x ∈ e.2.2.2) {b : At} (hb : b ∈ atoms x) : b ∈ atomsD nt D ex := by
  unfold rowsD at he; unfold atomsD
  rcases List.mem_append.1 he with he | he
  · obtain ⟨t, ht, he⟩ := List.mem_flatMap.1 he
    exact List.mem_append_left _ (List.mem_flatMap.2 ⟨t, ht, rows_atoms he hx hb⟩)
  rcases List.mem_append.1 he with he | he
  · exact List.mem_append_right _ (List.mem_append_left _ (boxRows_atoms he hx hb))
  · exact List.mem_append_right _ (List.mem_append_right _ (rowsL_atoms he hx hb))
/-- The cells that an atom says. -/
def At.cs : At → List V
  | .p _ => []
  | .i _ _ _ _ cs => cs
  | .f _ _ cs => cs
mutual
theorem atoms_closed : ∀ {v : V} {c : At}, c ∈ atoms v → ∀ {b : At}, b ∈ atomsL c.cs → b ∈ atoms v
  | .im pm A cap n cs, c, hc, b, hb => by
    simp only [atoms, List.mem_cons] at hc ⊢
    rcases hc with rfl | hc
    · exact .inr hb
    · exact .inr (atomsL_closed hc hb)
  | .ip pm A cs, c, hc, b, hb => by
    simp only [atoms, List.mem_cons] at hc ⊢
    rcases hc with rfl | hc
    · exact .inr hb
    · exact .inr (atomsL_closed hc hb)
  | .bptr _ _, c, hc, b, hb => by
    simp only [atoms, List.mem_singleton] at hc; subst hc; simp [At.cs, atomsL] at hb
  | .own _ _ _ cs, c, hc, b, hb => atomsL_closed hc hb
  | .agg l, c, hc, b, hb => atomsL_closed hc hb
  | .tup l, c, hc, b, hb => atomsL_closed hc hb
  | .fn f l1 l2, c, hc, b, hb => by
    rcases List.mem_append.1 hc with hc | hc
    · exact List.mem_append_left _ (atomsL_closed hc hb)
    · exact List.mem_append_right _ (atomsL_closed hc hb)
  | .int _ _, _, hc, _, _ | .bool _, _, hc, _, _ | .nilp, _, hc, _, _ | .nilf, _, hc, _, _ | .ref _ _, _, hc, _, _ | .loc _ _, _, hc, _, _ | .dead, _, hc, _, _ => by simp [atoms] at hc
theorem atomsL_closed : ∀ {l : List V} {c : At}, c ∈ atomsL l → ∀ {b : At}, b ∈ atomsL c.cs → b ∈ atomsL l
  | [], _, hc, _, _ => by simp [atomsL] at hc
  | v :: l, c, hc, b, hb => by
    rcases List.mem_append.1 hc with hc | hc
    · exact List.mem_append_left _ (atoms_closed hc hb)
    · exact List.mem_append_right _ (atomsL_closed hc hb)
end
theorem boxAtoms_mem' : ∀ {m : List (Nat × Box)} {c : At}, c ∈ boxAtoms m → ∃ e ∈ m, c ∈ atomsL e.2.cs
  | [], _, h => by simp [boxAtoms] at h
  | (i, x) :: m, c, h => by
    rcases List.mem_append.1 h with h | h
    · exact ⟨_, List.mem_cons_self, h⟩
    · obtain ⟨e, he, h⟩ := boxAtoms_mem' h; exact ⟨e, List.mem_cons_of_mem _ he, h⟩
theorem boxAtoms_of : ∀ {m : List (Nat × Box)} {e : Nat × Box}, e ∈ m → ∀ {c : At}, c ∈ atomsL e.2.cs → c ∈ boxAtoms m
  | (i, x) :: m, e, he, c, hc => by
    rcases List.mem_cons.1 he with rfl | he
    · exact List.mem_append_left _ hc
    · exact List.mem_append_right _ (boxAtoms_of he hc)
theorem atomsD_closed {nt : Nat} {D : St} {ex : List V} {c : At} (hc : c ∈ atomsD nt D ex) {b : At} (hb : b ∈ atomsL c.cs) : b ∈ atomsD nt D ex := by
  unfold atomsD at hc ⊢
  rcases List.mem_append.1 hc with hc | hc
  · obtain ⟨t, ht, hc⟩ := List.mem_flatMap.1 hc
    exact List.mem_append_left _ (List.mem_flatMap.2 ⟨t, ht, atoms_closed hc hb⟩)
  rcases List.mem_append.1 hc with hc | hc
  · obtain ⟨e, he, hc⟩ := boxAtoms_mem' hc
    exact List.mem_append_right _ (List.mem_append_left _ (boxAtoms_of he (atomsL_closed hc hb)))
  · exact List.mem_append_right _ (List.mem_append_right _ (atomsL_closed hc hb))

def Env.at (E : Env) (β : Nat → Nat) : Env := { E with β := β }
theorem RowOk.beta {E : Env} {β : Nat → Nat} {w : World} {e : RowE} (hb : ∀ x ∈ e.2.2.2, ∀ b, At.p b ∈ atoms x → β b = E.β b) (h : RowOk E w e) : RowOk (E.at β) w e := by
  obtain ⟨d, k, n, cs⟩ := e
  cases d with
  | nil => exact h
  | emp A => exact h
  | blk g cap kk =>
    obtain ⟨q1, q2, q3, q4, q5, cur, el, q6, q7, q8⟩ := h
    refine ⟨q1, q2, q3, q4, q5, cur, el, q6, q7, fun j x hx => ?_⟩
    obtain ⟨u, hu, hm⟩ := q8 j x hx
    exact ⟨u, hu, MR_beta (β := E.β) (fun b hb' => hb x (List.mem_of_getElem? hx) b hb') hm⟩
theorem FOk.beta {E : Env} {β : Nat → Nat} {w : World} {K : Nat → Prop} {pm : Bool} {A : Addr} {cs : List V} (hb : ∀ b, At.p b ∈ atomsL cs → β b = E.β b) (h : FOk E w K pm A cs) : FOk (E.at β) w K pm A cs := by
  refine ⟨h.1, fun j x hx => ?_, h.2.2⟩
  obtain ⟨u, hu, hm⟩ := h.2.1 j x hx
  exact ⟨u, hu, MR_beta (β := E.β) (fun b hb' => hb b (atoms_mem (List.mem_of_getElem? hx) hb')) hm⟩
/-- The same boxes, said by another map. -/
theorem Inv.beta {E : Env} {β : Nat → Nat} {nt : Nat} {D : St} {ex : List V} {w : World} (h : Inv E nt D ex w) (hb : ∀ b, b < D.nx → β b = E.β b) : Inv (E.at β) nt D ex w := by
  have hp : ∀ b, At.p b ∈ atomsD nt D ex → β b = E.β b := fun b hm => hb b (h.atoms _ hm)
  refine ⟨fun e he => (h.rows e he).beta fun x hx b hb' => hp b (rowsD_atoms he hx hb'), h.nodup, fun c hc => ?_, fun e he => ?_, h.ids, h.keysG, h.newG, h.gpb⟩
  · have h0 := h.atoms c hc
    have hcs : ∀ b, At.p b ∈ atomsL c.cs → β b = E.β b := fun b hb' => hp b (atomsD_closed hc hb')
    cases c with
    | p b => exact h0
    | i pm A cap n cs =>
      refine ⟨h0.1, ?_⟩
      have h2 := h0.2
      cases A with
      | none => exact h2
      | some a => exact FOk.beta hcs h2
    | f pm A cs => exact FOk.beta hcs h0
  · obtain ⟨h1, h2⟩ := h.boxes e he
    exact ⟨by rw [h1]; exact (hb _ h2).symm, h2⟩
theorem Inv.p_lt {E : Env} {nt : Nat} {D : St} {ex : List V} {w : World} (h : Inv E nt D ex w) {b : Nat} (hm : At.p b ∈ atomsD nt D ex) : b < D.nx := h.atoms _ hm
theorem SlotsOk.beta {E : Env} {β : Nat → Nat} {nt : Nat} {D : St} {a : Act} {ex : List V} {w : World} (h : SlotsOk E nt D a) (hI : Inv E nt D ex w) (hb : ∀ b, b < D.nx → β b = E.β b) : SlotsOk (E.at β) nt D a := by
  refine ⟨h.size, h.defers, fun t => ?_, h.high⟩
  rcases Nat.lt_or_ge t nt with ht | ht
  · exact PR_beta (fun b hb' => hb b (hI.p_lt (List.mem_append_left _ (slotAtoms_mem ht hb')))) (h.slot t)
  · rw [h.high t ht]; trivial

/-! ### operands -/
theorem look_append {D : St} {r : Root} {p : List Nat} {x : V} {cs : List V} (h : look D r p = some x) (hx : x = .agg cs ∨ x = .tup cs ∨ ∃ d k n, x = .own d k n cs) (o : Nat) : look D r (p ++ [o]) = cs[o]? := by
  have key : ∀ (p : List Nat) (v : V), go p v = some x → go (p ++ [o]) v = cs[o]? := by
    intro p
    induction p with
    | nil =>
      intro v hv
      simp only [go, Option.some.injEq] at hv
      subst hv
      rcases hx with rfl | rfl | ⟨d, k, n, rfl⟩ <;> (simp only [List.nil_append, go]; cases cs[o]? <;> rfl)
    | cons q p ih =>
      intro v hv
      cases v <;> simp only [go, List.cons_append] at hv ⊢ <;> first
        | (split at hv
           · rename_i y hy; exact ih y hv
           · cases hv)
        | cases hv
  cases r with
  | slot t => exact key p _ h
  | box b =>
    simp only [look] at h ⊢
    cases hb : getBox D.m b with
    | none => rw [hb] at h; simp at h
    | some c =>
      rw [hb] at h
      cases p with
      | nil => simp at h
      | cons q p =>
        simp only [List.cons_append] at h ⊢
        cases hc : c.cs[q]? with
        | none => rw [hc] at h; simp at h
        | some y => rw [hc] at h; exact key p y h
mutual
theorem PR_view {β : Nat → Nat} {D : St} {r : Root} : ∀ {v : V} {p : List Nat} {u : Value}, look D r p = some v → PR β D v u → PR β D (view r p v) u
  | .own d k n cs, p, u, h, hu => by
    intro d' k' n' cs' hq
    rw [h] at hq; cases hq; exact hu
  | .agg l, p, u, h, hu => by
    obtain ⟨us, rfl, h1⟩ := hu
    exact ⟨us, rfl, PRL_view (fun j x hx => by rw [look_append h (.inl rfl)]; simpa using hx) h1⟩
  | .tup l, p, u, h, hu => by
    obtain ⟨us, rfl, h1⟩ := hu
    exact ⟨us, rfl, PRL_view (fun j x hx => by rw [look_append h (.inr (.inl rfl))]; simpa using hx) h1⟩
  | .fn f l1 l2, p, u, h, hu => by
    simp only [view]
    split
    · exact hu
    · trivial
  | .int _ _, _, _, _, hu | .bool _, _, _, _, hu | .nilp, _, _, _, hu | .nilf, _, _, _, hu | .bptr _ _, _, _, _, hu | .ip _ _ _, _, _, _, hu | .im _ _ _ _ _, _, _, _, hu | .ref _ _, _, _, _, hu | .loc _ _, _, _, _, hu | .dead, _, _, _, hu => hu
theorem PRL_view {β : Nat → Nat} {D : St} {r : Root} : ∀ {l : List V} {p : List Nat} {i : Nat} {us : List Value}, (∀ (j : Nat) (x : V), l[j]? = some x → look D r (p ++ [i + j]) = some x) → PRL β D l us → PRL β D (viewL r p i l) us
  | [], _, _, _, _, hu => hu
  | v :: l, p, i, us, h, hu => by
    obtain ⟨u, us', rfl, h1, h2⟩ := hu
    refine ⟨u, us', rfl, PR_view (by simpa using h 0 v rfl) h1, PRL_view (fun j x hx => ?_) h2⟩
    have := h (j + 1) x (by simpa using hx)
    rw [show i + 1 + j = i + (j + 1) by omega]; exact this
end
mutual
theorem noRow_view (r : Root) : ∀ (v : V) (p : List Nat), noRow (view r p v) = true
  | .own _ _ _ _, _ => rfl
  | .agg l, p => by simp only [view, noRow]; exact noRowL_view r l p 0
  | .tup l, p => by simp only [view, noRow]; exact noRowL_view r l p 0
  | .fn f a b, p => by
    simp only [view]
    split
    · rename_i h; simpa [noRow] using h
    · rfl
  | .int _ _, _ | .bool _, _ | .nilp, _ | .nilf, _ | .bptr _ _, _ | .ip _ _ _, _ | .im _ _ _ _ _, _ | .ref _ _, _ | .loc _ _, _ | .dead, _ => rfl
theorem noRowL_view (r : Root) : ∀ (l : List V) (p : List Nat) (i : Nat), noRowL (viewL r p i l) = true
  | [], _, _ => rfl
  | v :: l, p, i => by simp only [viewL, noRowL, noRow_view r v, noRowL_view r l, Bool.and_self]
end
mutual
theorem atoms_view (r : Root) : ∀ (v : V) (p : List Nat) {b : At}, b ∈ atoms (view r p v) → b ∈ atoms v
  | .own _ _ _ _, _, b, h => by simp [view, atoms] at h
  | .agg l, p, b, h => atomsL_view r l p 0 h
  | .tup l, p, b, h => atomsL_view r l p 0 h
  | .fn f a c, p, b, h => by
    simp only [view] at h
    split at h
    · exact h
    · simp [atoms] at h
  | .int _ _, _, _, h | .bool _, _, _, h | .nilp, _, _, h | .nilf, _, _, h | .bptr _ _, _, _, h | .ip _ _ _, _, _, h | .im _ _ _ _ _, _, _, h | .ref _ _, _, _, h | .loc _ _, _, _, h | .dead, _, _, h => h
theorem atomsL_view (r : Root) : ∀ (l : List V) (p : List Nat) (i : Nat) {b : At}, b ∈ atomsL (viewL r p i l) → b ∈ atomsL l
  | [], _, _, _, h => h
  | v :: l, p, i, b, h => by
    rcases List.mem_append.1 h with h | h
    · exact List.mem_append_left _ (atoms_view r v _ h)
    · exact List.mem_append_right _ (atomsL_view r l _ _ h)
end

/-- What an operand's value is well for. -/
structure Seen (E : Env) (nt : Nat) (D : St) (ex : List V) (w : World) (v : V) (u : Value) : Prop where
  pr : PR E.β D v u
  ok : VOk E nt D ex w v
  flat : ∀ e ∈ rows v, RowOk E w e ∧ keyOf e = none
/-- The state, the memory, the slots; what the globals read as is in ex. -/
structure Now (H : Hint) (E : Env) (nt : Nat) (D : St) (ex : List V) (w : World) (a : Act) : Prop where
  inv : Inv E nt D ex w
  slots : SlotsOk E nt D a
  glob : ∀ g cs, H.G g = some cs → V.ip true ⟨g, 0, none⟩ cs ∈ ex

theorem ofCell_ok {E : Env} {nt : Nat} {D : St} {ex : List V} {w : World} {u : Value} {v : V} (h : ofCell u = some v) : Seen E nt D ex w v u ∧ atoms v = [] := by
  unfold ofCell at h
  split at h <;> first
    | (cases h; refine ⟨⟨by simp [PR, hd], by simp [VOk, atoms, atomsL], by simp [rows, rowsL, RowOk, keyOf]⟩, by simp [atoms, atomsL]⟩)
    | cases h
theorem ofCells_ok {E : Env} {nt : Nat} {D : St} {ex : List V} {w : World} : ∀ {us : List Value} {l : List V}, ofCells us = some l → PRL E.β D l us ∧ atomsL l = [] ∧ ∀ e ∈ rowsL l, RowOk E w e ∧ keyOf e = none
  | [], l, h => by simp only [ofCells, Option.some.injEq] at h; subst h; exact ⟨rfl, rfl, fun e he => by simp [rowsL] at he⟩
  | u :: us, l, h => by
    simp only [ofCells] at h
    cases hc : ofCell u with
    | none => rw [hc] at h; cases h
    | some x =>
      rw [hc] at h
      cases hcs : ofCells us with
      | none => rw [hcs] at h; cases h
      | some xs =>
        rw [hcs] at h; cases h
        obtain ⟨h1, h2⟩ := ofCell_ok (E := E) (nt := nt) (D := D) (ex := ex) (w := w) hc
        obtain ⟨h3, h4, h5⟩ := ofCells_ok (E := E) (nt := nt) (D := D) (ex := ex) (w := w) hcs
        refine ⟨⟨u, us, rfl, h1.pr, h3⟩, by simp [atomsL, h2, h4], fun e he => ?_⟩
        rcases List.mem_append.1 he with he | he
        · exact h1.flat e he
        · exact h5 e he
theorem ofVal_ok {E : Env} {nt : Nat} {D : St} {ex : List V} {w : World} {u : Value} {v : V} (h : ofVal u = some v) : Seen E nt D ex w v u := by
  unfold ofVal at h
  split at h
  · rename_i cs
    split at h
    · rename_i l hl
      cases h
      obtain ⟨h1, h2, h3⟩ := ofCells_ok (E := E) (nt := nt) (D := D) (ex := ex) (w := w) hl
      exact ⟨⟨_, by simp, h1⟩, fun b hb => by simp [atoms, h2] at hb, h3⟩
    · cases h
  · exact (ofCell_ok h).1
/-- AN OPERAND. -/
theorem ev_ok {H : Hint} {E : Env} {nt : Nat} {D : St} {ex : List V} {w : World} {a : Act} (hN : Now H E nt D ex w a) {x : Operand} {v : V} (h : ev H D x = some v) : Seen E nt D ex w v (a.eval x) := by
  cases x with
  | tmp t =>
    simp only [ev, Option.some.injEq] at h
    subst h
    refine ⟨PR_view rfl (hN.slots.slot t), fun b hb => ?_, fun e he => by rw [rows_noRow (noRow_view _ _ _)] at he; cases he⟩
    have hb := atoms_view _ _ _ hb
    rcases Nat.lt_or_ge t nt with ht | ht
    · exact hN.inv.atoms b (List.mem_append_left _ (slotAtoms_mem ht hb))
    · rw [hN.slots.high t ht] at hb; simp [atoms] at hb
  | const v' => exact ofVal_ok h
  | func f =>
    simp only [ev, Option.some.injEq] at h
    subst h
    exact ⟨⟨[], [], rfl, rfl, rfl⟩, fun b hb => by simp [atoms, atomsL] at hb, fun e he => by simp [rows, rowsL] at he⟩
  | global g =>
    simp only [ev] at h
    cases hg : H.G g with
    | none => rw [hg] at h; cases h
    | some cs =>
      rw [hg] at h; cases h
      refine ⟨rfl, fun b hb => hN.inv.atoms b ?_, fun e he => by simp [rows] at he⟩
      exact List.mem_append_right _ (List.mem_append_right _ (atoms_mem (hN.glob g cs hg) hb))
theorem evL_ok {H : Hint} {E : Env} {nt : Nat} {D : St} {ex : List V} {w : World} {a : Act} (hN : Now H E nt D ex w a) : ∀ {xs : List Operand} {vs : List V}, evL H D xs = some vs →
    PRL E.β D vs (xs.map a.eval) ∧ (∀ b ∈ atomsL vs, AtOk E w D.nx (fun k => k ∈ keysD nt D ex) b) ∧ ∀ e ∈ rowsL vs, RowOk E w e ∧ keyOf e = none
  | [], vs, h => by simp only [evL, Option.some.injEq] at h; subst h; exact ⟨rfl, fun b hb => by simp [atomsL] at hb, fun e he => by simp [rowsL] at he⟩
  | x :: xs, vs, h => by
    simp only [evL] at h
    cases hx : ev H D x with
    | none => rw [hx] at h; cases h
    | some v =>
      rw [hx] at h
      cases hxs : evL H D xs with
      | none => rw [hxs] at h; cases h
      | some l =>
        rw [hxs] at h; cases h
        obtain ⟨h1, h2, h3⟩ := ev_ok hN hx
        obtain ⟨h4, h5, h6⟩ := evL_ok hN hxs
        refine ⟨⟨_, _, rfl, h1, h4⟩, fun b hb => ?_, fun e he => ?_⟩
        · rcases List.mem_append.1 hb with hb | hb
          · exact h2 b hb
          · exact h5 b hb
        · rcases List.mem_append.1 he with he | he
          · exact h3 e he
          · exact h6 e he
end Go.Abs
end
