/- Joined: AbsL AbsM AbsN AbsO AbsP AbsQ AbsR. -/
import Derived.Test.YteolodabmljaaaaAbs2
set_option linter.all false
/- Cells of memory written and read. -/
set_option linter.unusedVariables false
noncomputable section
namespace Go.Abs
open Go

/-! ### a step from one state to another -/
structure To (E : Env) (nt : Nat) (D : St) (ex : List V) (w : World) (E' : Env) (D' : St) (ex' : List V) (w' : World) : Prop where
  beta : ∀ b, b < D.nx → E'.β b = E.β b
  gp : E'.Gp = E.Gp
  gb : E'.Gb = E.Gb
  nx : D.nx ≤ D'.nx
  size : w.heap.size ≤ w'.heap.size
  keys : ∀ k, k ∈ keysD nt D' ex' → k ∈ keysD nt D ex ∨ w.heap.size ≤ k
  same : ∀ k, k < w.heap.size → k ∉ keysD nt D ex → w'.heap[k]? = w.heap[k]?
  os : w'.os = w.os
  tape : w'.tape = w.tape
  out : w'.output = w.output
theorem To.refl (E : Env) (nt : Nat) (D : St) (ex : List V) (w : World) : To E nt D ex w E D ex w :=
  ⟨fun _ _ => rfl, rfl, rfl, Nat.le_refl _, Nat.le_refl _, fun _ h => .inl h, fun _ _ _ => rfl, rfl, rfl, rfl⟩
theorem To.trans {E E1 E2 : Env} {nt : Nat} {D D1 D2 : St} {ex ex1 ex2 : List V} {w w1 w2 : World} (h : To E nt D ex w E1 D1 ex1 w1) (k : To E1 nt D1 ex1 w1 E2 D2 ex2 w2) : To E nt D ex w E2 D2 ex2 w2 := by
  refine ⟨fun b hb => (k.beta b (Nat.lt_of_lt_of_le hb h.nx)).trans (h.beta b hb), k.gp.trans h.gp, k.gb.trans h.gb, Nat.le_trans h.nx k.nx, Nat.le_trans h.size k.size, fun q hq => ?_, fun q hq hn => ?_, k.os.trans h.os, k.tape.trans h.tape, k.out.trans h.out⟩
  · rcases k.keys q hq with h1 | h1
    · exact h.keys q h1
    · exact .inr (Nat.le_trans h.size h1)
  · rw [k.same q (Nat.lt_of_lt_of_le hq h.size) fun h1 => ?_, h.same q hq hn]
    rcases h.keys q h1 with h2 | h2
    · exact hn h2
    · omega
theorem To.of_keys {E : Env} {nt : Nat} {D D' : St} {ex ex' : List V} {w : World} (hx : D'.nx = D.nx) (hk : ∀ k, k ∈ keysD nt D' ex' → k ∈ keysD nt D ex) : To E nt D ex w E D' ex' w :=
  ⟨fun _ _ => rfl, rfl, rfl, by rw [hx]; exact Nat.le_refl _, Nat.le_refl _, fun k h => .inl (hk k h), fun _ _ _ => rfl, rfl, rfl, rfl⟩

/-! ### places -/
/-- The block of the container that stands at a place. -/
def contOf (β : Nat → Nat) (D : St) (r : Root) (p : List Nat) : Option Nat :=
  match r, p with
  | .box b, [] => some (β b)
  | r, p => match look D r p with | some (.own (.blk g _ _) _ _ _) => some g | _ => none
theorem hd_PR {β : Nat → Nat} {D : St} : ∀ {v : V} {u : Value}, hd β v = some u → PR β D v u := by
  have key : ∀ v : V, (∀ u, hd β v = some u → PR β D v u) := by
    intro v
    refine V.rec (motive_1 := fun v => ∀ u, hd β v = some u → PR β D v u) (motive_2 := fun l => ∀ us, hdL β l = some us → PRL β D l us)
      ?_ ?_ ?_ ?_ ?_ ?_ ?_ ?_ ?_ ?_ ?_ ?_ ?_ ?_ ?_ ?_ v
    case refine_11 =>
      intro f a b h1 h2 u h
      simp only [hd] at h
      cases ha : hdL β a with
      | none => rw [ha] at h; cases h
      | some ua =>
        cases hb : hdL β b with
        | none => rw [ha, hb] at h; cases h
        | some ub =>
          rw [ha, hb] at h; cases h
          exact ⟨ua, ub, rfl, h1 _ ha, h2 _ hb⟩
    case refine_15 => intro us h; simp only [hdL, Option.some.injEq] at h; exact h.symm
    case refine_16 =>
      intro x l h1 h2 us h
      simp only [hdL] at h
      cases hx : hd β x with
      | none => rw [hx] at h; cases h
      | some u =>
        cases hl : hdL β l with
        | none => rw [hx, hl] at h; cases h
        | some us' =>
          rw [hx, hl] at h; cases h
          exact ⟨u, us', rfl, h1 _ hx, h2 _ hl⟩
    case refine_8 => intros; assumption
    all_goals (intros; simp_all [hd, PR])
  exact fun {v u} => key v u
theorem MR_PR {β : Nat → Nat} {D : St} {v : V} {u : Value} (h : MR β v u) : PR β D v u := by
  rcases h with h | rfl
  · exact hd_PR h
  · trivial

/-- The rows behind a write. -/
theorem rows_store {nt : Nat} {D : St} {ex : List V} {r : Root} {p : List Nat} {o : Nat} {old y : V} (hc : canStore D r p = true) (h : look D r (p ++ [o]) = some old) (hr : ∀ t, r = .slot t → t < nt) :
    ∃ (d : Dec) (k n : Nat) (cs : List V) (R : List RowE), cs[o]? = some old ∧ (rowsD nt D ex).Perm ((d, k, n, cs.map sh) :: (rows old ++ R)) ∧ (rowsD nt (setAt D r (p ++ [o]) y) ex).Perm ((d, k, n, (cs.set o y).map sh) :: (rows y ++ R)) ∧
      ((∃ b c, r = .box b ∧ p = [] ∧ getBox D.m b = some c ∧ d = .blk c.g 1 c.cs.length) ∨ look D r p = some (.own d k n cs)) := by
  have hown : ∀ (v : V) (q : List Nat), go q v = go q v := fun _ _ => rfl
  cases r with
  | slot t =>
    simp only [canStore] at hc
    cases hl : look D (.slot t) p with
    | none => rw [hl] at hc; cases hc
    | some x =>
      cases x <;> simp only [hl] at hc <;> try (cases hc)
      rename_i d k n cs
      rw [look_append hl (.inr (.inr ⟨d, k, n, rfl⟩))] at h
      obtain ⟨R, h1, h2⟩ := rows_goStore p (D.s t) y hl h
      obtain ⟨S, h3, h4⟩ := slotRows_set nt t D.s (hr t rfl)
      refine ⟨d, k, n, cs, R ++ (S ++ (boxRows D.m ++ rowsL ex)), h, ?_, ?_, .inr rfl⟩
      · unfold rowsD
        refine (List.Perm.append_right _ (h3.trans (List.Perm.append_right _ h1))).trans ?_
        simp only [List.cons_append, List.append_assoc]; exact List.Perm.refl _
      · unfold rowsD
        simp only [setAt]
        refine (List.Perm.append_right _ ((h4 _).trans (List.Perm.append_right _ h2))).trans ?_
        simp only [List.cons_append, List.append_assoc]; exact List.Perm.refl _
  | box b =>
    cases p with
    | nil =>
      simp only [List.nil_append, look] at h
      cases hb : getBox D.m b with
      | none => rw [hb] at h; simp at h
      | some c =>
        rw [hb] at h
        simp only at h
        cases hc0 : c.cs[o]? with
        | none => rw [hc0] at h; simp at h
        | some z =>
          rw [hc0] at h
          simp only [go, Option.some.injEq] at h
          subst h
          obtain ⟨R, h1, h2⟩ := boxRows_set hb
          obtain ⟨S, h3, h4⟩ := rowsL_set c.cs o z y hc0
          refine ⟨.blk c.g 1 c.cs.length, 0, 1, c.cs, S ++ (R ++ (slotRows nt D.s ++ rowsL ex)), hc0, ?_, ?_, .inl ⟨b, c, rfl, rfl, hb, rfl⟩⟩
          · unfold rowsD
            have : (boxRows D.m).Perm (boxRow c :: (rows z ++ (S ++ R))) := h1.trans (List.Perm.cons _ (by rw [← List.append_assoc]; exact List.Perm.append_right _ h3))
            refine (List.Perm.append_left _ (List.Perm.append_right _ this)).trans ?_
            refine (List.perm_append_comm_assoc _ _ _).trans ?_
            simp only [List.cons_append, List.append_assoc]
            exact List.Perm.refl _
          · unfold rowsD
            simp only [List.nil_append, setAt, hb, hc0, goSet]
            have : (boxRows (setBox D.m b { c with cs := c.cs.set o y })).Perm ((.blk c.g 1 c.cs.length, 0, 1, (c.cs.set o y).map sh) :: (rows y ++ (S ++ R))) := by
              refine (h2 _).trans ?_
              simp only [boxRow, List.length_set]
              exact List.Perm.cons _ (by rw [← List.append_assoc]; exact List.Perm.append_right _ h4)
            refine (List.Perm.append_left _ (List.Perm.append_right _ this)).trans ?_
            refine (List.perm_append_comm_assoc _ _ _).trans ?_
            simp only [List.cons_append, List.append_assoc]
            exact List.Perm.refl _
    | cons i p =>
      simp only [canStore] at hc
      cases hl : look D (.box b) (i :: p) with
      | none => rw [hl] at hc; cases hc
      | some x =>
        cases x <;> simp only [hl] at hc <;> try (cases hc)
        rename_i d k n cs
        rw [look_append hl (.inr (.inr ⟨d, k, n, rfl⟩))] at h
        have hl0 := hl
        simp only [look] at hl
        cases hb : getBox D.m b with
        | none => rw [hb] at hl; simp at hl
        | some c =>
          rw [hb] at hl
          simp only at hl
          cases hc0 : c.cs[i]? with
          | none => rw [hc0] at hl; simp at hl
          | some z =>
            rw [hc0] at hl
            simp only at hl
            obtain ⟨R, h1, h2⟩ := rows_goStore p z y hl h
            obtain ⟨Q, h5, h6⟩ := boxRows_set hb
            obtain ⟨S, h3, h4⟩ := rowsL_set c.cs i z (goSet (p ++ [o]) y z) hc0
            have hsh : (c.cs.set i (goSet (p ++ [o]) y z)).map sh = c.cs.map sh := by
              have : sh (goSet (p ++ [o]) y z) = sh z := by
                cases p with
                | nil => simp only [go, Option.some.injEq] at hl; exact sh_goSet _ _ _ _ hl
                | cons a p' => cases z <;> simp [go] at hl <;> simp [goSet, sh]
              rw [List.map_set, this]
              refine List.ext_getElem? fun j => ?_
              rw [List.getElem?_set]
              by_cases hj : i = j
              · subst hj; simp [hc0]; exact (List.getElem?_eq_some_iff.1 hc0).1
              · simp [hj]
            have mv : ∀ (X C : RowE) (A1 S1 R1 Q1 L1 Z1 : List RowE), (L1 ++ ((C :: (((X :: (A1 ++ R1)) ++ S1) ++ Q1)) ++ Z1)).Perm (X :: (A1 ++ (C :: (R1 ++ (S1 ++ (Q1 ++ (L1 ++ Z1))))))) := by
              intro X C A1 S1 R1 Q1 L1 Z1
              refine (List.perm_append_comm_assoc _ _ _).trans ?_
              simp only [List.cons_append, List.append_assoc]
              refine (List.Perm.swap _ _ _).trans (List.Perm.cons _ ?_)
              refine List.perm_middle.symm.trans (List.Perm.append_left _ (List.Perm.cons _ (List.Perm.append_left _ (List.Perm.append_left _ (List.Perm.append_left _ (List.Perm.refl _))))))
            refine ⟨d, k, n, cs, boxRow c :: (R ++ (S ++ (Q ++ (slotRows nt D.s ++ rowsL ex)))), h, ?_, ?_, .inr rfl⟩
            · unfold rowsD
              have : (boxRows D.m).Perm (boxRow c :: ((((d, k, n, cs.map sh) :: (rows old ++ R)) ++ S) ++ Q)) := h5.trans (List.Perm.cons _ (List.Perm.append_right _ (h3.trans (List.Perm.append_right _ h1))))
              exact (List.Perm.append_left _ (List.Perm.append_right _ this)).trans (mv _ _ _ _ _ _ _ _)
            · unfold rowsD
              simp only [List.cons_append, setAt, hb, hc0]
              have : (boxRows (setBox D.m b { c with cs := c.cs.set i (goSet (p ++ [o]) y z) })).Perm (boxRow c :: ((((d, k, n, (cs.set o y).map sh) :: (rows y ++ R)) ++ S) ++ Q)) := by
                refine (h6 _).trans ?_
                simp only [boxRow, List.length_set, hsh]
                exact List.Perm.cons _ (List.Perm.append_right _ (h4.trans (List.Perm.append_right _ h2)))
              exact (List.Perm.append_left _ (List.Perm.append_right _ this)).trans (mv _ _ _ _ _ _ _ _)
end Go.Abs
end
/- One cell written; cells read. -/
set_option linter.unusedVariables false
noncomputable section
namespace Go.Abs
open Go

theorem Inv.box_of {E : Env} {nt : Nat} {D : St} {ex : List V} {w : World} (h : Inv E nt D ex w) {b : Nat} {c : Box} (hb : getBox D.m b = some c) : c.g = E.β b := (h.boxes _ (getBox_mem hb)).1
/-- What the place of a cell is in memory. -/
theorem place_ok {E : Env} {nt : Nat} {D : St} {ex : List V} {w : World} (hI : Inv E nt D ex w) {r : Root} {p : List Nat} {o : Nat} {old : V} (hc : canStore D r p = true) (h : look D r (p ++ [o]) = some old) (hr : ∀ t, r = .slot t → t < nt) :
    ∃ g cap kk cur el, contOf E.β D r p = some g ∧ w.heap[g]? = some (.cells cur el (0, 0)) ∧ g ∈ keysD nt D ex ∧ (∃ u, cur[o]? = some u ∧ MR E.β old u) ∧ ∀ y, ∃ (k n : Nat) (cs : List V) (R : List RowE), cs[o]? = some old ∧
      (rowsD nt D ex).Perm ((.blk g cap kk, k, n, cs.map sh) :: (rows old ++ R)) ∧ (rowsD nt (setAt D r (p ++ [o]) y) ex).Perm ((.blk g cap kk, k, n, (cs.set o y).map sh) :: (rows y ++ R)) := by
  obtain ⟨d0, k0, n0, cs0, R0, g1, g2, g3, g4⟩ := rows_store (nt := nt) (ex := ex) (y := .dead) hc h hr
  have hrow := hI.rows _ (g2.mem_iff.2 List.mem_cons_self)
  cases d0 with
  | nil => rw [show cs0 = [] from by simpa using hrow.2] at g1; simp at g1
  | emp A => rw [show cs0 = [] from by simpa using hrow.2] at g1; simp at g1
  | blk g cap kk =>
    obtain ⟨q1, q2, q3, q4, q5, cur, el, q6, q7, q8⟩ := hrow
    obtain ⟨u, hu, hm⟩ := q8 o (sh old) (by rw [List.getElem?_map, g1]; rfl)
    have hg : contOf E.β D r p = some g := by
      rcases g4 with ⟨b, c, rfl, rfl, hb, hd⟩ | hl
      · cases hd; simp only [contOf]; rw [hI.box_of hb]
      · unfold contOf
        cases r with
        | slot t => simp only [hl]
        | box b =>
          cases p with
          | nil => simp [look] at hl; cases hb : getBox D.m b <;> simp [hb] at hl
          | cons i p => simp only [hl]
    refine ⟨g, cap, kk, cur, el, hg, q6, (keysOf_perm g2).mem_iff.2 (by simp [keysOf, keyOf]), ⟨u, hu, MR_sh.1 hm⟩, fun y => ?_⟩
    obtain ⟨d1, k1, n1, cs1, R1, f1, f2, f3, f4⟩ := rows_store (nt := nt) (ex := ex) (y := y) hc h hr
    have hd : d1 = .blk g cap kk := by
      rcases f4 with ⟨b, c, rfl, rfl, hb, hd⟩ | hl
      · rcases g4 with ⟨b', c', e1, _, hb', hd'⟩ | hl'
        · cases e1; rw [hb] at hb'; cases hb'; rw [hd, hd']
        · simp [look, hb] at hl'
      · rcases g4 with ⟨b', c', rfl, rfl, hb', hd'⟩ | hl'
        · simp [look, hb'] at hl
        · rw [hl] at hl'; cases hl'; rfl
    subst hd
    exact ⟨k1, n1, cs1, R1, f1, f2, f3⟩

theorem setCell_heap_other (w : World) (a : Addr) (u : Value) (k : Nat) (h : k ≠ a.block) : (w.setCell a u).heap[k]? = w.heap[k]? := by
  simp only [World.setCell, Array.getElem?_modify]
  rw [if_neg (Ne.symm h)]
theorem setCell_heap_same {w : World} {g o : Nat} {u : Value} {cur : Array Value} {el : TypeId} {fr : Nat × Nat} (h : w.heap[g]? = some (.cells cur el fr)) : (w.setCell ⟨g, o, none⟩ u).heap[g]? = some (.cells (cur.setIfInBounds o u) el fr) := by
  simp [World.setCell, Array.getElem?_modify, h]
theorem setCell_size (w : World) (a : Addr) (u : Value) : (w.setCell a u).heap.size = w.heap.size := by simp [World.setCell]
theorem PR_goStore {β : Nat → Nat} {D : St} : ∀ (p : List Nat) (v : V) {o : Nat} {d : Dec} {k n : Nat} {cs : List V} {y : V} {u : Value}, go p v = some (.own d k n cs) → PR β D v u → PR β D (goSet (p ++ [o]) y v) u
  | [], v, o, d, k, n, cs, y, u, h, hu => by simp only [go, Option.some.injEq] at h; subst h; exact hu
  | i :: p, .own _ _ _ _, o, d, k, n, cs, y, u, h, hu => hu
  | i :: p, .agg l, o, d, k, n, cs, y, u, h, hu => by
    obtain ⟨us, rfl, hl⟩ := hu
    simp only [go] at h
    cases hz : l[i]? with
    | none => simp [hz] at h
    | some z =>
      simp only [hz] at h
      simp only [List.cons_append, goSet, hz]
      exact ⟨us, rfl, PRL_set l us i z _ hz (fun u hu => PR_goStore p z h hu) hl⟩
  | i :: p, .tup l, o, d, k, n, cs, y, u, h, hu => by
    obtain ⟨us, rfl, hl⟩ := hu
    simp only [go] at h
    cases hz : l[i]? with
    | none => simp [hz] at h
    | some z =>
      simp only [hz] at h
      simp only [List.cons_append, goSet, hz]
      exact ⟨us, rfl, PRL_set l us i z _ hz (fun u hu => PR_goStore p z h hu) hl⟩
  | _ :: _, .int _ _, _, _, _, _, _, _, _, h, _ | _ :: _, .bool _, _, _, _, _, _, _, _, h, _ | _ :: _, .nilp, _, _, _, _, _, _, _, h, _ | _ :: _, .nilf, _, _, _, _, _, _, _, h, _ | _ :: _, .bptr _ _, _, _, _, _, _, _, _, h, _
  | _ :: _, .ip _ _ _, _, _, _, _, _, _, _, h, _ | _ :: _, .im _ _ _ _ _, _, _, _, _, _, _, _, h, _ | _ :: _, .fn _ _ _, _, _, _, _, _, _, _, h, _ | _ :: _, .ref _ _, _, _, _, _, _, _, _, h, _ | _ :: _, .loc _ _, _, _, _, _, _, _, _, h, _ | _ :: _, .dead, _, _, _, _, _, _, _, h, _ => by
    simp [go] at h
theorem setAt_s_box (D : St) (b : Nat) (p : List Nat) (y : V) : (setAt D (.box b) p y).s = D.s := by
  simp only [setAt]
  cases getBox D.m b with
  | none => rfl
  | some c => cases p <;> rfl
/-- Slots behind a write of a cell. -/
theorem SlotsOk.store {E : Env} {nt : Nat} {D : St} {a : Act} (h : SlotsOk E nt D a) {r : Root} {p : List Nat} {o : Nat} {old y : V} (hc : canStore D r p = true) (hl : look D r (p ++ [o]) = some old) (hr : ∀ t, r = .slot t → t < nt) :
    SlotsOk E nt (if noRow y then Abs.setAt D r (p ++ [o]) y else killAll (Abs.setAt D r (p ++ [o]) y) r (p ++ [o])) a := by
  have hs1 : ∀ t, PR E.β D ((Abs.setAt D r (p ++ [o]) y).s t) (a.tmps.getD t undef) := by
    intro t
    cases r with
    | slot t' =>
      simp only [Abs.setAt]
      by_cases e : t = t'
      · subst e
        rw [if_pos rfl]
        simp only [canStore] at hc
        cases hq : look D (.slot t) p with
        | none => rw [hq] at hc; cases hc
        | some x =>
          cases x <;> simp only [hq] at hc <;> try (cases hc)
          exact PR_goStore p _ hq (h.slot t)
      · rw [if_neg e]; exact h.slot t
    | box b => rw [setAt_s_box]; exact h.slot t
  have hh1 : ∀ t, nt ≤ t → (Abs.setAt D r (p ++ [o]) y).s t = .dead := by
    intro t ht
    cases r with
    | slot t' =>
      have : t ≠ t' := fun e => by have := hr t' rfl; omega
      simp only [Abs.setAt, if_neg this]
      exact h.high t ht
    | box b => rw [setAt_s_box]; exact h.high t ht
  have ht := setAt_turned (y := y) hl
  cases hn : noRow y with
  | true => exact ⟨h.size, h.defers, fun t => PR_kept (ht.2 hn) (hs1 t), hh1⟩
  | false =>
    simp only [Bool.false_eq_true, if_false]
    refine ⟨h.size, h.defers, fun t => PR_kill (ht.1.trans_kept (mild_kept (f := kill r (p ++ [o])) (kill_mild r (p ++ [o])))) (hs1 t), fun t hh => ?_⟩
    simp only [killAll, hh1 t hh, kill]

theorem keysOf_cons_blk {g cap kk : Nat} {x : Nat × Nat × List V} {l : List RowE} : keysOf ((.blk g cap kk, x) :: l) = g :: keysOf l := rfl
/-- ONE CELL WRITTEN. -/
theorem store1_ok {y : V} {E : Env} {nt : Nat} {D : St} {ex : List V} {w : World} {a : Act} (hI : Inv E nt D (y :: ex) w) (hS : SlotsOk E nt D a) {r : Root} {p : List Nat} {o : Nat} {old : V} {u : Value} (hc : canStore D r p = true) (hl : look D r (p ++ [o]) = some old)
    (hr : ∀ t, r = .slot t → t < nt) (hm : MR E.β y u) : ∃ g, contOf E.β D r p = some g ∧ (w.cell? ⟨g, o, none⟩).isSome = true ∧ w.frozen? ⟨g, o, none⟩ = false ∧
      ∀ D', D' = (if noRow y then setAt D r (p ++ [o]) y else killAll (setAt D r (p ++ [o]) y) r (p ++ [o])) →
        Inv E nt D' ex (w.setCell ⟨g, o, none⟩ u) ∧ SlotsOk E nt D' a ∧ To E nt D (y :: ex) w E D' ex (w.setCell ⟨g, o, none⟩ u) := by
  obtain ⟨g, cap, kk, cur, el, h1, h2, h3, ⟨u0, h4, h5⟩, h6⟩ := place_ok hI hc hl hr
  refine ⟨g, h1, by simp [World.cell?, h2, h4], by simp [World.frozen?, h2], fun D' hD' => ?_⟩
  -- the rows, with what is in flight
  obtain ⟨d, k, n, cs, R, f1, f2, f3, f4⟩ := rows_store (nt := nt) (ex := ex) (y := y) hc hl hr
  have f2' : (rowsD nt D (y :: ex)).Perm ((d, k, n, cs.map sh) :: (rows y ++ (rows old ++ R))) := by
    refine (rowsD_ex nt D y ex).trans ((List.Perm.append_left _ f2).trans List.perm_middle)
  have hd : d = .blk g cap kk := by
    obtain ⟨k2, n2, cs2, R2, e1, e2, e3⟩ := h6 y
    have hrow := hI.rows _ (f2'.mem_iff.2 List.mem_cons_self)
    cases d with
    | nil => rw [show cs = [] from by simpa using hrow.2] at f1; simp at f1
    | emp A => rw [show cs = [] from by simpa using hrow.2] at f1; simp at f1
    | blk g' cap' kk' =>
      have hg' : contOf E.β D r p = some g' := by
        rcases f4 with ⟨b, c, rfl, rfl, hb, hd⟩ | hq
        · cases hd; simp only [contOf]; rw [hI.box_of hb]
        · unfold contOf
          cases r with
          | slot t => simp only [hq]
          | box b =>
            cases p with
            | nil => simp [look] at hq; cases hb : getBox D.m b <;> simp [hb] at hq
            | cons i p => simp only [hq]
      rw [h1] at hg'; cases hg'
      have hk := (keysOf_perm f2').nodup_iff.1 hI.nodup
      have m1 : ((.blk g cap kk, k2, n2, cs2.map sh) : RowE) ∈ ((.blk g cap' kk', k, n, cs.map sh) : RowE) :: (rows y ++ (rows old ++ R)) := f2'.mem_iff.1 (e2.mem_iff.2 List.mem_cons_self)
      rcases List.mem_cons.1 m1 with m1 | m1
      · have := congrArg (fun e : RowE => e.1) m1; exact this.symm
      · rw [keysOf_cons_blk] at hk
        exact absurd (List.mem_filterMap.2 ⟨(.blk g cap kk, k2, n2, cs2.map sh), m1, rfl⟩ : g ∈ keysOf _) (List.nodup_cons.1 hk).1
  subst hd
  have hk := (keysOf_perm f2').nodup_iff.1 hI.nodup
  rw [keysOf_cons_blk] at hk
  have hk1 := (List.nodup_cons.1 hk).1
  have hk2 := (List.nodup_cons.1 hk).2
  have hsame : ∀ q, q ≠ g → (w.setCell ⟨g, o, none⟩ u).heap[q]? = w.heap[q]? := fun q hq => setCell_heap_other w _ u q hq
  have hnew := setCell_heap_same (o := o) (u := u) h2
  have hrows' : rowsD nt D' ex = rowsD nt (setAt D r (p ++ [o]) y) ex := by
    rw [hD']; split
    · rfl
    · exact killAll_rows
  have hatoms' : atomsD nt D' ex = atomsD nt (setAt D r (p ++ [o]) y) ex := by
    rw [hD']; split
    · rfl
    · exact killAll_atoms
  have hm' : D'.m = (setAt D r (p ++ [o]) y).m ∧ D'.nx = (setAt D r (p ++ [o]) y).nx := by
    rw [hD']; split <;> exact ⟨rfl, rfl⟩
  obtain ⟨m1, m2, m3⟩ := setAt_m D r (p ++ [o]) y
  have f3' : (rowsD nt D' ex).Perm ((.blk g cap kk, k, n, (cs.set o y).map sh) :: (rows y ++ R)) := by rw [hrows']; exact f3
  have hkeys : ∀ q, q ∈ keysD nt D' ex → q ∈ keysD nt D (y :: ex) := by
    intro q hq
    have := (keysOf_perm f3').mem_iff.1 hq
    refine (keysOf_perm f2').mem_iff.2 ?_
    rw [keysOf_cons_blk] at this ⊢
    rcases List.mem_cons.1 this with h | h
    · exact List.mem_cons.2 (.inl h)
    · rw [keysOf_append] at h
      rw [keysOf_append, keysOf_append]
      rcases List.mem_append.1 h with h | h
      · exact List.mem_cons_of_mem _ (List.mem_append_left _ h)
      · exact List.mem_cons_of_mem _ (List.mem_append_right _ (List.mem_append_right _ h))
  have hgk : g ∈ keysD nt D (y :: ex) := h3
  have hrowC := hI.rows _ (f2'.mem_iff.2 List.mem_cons_self)
  obtain ⟨q1, q2, q3, q4, q5, cur', el', q6, q7, q8⟩ := hrowC
  rw [h2] at q6; cases q6
  have hinv : Inv E nt D' ex (w.setCell ⟨g, o, none⟩ u) := by
    refine ⟨fun e he => ?_, ?_, fun b hb => ?_, fun e he => ?_, ?_, fun q hq => hI.keysG q (hkeys q hq), fun q hq => hI.newG q (by rw [setCell_size] at hq; exact hq), hI.gpb⟩
    · rcases List.mem_cons.1 (f3'.mem_iff.1 he) with rfl | he
      · refine ⟨q1, q2, q3, by simpa using q4, q5, _, _, hnew, by simpa using q7, fun j x hx => ?_⟩
        rw [List.getElem?_map, Option.map_eq_some_iff] at hx
        obtain ⟨z, hz, rfl⟩ := hx
        rw [List.getElem?_set] at hz
        by_cases hj : o = j
        · subst hj
          have hlt : o < cur.size := (Array.getElem?_eq_some_iff.1 h4).1
          have hol : o < cs.length := (List.getElem?_eq_some_iff.1 f1).1
          simp only [if_true, hol, Option.some.injEq] at hz
          subst hz
          exact ⟨u, by simp [Array.getElem?_setIfInBounds, hlt], MR_sh.2 hm⟩
        · rw [if_neg hj] at hz
          obtain ⟨u', hu', hm'⟩ := q8 j (sh z) (by rw [List.getElem?_map, hz]; rfl)
          exact ⟨u', by rw [Array.getElem?_setIfInBounds_ne (by omega)]; exact hu', hm'⟩
      · have hin : e ∈ rowsD nt D (y :: ex) := by
          refine f2'.mem_iff.2 (List.mem_cons_of_mem _ ?_)
          rcases List.mem_append.1 he with he | he
          · exact List.mem_append_left _ he
          · exact List.mem_append_right _ (List.mem_append_right _ he)
        refine (hI.rows e hin).ext fun q hq => hsame q fun e' => ?_
        subst e'
        refine hk1 (List.mem_filterMap.2 ⟨e, ?_, hq⟩)
        rcases List.mem_append.1 he with he | he
        · exact List.mem_append_left _ he
        · exact List.mem_append_right _ (List.mem_append_right _ he)
    · refine (keysOf_perm f3').nodup_iff.2 ?_
      rw [keysOf_cons_blk]
      rw [keysOf_append] at hk1 hk2 ⊢
      rw [keysOf_append] at hk1 hk2
      obtain ⟨n1, n2, n3⟩ := List.nodup_append.1 hk2
      obtain ⟨n4, n5, n6⟩ := List.nodup_append.1 n2
      refine List.nodup_cons.2 ⟨fun hh => hk1 ?_, List.nodup_append.2 ⟨n1, n5, fun x hx z hz => n3 x hx z (List.mem_append_right _ hz)⟩⟩
      rcases List.mem_append.1 hh with hh | hh
      · exact List.mem_append_left _ hh
      · exact List.mem_append_right _ (List.mem_append_right _ hh)
    · rw [hatoms'] at hb
      have hb' : b ∈ atomsD nt D (y :: ex) := by
        rcases atoms_setAt hr hb with hb | hb
        · exact atomsD_ex.2 (.inl hb)
        · exact atomsD_ex.2 (.inr hb)
      have hn : D'.nx = D.nx := hm'.2.trans m1
      have hf : ∀ {pm A cs'}, FOk E w (fun q => q ∈ keysD nt D (y :: ex)) pm A cs' → FOk E (w.setCell ⟨g, o, none⟩ u) (fun q => q ∈ keysD nt D' ex) pm A cs' := by
        intro pm A cs' hf
        have hf2 := FOk.ext (w' := w.setCell ⟨g, o, none⟩ u) (fun q _ hq => hsame q fun e => hq (by rw [e]; exact hgk)) hf
        exact ⟨hf2.1, hf2.2.1, fun hc' => ⟨(hf2.2.2 hc').1, fun hq => (hf2.2.2 hc').2 (hkeys _ hq)⟩⟩
      have h0 := hI.atoms b hb'
      cases b with
      | p b => rw [hn]; exact h0
      | i pm A cap n cs' =>
        refine ⟨h0.1, ?_⟩
        have h2 := h0.2
        cases A with
        | none => exact h2
        | some a => exact hf h2
      | f pm A cs' => exact hf h0
    · rw [hm'.1] at he
      obtain ⟨e0, he0, g1, g2⟩ := m3 e he
      have := hI.boxes e0 he0
      rw [← g1, ← g2, hm'.2, m1]; exact this
    · rw [hm'.1, m2]; exact hI.ids
  refine ⟨hinv, by rw [hD']; exact hS.store hc hl hr, fun _ _ => rfl, rfl, rfl, by rw [hm'.2, m1]; exact Nat.le_refl _, by rw [setCell_size]; exact Nat.le_refl _, fun q hq => .inl (hkeys q hq), fun q _ hq => hsame q fun e => hq (by rw [e]; exact hgk), rfl, rfl, rfl⟩
end Go.Abs
end
/- Cells written and read one after the other; a new box. -/
set_option linter.unusedVariables false
noncomputable section
namespace Go.Abs
open Go

theorem hd_oneCell {β : Nat → Nat} {y : V} {u : Value} (h : hd β y = some u) : u.oneCell' = true := by
  cases y <;> simp only [hd] at h <;> first
    | (cases h; done)
    | (cases h; rfl)
    | skip
  case own d k n cs => cases d <;> (cases h; rfl)
  case fn f a b =>
    split at h
    · split at h
      · cases h; rfl
      · cases h
    · cases h
theorem cellIn_hd {β : Nat → Nat} {D : St} {v : V} {u : Value} (h : cellIn v = true) (hu : PR β D v u) : hd β v = some u := by
  cases v <;> first | exact hu | exact solid_hd (by simpa [cellIn] using h) hu
theorem canStore_lt {E : Env} {nt : Nat} {D : St} {a : Act} (hS : SlotsOk E nt D a) {r : Root} {p : List Nat} (h : canStore D r p = true) : ∀ t, r = .slot t → t < nt := by
  intro t e
  subst e
  simp only [canStore] at h
  cases hl : look D (.slot t) p with
  | none => rw [hl] at h; cases h
  | some x =>
    cases x <;> simp only [hl] at h <;> try (cases h)
    exact hS.lt hl t rfl

/-! ### the container stays -/
theorem go_goStore : ∀ (p : List Nat) (v : V) {o : Nat} {d : Dec} {k n : Nat} {cs : List V} {y : V}, go p v = some (.own d k n cs) → ∃ cs', go p (goSet (p ++ [o]) y v) = some (.own d k n cs')
  | [], v, o, d, k, n, cs, y, h => by simp only [go, Option.some.injEq] at h; subst h; exact ⟨_, rfl⟩
  | i :: p, .own d' k' n' l, o, d, k, n, cs, y, h => by
    simp only [go] at h
    cases hz : l[i]? with
    | none => simp [hz] at h
    | some z =>
      simp only [hz] at h
      obtain ⟨cs', h'⟩ := go_goStore p z (o := o) (y := y) h
      refine ⟨cs', ?_⟩
      have hi : i < l.length := (List.getElem?_eq_some_iff.1 hz).1
      simp only [List.cons_append, goSet, hz, go, List.getElem?_set_self hi]; exact h'
  | i :: p, .agg l, o, d, k, n, cs, y, h => by
    simp only [go] at h
    cases hz : l[i]? with
    | none => simp [hz] at h
    | some z =>
      simp only [hz] at h
      obtain ⟨cs', h'⟩ := go_goStore p z (o := o) (y := y) h
      refine ⟨cs', ?_⟩
      have hi : i < l.length := (List.getElem?_eq_some_iff.1 hz).1
      simp only [List.cons_append, goSet, hz, go, List.getElem?_set_self hi]; exact h'
  | i :: p, .tup l, o, d, k, n, cs, y, h => by
    simp only [go] at h
    cases hz : l[i]? with
    | none => simp [hz] at h
    | some z =>
      simp only [hz] at h
      obtain ⟨cs', h'⟩ := go_goStore p z (o := o) (y := y) h
      refine ⟨cs', ?_⟩
      have hi : i < l.length := (List.getElem?_eq_some_iff.1 hz).1
      simp only [List.cons_append, goSet, hz, go, List.getElem?_set_self hi]; exact h'
  | _ :: _, .int _ _, _, _, _, _, _, _, h | _ :: _, .bool _, _, _, _, _, _, _, h | _ :: _, .nilp, _, _, _, _, _, _, h | _ :: _, .nilf, _, _, _, _, _, _, h | _ :: _, .bptr _ _, _, _, _, _, _, _, h
  | _ :: _, .ip _ _ _, _, _, _, _, _, _, h | _ :: _, .im _ _ _ _ _, _, _, _, _, _, _, h | _ :: _, .fn _ _ _, _, _, _, _, _, _, h | _ :: _, .ref _ _, _, _, _, _, _, _, h | _ :: _, .loc _ _, _, _, _, _, _, _, h | _ :: _, .dead, _, _, _, _, _, _, h => by
    simp [go] at h
mutual
theorem kill_look (r : Root) (p : List Nat) : ∀ (v : V) (q : List Nat) {d : Dec} {k n : Nat} {cs : List V}, go q v = some (.own d k n cs) → go q (kill r p v) = some (.own d k n cs)
  | .agg l, q, d, k, n, cs, h => by
    cases q with
    | nil => simp [go] at h
    | cons o q => simp only [kill, go] at h ⊢; exact killL_look r p l o q h
  | .tup l, q, d, k, n, cs, h => by
    cases q with
    | nil => simp [go] at h
    | cons o q => simp only [kill, go] at h ⊢; exact killL_look r p l o q h
  | .ref _ _, q, _, _, _, _, h | .loc _ _, q, _, _, _, _, h | .fn _ _ _, q, _, _, _, _, h => by cases q <;> simp [go] at h
  | .dead, q, _, _, _, _, h | .int _ _, q, _, _, _, _, h | .bool _, q, _, _, _, _, h | .nilp, q, _, _, _, _, h | .nilf, q, _, _, _, _, h | .bptr _ _, q, _, _, _, _, h | .ip _ _ _, q, _, _, _, _, h
  | .im _ _ _ _ _, q, _, _, _, _, h | .own _ _ _ _, q, _, _, _, _, h => h
theorem killL_look (r : Root) (p : List Nat) : ∀ (l : List V) (o : Nat) (q : List Nat) {d : Dec} {k n : Nat} {cs : List V}, (match l[o]? with | some y => go q y | none => none) = some (.own d k n cs) →
    (match (killL r p l)[o]? with | some y => go q y | none => none) = some (.own d k n cs)
  | [], o, q, _, _, _, _, h => by simp at h
  | v :: l, 0, q, _, _, _, _, h => by simp only [killL, List.getElem?_cons_zero] at h ⊢; exact kill_look r p v q h
  | v :: l, o + 1, q, _, _, _, _, h => by simp only [killL, List.getElem?_cons_succ] at h ⊢; exact killL_look r p l o q h
end
theorem look_store {D : St} {r : Root} {p : List Nat} {o : Nat} {y : V} {d : Dec} {k n : Nat} {cs : List V} (h : look D r p = some (.own d k n cs)) : ∃ cs', look (if noRow y then setAt D r (p ++ [o]) y else killAll (setAt D r (p ++ [o]) y) r (p ++ [o])) r p = some (.own d k n cs') := by
  have h1 : ∃ cs', look (setAt D r (p ++ [o]) y) r p = some (.own d k n cs') := by
    cases r with
    | slot t =>
      obtain ⟨cs', h'⟩ := go_goStore p (D.s t) (o := o) (y := y) h
      exact ⟨cs', by simp only [look, setAt, if_true]; exact h'⟩
    | box b =>
      simp only [look] at h
      cases hb : getBox D.m b with
      | none => rw [hb] at h; simp at h
      | some c =>
        rw [hb] at h
        cases p with
        | nil => simp at h
        | cons i p =>
          simp only at h
          cases hc : c.cs[i]? with
          | none => rw [hc] at h; simp at h
          | some z =>
            rw [hc] at h
            obtain ⟨cs', h'⟩ := go_goStore p z (o := o) (y := y) h
            refine ⟨cs', ?_⟩
            have hi : i < c.cs.length := (List.getElem?_eq_some_iff.1 hc).1
            simp only [List.cons_append, look, setAt, hb, getBox_setBox hb, if_true, hc, List.getElem?_set_self hi]; exact h'
  obtain ⟨cs', h1⟩ := h1
  split
  · exact ⟨cs', h1⟩
  · refine ⟨cs', ?_⟩
    cases r with
    | slot t => simp only [look, killAll] at h1 ⊢; exact kill_look _ _ _ _ h1
    | box b => exact h1
theorem contOf_store {β : Nat → Nat} {D : St} {r : Root} {p : List Nat} {o g : Nat} {y : V} (hc : canStore D r p = true) (h : contOf β D r p = some g) : contOf β (if noRow y then setAt D r (p ++ [o]) y else killAll (setAt D r (p ++ [o]) y) r (p ++ [o])) r p = some g := by
  have key : ∀ x, look D r p = some x → (match look D r p with | some (.own (.blk g _ _) _ _ _) => some g | _ => none : Option Nat) = some g → (match look (if noRow y then setAt D r (p ++ [o]) y else killAll (setAt D r (p ++ [o]) y) r (p ++ [o])) r p with | some (.own (.blk g _ _) _ _ _) => some g | _ => none : Option Nat) = some g := by
    intro x hx hm
    rw [hx] at hm
    split at hm
    · rename_i g' c1 c2 c3 c4 c5 hh
      cases hh
      obtain ⟨cs', h'⟩ := look_store (o := o) (y := y) hx
      rw [h']; exact hm
    · cases hm
  unfold contOf at h ⊢
  cases r with
  | slot t =>
    simp only at h ⊢
    cases hl : look D (.slot t) p with
    | none => rw [hl] at h; cases h
    | some x => exact key x hl h
  | box b =>
    cases p with
    | nil => exact h
    | cons i p =>
      simp only at h ⊢
      cases hl : look D (.box b) (i :: p) with
      | none => rw [hl] at h; cases h
      | some x => exact key x hl h

theorem add_mk (g o i : Nat) : (⟨g, o, none⟩ : Addr).add i = ⟨g, o + i, none⟩ := by
  unfold Addr.add; split
  · rename_i h; subst h; rfl
  · rfl
/-- CELLS WRITTEN. -/
theorem storeAt_ok {P : Program} {E : Env} {nt : Nat} {ex : List V} {a : Act} {r : Root} {p : List Nat} {g o0 : Nat} : ∀ {l : List V} {us : List Value} {i : Nat} {D D' : St} {w : World}, storeAt D r p (o0 + i) l = some D' → (l = [] ∨ contOf E.β D r p = some g) →
    Inv E nt D (l ++ ex) w → SlotsOk E nt D a → (∀ D, PRL E.β D l us) → ∃ w', (storeCells ⟨g, o0, none⟩ us i).run P w = .ok () w' ∧ Inv E nt D' ex w' ∧ SlotsOk E nt D' a ∧ To E nt D (l ++ ex) w E D' ex w'
  | [], us, i, D, D', w, h, hg, hI, hS, hu => by
    simp only [storeAt, Option.some.injEq] at h
    subst h
    have := hu D
    simp only [PRL] at this
    subst this
    exact ⟨w, rfl, hI, hS, To.refl _ _ _ _ _⟩
  | y :: l, us, i, D, D', w, h, hg, hI, hS, hu => by
    simp only [storeAt] at h
    cases hl : look D r (p ++ [o0 + i]) with
    | none => rw [hl] at h; cases h
    | some old =>
      rw [hl] at h
      simp only at h
      split at h
      · rename_i hck
        rw [Bool.and_eq_true] at hck
        have hg := hg.resolve_left (by simp)
        obtain ⟨u, us', rfl, hu1, _⟩ := hu D
        have hu2 : ∀ D, PRL E.β D l us' := fun D => by obtain ⟨u', us'', e, _, h2⟩ := hu D; cases e; exact h2
        have hhd := cellIn_hd hck.1 hu1
        have hr := canStore_lt hS hck.2
        obtain ⟨g', h1, h2, h3, h4⟩ := store1_ok (y := y) (ex := l ++ ex) hI hS hck.2 hl hr (.inl hhd)
        rw [hg] at h1; cases h1
        obtain ⟨hI2, hS2, hT2⟩ := h4 _ rfl
        obtain ⟨w', h5, h6, h7, h8⟩ := storeAt_ok (i := i + 1) h (.inr (contOf_store hck.2 hg)) hI2 hS2 hu2
        refine ⟨w', ?_, h6, h7, hT2.trans h8⟩
        obtain ⟨v0, hv0⟩ := Option.isSome_iff_exists.1 h2
        simp only [storeCells, Sem.run_bind, run_store _ _ _ _ _ (hd_oneCell hhd), add_mk, hv0, h3, Bool.false_eq_true, if_false]
        exact h5
      · cases h

/-! ### cells read -/
theorem loadAt_ok {P : Program} {E : Env} {nt : Nat} {ex : List V} {a : Act} {r : Root} {p : List Nat} {g o0 : Nat} {D : St} {w : World} (hI : Inv E nt D ex w) (hS : SlotsOk E nt D a) : ∀ {k i : Nat} {l : List V} (acc : Array Value), loadAt D r p (o0 + i) k = some l →
    (k = 0 ∨ contOf E.β D r p = some g) → ∃ us, (loadCellsFrom ⟨g, o0, none⟩ i k acc).run P w = .ok (acc ++ us.toArray) w ∧ us.length = k ∧ PRL E.β D l us ∧ (∀ b ∈ atomsL l, b ∈ atomsD nt D ex) ∧ noRowL l = true ∧ ∀ j u, us[j]? = some u → w.cell? ⟨g, o0 + i + j, none⟩ = some u
  | 0, i, l, acc, h, hg => by
    simp only [loadAt, Option.some.injEq] at h
    subst h
    exact ⟨[], by simp [loadCellsFrom], rfl, rfl, fun b hb => by simp [atomsL] at hb, rfl, fun j u hu => by simp at hu⟩
  | k + 1, i, l, acc, h, hg => by
    simp only [loadAt] at h
    cases hl : look D r (p ++ [o0 + i]) with
    | none => rw [hl] at h; cases h
    | some x =>
      rw [hl] at h
      simp only at h
      split at h
      · rename_i hck
        cases hl2 : loadAt D r p (o0 + i + 1) k with
        | none => rw [hl2] at h; cases h
        | some l2 =>
          rw [hl2] at h
          cases h
          have hg := hg.resolve_left (by simp)
          have hr := canStore_lt hS hck
          obtain ⟨g', cap, kk, cur, el, h1, h2, h3, ⟨u, h4, h5⟩, h6⟩ := place_ok hI hck hl hr
          rw [hg] at h1; cases h1
          have hcell : w.cell? ⟨g, o0 + i, none⟩ = some u := by simp [World.cell?, h2, h4]
          obtain ⟨us, e1, e2, e3, e4, e5, e6⟩ := loadAt_ok (P := P) hI hS (k := k) (i := i + 1) (acc.push u) hl2 (.inr hg)
          refine ⟨u :: us, ?_, by simp [e2], ⟨u, us, rfl, PR_view hl (MR_PR h5), e3⟩, fun b hb => ?_, by simp [noRowL, noRow_view, e5], fun j v hv => ?_⟩
          · simp only [loadCellsFrom, Sem.run_bind, run_load, add_mk, hcell]
            have he : acc.push u ++ us.toArray = acc ++ (u :: us).toArray := by rw [← Array.toList_inj]; simp
            rw [← he]; exact e1
          · rcases List.mem_append.1 hb with hb | hb
            · exact atoms_look hr hl (atoms_view _ _ _ hb)
            · exact e4 b hb
          · cases j with
            | zero => simp at hv; subst hv; exact hcell
            | succ j => simp at hv; have := e6 j v hv; rw [show o0 + i + (j + 1) = o0 + (i + 1) + j by omega]; exact this
      · cases h
theorem target_addr {β : Nat → Nat} {D : St} {va : V} {r : Root} {p : List Nat} {o g : Nat} {u : Value} (ht : target va = some (r, p, o)) (hu : PR β D va u) (hg : contOf β D r p = some g) : u = .pointer (some ⟨g, o, none⟩) := by
  cases va <;> simp only [target] at ht <;> try (cases ht)
  case bptr => simp only [contOf, Option.some.injEq] at hg; subst hg; exact hu
  case loc r' q =>
    cases hl : q.getLast? with
    | none => rw [hl] at ht; cases ht
    | some o' =>
      rw [hl] at ht
      cases r' with
      | slot t =>
        simp only [Option.some.injEq, Prod.mk.injEq] at ht
        obtain ⟨rfl, rfl, rfl⟩ := ht
        refine hu _ ?_
        simp only [contOf] at hg
        simp only [addrOf, hl]
        split at hg
        · rename_i g' c1 c2 c3 c4 c5 hh
          cases hg; rw [hh]
        · cases hg
      | box b =>
        simp only at ht
        cases hd : q.dropLast with
        | nil => rw [hd] at ht; cases ht
        | cons x q' =>
          rw [hd] at ht
          simp only [Option.some.injEq, Prod.mk.injEq] at ht
          obtain ⟨rfl, rfl, rfl⟩ := ht
          refine hu _ ?_
          simp only [contOf] at hg
          simp only [addrOf, hl, hd]
          split at hg
          · rename_i g' c1 c2 c3 c4 c5 hh
            cases hg; rw [hh]
          · cases hg
end Go.Abs
end
/- The same but for the decorations; a new box. -/
set_option linter.unusedVariables false
noncomputable section
namespace Go.Abs
open Go

theorem SmL.get {l l' : List V} (h : SmL l l') : ∀ j : Nat, (l[j]? = none ∧ l'[j]? = none) ∨ ∃ x x', l[j]? = some x ∧ l'[j]? = some x' ∧ Sm x x' := by
  intro j
  induction l generalizing l' j with
  | nil => cases h; exact .inl ⟨by simp, by simp⟩
  | cons v l ih =>
    cases h with
    | cons h k =>
      cases j with
      | zero => exact .inr ⟨_, _, rfl, rfl, h⟩
      | succ j => simpa using ih k j
theorem SmL.length {l l' : List V} (h : SmL l l') : l'.length = l.length := by
  induction l generalizing l' with
  | nil => cases h; rfl
  | cons v l ih => cases h with | cons h k => simp [ih k]
theorem SmL.append {a b a' b' : List V} (h : SmL a b) (k : SmL a' b') : SmL (a ++ a') (b ++ b') := by
  induction a generalizing b with
  | nil => cases h; exact k
  | cons v l ih => cases h with | cons h1 h2 => exact .cons h1 (ih h2)
theorem SmL.set {l l' : List V} (h : SmL l l') {x x' : V} (hx : Sm x x') : ∀ j, SmL (l.set j x) (l'.set j x') := by
  intro j
  induction l generalizing l' j with
  | nil => cases h; exact .nil
  | cons v l ih =>
    cases h with
    | cons h k =>
      cases j with
      | zero => exact .cons hx k
      | succ j => exact .cons h (ih k j)
theorem SmL.take {l l' : List V} (h : SmL l l') : ∀ j, SmL (l.take j) (l'.take j) := by
  intro j
  induction l generalizing l' j with
  | nil => cases h; simp; exact .nil
  | cons v l ih =>
    cases h with
    | cons h k =>
      cases j with
      | zero => exact .nil
      | succ j => exact .cons h (ih k j)
theorem SmL.drop {l l' : List V} (h : SmL l l') : ∀ j, SmL (l.drop j) (l'.drop j) := by
  intro j
  induction l generalizing l' j with
  | nil => cases h; simp; exact .nil
  | cons v l ih =>
    cases h with
    | cons h k =>
      cases j with
      | zero => exact .cons h k
      | succ j => exact ih k j

/-! ### a new box -/
theorem boxRows_append : ∀ (m m' : List (Nat × Box)), boxRows (m ++ m') = boxRows m ++ boxRows m'
  | [], _ => rfl
  | (i, c) :: m, m' => by simp [boxRows, boxRows_append m m']
theorem boxAtoms_append : ∀ (m m' : List (Nat × Box)), boxAtoms (m ++ m') = boxAtoms m ++ boxAtoms m'
  | [], _ => rfl
  | (i, c) :: m, m' => by simp [boxAtoms, boxAtoms_append m m']
theorem getBox_append : ∀ (m : List (Nat × Box)) (i : Nat) (c : Box) (b : Nat), getBox (m ++ [(i, c)]) b = match getBox m b with | some x => some x | none => if i = b then some c else none
  | [], i, c, b => by simp [getBox]
  | (j, c') :: m, i, c, b => by
    simp only [List.cons_append, getBox]
    by_cases e : j = b
    · simp [e]
    · simp only [if_neg e]; exact getBox_append m i c b
theorem Inv.dropL {E : Env} {nt : Nat} {D : St} {ex : List V} {w : World} : ∀ {cs : List V}, Inv E nt D (cs ++ ex) w → Inv E nt D ex w
  | [], h => h
  | _ :: cs, h => Inv.dropL (cs := cs) h.drop
theorem newBox_ok {E : Env} {nt : Nat} {D : St} {cs ex : List V} {w : World} {a : Act} {us : List Value} {el : TypeId} (hI : Inv E nt D (cs ++ ex) w) (hS : SlotsOk E nt D a) (hne : cs ≠ []) (hu : ∀ (j : Nat) (x : V), cs[j]? = some x → ∃ u, us[j]? = some u ∧ MR E.β x u) (hl : us.length = cs.length) :
    ∃ E', E'.β D.nx = w.heap.size ∧ Inv E' nt (D.newAt w.heap.size cs) ex (w.alloc (.cells us.toArray el)) ∧ SlotsOk E' nt (D.newAt w.heap.size cs) a ∧ To E nt D (cs ++ ex) w E' (D.newAt w.heap.size cs) ex (w.alloc (.cells us.toArray el)) ∧ SmS (D.new cs) (D.newAt w.heap.size cs) := by
  have hkk : 0 < cs.length := List.length_pos_iff.2 hne
  have h1 : Inv E nt D (.own (.blk w.heap.size 1 cs.length) 0 1 cs :: ex) (w.alloc (.cells us.toArray el)) :=
    hI.newRow (el := el) (Nat.le_refl 1) (by omega) hkk (by omega) (.inl (by omega)) (by simp [hl]) (fun j x hx => by simpa using hu j x hx)
  have hβ : ∀ b, b < D.nx → (fun b => if b = D.nx then w.heap.size else E.β b) b = E.β b := fun b hb => by simp only; rw [if_neg (by omega)]
  refine ⟨E.at (fun b => if b = D.nx then w.heap.size else E.β b), by simp [Env.at], ?_⟩
  have h2 := h1.beta hβ
  let D1 : St := { D with m := D.m ++ [(D.nx, ⟨w.heap.size, cs⟩)], nx := D.nx + 1 }
  have hrow : rowsD nt (D.newAt w.heap.size cs) ex = rowsD nt D1 ex := killAll_rows
  have hatm : atomsD nt (D.newAt w.heap.size cs) ex = atomsD nt D1 ex := killAll_atoms
  have hp : (rowsD nt (D.newAt w.heap.size cs) ex).Perm (rowsD nt D (.own (.blk w.heap.size 1 cs.length) 0 1 cs :: ex)) := by
    rw [hrow]
    unfold rowsD
    simp only [D1, boxRows_append, boxRows, rowsL, Abs.rows, boxRow, List.append_nil, List.append_assoc]
    exact List.Perm.refl _
  have hk : ∀ k, k ∈ keysD nt (D.newAt w.heap.size cs) ex ↔ k ∈ keysD nt D (.own (.blk w.heap.size 1 cs.length) 0 1 cs :: ex) := fun k => (keysOf_perm hp).mem_iff
  have hnk : ∀ b, b < D.nx → b ≠ D.nx := fun b hb => by omega
  have hinv : Inv (E.at (fun b => if b = D.nx then w.heap.size else E.β b)) nt (D.newAt w.heap.size cs) ex (w.alloc (.cells us.toArray el)) := by
    refine ⟨fun e he => h2.rows e (hp.mem_iff.1 he), (keysOf_perm hp).nodup_iff.2 h2.nodup, fun b hb => ?_, fun e he => ?_, ?_, fun k hk' => h2.keysG k ((hk k).1 hk'), h2.newG, h2.gpb⟩
    · rw [hatm] at hb
      refine (h2.atoms b ?_).mono (Nat.le_succ _) (fun k => (hk k).1)
      unfold atomsD at hb ⊢
      simp only [D1, boxAtoms_append, boxAtoms, atomsL, atoms, List.append_nil, List.append_assoc] at hb ⊢
      exact hb
    · have he' : e ∈ D.m ++ [(D.nx, (⟨w.heap.size, cs⟩ : Box))] := he
      rcases List.mem_append.1 he' with he' | he'
      · obtain ⟨g1, g2⟩ := h2.boxes e he'
        exact ⟨g1, Nat.lt_succ_of_lt g2⟩
      · simp only [List.mem_singleton] at he'
        subst he'
        exact ⟨by simp [Env.at], Nat.lt_succ_self _⟩
    · show ((D.m ++ [(D.nx, (⟨w.heap.size, cs⟩ : Box))]).map (·.1)).Nodup
      rw [List.map_append]
      refine List.nodup_append.2 ⟨hI.ids, by simp, fun x hx y hy => ?_⟩
      simp only [List.map_cons, List.map_nil, List.mem_singleton] at hy
      subst hy
      obtain ⟨e, he, rfl⟩ := List.mem_map.1 hx
      exact hnk _ (hI.boxes e he).2
  refine ⟨hinv, ?_, ?_, ?_⟩
  · have hS1 := hS.beta hI.dropL hβ
    have ht : Turned D D1 (.box D.nx) [] := by
      intro r' q d k n l hq
      cases r' with
      | slot t => exact .inr ⟨l, hq⟩
      | box b =>
        simp only [look, D1, getBox_append] at hq
        cases hb : getBox D.m b with
        | some c => exact .inr ⟨l, by rw [hb] at hq; simp only [look, hb]; exact hq⟩
        | none =>
          rw [hb] at hq
          by_cases e : D.nx = b
          · exact .inl (by simp [hitRef, pre, e])
          · simp [if_neg e] at hq
    refine ⟨hS1.size, hS1.defers, fun t => ?_, fun t hh => ?_⟩
    · exact PR_kill (ht.trans_kept (mild_kept (f := kill (.box D.nx) []) (kill_mild (.box D.nx) []))) (hS1.slot t)
    · simp only [St.newAt, killAll, hS.high t hh, kill]
  · refine ⟨hβ, rfl, rfl, Nat.le_succ _, by simp, fun k hk' => ?_, fun k hk' _ => ?_, rfl, rfl, rfl⟩
    · have := (hk k).1 hk'
      rw [show keysD nt D _ = keysOf (rowsD nt D _) from rfl, (keysOf_perm (rowsD_ex nt D _ ex)).mem_iff, keysOf_append] at this
      simp only [Abs.rows, keysOf_cons_blk, List.cons_append, List.mem_cons] at this
      rcases this with rfl | this
      · exact .inr (Nat.le_refl _)
      · left
        rcases List.mem_append.1 this with h | h
        · obtain ⟨e, he, hk2⟩ := List.mem_filterMap.1 h
          refine List.mem_filterMap.2 ⟨e, ?_, hk2⟩
          unfold rowsD; rw [rowsL_append]
          exact List.mem_append_right _ (List.mem_append_right _ (List.mem_append_left _ he))
        · obtain ⟨e, he, hk2⟩ := List.mem_filterMap.1 h
          refine List.mem_filterMap.2 ⟨e, ?_, hk2⟩
          unfold rowsD at he ⊢; rw [rowsL_append]
          rcases List.mem_append.1 he with he | he
          · exact List.mem_append_left _ he
          rcases List.mem_append.1 he with he | he
          · exact List.mem_append_right _ (List.mem_append_left _ he)
          · exact List.mem_append_right _ (List.mem_append_right _ (List.mem_append_right _ he))
    · first | exact heap_alloc_old w _ k hk' | exact heap_alloc_old w _ hk'
  · refine ⟨fun i => Sm.refl _, ?_, rfl⟩
    exact SmM.append (SmM.refl _) (.cons (SmL.refl _) .nil)
end Go.Abs
end
/- Single operations: values alone. -/
set_option linter.unusedVariables false
noncomputable section
namespace Go.Abs
open Go

/-- Where a step of the evaluator leads. -/
def Leads (H : Hint) (E : Env) (nt : Nat) (D : St) (ex : List V) (w : World) (D1 : St) (K : Act → World → Prop) : Prop :=
  ∀ E' D1' w' a', SmS D1 D1' → To E nt D ex w E' D1' ex w' → Now H E' nt D1' ex w' a' → K a' w'
theorem Leads.pre {H : Hint} {E E1 : Env} {nt : Nat} {D D0 D1 : St} {ex : List V} {w w1 : World} {K : Act → World → Prop} (h : Leads H E nt D ex w D1 K) (ht : To E nt D ex w E1 D0 ex w1) : Leads H E1 nt D0 ex w1 D1 K :=
  fun E' D1' w' a' hs hT hN => h E' D1' w' a' hs (ht.trans hT) hN

theorem lay_fin {E : Env} {nt : Nat} {D : St} {ex : List V} {w : World} {a : Act} {dst : Option Nat} {v : V} {u : Value} (hI : Inv E nt D (v :: ex) w) (hS : SlotsOk E nt D a) (hd : ∀ t, dst = some t → t < nt) (hu : PR E.β D v u) :
    Inv E nt (D.lay dst v) ex w ∧ SlotsOk E nt (D.lay dst v) (a.put dst u) ∧ To E nt D (v :: ex) w E (D.lay dst v) ex w := by
  cases dst with
  | none => exact ⟨hI.drop, hS, To.of_keys rfl fun k hk => keysD_drop hk⟩
  | some t =>
    obtain ⟨h1, h2, h3, h4, h5⟩ := lay_ok hI hS (hd t rfl) hu
    exact ⟨h1, h2, To.of_keys h3 h5⟩
theorem Seen.join {E : Env} {nt : Nat} {D : St} {ex : List V} {w : World} {v : V} {u : Value} (hs : Seen E nt D ex w v u) (hI : Inv E nt D ex w) : Inv E nt D (v :: ex) w ∧ To E nt D ex w E D (v :: ex) w := by
  refine ⟨hI.join hs.flat hs.ok, To.of_keys rfl fun k hk => ?_⟩
  rw [show keysD nt D _ = keysOf (rowsD nt D _) from rfl, (keysOf_perm (rowsD_ex nt D _ ex)).mem_iff, keysOf_append] at hk
  rcases List.mem_append.1 hk with hk | hk
  · obtain ⟨e, he, hk⟩ := List.mem_filterMap.1 hk
    rw [(hs.flat e he).2] at hk; cases hk
  · exact hk

variable {P : Program} {H : Hint} {E : Env} {nt : Nat} {D D1 : St} {ex : List V} {w : World} {a : Act} {o : Oper} {K : Act → World → Prop} {Q : Exit → Act → World → Prop}

/-- A result in flight is laid. -/
theorem op_done {E2 : Env} {D2 : St} {w2 : World} {v : V} {u : Value} (hN : Now H E nt D ex w a) (hd : ∀ t, o.dst = some t → t < nt) (hI : Inv E2 nt D2 (v :: ex) w2) (hS : SlotsOk E2 nt D2 a) (hT : To E nt D ex w E2 D2 (v :: ex) w2) (hu : PR E2.β D2 v u)
    (hrun : (execOp a.eval o).run P w = .ok (.value u) w2) (hs : SmS D1 (D2.lay o.dst v)) (hK : Leads H E nt D ex w D1 K) : o.wp P a w K Q := by
  obtain ⟨h1, h2, h3⟩ := lay_fin hI hS hd hu
  simp only [Oper.wp, hrun, Oper.upon_value]
  exact hK _ _ _ _ hs (hT.trans h3) ⟨h1, h2, hN.glob⟩
theorem op_value {v : V} {u : Value} (hN : Now H E nt D ex w a) (hd : ∀ t, o.dst = some t → t < nt) (hs : Seen E nt D ex w v u)
    (hrun : (execOp a.eval o).run P w = .ok (.value u) w) (hK : Leads H E nt D ex w (D.lay o.dst v) K) : o.wp P a w K Q := by
  obtain ⟨h1, h2⟩ := hs.join hN.inv
  exact op_done hN hd h1 hN.slots h2 hs.pr hrun (SmS.refl _) hK

theorem okAddr_ptr {v : V} {u : Value} (hN : Now H E nt D ex w a) (hs : Seen E nt D ex w v u) (hok : okAddr D v = true) : ∃ A, u = .pointer (some A) := by
  cases v <;> simp only [okAddr] at hok <;> try (cases hok)
  case bptr => exact ⟨_, hs.pr⟩
  case ip => exact ⟨_, hs.pr⟩
  case loc r p =>
    split at hok
    · rename_i r' q j ht
      rw [Bool.and_eq_true] at hok
      cases hl : look D r' (q ++ [j]) with
      | none => rw [hl] at hok; simp at hok
      | some old =>
        obtain ⟨g, cap, kk, cur, el, h1, h2, h3, h4, h5⟩ := place_ok hN.inv hok.1 hl (canStore_lt hN.slots hok.1)
        exact ⟨_, target_addr ht hs.pr h1⟩
    · cases hok
theorem seen_int (k : IntKind) (n : Int) : Seen E nt D ex w (.int k n) (.int k n) := ⟨rfl, fun b hb => by simp [atoms] at hb, fun e he => by simp [rows] at he⟩
theorem seen_bool (b : Bool) : Seen E nt D ex w (.bool b) (.bool b) := ⟨rfl, fun b hb => by simp [atoms] at hb, fun e he => by simp [rows] at he⟩

section
variable {C : Callee} {fz : Bool} (hN : Now H E nt D ex w a) (hd : ∀ t, o.dst = some t → t < nt) (h : evOp P H C fz o D = some D1) (hK : Leads H E nt D ex w D1 K)
include hN hd h hK

theorem op_move {x : Operand} (ho : o.op = .move x) : o.wp P a w K Q := by
  unfold evOp at h
  simp only [ho] at h
  split at h
  · rename_i v hv
    cases h
    exact op_value hN hd (ev_ok hN hv) (by simp [execOp, ho]) hK
  · cases h
theorem op_assign {x : Operand} (ho : o.op = .assign x) : o.wp P a w K Q := by
  unfold evOp at h
  simp only [ho] at h
  split at h
  · rename_i v hv
    split at h
    · rename_i y D2 hy
      cases h
      have hs := ev_ok hN hv
      obtain ⟨h1, h2⟩ := settle_ok hN.inv hN.slots hs.pr hs.ok hs.flat hy
      exact op_done hN hd h1.inv h1.slots (To.of_keys h1.nx h1.keys) (h2 _) (by simp [execOp, ho]) (SmS.refl _) hK
    · cases h
  · cases h
theorem op_pick {c x y : Operand} (ho : o.op = .pick c x y) : o.wp P a w K Q := by
  unfold evOp at h
  simp only [ho] at h
  split at h
  · rename_i t hc
    have hc1 : a.eval c = .bool t := (ev_ok hN hc).pr
    split at h
    · rename_i bx by_ hx hy
      cases h
      have hx1 : a.eval x = .bool bx := (ev_ok hN hx).pr
      have hy1 : a.eval y = .bool by_ := (ev_ok hN hy).pr
      refine op_value hN hd (seen_bool _) ?_ hK
      simp only [execOp, ho, hc1, hx1, hy1]
      cases t <;> simp [asBool]
    · split at h
      · rename_i v hv
        cases h
        refine op_value (u := if t then a.eval x else a.eval y) hN hd ?_ ?_ hK
        · cases t
          · exact ev_ok hN hv
          · exact ev_ok hN hv
        · simp only [execOp, ho, hc1]
          cases t <;> simp [asBool]
      · cases h
  · cases h
theorem op_nilCheck {x : Operand} (ho : o.op = .nilCheck x) : o.wp P a w K Q := by
  unfold evOp at h
  simp only [ho] at h
  split at h
  · rename_i b o' hv
    cases h
    have hs := ev_ok hN hv
    refine op_value hN hd hs ?_ hK
    have : a.eval x = _ := hs.pr
    simp [execOp, ho, this]
  · rename_i pm A cs hv
    cases h
    have hs := ev_ok hN hv
    refine op_value hN hd hs ?_ hK
    have : a.eval x = _ := hs.pr
    simp [execOp, ho, this]
  · rename_i r p hv
    split at h
    · rename_i hok
      cases h
      have hs := ev_ok hN hv
      refine op_value hN hd hs ?_ hK
      obtain ⟨A, hA⟩ := okAddr_ptr hN hs hok
      simp [execOp, ho, hA]
    · cases h
  · cases h
end
end Go.Abs
end
/- Single operations: memory read and written. -/
set_option linter.unusedVariables false
noncomputable section
namespace Go.Abs
open Go

section
variable {P : Program} {w : World}
theorem sizeT_info {t : TypeId} {k : Nat} (h : sizeT P t = some k) : ∃ i, P.info? t = some i ∧ i.size = k := by
  unfold sizeT at h
  split at h
  · rename_i i hi; cases h; exact ⟨i, hi, rfl⟩
  · cases h
theorem run_typeInfo' {t : TypeId} {i : TypeInfo} (h : P.info? t = some i) : (typeInfo t).run P w = .ok i w := by
  simp [typeInfo, h]
theorem run_sizeOf' {t : TypeId} {k : Nat} (h : sizeT P t = some k) : (sizeOf t).run P w = .ok k w := by
  obtain ⟨i, hi, rfl⟩ := sizeT_info h
  simp [sizeOf, run_typeInfo' hi]
theorem run_underlying' {t : TypeId} {d : TypeDesc} (h : P.underlying t = some d) : (underlying t).run P w = .ok d w := by
  simp [underlying, h]
theorem run_isAgg' {t : TypeId} {b : Bool} (h : aggT P t = some b) : (isAgg t).run P w = .ok b w := by
  unfold aggT at h
  cases hu : P.underlying t with
  | none => rw [hu] at h; cases h
  | some d =>
    rw [hu] at h
    cases d <;> (cases h; simp [isAgg, run_underlying' hu])
theorem zeroT_info {t : TypeId} {l : List V} (h : zeroT P t = some l) : ∃ i z, P.info? t = some i ∧ i.zero = some z ∧ ofCells z.cells.toList = some l := by
  unfold zeroT at h
  split at h
  · rename_i i hi
    split at h
    · rename_i z hz; exact ⟨i, z, hi, hz, h⟩
    · cases h
  · cases h
theorem run_zeroValue' {t : TypeId} {i : TypeInfo} {z : Value} (h : P.info? t = some i) (hz : i.zero = some z) : (zeroValue t).run P w = .ok z w := by
  simp [zeroValue, run_typeInfo' h, hz]
end

variable {P : Program} {H : Hint} {E : Env} {nt : Nat} {D D1 : St} {ex : List V} {w : World} {a : Act} {o : Oper} {K : Act → World → Prop} {Q : Exit → Act → World → Prop}

theorem PRL_get {β : Nat → Nat} {D : St} : ∀ {l : List V} {us : List Value}, PRL β D l us → l.length = us.length ∧ ∀ (j : Nat) (x : V), l[j]? = some x → ∃ u, us[j]? = some u ∧ PR β D x u
  | [], us, h => by simp only [PRL] at h; subst h; exact ⟨rfl, fun j x hx => by simp at hx⟩
  | v :: l, us, h => by
    obtain ⟨u, us', rfl, h1, h2⟩ := h
    obtain ⟨h3, h4⟩ := PRL_get h2
    refine ⟨by simp [h3], fun j x hx => ?_⟩
    cases j with
    | zero => simp at hx; subst hx; exact ⟨u, rfl, h1⟩
    | succ j => simp at hx ⊢; exact h4 j x hx
theorem PRL_of {β : Nat → Nat} {D : St} : ∀ {l : List V} {us : List Value}, l.length = us.length → (∀ (j : Nat) (x : V), l[j]? = some x → ∃ u, us[j]? = some u ∧ PR β D x u) → PRL β D l us
  | [], us, hl, h => by simp at hl; exact List.eq_nil_of_length_eq_zero hl.symm
  | v :: l, [], hl, h => by simp at hl
  | v :: l, u :: us, hl, h => by
    refine ⟨u, us, rfl, ?_, PRL_of (by simpa using hl) fun j x hx => ?_⟩
    · obtain ⟨u', hu, hp⟩ := h 0 v rfl; simp at hu; subst hu; exact hp
    · obtain ⟨u', hu, hp⟩ := h (j + 1) x (by simpa using hx); exact ⟨u', by simpa using hu, hp⟩
/-- A settled value's cells, and the model's. -/
theorem cells_PRL {β : Nat → Nat} {D : St} {y : V} {u : Value} (h : ∀ x ∈ y.cells, cellIn x = true) (hu : PR β D y u) : PRL β D y.cells u.cells.toList := by
  cases y <;> first
    | (obtain ⟨us, rfl, hl⟩ := hu; simpa [V.cells, Value.cells] using hl)
    | (have hh := cellIn_hd (h _ (by simp [V.cells])) hu
       have h1 := hd_oneCell hh
       have : u.cells.toList = [u] := by cases u <;> simp_all [Value.oneCell', Value.cells]
       rw [this]
       exact ⟨u, [], rfl, hu, rfl⟩)
    | (have := h _ (by simp [V.cells]); simp [cellIn, solid] at this)

theorem loadCells_from (A : Addr) : ∀ (us : List Value) (i : Nat) (acc : Array Value), (∀ j u, us[j]? = some u → w.cell? (A.add (i + j)) = some u) → (loadCellsFrom A i us.length acc).run P w = .ok (acc ++ us.toArray) w
  | [], i, acc, h => by simp [loadCellsFrom]
  | u :: us, i, acc, h => by
    have h0 := h 0 u rfl
    have ih := loadCells_from A us (i + 1) (acc.push u) (fun j v hv => by rw [show i + 1 + j = i + (j + 1) by omega]; exact h (j + 1) v (by simpa using hv))
    have he : acc.push u ++ us.toArray = acc ++ (u :: us).toArray := by rw [← Array.toList_inj]; simp
    simp only [List.length_cons, loadCellsFrom, Sem.run_bind, run_load, show w.cell? (A.add i) = some u from h0]
    rw [← he]; exact ih

/-- READ: what an address leads to. -/
theorem loadV_ok {D : St} {ex : List V} (hI : Inv E nt D ex w) (hS : SlotsOk E nt D a) {t : TypeId} {v y : V} {u : Value} (hu : PR E.β D v u) (hv : VOk E nt D ex w v) (h : loadV P D t v = some y) :
    ∃ A r, u = .pointer (some A) ∧ (loadVar t A).run P w = .ok r w ∧ Seen E nt D ex w y r := by
  have tgt : ∀ v', v' = v → (match target v' with
      | some (r, p, j) => match aggT P t, sizeT P t with
        | some true, some (k + 1) => match loadAt D r p j (k + 1) with | some l => some (V.agg l) | none => none
        | some false, _ => match loadAt D r p j 1 with | some (c :: _) => some c | _ => none
        | _, _ => none
      | none => none) = some y → ∃ A r, u = .pointer (some A) ∧ (loadVar t A).run P w = .ok r w ∧ Seen E nt D ex w y r := by
    intro v' hv' h1
    subst hv'
    clear h
    have h := h1
    clear h1
    have hcont : ∀ {r p j k l}, loadAt D r p j (k + 1) = some l → ∃ g, contOf E.β D r p = some g := by
      intro r p j k l hl
      simp only [loadAt] at hl
      cases hq : look D r (p ++ [j]) with
      | none => rw [hq] at hl; cases hl
      | some x =>
        rw [hq] at hl
        simp only at hl
        split at hl
        · rename_i hck
          obtain ⟨g, cap, kk, cur, el, h1, _⟩ := place_ok hI hck hq (canStore_lt hS hck)
          exact ⟨g, h1⟩
        · cases hl
    split at h
    · rename_i r p j ht
      split at h
      · rename_i k hag hsz
        split at h
        · rename_i l hl
          cases h
          obtain ⟨g, hg⟩ := hcont hl
          obtain ⟨us, e1, e2, e3, e4, e5, e6⟩ := loadAt_ok (P := P) (g := g) (o0 := j) (i := 0) hI hS #[] (by simpa using hl) (.inr hg)
          refine ⟨⟨g, j, none⟩, .agg us.toArray, target_addr ht hu hg, ?_, ⟨⟨us, rfl, e3⟩, fun b hb => hI.atoms b (e4 b hb), fun e he => ?_⟩⟩
          · simp [loadVar, run_isAgg' hag, run_sizeOf' hsz, loadCells, e1]
          · rw [show rows (V.agg l) = rowsL l from rfl, rowsL_noRow e5] at he; cases he
        · cases h
      · rename_i hag
        split at h
        · rename_i c l' hl
          cases h
          obtain ⟨g, hg⟩ := hcont hl
          obtain ⟨us, e1, e2, e3, e4, e5, e6⟩ := loadAt_ok (P := P) (g := g) (o0 := j) (i := 0) hI hS #[] (by simpa using hl) (.inr hg)
          obtain ⟨u0, us', rfl, hu0, _⟩ := e3
          refine ⟨⟨g, j, none⟩, u0, target_addr ht hu hg, ?_, ⟨hu0, fun b hb => hI.atoms b (e4 b (List.mem_append_left _ hb)), fun e he => ?_⟩⟩
          · have hc := e6 0 u0 rfl
            simp only [Nat.add_zero] at hc
            simp [loadVar, run_isAgg' hag, hc]
          · simp only [noRowL, Bool.and_eq_true] at e5
            rw [rows_noRow e5.1] at he; cases he
        · cases h
      · cases h
    · cases h
  cases v <;> first
    | exact tgt _ rfl h
    | skip
  case ip pm A cs =>
    simp only [loadV] at h
    have hf : FOk E w _ pm A cs := hv (.f pm A cs) (by simp [atoms])
    have hat : ∀ b ∈ atomsL cs, AtOk E w D.nx (fun k => k ∈ keysD nt D ex) b := fun b hb => hv b (by simp only [atoms]; exact List.mem_cons_of_mem _ hb)
    split at h
    · rename_i k hag hsz
      split at h
      · rename_i hk
        cases h
        -- the cells
        have hex : ∀ j, j < k → ∃ u, w.cell? (A.add j) = some u := fun j hj => by
          obtain ⟨u, hu, _⟩ := hf.2.1 j _ (List.getElem?_eq_getElem (by omega)); exact ⟨u, hu⟩
        let us : List Value := (List.range k).map fun j => (w.cell? (A.add j)).getD undef
        have hus : ∀ j u, us[j]? = some u → w.cell? (A.add j) = some u := by
          intro j u hj
          simp only [us, List.getElem?_map, Option.map_eq_some_iff] at hj
          obtain ⟨q, hq, rfl⟩ := hj
          have hq2 := List.getElem?_eq_some_iff.1 hq
          obtain ⟨hlt, rfl⟩ := hq2
          simp only [List.length_range] at hlt
          obtain ⟨u, hu⟩ := hex j hlt
          simp [hu]
        have hlen : us.length = k := by simp [us]
        have hrun := loadCells_from (P := P) (w := w) A us 0 #[] (by simpa using hus)
        refine ⟨A, .agg us.toArray, hu, ?_, ⟨⟨us, rfl, PRL_of (by simp [hlen]; omega) fun j x hx => ?_⟩, fun b hb => hat b ?_, fun e he => ?_⟩⟩
        · rw [hlen] at hrun
          simp [loadVar, run_isAgg' hag, run_sizeOf' hsz, loadCells, hrun]
        · have hj : j < k := by have := (List.getElem?_eq_some_iff.1 hx).1; simp at this; omega
          have hx' : cs[j]? = some x := by rw [List.getElem?_take_of_lt hj] at hx; exact hx
          obtain ⟨u', hu', hm⟩ := hf.2.1 j x hx'
          refine ⟨u', ?_, MR_PR hm⟩
          have : us[j]? = some us[j] := List.getElem?_eq_getElem (by omega)
          have h2 := hus j _ this
          rw [hu'] at h2; cases h2; exact this
        · obtain ⟨x, hx, hb⟩ := atomsL_mem hb
          exact atoms_mem (List.mem_of_mem_take hx) hb
        · rw [show rows (V.agg (cs.take k)) = rowsL (cs.take k) from rfl] at he
          obtain ⟨x, hx, he⟩ := rowsL_mem he
          rw [rows_noRow (noRowL_mem hf.1 (List.mem_of_mem_take hx))] at he; cases he
      · cases h
    · rename_i hag
      obtain ⟨u', hu', hm⟩ := hf.2.1 0 y h
      refine ⟨A, u', hu, ?_, ⟨MR_PR hm, fun b hb => hat b (atoms_mem (List.mem_of_getElem? h) hb), fun e he => ?_⟩⟩
      · have : A.add 0 = A := rfl
        rw [this] at hu'
        simp [loadVar, run_isAgg' hag, hu']
      · rw [rows_noRow (noRowL_mem hf.1 (List.mem_of_getElem? h))] at he; cases he
    · cases h

section
variable {C : Callee} {fz : Bool} (hN : Now H E nt D ex w a) (hd : ∀ t, o.dst = some t → t < nt) (h : evOp P H C fz o D = some D1) (hK : Leads H E nt D ex w D1 K)
include hN hd h hK

theorem op_load {t : TypeId} {x : Operand} (ho : o.op = .load t x) : o.wp P a w K Q := by
  unfold evOp at h
  simp only [ho] at h
  split at h
  · rename_i v hv
    split at h
    · rename_i y hy
      cases h
      have hs := ev_ok hN hv
      obtain ⟨A, r, h1, h2, h3⟩ := loadV_ok hN.inv hN.slots hs.pr hs.ok hy
      refine op_value hN hd h3 ?_ hK
      simp [execOp, ho, Instr.loadAt, h1, Instr.sureAddr, h2]
    · cases h
  · cases h

theorem op_store {t : TypeId} {x y : Operand} (ho : o.op = .store t x y) : o.wp P a w K Q := by
  unfold evOp at h
  simp only [ho] at h
  split at h
  · rename_i v hv
    split at h
    · rename_i yv D2 hy
      split at h
      · rename_i va hva
        split at h
        · rename_i r p j ht
          split at h
          · rename_i hck
            obtain ⟨hsz, hne⟩ := hck
            split at h
            · rename_i D3 hst
              cases h
              have hs := ev_ok hN hv
              obtain ⟨h1, h2⟩ := settle_ok hN.inv hN.slots hs.pr hs.ok hs.flat hy
              have hN2 : Now H E nt D2 (yv :: ex) w a := ⟨h1.inv, h1.slots, fun g cs hg => List.mem_cons_of_mem _ (hN.glob g cs hg)⟩
              have hs2 := ev_ok hN2 hva
              -- the cells
              have hin : ∀ (l : List V) {D D' : St} {j : Nat}, storeAt D r p j l = some D' → ∀ x ∈ l, cellIn x = true := by
                intro l
                induction l with
                | nil => intro D D' j _ x hx; cases hx
                | cons z l ih =>
                  intro D D' j hq x hx
                  simp only [storeAt] at hq
                  cases hl : look D r (p ++ [j]) with
                  | none => rw [hl] at hq; cases hq
                  | some old =>
                    rw [hl] at hq
                    simp only at hq
                    split at hq
                    · rename_i hc
                      rw [Bool.and_eq_true] at hc
                      rcases List.mem_cons.1 hx with rfl | hx
                      · exact hc.1
                      · exact ih hq x hx
                    · cases hq
              have hcells : ∀ D, PRL E.β D yv.cells (a.eval y).cells.toList := fun D => cells_PRL (hin _ hst) (h2 D)
              have hIc : Inv E nt D2 (yv.cells ++ ex) w := by
                cases yv <;> first
                  | exact h1.inv
                  | (have := h1.inv; refine this.weaken [] (rowsD nt D2 (V.agg _ :: ex)) _ (List.Perm.refl _) (RLeL.refl _ _) (by unfold rowsD; simp only [V.cells, rowsL_append, rowsL, Abs.rows]; exact List.Perm.refl _) (fun b hb => ?_) (fun e he => ⟨e, he, rfl, rfl⟩) this.ids rfl
                     unfold atomsD at hb ⊢; simpa only [V.cells, atomsL, atomsL_append, atoms] using hb)
              have hkc : ∀ k, k ∈ keysD nt D2 (yv.cells ++ ex) → k ∈ keysD nt D2 (yv :: ex) := by
                intro k hk
                cases yv <;> first
                  | exact hk
                  | (rw [keysD_pack (y := V.agg _) (l := _) rfl]; exact hk)
              have hcg : ∃ g, contOf E.β D2 r p = some g := by
                cases hyc : yv.cells with
                | nil => exact absurd hyc hne
                | cons z l =>
                  rw [hyc] at hst
                  simp only [storeAt] at hst
                  cases hl : look D2 r (p ++ [j]) with
                  | none => rw [hl] at hst; cases hst
                  | some old =>
                    rw [hl] at hst
                    simp only at hst
                    split at hst
                    · rename_i hc
                      rw [Bool.and_eq_true] at hc
                      obtain ⟨g, cap, kk, cur, el, g1, _⟩ := place_ok h1.inv hc.2 hl (canStore_lt h1.slots hc.2)
                      exact ⟨g, g1⟩
                    · cases hst
              obtain ⟨g, hg⟩ := hcg
              obtain ⟨w', e1, e2, e3, e4⟩ := storeAt_ok (P := P) (g := g) (o0 := j) (i := 0) (by simpa using hst) (.inr hg) hIc h1.slots hcells
              have haddr := target_addr ht hs2.pr hg
              have hlen : (a.eval y).cells.size = yv.cells.length := by
                have := (PRL_get (hcells D2)).1; simp at this; exact this.symm
              have hT : To E nt D ex w E D3 ex w' := ((To.of_keys h1.nx h1.keys).trans (To.of_keys rfl hkc)).trans e4
              have hrun : (execOp a.eval o).run P w = .ok .skip w' := by
                simp only [execOp, ho, Instr.storeAt, haddr, Instr.sureAddr, Sem.run_bind, Sem.run_pure, storeVar, run_sizeOf' hsz, hlen]
                simp only [ne_eq, Result.andThen_ok, not_true_eq_false, if_false]
                rw [show (storeCells ⟨g, j, none⟩ (a.eval y).cells.toList).run P w = .ok () w' from e1]
                rfl
              have hI4 : Inv E nt D3 (.dead :: ex) w' := e2.join (v := .dead) (fun e he => by simp [Abs.rows] at he) (fun b hb => by simp [atoms] at hb)
              obtain ⟨f1, f2, f3⟩ := lay_fin (dst := o.dst) (v := .dead) (u := undef) hI4 e3 hd trivial
              have hk4 : To E nt D3 ex w' E D3 (.dead :: ex) w' := To.of_keys rfl fun k hk => by
                rw [show keysD nt D3 _ = keysOf (rowsD nt D3 _) from rfl, (keysOf_perm (rowsD_ex nt D3 _ ex)).mem_iff, keysOf_append] at hk
                rcases List.mem_append.1 hk with hk | hk
                · simp [Abs.rows, keysOf] at hk
                · exact hk
              simp only [Oper.wp, hrun, Oper.upon_skip]
              exact hK _ _ _ _ (SmS.refl _) ((hT.trans hk4).trans f3) ⟨f1, f2, hN.glob⟩
            · cases h
          · cases h
        · cases h
      · cases h
    · cases h
  · cases h
end
end Go.Abs
end
/- Single operations: arithmetic, parts, addresses. -/
set_option linter.unusedVariables false
noncomputable section
namespace Go.Abs
open Go

variable {P : Program} {H : Hint} {E : Env} {nt : Nat} {D D1 : St} {ex : List V} {w : World} {a : Act} {o : Oper} {K : Act → World → Prop} {Q : Exit → Act → World → Prop}

theorem eqGuard_free {op : BinOp} {t : TypeId} {x y : Operand} {u u' : Value} (h : (∀ us, u ≠ .agg us) ∧ u ≠ .nilIface) : (eqGuard op t x y u u').run P w = .ok () w := by
  cases op <;> first
    | rfl
    | (cases u <;> first
        | rfl
        | exact absurd rfl h.2
        | exact absurd rfl (h.1 _))
theorem map_arr {α β : Type} (f : α → β) (xs : Array α) : xs.map f = (xs.toList.map f).toArray := by rw [← Array.toList_inj]; simp
theorem equal_of {t : TypeId} {x y : Value} {r : Result Bool} (h : ∀ d, (Op.equalIn (d + 1) t x y).run P w = r) : (Op.equal t x y).run P w = r := h 9999
theorem intOp_ok {op : BinOp} {k : IntKind} {x y : Int} {v : V} (h : intOp op k x y = some v) (t : TypeId) : ∃ u, (binOp op t (.int k x) (.int k y)).run P w = .ok u w ∧ Seen E nt D ex w v u := by
  cases op <;> simp only [intOp] at h <;> first
    | (cases h; refine ⟨_, ?_, seen_int _ _⟩; simp [binOp, Op.intBits, Op.intArith, Op.intCmp]; done)
    | (cases h; refine ⟨_, ?_, seen_bool _⟩; simp [binOp, Op.intBits, Op.intArith, Op.intCmp]; done)
    | (split at h
       · cases h
       · rename_i hy; cases h; refine ⟨_, ?_, seen_int _ _⟩; simp [binOp, Op.intDiv, hy]; done)
    | (cases h; done)
theorem shOp_ok {op : BinOp} (hs : isSh op = true) {k k' : IntKind} {x y : Int} {v : V} (h : shOp op k x y = some v) (t : TypeId) : ∃ u, (binOp op t (.int k x) (.int k' y)).run P w = .ok u w ∧ Seen E nt D ex w v u := by
  unfold shOp at h
  split at h
  · cases h
  · rename_i hy
    cases op <;> simp [isSh] at hs <;> (cases h; exact ⟨_, by simp [binOp, Op.shift, hy], seen_int _ _⟩)

section
variable {C : Callee} {fz : Bool} (hN : Now H E nt D ex w a) (hd : ∀ t, o.dst = some t → t < nt) (h : evOp P H C fz o D = some D1) (hK : Leads H E nt D ex w D1 K)
include hN hd h hK

theorem op_binOp {op : BinOp} {t t2 : TypeId} {x y : Operand} (ho : o.op = .binOp op t x y t2) : o.wp P a w K Q := by
  unfold evOp at h
  simp only [ho] at h
  split at h
  case h_2 => cases h
  rename_i va vb hx hy
  split at h
  case h_2 => cases h
  rename_i v hv
  cases h
  have hsx := ev_ok hN hx
  have hsy := ev_ok hN hy
  have fin : ∀ u, (∀ us, a.eval x ≠ .agg us) ∧ a.eval x ≠ .nilIface → (binOp op t (a.eval x) (a.eval y)).run P w = .ok u w → Seen E nt D ex w v u → o.wp P a w K Q := by
    intro u hf hr hs
    refine op_value hN hd hs ?_ hK
    simp [execOp, ho, eqGuard_free hf, hr]
  have eqlike : ∀ (b : Bool), (op = .eql ∧ v = .bool b) ∨ (op = .neq ∧ v = .bool !b) → (∀ us, a.eval x ≠ .agg us) ∧ a.eval x ≠ .nilIface → (Op.equal t (a.eval x) (a.eval y)).run P w = .ok b w → (binOp op t (a.eval x) (a.eval y) = (if op = .eql then (do pure (.bool (← Op.equal t (a.eval x) (a.eval y)))) else (do pure (.bool (!(← Op.equal t (a.eval x) (a.eval y))))) : Sem Value)) → o.wp P a w K Q := by
    intro b hb hf hr hbin
    rcases hb with ⟨rfl, rfl⟩ | ⟨rfl, rfl⟩
    · exact fin (.bool b) hf (by rw [hbin]; simp [hr]) (seen_bool b)
    · exact fin (.bool !b) hf (by rw [hbin]; simp [hr]) (seen_bool _)
  have e0 : eq0 op = some v → (op = .eql ∧ v = .bool true) ∨ (op = .neq ∧ v = .bool false) := by
    intro he; unfold eq0 at he; split at he <;> cases he
    · exact .inl ⟨rfl, rfl⟩
    · exact .inr ⟨rfl, rfl⟩
  have n0 : ne0 op = some v → (op = .eql ∧ v = .bool false) ∨ (op = .neq ∧ v = .bool true) := by
    intro he; unfold ne0 at he; split at he <;> cases he
    · exact .inl ⟨rfl, rfl⟩
    · exact .inr ⟨rfl, rfl⟩
  unfold bin at hv
  split at hv
  · -- integers
    rename_i k n k' n'
    have ex1 : a.eval x = .int k n := hsx.pr
    have ey1 : a.eval y = .int k' n' := hsy.pr
    split at hv
    · rename_i hsh
      obtain ⟨u, hr, hs⟩ := shOp_ok (P := P) (E := E) (nt := nt) (D := D) (ex := ex) (w := w) (k' := k') hsh hv t
      exact fin u (by rw [ex1]; simp) (by rw [ex1, ey1]; exact hr) hs
    · split at hv
      · rename_i hk
        subst hk
        obtain ⟨u, hr, hs⟩ := intOp_ok (P := P) (E := E) (nt := nt) (D := D) (ex := ex) (w := w) hv t
        exact fin u (by rw [ex1]; simp) (by rw [ex1, ey1]; exact hr) hs
      · cases hv
  · rename_i b b'
    have ex1 : a.eval x = .bool b := hsx.pr
    have ey1 : a.eval y = .bool b' := hsy.pr
    split at hv
    · rename_i hu
      cases hv
      refine eqlike (b == b') (.inl ⟨rfl, rfl⟩) (by rw [ex1]; simp) (by rw [ex1, ey1]; exact equal_of fun d => by simp [Op.equalIn, run_underlying' hu]) ?_
      rw [ex1, ey1]; rfl
    · rename_i hu
      cases hv
      refine eqlike (b == b') (.inr ⟨rfl, rfl⟩) (by rw [ex1]; simp) (by rw [ex1, ey1]; exact equal_of fun d => by simp [Op.equalIn, run_underlying' hu]) ?_
      rw [ex1, ey1]; rfl
    · cases hv
  · split at hv
    · rename_i e hu
      have ex1 : a.eval x = .pointer none := hsx.pr
      have ey1 : a.eval y = .pointer none := hsy.pr
      refine eqlike true (e0 hv) (by rw [ex1]; simp) (by rw [ex1, ey1]; exact equal_of fun d => by simp [Op.equalIn, run_underlying' hu]) ?_
      rw [ex1, ey1]
      rcases e0 hv with ⟨rfl, _⟩ | ⟨rfl, _⟩ <;> rfl
    · cases hv
  · rename_i b q
    split at hv
    · rename_i e hu
      have ex1 : a.eval x = .pointer (some ⟨E.β b, q, none⟩) := hsx.pr
      have ey1 : a.eval y = .pointer none := hsy.pr
      refine eqlike false (n0 hv) (by rw [ex1]; simp) (by rw [ex1, ey1]; exact equal_of fun d => by simp [Op.equalIn, run_underlying' hu]) ?_
      rw [ex1, ey1]
      rcases n0 hv with ⟨rfl, _⟩ | ⟨rfl, _⟩ <;> rfl
    · cases hv
  · rename_i b q
    split at hv
    · rename_i e hu
      have ex1 : a.eval x = .pointer none := hsx.pr
      have ey1 : a.eval y = .pointer (some ⟨E.β b, q, none⟩) := hsy.pr
      refine eqlike false (n0 hv) (by rw [ex1]; simp) (by rw [ex1, ey1]; exact equal_of fun d => by simp [Op.equalIn, run_underlying' hu]) ?_
      rw [ex1, ey1]
      rcases n0 hv with ⟨rfl, _⟩ | ⟨rfl, _⟩ <;> rfl
    · cases hv
  · split at hv
    case isFalse => cases hv
    rename_i hnil
    have ey1 : a.eval y = .slice none 0 0 := by
      unfold isNil at hnil
      split at hnil
      · rfl
      · cases hnil
    have main : ∀ e A n cap, P.underlying t = some (.slice e) → a.eval x = .slice (some A) n cap → ne0 op = some v → o.wp P a w K Q := by
      intro e A n cap hu ex1 hne
      refine eqlike false (n0 hne) (by rw [ex1]; simp) (by rw [ex1, ey1]; exact equal_of fun d => by simp [Op.equalIn, run_underlying' hu]) ?_
      rw [ex1, ey1]
      rcases n0 hne with ⟨rfl, _⟩ | ⟨rfl, _⟩ <;> rfl
    split at hv
    · rename_i e pm A cap n cs hu hrs
      -- read-only
      have key : ∀ v', rs D v' = some (.im pm A cap (n + 1) cs) → v' = .im pm A cap (n + 1) cs := by
        intro v' hv'
        unfold rs at hv'
        split at hv'
        · split at hv' <;> cases hv'
        · cases hv'; rfl
      have hva := key _ hrs
      subst hva
      have ha := hsx.ok (.i pm A cap (n + 1) cs) (by simp [atoms])
      have ex1 : a.eval x = .slice A (n + 1) cap := hsx.pr
      cases A with
      | none => exact absurd ha.2.1 (by omega)
      | some A => exact main e A _ _ hu ex1 hv
    · rename_i e d k n cs hu hrs
      have ex1 : Abs.hd E.β (.own d k (n + 1) cs) = some (a.eval x) ∧ RowOk E w (d, k, n + 1, cs.map sh) := by
        unfold rs at hrs
        split at hrs
        · split at hrs
          · rename_i r p d' k' n' cs' hl
            cases hrs
            refine ⟨hsx.pr _ _ _ _ hl, ?_⟩
            obtain ⟨R0, hR0⟩ := row_of_look (ex := ex) (hN.slots.lt hl) hl (e := (d, k, n + 1, cs.map sh)) (by simp [Abs.rows])
            exact hN.inv.rows _ (hR0.mem_iff.2 (List.mem_append_left _ (by simp [Abs.rows])))
          · cases hrs
        · cases hrs
          exact ⟨hsx.pr, (hsx.flat _ (by simp [Abs.rows])).1⟩
      obtain ⟨h1, h2⟩ := ex1
      cases d with
      | nil => exact absurd h2.1 (by simp)
      | emp A => exact absurd h2.1 (by simp)
      | blk g cap kk =>
        simp only [Abs.hd, Option.some.injEq] at h1
        exact main e _ _ _ hu h1.symm hv
    · cases hv
theorem op_unOp {op : UnOp} {t : TypeId} {x : Operand} (ho : o.op = .unOp op t x) : o.wp P a w K Q := by
  unfold evOp at h
  simp only [ho] at h
  split at h
  case h_2 => cases h
  rename_i va hx
  split at h
  case h_2 => cases h
  rename_i v hv
  cases h
  have hsx := ev_ok hN hx
  unfold un at hv
  split at hv
  · rename_i k n
    cases hv
    have ex1 : a.eval x = .int k n := hsx.pr
    exact op_value hN hd (seen_int _ _) (by simp [execOp, ho, ex1, Op.unary, Op.intArith]) hK
  · rename_i k n
    cases hv
    have ex1 : a.eval x = .int k n := hsx.pr
    exact op_value hN hd (seen_int _ _) (by simp [execOp, ho, ex1, Op.unary, Op.intBits]) hK
  · rename_i b
    cases hv
    have ex1 : a.eval x = .bool b := hsx.pr
    exact op_value hN hd (seen_bool _) (by simp [execOp, ho, ex1, Op.unary]) hK
  · cases hv
theorem op_convert {s t : TypeId} {x : Operand} (ho : o.op = .convert s t x) : o.wp P a w K Q := by
  unfold evOp at h
  simp only [ho] at h
  split at h
  case h_2 => cases h
  rename_i k0 n k d hx hu hs
  cases h
  have ex1 : a.eval x = .int k0 n := (ev_ok hN hx).pr
  exact op_value hN hd (seen_int _ _) (by simp [execOp, ho, ex1, convert, run_underlying' hu, run_underlying' hs, Conv.intToInt]) hK
theorem op_makeFunc {f : Fn} {xs ys : Array Operand} (ho : o.op = .makeFunc f xs ys) : o.wp P a w K Q := by
  unfold evOp at h
  simp only [ho] at h
  split at h
  case h_2 => cases h
  rename_i va vb hx hy
  cases h
  obtain ⟨h1, h2, h3⟩ := evL_ok hN hx
  obtain ⟨h4, h5, h6⟩ := evL_ok hN hy
  refine op_value (v := .fn f va vb) (u := .func f (xs.map a.eval) (ys.map a.eval)) hN hd ⟨⟨xs.toList.map a.eval, ys.toList.map a.eval, by rw [← map_arr, ← map_arr], h1, h4⟩, fun b hb => ?_, fun e he => ?_⟩ (by simp [execOp, ho, Instr.makeFunc]) hK
  · rcases List.mem_append.1 hb with hb | hb
    · exact h2 b hb
    · exact h5 b hb
  · rcases List.mem_append.1 he with he | he
    · exact h3 e he
    · exact h6 e he
theorem op_extract {x : Operand} {i : Nat} (ho : o.op = .extract x i) : o.wp P a w K Q := by
  unfold evOp at h
  simp only [ho] at h
  split at h
  case h_2 => cases h
  rename_i vs hx
  split at h
  case h_2 => cases h
  rename_i v hv
  cases h
  have hs := ev_ok hN hx
  obtain ⟨us, hu, hl⟩ := hs.pr
  obtain ⟨u, h1, h2⟩ := (PRL_get hl).2 i v hv
  refine op_value (u := u) hN hd ⟨h2, fun b hb => hs.ok b (atoms_mem (List.mem_of_getElem? hv) hb), fun e he => hs.flat e (rowsL_mem_of (List.mem_of_getElem? hv) he)⟩ ?_ hK
  simp [execOp, ho, hu, Instr.extract, h1]
end
end Go.Abs
end
