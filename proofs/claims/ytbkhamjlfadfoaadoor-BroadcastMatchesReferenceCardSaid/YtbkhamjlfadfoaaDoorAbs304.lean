/- Joined: AbsAB AbsAC AbsAD AbsAE AbsAF AbsAG AbsAH AbsAI AbsAJ AbsAK AbsAL AbsAM AbsAN AbsAO AbsAP AbsAQ AbsAR. -/
import Derived.Test.YtbkhamjlfadfoaaDoorAbs303
set_option linter.all false
set_option maxHeartbeats 16000000
noncomputable section
namespace Go.Abs
open Go
variable {P : Program} {H : Hint} {E : Env} {nt : Nat} {D D1 : St} {ex : List V} {w : World} {a : Act} {o : Oper} {K : Act → World → Prop} {Q : Exit → Act → World → Prop}
def Gives (E : Env) (nt : Nat) (D D2 : St) (ex : List V) (w : World) (a : Act) (y : V) (s : Sem Value) (P : Program) : Prop :=
 ∃ y' u w', s.run P w = .ok u w' ∧ Sm y y' ∧ Inv E nt D2 (y' :: ex) w' ∧ SlotsOk E nt D2 a ∧ PR E.β D2 y' u ∧ To E nt D ex w E D2 (y' :: ex) w'
theorem appendV_ok {t ty : TypeId} {v x y : V} {s u : Value} {D2 : St} (hN : Now H E nt D ex w a) (hv : Seen E nt D ex w v s) (hx : Seen E nt D ex w x u) (h : appendV P t v x D = some (y, D2)) : Gives E nt D D2 ex w a y (Builtin.append_ #[t, t] ty #[s, u]) P := by
 unfold appendV at h
 split at h
 case h_2 => cases h
 rename_i e ht
 split at h
 case h_2 => cases h
 rename_i sz by_ z hsz hby hz
 split at h
 ·cases h
 rename_i hck
 simp only [not_or, ne_eq, Decidable.not_not] at hck
 split at h
 case h_2 => cases h
 rename_i n2 ncs D0 hbr
 obtain ⟨i, zv, hi, hzv, hzc⟩ := zeroT_info hz
 obtain ⟨z1, z2, z3⟩ := ofCells_zero (E := E) (D := D) (w := w) hzc
 have hsi : i.size = sz := by obtain ⟨i', hi', e'⟩ := sizeT_info hsz; rw [hi] at hi'; cases hi'; exact e'
 have hbi : i.bytes = by_ := by unfold bytesT at hby; rw [hi] at hby; simpa using hby
 have hzs : zv.cells.size = i.size := by have := (PRL_get z1).1; simp at this; omega
 obtain ⟨us, b, c, eu, b1, b2, b3, b4, b5, b6, b7, b8⟩ := bring_ok (P := P) hN.inv hN.slots hx hbr
 subst eu
 have b8 : ∀ w' : World, w'.heap = w.heap → (Builtin.firstCells sz n2 (.slice b n2 c)).run P w' = .ok us.toArray w' := fun w' hw => by
  have := b8 n2 (Nat.le_refl _) w' hw
  rwa [List.take_of_length_le (by rw [b6, b5]; exact Nat.le_refl _)] at this
 have hone : ∀ v ∈ us, v.oneCell' = true := by
  intro v hv'
  obtain ⟨j, hj⟩ := List.getElem?_of_mem hv'
  have hlt : j < ncs.length := by rw [← b6]; exact (List.getElem?_eq_some_iff.1 hj).1
  obtain ⟨v2, h2, _, h3⟩ := b7 j _ (List.getElem?_eq_getElem hlt)
  rw [hj] at h2; cases h2; exact h3
 split at h
 ·rename_i r p
  split at h
  ·rename_i d k n cs D1' htk
   split at h
   case isFalse => cases h
   rename_i hc
   cases h
   obtain ⟨t1, t2, t3, t4, t5, t6, t7⟩ := take_ok b1 b2 htk
   have hs := (PR_kept b3 hv.pr) _ _ _ _ t6
   obtain ⟨d2, u2, w', r1, r2, r3, r4⟩ := append_core (P := P) (ty := ty) (z := zv) ht hi hzv hzs (by omega) t1 hs (fun _ => by rw [hsi]; exact hc.1) (by rw [hsi]; exact hc.2.1) (by rw [hsi]; exact b5) b6 b7 hone (by rw [hsi]; exact b8) (by rw [hbi]; exact hc.2.2.1) hc.2.2.2
   exact ⟨_, u2, w', r1, .own (SmL.refl _), r3, t2, r2, (b4.trans (To.of_keys t4 t5)).trans r4⟩
  ·cases h
 ·rename_i d k
  split at h
  case isFalse => cases h
  rename_i hc
  cases h
  have hv0 : Seen E nt D2 (ncs ++ ex) w (.own d k 0 []) s := ⟨hv.pr, fun b hb => by simp [atoms, atomsL] at hb, fun e he => by
   have := hv.flat e he
   exact this⟩
  obtain ⟨j1, j2⟩ := hv0.join b1
  obtain ⟨d2, u2, w', r1, r2, r3, r4⟩ := append_core (P := P) (ty := ty) (z := zv) (cs := []) ht hi hzv hzs (by omega) j1 hv.pr (fun ⟨g, cap, kk, e⟩ => by
   subst e
   have := (hv.flat (.blk g cap kk, k, 0, []) (by simp [rows])).2
   simp [keyOf] at this) (by simp) (by rw [hsi]; exact b5) b6 b7 hone (by rw [hsi]; exact b8) (by rw [hbi, Nat.zero_add]; exact hc.1) (by rw [Nat.zero_add]; exact hc.2)
  simp only [Nat.zero_add, List.nil_append] at r2 r3 r4
  exact ⟨_, u2, w', r1, .own (SmL.refl _), r3, b2, r2, (b4.trans j2).trans r4⟩
 ·cases h
theorem rs_own {v : V} {s : Value} {d : Dec} {k n : Nat} {cs : List V} (hN : Now H E nt D ex w a) (hv : Seen E nt D ex w v s) (hrs : rs D v = some (.own d k n cs)) : hd E.β (.own d k n cs) = some s ∧ RowOk E w (d, k, n, cs.map sh) := by
 unfold rs at hrs
 split at hrs
 ·split at hrs
  ·rename_i r p d' k' n' cs' hl
   cases hrs
   refine ⟨hv.pr _ _ _ _ hl, ?_⟩
   obtain ⟨R0, hR0⟩ := row_of_look (ex := ex) (hN.slots.lt hl) hl (e := (d, k, n, cs.map sh)) (by simp [Abs.rows])
   exact hN.inv.rows _ (hR0.mem_iff.2 (List.mem_append_left _ (by simp [Abs.rows])))
  ·cases hrs
 ·cases hrs
  exact ⟨hv.pr, (hv.flat _ (by simp [Abs.rows])).1⟩
theorem lenV_ok {t ty : TypeId} {v y : V} {s : Value} (hN : Now H E nt D ex w a) (hv : Seen E nt D ex w v s) (h : lenV P t v D = some y) : ∃ u, (Builtin.len_ #[t] ty #[s]).run P w = .ok u w ∧ Seen E nt D ex w y u := by
 unfold lenV at h
 split at h
 ·rename_i e hu
  split at h
  ·rename_i pm A cap n cs hrs
   cases h
   have hva : v = .im pm A cap n cs := by
    unfold rs at hrs
    split at hrs
    ·split at hrs <;> cases hrs
    ·cases hrs; rfl
   subst hva
   have es : s = .slice A n cap := hv.pr
   exact ⟨_, by simp [Builtin.len_, run_underlying' hu, es, goInt], seen_int _ _⟩
  ·rename_i d k n cs hrs
   cases h
   obtain ⟨hh, hrow⟩ := rs_own hN hv hrs
   cases d with
   | nil =>
     have hn : n = 0 := hrow.1
     subst hn
     have es : s = .slice none 0 0 := by simpa [hd] using hh.symm
     exact ⟨_, by simp [Builtin.len_, run_underlying' hu, es, goInt], seen_int _ _⟩
   | emp A =>
     have hn : n = 0 := hrow.1
     subst hn
     have es : s = .slice (some A) 0 0 := by simpa [hd] using hh.symm
     exact ⟨_, by simp [Builtin.len_, run_underlying' hu, es, goInt], seen_int _ _⟩
   | blk g cap kk =>
     have es : s = .slice (some ⟨g, 0, none⟩) n cap := by simpa [hd] using hh.symm
     exact ⟨_, by simp [Builtin.len_, run_underlying' hu, es, goInt], seen_int _ _⟩
  ·cases h
 ·rename_i n e hu
  cases h
  exact ⟨_, by simp [Builtin.len_, run_underlying' hu, goInt], seen_int _ _⟩
 ·rename_i t' hu
  split at h
  ·rename_i n e hu2
   cases h
   exact ⟨_, by simp [Builtin.len_, run_underlying' hu, run_underlying' hu2, goInt], seen_int _ _⟩
  ·cases h
 ·cases h
theorem minmaxA_ok (isMax : Bool) (k : IntKind) : ∀ {l : List V} {us : List Value} {x : Int} {y : V}, minmaxA isMax k x l = some y → PRL E.β D l us →
 ∃ q, y = .int k q ∧ (us.foldlM (if isMax then Builtin.max2 else Builtin.min2) (.int k x)).run P w = .ok (.int k q) w
 | [], us, x, y, h, hl => by
   simp only [minmaxA, Option.some.injEq] at h
   simp only [PRL] at hl
   subst h hl
   exact ⟨x, rfl, rfl⟩
 | v :: l, us, x, y, h, hl => by
   obtain ⟨u, us', rfl, h1, h2⟩ := hl
   cases v <;> simp only [minmaxA] at h <;> try (cases h; done)
   split at h
   ·rename_i hk
    subst hk
    have eu : u = _ := h1
    subst eu
    obtain ⟨q, hq, hr⟩ := minmaxA_ok isMax k h h2
    refine ⟨q, hq, ?_⟩
    simp only [List.foldlM_cons, Sem.run_bind]
    cases isMax
    ·simp only [Bool.false_eq_true, if_false] at hr ⊢
     simp only [Builtin.min2, Sem.run_pure, Result.andThen_ok]
     exact hr
    ·simp only [if_true] at hr ⊢
     simp only [Builtin.max2, Sem.run_pure, Result.andThen_ok]
     exact hr
   ·cases h
theorem scalar_noRow {cs : List V} (h : cs.all V.scalar = true) : noRowL cs = true := by
 induction cs with
 | nil => rfl
 | cons x l ih =>
   simp only [List.all_cons, Bool.and_eq_true] at h
   simp only [noRowL, Bool.and_eq_true]
   refine ⟨?_, ih h.2⟩
   cases x <;> simp [V.scalar] at h <;> rfl
theorem copyV_ok {t t2 ty : TypeId} {v x y : V} {s u : Value} {D2 : St} (hN : Now H E nt D ex w a) (hv : Seen E nt D ex w v s) (hx : Seen E nt D ex w x u) (h : copyV P t v x D = some (y, D2)) : Gives E nt D D2 ex w a y (Builtin.copy_ #[t, t2] ty #[s, u]) P := by
 unfold copyV at h
 split at h
 case h_2 => cases h
 rename_i e ht
 split at h
 case h_2 => cases h
 rename_i sz hsz
 split at h
 case h_2 => cases h
 rename_i n cs D0 hbr
 split at h
 case h_2 => cases h
 rename_i r p
 split at h
 case h_2 => cases h
 rename_i d k n' cs' hl
 split at h
 case isFalse => cases h
 rename_i hsc
 split at h
 case h_2 => cases h
 rename_i D3 hst
 cases h
 obtain ⟨us, b, c, eu, b1, b2, b3, b4, b5, b6, b7, b8⟩ := bring_ok (P := P) hN.inv hN.slots hx hbr
 subst eu
 have hs := (PR_kept b3 hv.pr) _ _ _ _ hl
 obtain ⟨R0, hR0⟩ := row_of_look (ex := cs ++ ex) (b2.lt hl) hl (e := (d, k, n', cs'.map sh)) (by simp [Abs.rows])
 have hrow := b1.rows (d, k, n', cs'.map sh) (hR0.mem_iff.2 (List.mem_append_left _ (by simp [Abs.rows])))
 have hall := List.all_eq_true.1 hsc
 have hf := b8 (min n n') (Nat.min_le_left _ _) w rfl
 obtain ⟨hI2, hT2⟩ := b1.reflight (ex2 := cs.take (min n n' * sz) ++ ex) [] (by
  rw [rowsL_append, rowsL_append, rowsL_noRow (scalar_noRow hsc), rowsL_noRow (noRowL_take (scalar_noRow hsc))]; exact List.Perm.refl _) (fun q hq => by
  rw [atomsL_append] at hq ⊢
  rcases List.mem_append.1 hq with hq | hq
  ·obtain ⟨z, hz, hq⟩ := atomsL_mem hq
   exact List.mem_append_left _ (atoms_mem (List.mem_of_mem_take hz) hq)
  ·exact List.mem_append_right _ hq)
 have hprl : ∀ D, PRL E.β D (cs.take (min n n' * sz)) (us.take (min n n' * sz)) := by
  intro D
  refine PRL_take _ (PRL_of b6.symm fun j z hz => ?_)
  obtain ⟨v0, hv0, hm, _⟩ := b7 j z hz
  exact ⟨v0, hv0, MR_PR hm⟩
 have hk0 : min n n' * sz = 0 → cs.take (min n n' * sz) = [] := fun h0 => by rw [h0]; rfl
 have fin : ∀ (base : Option Addr) (cap : Nat), s = .slice base n' cap → (∀ A, base = some A → ∃ g, A = ⟨g, 0, none⟩ ∧ (cs.take (min n n' * sz) = [] ∨ contOf E.β D0 r p = some g)) → (base = none → cs.take (min n n' * sz) = []) →
  Gives E nt D D2 ex w a (.int .i64 (min n n' : Nat)) (Builtin.copy_ #[t, t2] ty #[s, .slice b n c]) P := by
  intro base cap es hA hnone
  subst es
  cases base with
  | none =>
    rw [hnone rfl] at hst hI2 hT2
    simp only [storeAt, Option.some.injEq] at hst
    subst hst
    obtain ⟨j1, j2⟩ := (seen_int (E := E) (nt := nt) (D := D0) (ex := ex) (w := w) .i64 ((min n n' : Nat) : Int)).join hI2
    refine ⟨_, .int .i64 ((min n n' : Nat) : Int), w, ?_, Sm.refl _, j1, b2, rfl, (b4.trans hT2).trans j2⟩
    have hf2 := hf
    simp only [Nat.min_def] at hf2 ⊢
    simp [Builtin.copy_, run_underlying' ht, Builtin.lenOf, run_sizeOf' hsz, Nat.min_def, hf2, goInt]
  | some A =>
    obtain ⟨g, rfl, hg⟩ := hA A rfl
    obtain ⟨w', e1, e2, e3, e4⟩ := storeAt_ok (P := P) (g := g) (o0 := 0) (i := 0) (by simpa using hst) hg hI2 b2 hprl
    obtain ⟨j1, j2⟩ := (seen_int (E := E) (nt := nt) (D := D2) (ex := ex) (w := w') .i64 ((min n n' : Nat) : Int)).join e2
    refine ⟨_, .int .i64 ((min n n' : Nat) : Int), w', ?_, Sm.refl _, j1, e3, rfl, ((b4.trans hT2).trans e4).trans j2⟩
    have hf2 := hf
    simp only [Nat.min_def] at hf2 e1 ⊢
    simp [Builtin.copy_, run_underlying' ht, Builtin.lenOf, run_sizeOf' hsz, Nat.min_def, hf2, e1, goInt]
 cases d with
 | nil =>
   have h0 : n' = 0 := hrow.1
   subst h0
   exact fin none 0 (by simpa [hd] using hs.symm) (fun A hA => by cases hA) (fun _ => by simp)
 | emp A0 =>
   have h0 : n' = 0 := hrow.1
   subst h0
   have es : s = .slice (some A0) 0 0 := by simpa [hd] using hs.symm
   subst es
   have hnil : cs.take (min n 0 * sz) = [] := by simp
   rw [hnil] at hst hI2 hT2
   simp only [storeAt, Option.some.injEq] at hst
   subst hst
   obtain ⟨j1, j2⟩ := (seen_int (E := E) (nt := nt) (D := D0) (ex := ex) (w := w) .i64 ((min n 0 : Nat) : Int)).join hI2
   refine ⟨_, .int .i64 ((min n 0 : Nat) : Int), w, ?_, Sm.refl _, j1, b2, rfl, (b4.trans hT2).trans j2⟩
   have hf2 := hf
   simp only [Nat.min_zero, Nat.zero_mul, List.take_zero] at hf2 ⊢
   simp [Builtin.copy_, run_underlying' ht, Builtin.lenOf, run_sizeOf' hsz, hf2, goInt, storeCells]
 | blk g cap kk =>
   refine fin (some ⟨g, 0, none⟩) cap (by simpa [hd] using hs.symm) (fun A hA => by
    cases hA
    refine ⟨g, rfl, .inr ?_⟩
    unfold contOf
    cases r with
    | slot t => simp only [hl]
    | box bb =>
      cases p with
      | nil => simp [look] at hl; cases hb : getBox D0.m bb <;> simp [hb] at hl
      | cons i p => simp only [hl]) (fun h => by cases h)
end Go.Abs
end
noncomputable section
namespace Go.Abs
open Go
variable {P : Program} {H : Hint} {E : Env} {nt : Nat} {D D1 : St} {ex : List V} {w : World} {a : Act} {o : Oper} {K : Act → World → Prop} {Q : Exit → Act → World → Prop}
theorem evL_len {xs : List Operand} {vs : List V} (h : evL H D xs = some vs) : vs.length = xs.length := by
 induction xs generalizing vs with
 | nil => simp only [evL, Option.some.injEq] at h; subst h; rfl
 | cons x xs ih =>
   simp only [evL] at h
   split at h
   ·split at h
    ·rename_i l hl
     cases h
     simp [ih hl]
    ·cases h
   ·cases h
theorem seen_of {vs : List V} (hN : Now H E nt D ex w a) : ∀ {xs : List Operand} {vs : List V}, evL H D xs = some vs → ∀ (j : Nat) (v : V), vs[j]? = some v → ∃ x, xs[j]? = some x ∧ Seen E nt D ex w v (a.eval x)
 | [], vs, h, j, v, hv => by simp only [evL, Option.some.injEq] at h; subst h; simp at hv
 | x :: xs, vs, h, j, v, hv => by
   simp only [evL] at h
   split at h
   ·rename_i v0 hx
    split at h
    ·rename_i l hl
     cases h
     cases j with
     | zero => simp at hv; subst hv; exact ⟨x, rfl, ev_ok hN hx⟩
     | succ j => simp at hv; simpa using seen_of (vs := vs) hN hl j v hv
    ·cases h
   ·cases h
section
variable {C : Callee} {fz : Bool} (hN : Now H E nt D ex w a) (hd : ∀ t, o.dst = some t → t < nt) (h : evOp P H C fz o D = some D1) (hK : Leads H E nt D ex w D1 K)
include hN hd h hK
theorem op_builtin {c : Call} {b : Builtin} (ho : o.op = .call c) (hc : c.callee = .builtin b) : o.wp P a w K Q := by
 unfold evOp at h
 simp only [ho, hc] at h
 split at h
 case h_2 => cases h
 rename_i vs hvs
 split at h
 case h_2 => cases h
 rename_i y D2 hy
 cases h
 have hseen := seen_of (vs := vs) hN hvs
 have hlen := evL_len hvs
 have hrunc0 : ∃ cst, (execOp a.eval o).run P w = ((builtin b c.argTypes o.type cst (c.args.map a.eval)).run P w) := by
  refine ⟨?_, ?_⟩
  rotate_left
  ·simp only [execOp, ho, resolve, hc, invoke, Sem.run_bind, Sem.run_pure, Result.andThen_ok]
   rfl
 obtain ⟨cst, hrunc⟩ := hrunc0
 have fin : ∀ {s : Sem Value}, Gives E nt D D2 ex w a y s P → (builtin b c.argTypes o.type cst (c.args.map a.eval)).run P w = (s.run P w).andThen (fun u w' => .ok (.value u) w') → o.wp P a w K Q := by
  intro s hg hr
  obtain ⟨y', u, w', g1, g2, g3, g4, g5, g6⟩ := hg
  refine op_done hN hd g3 g4 g6 g5 ?_ (lay_sm (SmS.refl _) g2 _) hK
  rw [hrunc, hr, g1]; rfl
 have two : ∀ v x, vs = [v, x] → ∃ x1 x2, c.args = #[x1, x2] ∧ Seen E nt D ex w v (a.eval x1) ∧ Seen E nt D ex w x (a.eval x2) := by
  intro v x e
  subst e
  match hl : c.args.toList, hlen with
  | [x1, x2], _ =>
    rw [hl] at hseen
    obtain ⟨q1, e1, s1⟩ := hseen 0 v rfl
    obtain ⟨q2, e2, s2⟩ := hseen 1 x rfl
    simp at e1 e2
    subst e1 e2
    exact ⟨_, _, by rw [← Array.toList_inj, hl], s1, s2⟩
 have one : ∀ v, vs = [v] → ∃ x1, c.args = #[x1] ∧ Seen E nt D ex w v (a.eval x1) := by
  intro v e
  subst e
  match hl : c.args.toList, hlen with
  | [x1], _ =>
    rw [hl] at hseen
    obtain ⟨q1, e1, s1⟩ := hseen 0 v rfl
    simp at e1
    subst e1
    exact ⟨_, by rw [← Array.toList_inj, hl], s1⟩
 have mm : ∀ (isMax : Bool) (y0 : V), minmax isMax vs = some y0 → ∃ k q, y0 = .int k q ∧ (match (c.args.map a.eval).toList with | [] => (stuck "" : Sem Value) | x :: rest => rest.foldlM (if isMax then Builtin.max2 else Builtin.min2) x).run P w = .ok (.int k q) w := by
  intro isMax y0 hm
  unfold minmax at hm
  split at hm
  ·rename_i k x l
   obtain ⟨hprl, _, _⟩ := evL_ok hN hvs
   obtain ⟨u, us, e1, h1, h2⟩ := hprl
   have eu : u = .int k x := h1
   subst eu
   obtain ⟨q, hq, hr⟩ := minmaxA_ok (P := P) (w := w) isMax k hm h2
   refine ⟨k, q, hq, ?_⟩
   simp only [Array.toList_map, e1]
   exact hr
  ·cases hm
 unfold doBuiltin at hy
 split at hy
 ·rename_i t t' v x hts
  split at hy
  case isFalse => cases hy
  rename_i htt
  subst htt
  obtain ⟨x1, x2, ea, s1, s2⟩ := two v x rfl
  have et : c.argTypes = #[t, t] := by rw [← Array.toList_inj, hts]
  refine fin (appendV_ok (ty := o.type) hN s1 s2 hy) ?_
  rw [ea, et]
  simp [builtin]
 ·rename_i t t' v x hts
  obtain ⟨x1, x2, ea, s1, s2⟩ := two v x rfl
  have et : c.argTypes = #[t, t'] := by rw [← Array.toList_inj, hts]
  refine fin (copyV_ok (t2 := t') (ty := o.type) hN s1 s2 hy) ?_
  rw [ea, et]
  simp [builtin]
 ·rename_i t v hts
  obtain ⟨x1, ea, s1⟩ := one v rfl
  have et : c.argTypes = #[t] := by rw [← Array.toList_inj, hts]
  split at hy
  case h_2 => cases hy
  rename_i y0 hy0
  cases hy
  obtain ⟨u, r1, r2⟩ := lenV_ok (P := P) (ty := o.type) hN s1 hy0
  refine op_value hN hd r2 ?_ hK
  rw [hrunc, ea, et]
  simp [builtin, r1]
 ·split at hy
  case h_2 => cases hy
  rename_i y0 hy0
  cases hy
  obtain ⟨k, q, e, hr⟩ := mm true _ hy0
  subst e
  refine op_value hN hd (seen_int k q) ?_ hK
  rw [hrunc]
  have : (Builtin.max_ c.argTypes o.type (c.args.map a.eval)).run P w = .ok (.int k q) w := by
   unfold Builtin.max_
   split
   ·rename_i h0; rw [h0] at hr; simp at hr
   ·rename_i x rest h0; rw [h0] at hr; exact hr
  simp [builtin, this]
 ·split at hy
  case h_2 => cases hy
  rename_i y0 hy0
  cases hy
  obtain ⟨k, q, e, hr⟩ := mm false _ hy0
  subst e
  refine op_value hN hd (seen_int k q) ?_ hK
  rw [hrunc]
  have : (Builtin.min_ c.argTypes o.type (c.args.map a.eval)).run P w = .ok (.int k q) w := by
   unfold Builtin.min_
   split
   ·rename_i h0; rw [h0] at hr; simp at hr
   ·rename_i x rest h0; rw [h0] at hr; exact hr
  simp [builtin, this]
 ·cases hy
end
end Go.Abs
end
noncomputable section
namespace Go.Abs
open Go
variable {P : Program} {H : Hint} {E : Env} {nt : Nat} {D D1 : St} {ex : List V} {w : World} {a : Act} {o : Oper} {K : Act → World → Prop} {Q : Exit → Act → World → Prop}
theorem wanted_ok {ops : Array Oper} {b : Bool} (hN : Now H E nt D ex w a) (h : wantedV ops o D = some b) : Region.wanted o (yielded ops a.tmps) = b := by
 unfold wantedV at h
 unfold Region.wanted
 split at h
 ·rename_i hg
  cases h
  rw [hg]
 ·rename_i j want hg
  rw [hg]
  simp only
  split at h
  ·rename_i t ht
   have hp := hN.slots.slot t
   have hget : ∀ u, a.tmps.getD t undef = u → u ≠ undef → a.tmps[t]? = some u := by
    intro u hu hne
    rw [Array.getD_eq_getD_getElem?] at hu
    cases hq : a.tmps[t]? with
    | none => rw [hq] at hu; exact absurd hu.symm hne
    | some v => rw [hq] at hu; simp at hu; rw [hu]
   have hno : ∀ u, a.tmps.getD t undef = u → (∀ b, u ≠ .bool b) → yielded ops a.tmps j = none := by
    intro u hu hne
    unfold yielded
    rw [ht]
    simp only [Option.bind_some]
    rw [Array.getD_eq_getD_getElem?] at hu
    cases hq : a.tmps[t]? with
    | none => rfl
    | some v =>
      rw [hq] at hu
      simp at hu
      subst hu
      cases v <;> first | rfl | exact absurd rfl (hne _)
   split at h
   ·rename_i bb hs
    cases h
    rw [hs] at hp
    have hu : a.tmps.getD t undef = .bool bb := hp
    have := hget _ hu (by simp [undef])
    simp only [yielded, ht, Option.bind_some, this]
    cases bb <;> cases want <;> rfl
   ·rename_i hs
    cases h
    rw [hs] at hp
    have hu : a.tmps.getD t undef = .int _ _ := hp
    rw [hno _ hu (by simp)]; rfl
   ·rename_i hs
    cases h
    rw [hs] at hp
    obtain ⟨us, hu, _⟩ := hp
    rw [hno _ hu (by simp)]; rfl
   ·cases h
  ·rename_i ht
   cases h
   unfold yielded
   rw [ht]; rfl
theorem skip_ok (hN : Now H E nt D ex w a) (hd : ∀ t, o.dst = some t → t < nt) (hK : Leads H E nt D ex w (D.lay o.dst (.tup [])) K) : K (a.put o.dst undef) w := by
 have hs : Seen E nt D ex w (.tup []) undef := ⟨⟨[], rfl, rfl⟩, fun b hb => by simp [atoms, atomsL] at hb, fun e he => by simp [rows, rowsL] at he⟩
 obtain ⟨h1, h2⟩ := hs.join hN.inv
 obtain ⟨f1, f2, f3⟩ := lay_fin (dst := o.dst) h1 hN.slots hd hs.pr
 exact hK _ _ _ _ (SmS.refl _) (h2.trans f3) ⟨f1, f2, hN.glob⟩
def Grow (w w' : World) : Prop := w.heap.size ≤ w'.heap.size ∧ ∀ k, k < w.heap.size → w'.heap[k]? = w.heap[k]?
def CallsOk (P : Program) (H : Hint) (C : Callee) : Prop :=
 ∀ {E : Env} {nt : Nat} {D D1 : St} {ex : List V} {w : World} {a : Act} {o : Oper} {K : Act → World → Prop} {Q : Exit → Act → World → Prop} {c : Call} {g : Operand}, Now H E nt D ex w a → (∀ t, o.dst = some t → t < nt) → o.op = .call c → c.callee = .value g →
  evOp P H C true o D = some D1 ∨ evOp P H C false o D = some D1 → Leads H E nt D ex w D1 K → o.wp P a w (fun a' w' => (quietB H o D = true → Grow w w') ∧ K a' w') Q
theorem op_ok {C : Callee} {fz : Bool} (hC : CallsOk P H C) (hN : Now H E nt D ex w a) (hd : ∀ t, o.dst = some t → t < nt) (h : evOp P H C fz o D = some D1) (hK : Leads H E nt D ex w D1 K) : o.wp P a w K Q := by
 cases ho : o.op with
 | move x => exact op_move hN hd h hK ho
 | assign x => exact op_assign hN hd h hK ho
 | pick c x y => exact op_pick hN hd h hK ho
 | alloc t => exact op_alloc hN hd h hK ho
 | box t x => exact op_box hN hd h hK ho
 | build t ps => exact op_build hN hd h hK ho
 | buildSlice t n ps => exact op_buildSlice hN hd h hK ho
 | load t x => exact op_load hN hd h hK ho
 | store t x y => exact op_store hN hd h hK ho
 | nilCheck x => exact op_nilCheck hN hd h hK ho
 | binOp op t x y t2 => exact op_binOp hN hd h hK ho
 | unOp op t x => exact op_unOp hN hd h hK ho
 | convert s t x => exact op_convert hN hd h hK ho
 | makeFunc f xs ys => exact op_makeFunc hN hd h hK ho
 | makeSlice t x y => exact op_makeSlice hN hd h hK ho
 | slice t x lo hi mx => exact op_slice hN hd h hK ho
 | fieldAddr t x f => exact op_fieldAddr hN hd h hK ho
 | field t x f => exact op_field hN hd h hK ho
 | indexAddr t x ix => exact op_indexAddr hN hd h hK ho
 | index t x ix => exact op_index hN hd h hK ho
 | extract x i => exact op_extract hN hd h hK ho
 | call c =>
   cases hc : c.callee with
   | builtin b => exact op_builtin hN hd h hK ho hc
   | value g => exact Oper.wp_mono (fun _ _ h => h.2) (hC hN hd ho hc (by cases fz; exact .inr h; exact .inl h) hK)
   | invoke r n => unfold evOp at h; simp only [ho, hc] at h; cases h
 | _ => unfold evOp at h; simp only [ho] at h; cases h
end Go.Abs
end
noncomputable section
namespace Go.Abs
open Go
inductive OptR {α β : Type} (R : α → β → Prop) : Option α → Option β → Prop
 | none : OptR R none none
 | some {x : α} {y : β} (h : R x y) : OptR R (some x) (some y)
def PairR {α β γ δ : Type} (R : α → β → Prop) (S : γ → δ → Prop) (x : α × γ) (y : β × δ) : Prop := R x.1 y.1 ∧ S x.2 y.2
theorem SmL.getR {l l' : List V} (h : SmL l l') (j : Nat) : OptR Sm l[j]? l'[j]? := by
 rcases h.get j with ⟨h1, h2⟩ | ⟨x, x', h1, h2, h3⟩
 ·rw [h1, h2]; exact .none
 ·rw [h1, h2]; exact .some h3
theorem go_sm : ∀ (p : List Nat) {x x' : V}, Sm x x' → OptR Sm (go p x) (go p x')
 | [], x, x', h => .some h
 | o :: p, _, _, .own h => by
   simp only [go]
   rcases h.get o with ⟨h1, h2⟩ | ⟨y, y', h1, h2, h3⟩
   ·rw [h1, h2]; exact .none
   ·rw [h1, h2]; exact go_sm p h3
 | o :: p, _, _, .agg h => by
   simp only [go]
   rcases h.get o with ⟨h1, h2⟩ | ⟨y, y', h1, h2, h3⟩
   ·rw [h1, h2]; exact .none
   ·rw [h1, h2]; exact go_sm p h3
 | o :: p, _, _, .tup h => by
   simp only [go]
   rcases h.get o with ⟨h1, h2⟩ | ⟨y, y', h1, h2, h3⟩
   ·rw [h1, h2]; exact .none
   ·rw [h1, h2]; exact go_sm p h3
 | _ :: _, _, _, .int _ _ | _ :: _, _, _, .bool _ | _ :: _, _, _, .nilp | _ :: _, _, _, .nilf | _ :: _, _, _, .bptr _ _ | _ :: _, _, _, .ip _ | _ :: _, _, _, .im _ | _ :: _, _, _, .fn _ _ | _ :: _, _, _, .ref _ _ | _ :: _, _, _, .loc _ _ | _ :: _, _, _, .dead => .none
theorem goSet_sm : ∀ (p : List Nat) {x x' y y' : V}, Sm x x' → Sm y y' → Sm (goSet p y x) (goSet p y' x')
 | [], x, x', y, y', h, hy => hy
 | o :: p, _, _, y, y', .own h, hy => by
   simp only [goSet]
   rcases h.get o with ⟨h1, h2⟩ | ⟨z, z', h1, h2, h3⟩
   ·rw [h1, h2]; exact .own h
   ·rw [h1, h2]; exact .own (h.set (goSet_sm p h3 hy) o)
 | o :: p, _, _, y, y', .agg h, hy => by
   simp only [goSet]
   rcases h.get o with ⟨h1, h2⟩ | ⟨z, z', h1, h2, h3⟩
   ·rw [h1, h2]; exact .agg h
   ·rw [h1, h2]; exact .agg (h.set (goSet_sm p h3 hy) o)
 | o :: p, _, _, y, y', .tup h, hy => by
   simp only [goSet]
   rcases h.get o with ⟨h1, h2⟩ | ⟨z, z', h1, h2, h3⟩
   ·rw [h1, h2]; exact .tup h
   ·rw [h1, h2]; exact .tup (h.set (goSet_sm p h3 hy) o)
 | _ :: _, _, _, _, _, .int _ _, _ => .int _ _
 | _ :: _, _, _, _, _, .bool _, _ => .bool _
 | _ :: _, _, _, _, _, .nilp, _ => .nilp
 | _ :: _, _, _, _, _, .nilf, _ => .nilf
 | _ :: _, _, _, _, _, .bptr _ _, _ => .bptr _ _
 | _ :: _, _, _, _, _, .ip h, _ => .ip h
 | _ :: _, _, _, _, _, .im h, _ => .im h
 | _ :: _, _, _, _, _, .fn h k, _ => .fn h k
 | _ :: _, _, _, _, _, .ref _ _, _ => .ref _ _
 | _ :: _, _, _, _, _, .loc _ _, _ => .loc _ _
 | _ :: _, _, _, _, _, .dead, _ => .dead
theorem getBox_sm {m m' : List (Nat × Box)} (h : SmM m m') (b : Nat) : OptR (fun c c' : Box => SmL c.cs c'.cs) (getBox m b) (getBox m' b) := by
 induction h with
 | nil => exact .none
 | cons h1 _ ih =>
   simp only [getBox]
   split
   ·exact .some h1
   ·exact ih
theorem setBox_sm {m m' : List (Nat × Box)} (h : SmM m m') (b : Nat) {c c' : Box} (hc : SmL c.cs c'.cs) : SmM (setBox m b c) (setBox m' b c') := by
 induction h with
 | nil => exact .nil
 | cons h1 h2 ih =>
   simp only [setBox]
   split
   ·exact .cons hc h2
   ·exact .cons h1 ih
theorem look_sm {D D' : St} (h : SmS D D') (r : Root) (p : List Nat) : OptR Sm (look D r p) (look D' r p) := by
 cases r with
 | slot t => exact go_sm p (h.s t)
 | box b =>
   simp only [look]
   have hb := getBox_sm h.m b
   generalize getBox D.m b = x at hb
   generalize getBox D'.m b = x' at hb
   cases hb with
   | none => exact .none
   | some hc =>
     cases p with
     | nil => exact .none
     | cons o q =>
       simp only
       rcases hc.get o with ⟨h1, h2⟩ | ⟨y, y', h1, h2, h3⟩
       ·rw [h1, h2]; exact .none
       ·rw [h1, h2]; exact go_sm q h3
theorem setAt_sm {D D' : St} (h : SmS D D') (r : Root) (p : List Nat) {y y' : V} (hy : Sm y y') : SmS (setAt D r p y) (setAt D' r p y') := by
 cases r with
 | slot t =>
   refine ⟨fun i => ?_, h.m, h.nx⟩
   simp only [setAt]
   split
   ·exact goSet_sm p (h.s t) hy
   ·exact h.s i
 | box b =>
   simp only [setAt]
   have hb := getBox_sm h.m b
   generalize getBox D.m b = x at hb
   generalize getBox D'.m b = x' at hb
   cases hb with
   | none => exact h
   | some hc =>
     cases p with
     | nil => exact h
     | cons o q =>
       refine ⟨h.s, setBox_sm h.m b ?_, h.nx⟩
       rcases hc.get o with ⟨h1, h2⟩ | ⟨z, z', h1, h2, h3⟩
       ·simp only [h1, h2]; exact hc
       ·simp only [h1, h2]; exact hc.set (goSet_sm q h3 hy) o
mutual
theorem view_sm (r : Root) : ∀ {v v' : V} (p : List Nat), Sm v v' → Sm (view r p v) (view r p v')
 | _, _, p, .own h => .ref _ _
 | _, _, p, .agg h => .agg (viewL_sm r p 0 h)
 | _, _, p, .tup h => .tup (viewL_sm r p 0 h)
 | _, _, p, .fn h k => by
   simp only [view, noRowL_sm h, noRowL_sm k]
   split
   ·exact .fn h k
   ·exact .dead
 | _, _, p, .int _ _ => .int _ _
 | _, _, p, .bool _ => .bool _
 | _, _, p, .nilp => .nilp
 | _, _, p, .nilf => .nilf
 | _, _, p, .bptr _ _ => .bptr _ _
 | _, _, p, .ip h => .ip h
 | _, _, p, .im h => .im h
 | _, _, p, .ref _ _ => .ref _ _
 | _, _, p, .loc _ _ => .loc _ _
 | _, _, p, .dead => .dead
theorem viewL_sm (r : Root) : ∀ {l l' : List V} (p : List Nat) (i : Nat), SmL l l' → SmL (viewL r p i l) (viewL r p i l')
 | _, _, p, i, .nil => .nil
 | _, _, p, i, .cons h k => .cons (view_sm r _ h) (viewL_sm r p (i + 1) k)
end
mutual
theorem frz_sm (pm : Bool) : ∀ {v v' : V}, Sm v v' → Sm (frz pm v) (frz pm v')
 | _, _, .own h => .im (frzL_sm pm h)
 | _, _, .im h => .im (frzL_sm pm h)
 | _, _, .ip h => .ip (frzL_sm pm h)
 | _, _, .agg h => .agg (frzL_sm pm h)
 | _, _, .tup h => .tup (frzL_sm pm h)
 | _, _, .fn h k => .fn (frzL_sm pm h) (frzL_sm pm k)
 | _, _, .int _ _ => .int _ _
 | _, _, .bool _ => .bool _
 | _, _, .nilp => .nilp
 | _, _, .nilf => .nilf
 | _, _, .bptr _ _ => .bptr _ _
 | _, _, .ref _ _ => .ref _ _
 | _, _, .loc _ _ => .loc _ _
 | _, _, .dead => .dead
theorem frzL_sm (pm : Bool) : ∀ {l l' : List V}, SmL l l' → SmL (frzL pm l) (frzL pm l')
 | _, _, .nil => .nil
 | _, _, .cons h k => .cons (frz_sm pm h) (frzL_sm pm k)
end
mutual
theorem noBor_sm : ∀ {v v' : V}, Sm v v' → noBor v' = noBor v
 | _, _, .own h => by simp only [noBor, noBorL_sm h]
 | _, _, .im h => by simp only [noBor, noBorL_sm h]
 | _, _, .ip h => by simp only [noBor, noBorL_sm h]
 | _, _, .agg h => by simp only [noBor, noBorL_sm h]
 | _, _, .tup h => by simp only [noBor, noBorL_sm h]
 | _, _, .fn h k => by simp only [noBor, noBorL_sm h, noBorL_sm k]
 | _, _, .int _ _ | _, _, .bool _ | _, _, .nilp | _, _, .nilf | _, _, .bptr _ _ | _, _, .ref _ _ | _, _, .loc _ _ | _, _, .dead => rfl
theorem noBorL_sm : ∀ {l l' : List V}, SmL l l' → noBorL l' = noBorL l
 | _, _, .nil => rfl
 | _, _, .cons h k => by simp only [noBorL, noBor_sm h, noBorL_sm k]
end
mutual
theorem ptrs_sm : ∀ {v v' : V}, Sm v v' → ptrs v' = ptrs v
 | _, _, .own h => by simp only [ptrs, ptrsL_sm h]
 | _, _, .im h => by simp only [ptrs, ptrsL_sm h]
 | _, _, .ip h => by simp only [ptrs, ptrsL_sm h]
 | _, _, .agg h => by simp only [ptrs, ptrsL_sm h]
 | _, _, .tup h => by simp only [ptrs, ptrsL_sm h]
 | _, _, .fn h k => by simp only [ptrs, ptrsL_sm h, ptrsL_sm k]
 | _, _, .int _ _ | _, _, .bool _ | _, _, .nilp | _, _, .nilf | _, _, .bptr _ _ | _, _, .ref _ _ | _, _, .loc _ _ | _, _, .dead => rfl
theorem ptrsL_sm : ∀ {l l' : List V}, SmL l l' → ptrsL l' = ptrsL l
 | _, _, .nil => rfl
 | _, _, .cons h k => by simp only [ptrsL, ptrs_sm h, ptrsL_sm k]
end
mutual
theorem sub_sm (r : Root) (p : List Nat) {x x' : V} (hx : Sm x x') : ∀ {v v' : V}, Sm v v' → Sm (sub r p x v) (sub r p x' v')
 | _, _, .ref r' q => by
   simp only [sub]
   split
   ·exact hx
   ·exact .ref _ _
 | _, _, .agg h => .agg (subL_sm r p hx h)
 | _, _, .tup h => .tup (subL_sm r p hx h)
 | _, _, .fn h k => .fn (subL_sm r p hx h) (subL_sm r p hx k)
 | _, _, .own h => .own h
 | _, _, .im h => .im h
 | _, _, .ip h => .ip h
 | _, _, .int _ _ => .int _ _
 | _, _, .bool _ => .bool _
 | _, _, .nilp => .nilp
 | _, _, .nilf => .nilf
 | _, _, .bptr _ _ => .bptr _ _
 | _, _, .loc _ _ => .loc _ _
 | _, _, .dead => .dead
theorem subL_sm (r : Root) (p : List Nat) {x x' : V} (hx : Sm x x') : ∀ {l l' : List V}, SmL l l' → SmL (subL r p x l) (subL r p x' l')
 | _, _, .nil => .nil
 | _, _, .cons h k => .cons (sub_sm r p hx h) (subL_sm r p hx k)
end
mutual
theorem solid_sm : ∀ {v v' : V}, Sm v v' → solid v' = solid v
 | _, _, .fn h k => by simp only [solid, solidL_sm h, solidL_sm k]
 | _, _, .own _ | _, _, .im _ | _, _, .ip _ | _, _, .agg _ | _, _, .tup _ => rfl
 | _, _, .int _ _ | _, _, .bool _ | _, _, .nilp | _, _, .nilf | _, _, .bptr _ _ | _, _, .ref _ _ | _, _, .loc _ _ | _, _, .dead => rfl
theorem solidL_sm : ∀ {l l' : List V}, SmL l l' → solidL l' = solidL l
 | _, _, .nil => rfl
 | _, _, .cons h k => by simp only [solidL, solid_sm h, solidL_sm k]
end
theorem cellIn_sm {v v' : V} (h : Sm v v') : cellIn v' = cellIn v := by
 cases h with
 | own _ => rfl
 | fn h k => simp only [cellIn, solid, solidL_sm h, solidL_sm k]
 | _ => rfl
theorem all_sm {f : V → Bool} (hf : ∀ {v v'}, Sm v v' → f v' = f v) : ∀ {l l' : List V}, SmL l l' → l'.all f = l.all f
 | _, _, .nil => rfl
 | _, _, .cons h k => by simp only [List.all_cons, hf h, all_sm hf k]
theorem scalar_sm {v v' : V} (h : Sm v v') : v'.scalar = v.scalar := by cases h <;> rfl
theorem cells_sm {v v' : V} (h : Sm v v') : SmL v.cells v'.cells := by
 cases h with
 | agg h => exact h
 | own h => exact .cons (.own h) .nil
 | im h => exact .cons (.im h) .nil
 | ip h => exact .cons (.ip h) .nil
 | tup h => exact .cons (.tup h) .nil
 | fn h k => exact .cons (.fn h k) .nil
 | _ => exact SmL.refl _
theorem target_sm {v v' : V} (h : Sm v v') : target v' = target v := by cases h <;> rfl
theorem take_sm {D D' : St} (h : SmS D D') (r : Root) (p : List Nat) : OptR (PairR Sm SmS) (take D r p) (take D' r p) := by
 unfold take
 have hl := look_sm h r p
 generalize look D r p = x at hl
 generalize look D' r p = x' at hl
 cases hl with
 | none => exact .none
 | some hx => cases hx <;> first | exact .none | exact .some ⟨.own ‹_›, setAt_sm h r p .dead⟩
theorem takeF_sm {D D' : St} (h : SmS D D') (r : Root) (p : List Nat) : OptR (PairR Sm SmS) (takeF D r p) (takeF D' r p) := by
 unfold takeF
 have hl := look_sm h r p
 generalize look D r p = x at hl
 generalize look D' r p = x' at hl
 cases hl with
 | none => exact .none
 | some hx =>
   cases hx with
   | @own d d' k n cs cs' hc =>
     simp only [noBorL_sm hc]
     have hf : Sm (frz (noBorL cs) (.own d k n cs)) (frz (noBorL cs) (.own d' k n cs')) := frz_sm (noBorL cs) (Sm.own hc)
     have hS : SmS { D with s := fun i => sub r p (frz (noBorL cs) (.own d k n cs)) (D.s i) } { D' with s := fun i => sub r p (frz (noBorL cs) (.own d' k n cs')) (D'.s i) } := ⟨fun i => sub_sm r p hf (h.s i), h.m, h.nx⟩
     exact .some ⟨hf, setAt_sm hS r p hf⟩
   | _ => exact .none
theorem takeZ_sm {D D' : St} (h : SmS D D') (r : Root) (p : List Nat) : OptR (PairR Sm SmS) (takeZ D r p) (takeZ D' r p) := by
 have hF := takeF_sm h r p
 unfold takeZ
 have hl := look_sm h r p
 generalize look D r p = x at hl
 generalize look D' r p = x' at hl
 cases hl with
 | none => exact hF
 | some hx =>
   cases hx with
   | @own d d' k n cs cs' hc =>
     by_cases hz : k = 0 ∧ n = 0 ∧ cs = []
     ·obtain ⟨rfl, rfl, rfl⟩ := hz
      cases hc
      exact .some ⟨.own .nil, h⟩
     ·have e1 : ∀ (q : Option (V × St)), (match some (V.own d k n cs) with | some (.own d 0 0 []) => some (V.own (cpD d) 0 0 [], D) | _ => q) = q := fun q => by
       split
       ·rename_i he; cases he; exact absurd ⟨rfl, rfl, rfl⟩ hz
       ·rfl
      have hz' : ¬ (k = 0 ∧ n = 0 ∧ cs' = []) := fun ⟨h1, h2, h3⟩ => by
       subst h3; cases hc; exact hz ⟨h1, h2, rfl⟩
      have e2 : ∀ (q : Option (V × St)), (match some (V.own d' k n cs') with | some (.own d 0 0 []) => some (V.own (cpD d) 0 0 [], D') | _ => q) = q := fun q => by
       split
       ·rename_i he; cases he; exact absurd ⟨rfl, rfl, rfl⟩ hz'
       ·rfl
      show OptR _ (match some (V.own d k n cs) with | some (.own d 0 0 []) => some (V.own (cpD d) 0 0 [], D) | _ => takeF D r p) (match some (V.own d' k n cs') with | some (.own d 0 0 []) => some (V.own (cpD d) 0 0 [], D') | _ => takeF D' r p)
      rw [e1, e2]; exact hF
   | _ => exact hF
mutual
theorem settle_sm (fz : Bool) : ∀ {v v' : V} {D D' : St}, Sm v v' → SmS D D' → OptR (PairR Sm SmS) (settle fz v D) (settle fz v' D')
 | _, _, D, D', .ref r p, h => by
   simp only [settle]
   split
   ·exact takeZ_sm h r p
   ·exact take_sm h r p
 | _, _, D, D', .loc r p, h => .none
 | _, _, D, D', .agg hc, h => by
   simp only [settle]
   have := settleL_sm fz hc h
   generalize settleL fz _ D = x at this
   generalize settleL fz _ D' = x' at this
   cases this with
   | none => exact .none
   | some hp => exact .some ⟨.agg hp.1, hp.2⟩
 | _, _, D, D', .tup hc, h => by
   simp only [settle]
   have := settleL_sm fz hc h
   generalize settleL fz _ D = x at this
   generalize settleL fz _ D' = x' at this
   cases this with
   | none => exact .none
   | some hp => exact .some ⟨.tup hp.1, hp.2⟩
 | _, _, D, D', .fn h1 h2, h => by
   simp only [settle, solidL_sm h1, solidL_sm h2]
   split
   ·exact .some ⟨.fn h1 h2, h⟩
   ·exact .none
 | _, _, D, D', .own hc, h => .some ⟨.own hc, h⟩
 | _, _, D, D', .im hc, h => .some ⟨.im hc, h⟩
 | _, _, D, D', .ip hc, h => .some ⟨.ip hc, h⟩
 | _, _, D, D', .int _ _, h => .some ⟨.int _ _, h⟩
 | _, _, D, D', .bool _, h => .some ⟨.bool _, h⟩
 | _, _, D, D', .nilp, h => .some ⟨.nilp, h⟩
 | _, _, D, D', .nilf, h => .some ⟨.nilf, h⟩
 | _, _, D, D', .bptr _ _, h => .some ⟨.bptr _ _, h⟩
 | _, _, D, D', .dead, h => .some ⟨.dead, h⟩
theorem settleL_sm (fz : Bool) : ∀ {l l' : List V} {D D' : St}, SmL l l' → SmS D D' → OptR (PairR SmL SmS) (settleL fz l D) (settleL fz l' D')
 | _, _, D, D', .nil, h => .some ⟨.nil, h⟩
 | _, _, D, D', .cons hv hl, h => by
   simp only [settleL]
   have h1 := settle_sm fz hv h
   generalize settle fz _ D = x at h1
   generalize settle fz _ D' = x' at h1
   cases h1 with
   | none => exact .none
   | some hp =>
     have h2 := settleL_sm fz hl hp.2
     simp only
     generalize settleL fz _ _ = y at h2
     generalize settleL fz _ _ = y' at h2
     cases h2 with
     | none => exact .none
     | some hq => exact .some ⟨.cons hp.1 hq.1, hq.2⟩
end
theorem canStore_sm {D D' : St} (h : SmS D D') (r : Root) (p : List Nat) : canStore D' r p = canStore D r p := by
 unfold canStore
 have hl := look_sm h r p
 cases r with
 | slot t =>
   simp only
   generalize look D (.slot t) p = x at hl
   generalize look D' (.slot t) p = x' at hl
   cases hl with
   | none => rfl
   | some hx => cases hx <;> rfl
 | box b =>
   cases p with
   | nil => rfl
   | cons i p =>
     simp only
     generalize look D (.box b) (i :: p) = x at hl
     generalize look D' (.box b) (i :: p) = x' at hl
     cases hl with
     | none => rfl
     | some hx => cases hx <;> rfl
theorem storeAt_sm (r : Root) (p : List Nat) : ∀ {l l' : List V} (o : Nat) {D D' : St}, SmL l l' → SmS D D' → OptR SmS (storeAt D r p o l) (storeAt D' r p o l')
 | _, _, o, D, D', .nil, h => .some h
 | _, _, o, D, D', .cons hv hl, h => by
   simp only [storeAt]
   have h1 := look_sm h r (p ++ [o])
   generalize look D r (p ++ [o]) = x at h1
   generalize look D' r (p ++ [o]) = x' at h1
   cases h1 with
   | none => exact .none
   | some _ =>
     simp only [cellIn_sm hv, canStore_sm h, noRow_sm hv]
     split
     ·split
      ·exact storeAt_sm r p (o + 1) hl (setAt_sm h r _ hv)
      ·exact storeAt_sm r p (o + 1) hl (killAll_sm (setAt_sm h r _ hv) r _)
     ·exact .none
theorem loadAt_sm (r : Root) (p : List Nat) {D D' : St} (h : SmS D D') : ∀ (k o : Nat), OptR SmL (loadAt D r p o k) (loadAt D' r p o k)
 | 0, o => .some .nil
 | k + 1, o => by
   simp only [loadAt]
   have h1 := look_sm h r (p ++ [o])
   generalize look D r (p ++ [o]) = x at h1
   generalize look D' r (p ++ [o]) = x' at h1
   cases h1 with
   | none => exact .none
   | some hx =>
     simp only [canStore_sm h]
     split
     ·have h2 := loadAt_sm r p h k (o + 1)
      generalize loadAt D r p (o + 1) k = y at h2
      generalize loadAt D' r p (o + 1) k = y' at h2
      cases h2 with
      | none => exact .none
      | some hy => exact .some (.cons (view_sm r _ hx) hy)
     ·exact .none
theorem rs_sm {D D' : St} (h : SmS D D') {v v' : V} (hv : Sm v v') : OptR Sm (rs D v) (rs D' v') := by
 cases hv with
 | ref r p =>
   simp only [rs]
   have hl := look_sm h r p
   generalize look D r p = x at hl
   generalize look D' r p = x' at hl
   cases hl with
   | none => exact .none
   | some hx => cases hx <;> first | exact .none | exact .some (.own ‹_›)
 | own h => exact .some (.own h)
 | im h => exact .some (.im h)
 | ip h => exact .some (.ip h)
 | agg h => exact .some (.agg h)
 | tup h => exact .some (.tup h)
 | fn h k => exact .some (.fn h k)
 | _ => exact .some (Sm.refl _)
end Go.Abs
end
noncomputable section
namespace Go.Abs
open Go
variable {P : Program} {H : Hint}
theorem ev_sm {D D' : St} (h : SmS D D') (x : Operand) : OptR Sm (ev H D x) (ev H D' x) := by
 cases x with
 | tmp t => exact .some (view_sm _ _ (h.s t))
 | const v =>
   simp only [ev]
   cases ofVal v with
   | none => exact .none
   | some y => exact .some (Sm.refl y)
 | func f => exact .some (Sm.refl _)
 | global g =>
   simp only [ev]
   cases H.G g with
   | none => exact .none
   | some cs => exact .some (Sm.refl _)
theorem evL_sm {D D' : St} (h : SmS D D') : ∀ xs : List Operand, OptR SmL (evL H D xs) (evL H D' xs)
 | [] => .some .nil
 | x :: xs => by
   simp only [evL]
   have h1 := ev_sm (H := H) h x
   generalize ev H D x = y at h1
   generalize ev H D' x = y' at h1
   cases h1 with
   | none => exact .none
   | some hv =>
     have h2 := evL_sm h xs
     simp only
     generalize evL H D xs = z at h2
     generalize evL H D' xs = z' at h2
     cases h2 with
     | none => exact .none
     | some hl => exact .some (.cons hv hl)
theorem newAt_sm {D D' : St} (h : SmS D D') (g g' : Nat) {cs cs' : List V} (hc : SmL cs cs') : SmS (D.newAt g cs) (D'.newAt g' cs') := by
 unfold St.newAt
 rw [h.nx]
 have hS : SmS { D with m := D.m ++ [(D.nx, (⟨g, cs⟩ : Box))], nx := D.nx + 1 } { D' with m := D'.m ++ [(D.nx, (⟨g', cs'⟩ : Box))], nx := D.nx + 1 } := ⟨h.s, SmM.append h.m (.cons hc .nil), rfl⟩
 exact killAll_sm hS _ _
theorem okAddr_sm {D D' : St} (h : SmS D D') {v v' : V} (hv : Sm v v') : okAddr D' v' = okAddr D v := by
 cases hv with
 | loc r p =>
   simp only [okAddr]
   cases target (.loc r p) with
   | none => rfl
   | some x =>
     obtain ⟨r', q, j⟩ := x
     simp only [canStore_sm h]
     have hl := look_sm h r' (q ++ [j])
     generalize look D r' (q ++ [j]) = y at hl
     generalize look D' r' (q ++ [j]) = y' at hl
     cases hl <;> rfl
 | _ => rfl
theorem okPart_sm {D D' : St} (h : SmS D D') {v v' : V} (hv : Sm v v') : okPart D' v' = okPart D v := by
 cases hv with
 | loc r p => exact okAddr_sm h (.loc r p)
 | ref r p =>
   simp only [okPart]
   have hl := look_sm h r p
   generalize look D r p = y at hl
   generalize look D' r p = y' at hl
   cases hl with
   | none => rfl
   | some hx => cases hx <;> rfl
 | _ => rfl
end Go.Abs
end
noncomputable section
namespace Go.Abs
open Go
variable {P : Program} {H : Hint}
inductive SmP : List (Nat × V) → List (Nat × V) → Prop
 | nil : SmP [] []
 | cons {i : Nat} {v v' : V} {l l' : List (Nat × V)} (h : Sm v v') (k : SmP l l') : SmP ((i, v) :: l) ((i, v') :: l')
theorem evParts_sm {D D' : St} (h : SmS D D') : ∀ xs : List (Nat × Operand), OptR SmP (evParts H D xs) (evParts H D' xs)
 | [] => .some .nil
 | (i, x) :: xs => by
   simp only [evParts]
   have h1 := ev_sm (H := H) h x
   generalize ev H D x = y at h1
   generalize ev H D' x = y' at h1
   cases h1 with
   | none => exact .none
   | some hv =>
     simp only [okPart_sm h hv]
     split
     ·have h2 := evParts_sm h xs
      generalize evParts H D xs = z at h2
      generalize evParts H D' xs = z' at h2
      cases h2 with
      | none => exact .none
      | some hl => exact .some (.cons hv hl)
     ·exact .none
theorem settleP_sm (fz : Bool) : ∀ {l l' : List (Nat × V)} {D D' : St}, SmP l l' → SmS D D' → OptR (PairR SmP SmS) (settleP fz l D) (settleP fz l' D')
 | _, _, D, D', .nil, h => .some ⟨.nil, h⟩
 | _, _, D, D', .cons hv hl, h => by
   simp only [settleP]
   have h1 := settle_sm fz hv h
   generalize settle fz _ D = x at h1
   generalize settle fz _ D' = x' at h1
   cases h1 with
   | none => exact .none
   | some hp =>
     simp only [all_sm (f := cellIn) cellIn_sm (cells_sm hp.1)]
     split
     ·have h2 := settleP_sm fz hl hp.2
      generalize settleP fz _ _ = y at h2
      generalize settleP fz _ _ = y' at h2
      cases h2 with
      | none => exact .none
      | some hq => exact .some ⟨.cons hp.1 hq.1, hq.2⟩
     ·exact .none
theorem fillV_sm (place : Nat → Option (Nat × Nat)) : ∀ {ps ps' : List (Nat × V)} {zs zs' : List V}, SmP ps ps' → SmL zs zs' → OptR SmL (fillV place zs ps) (fillV place zs' ps')
 | _, _, zs, zs', .nil, hz => .some hz
 | _, _, zs, zs', .cons (i := i) hv hl, hz => by
   simp only [fillV]
   cases place i with
   | none => exact .none
   | some r =>
     obtain ⟨off, size⟩ := r
     have hc := cells_sm hv
     simp only [hc.length, hz.length]
     split
     ·exact fillV_sm place hl (((hz.take off).append hc).append (hz.drop (off + size)))
     ·exact .none
theorem partV_sm (t : TypeId) {cs cs' : List V} (h : SmL cs cs') (off : Nat) : OptR Sm (partV P t cs off) (partV P t cs' off) := by
 unfold partV
 simp only [h.length]
 split
 ·split
  ·exact .some (.agg ((h.drop off).take _))
  ·exact .none
 ·exact h.getR off
 ·exact .none
theorem moveV_sm (d : Nat) {v v' : V} (hv : Sm v v') : OptR Sm (moveV d v) (moveV d v') := by
 cases hv with
 | bptr b o => exact .some (Sm.refl _)
 | loc r p => simp only [moveV]; cases p.getLast? <;> first | exact .none | exact .some (Sm.refl _)
 | ip h =>
   simp only [moveV, h.length]
   split
   ·exact .some (.ip (h.drop d))
   ·exact .none
 | _ => exact .none
theorem takeC_sm {D D' : St} (h : SmS D D') {v v' : V} (hv : Sm v v') : OptR (PairR Sm SmS) (takeC D v) (takeC D' v') := by
 cases hv with
 | ref r p => exact takeF_sm h r p
 | own k => exact .some ⟨.own k, h⟩
 | im k => exact .some ⟨.im k, h⟩
 | ip k => exact .some ⟨.ip k, h⟩
 | agg k => exact .some ⟨.agg k, h⟩
 | tup k => exact .some ⟨.tup k, h⟩
 | fn k k' => exact .some ⟨.fn k k', h⟩
 | _ => exact .some ⟨Sm.refl _, h⟩
theorem evI_sm {D D' : St} (h : SmS D D') (x : Option Operand) : evI H D' x = evI H D x := by
 cases x with
 | none => rfl
 | some x =>
   simp only [evI]
   have h1 := ev_sm (H := H) h x
   generalize ev H D x = y at h1
   generalize ev H D' x = y' at h1
   cases h1 with
   | none => rfl
   | some hv => cases hv <;> rfl
theorem loadV_sm {D D' : St} (h : SmS D D') (t : TypeId) {v v' : V} (hv : Sm v v') : OptR Sm (loadV P D t v) (loadV P D' t v') := by
 have tgt : ∀ x : Option (Root × List Nat × Nat), OptR Sm (match x with
  | some (r, p, j) => match aggT P t, sizeT P t with
    | some true, some (k + 1) => match loadAt D r p j (k + 1) with | some l => some (V.agg l) | none => none
    | some false, _ => match loadAt D r p j 1 with | some (c :: _) => some c | _ => none
    | _, _ => none
  | none => none) (match x with
  | some (r, p, j) => match aggT P t, sizeT P t with
    | some true, some (k + 1) => match loadAt D' r p j (k + 1) with | some l => some (V.agg l) | none => none
    | some false, _ => match loadAt D' r p j 1 with | some (c :: _) => some c | _ => none
    | _, _ => none
  | none => none) := by
  intro x
  cases x with
  | none => exact .none
  | some x =>
    obtain ⟨r, p, j⟩ := x
    simp only
    split
    ·rename_i k _ _
     have h2 := loadAt_sm r p h (k + 1) j
     generalize loadAt D r p j (k + 1) = y at h2
     generalize loadAt D' r p j (k + 1) = y' at h2
     cases h2 with
     | none => exact .none
     | some hl => exact .some (.agg hl)
    ·have h2 := loadAt_sm r p h 1 j
     generalize loadAt D r p j 1 = y at h2
     generalize loadAt D' r p j 1 = y' at h2
     cases h2 with
     | none => exact .none
     | some hl =>
       cases hl with
       | nil => exact .none
       | cons hc _ => exact .some hc
    ·exact .none
 cases hv with
 | ip hc =>
   simp only [loadV, hc.length]
   split
   ·split
    ·exact .some (.agg (hc.take _))
    ·exact .none
   ·exact hc.getR 0
   ·exact .none
 | bptr b o => exact tgt (target (.bptr b o))
 | loc r p => exact tgt (target (.loc r p))
 | _ => exact .none
end Go.Abs
end
noncomputable section
namespace Go.Abs
open Go
variable {P : Program} {H : Hint}
theorem cutV_sm (sz : Nat) (l h m : Option Int) {v v' : V} (hv : Sm v v') : OptR Sm (cutV sz l h m v) (cutV sz l h m v') := by
 cases hv with
 | im hc =>
   simp only [cutV, hc.length]
   split
   ·split
    ·exact .some (.own .nil)
    ·exact .some (.im ((hc.drop _).take _))
   ·exact .none
 | _ => exact .none
theorem bring_sm (sz : Nat) {D D' : St} (h : SmS D D') {v v' : V} (hv : Sm v v') : OptR (fun a b : Nat × List V × St => a.1 = b.1 ∧ SmL a.2.1 b.2.1 ∧ SmS a.2.2 b.2.2) (bring sz v D) (bring sz v' D') := by
 cases hv with
 | im hc =>
   simp only [bring, hc.length, all_sm (f := cellIn) cellIn_sm hc]
   split
   ·exact .some ⟨rfl, hc, h⟩
   ·exact .none
 | ref r p =>
   simp only [bring]
   have hl := look_sm h r p
   generalize look D r p = x at hl
   generalize look D' r p = x' at hl
   cases hl with
   | none => exact .none
   | some hx =>
     cases hx with
     | own hc =>
       simp only [hc.length, all_sm (f := cellIn) cellIn_sm hc, noRowL_sm hc]
       split
       ·split
        ·exact .some ⟨rfl, hc, h⟩
        ·exact .some ⟨rfl, hc, setAt_sm h r p .dead⟩
       ·exact .none
     | _ => exact .none
 | _ => exact .none
theorem intV_sm {a a' : Option V} (h : OptR Sm a a') : intV a' = intV a := by
 cases h with
 | none => rfl
 | some h => cases h <;> rfl
theorem eqFs_sm : ∀ (fs : List Field) {xs xs' ys ys' : List V}, SmL xs xs' → SmL ys ys' → eqFs P fs xs' ys' = eqFs P fs xs ys
 | [], _, _, _, _, _, _ => rfl
 | f :: fs, xs, xs', ys, ys', hx, hy => by
   unfold eqFs
   rw [intV_sm (hx.getR f.offset), intV_sm (hy.getR f.offset), eqFs_sm fs hx hy]
theorem eqStruct_sm (t : TypeId) {xs xs' ys ys' : List V} (hx : SmL xs xs') (hy : SmL ys ys') : eqStruct P t xs' ys' = eqStruct P t xs ys := by
 unfold eqStruct
 split
 ·rw [eqFs_sm _ hx hy]
 ·rfl
theorem bin_sm {D D' : St} (h : SmS D D') (op : BinOp) (t : TypeId) (nil : Bool) {x x' y y' : V} (hx : Sm x x') (hy : Sm y y') : bin P D' op t nil x' y' = bin P D op t nil x y := by
 have tail : (if nil then (match P.underlying t, rs D' x' with
  | some (.slice _), some (.im _ _ _ (_ + 1) _) => ne0 op
  | some (.slice _), some (.own _ _ (_ + 1) _) => ne0 op
  | _, _ => none) else none) = (if nil then (match P.underlying t, rs D x with
  | some (.slice _), some (.im _ _ _ (_ + 1) _) => ne0 op
  | some (.slice _), some (.own _ _ (_ + 1) _) => ne0 op
  | _, _ => none) else none : Option V) := by
  have hr := rs_sm h hx
  generalize rs D x = z at hr
  generalize rs D' x' = z' at hr
  cases nil with
  | false => rfl
  | true =>
    simp only [if_true]
    cases hr with
    | none => rfl
    | some hz =>
      cases hu : P.underlying t with
      | none => cases hz <;> rfl
      | some d =>
        cases d <;> cases hz <;> first
         | rfl
         | (rename_i n _ _ _; cases n <;> rfl)
 cases hx <;> cases hy <;> first
  | rfl
  | exact tail
  | (simp only [bin]; rw [eqStruct_sm t (by assumption) (by assumption)])
end Go.Abs
end
noncomputable section
namespace Go.Abs
open Go
variable {P : Program} {H : Hint}
theorem appendV_sm (t : TypeId) {D D' : St} (h : SmS D D') {v v' x x' : V} (hv : Sm v v') (hx : Sm x x') : OptR (PairR Sm SmS) (appendV P t v x D) (appendV P t v' x' D') := by
 unfold appendV
 split
 case h_2 => exact .none
 split
 case h_2 => exact .none
 rename_i sz by_ z _ _ _
 split
 ·exact .none
 have hb := bring_sm sz h hx
 generalize bring sz x D = q at hb
 generalize bring sz x' D' = q' at hb
 cases hb with
 | none => exact .none
 | @some q q' hq =>
   obtain ⟨n, cs, D0⟩ := q
   obtain ⟨n', cs', D0'⟩ := q'
   obtain ⟨e, hc, hS⟩ := hq
   simp only at e hc hS
   subst e
   simp only
   cases hv with
   | ref r p =>
     simp only
     have ht := take_sm hS r p
     generalize take D0 r p = u at ht
     generalize take D0' r p = u' at ht
     cases ht with
     | none => exact .none
     | @some u u' hp =>
       obtain ⟨y, D1⟩ := u
       obtain ⟨y', D1'⟩ := u'
       obtain ⟨h1, h2⟩ := hp
       simp only at h1 h2
       cases h1 with
       | own hcs =>
         simp only [hcs.length]
         split
         ·exact .some ⟨.own (hcs.append hc), h2⟩
         ·exact .none
       | _ => exact .none
   | @own d d' k n0 l l' hl =>
     cases n0 with
     | zero =>
       cases hl with
       | nil =>
         simp only
         split
         ·exact .some ⟨.own hc, hS⟩
         ·exact .none
       | cons _ _ => exact .none
     | succ n0 => exact .none
   | _ => exact .none
end Go.Abs
end
noncomputable section
namespace Go.Abs
open Go
variable {P : Program} {H : Hint}
theorem copyV_sm (t : TypeId) {D D' : St} (h : SmS D D') {v v' x x' : V} (hv : Sm v v') (hx : Sm x x') : OptR (PairR Sm SmS) (copyV P t v x D) (copyV P t v' x' D') := by
 unfold copyV
 split
 case h_2 => exact .none
 split
 case h_2 => exact .none
 rename_i sz _
 have hb := bring_sm sz h hx
 generalize bring sz x D = q at hb
 generalize bring sz x' D' = q' at hb
 cases hb with
 | none => exact .none
 | @some q q' hq =>
   obtain ⟨n, cs, D0⟩ := q
   obtain ⟨n', cs', D0'⟩ := q'
   obtain ⟨e, hc, hS⟩ := hq
   simp only at e hc hS
   subst e
   simp only
   cases hv with
   | ref r p =>
     simp only
     have hl := look_sm hS r p
     generalize look D0 r p = u at hl
     generalize look D0' r p = u' at hl
     cases hl with
     | none => exact .none
     | some hu =>
       cases hu with
       | @own d d' k n1 l l' hl =>
         simp only [all_sm (f := V.scalar) scalar_sm hc]
         split
         ·have hs := storeAt_sm r p 0 (hc.take (min n n1 * sz)) hS
          generalize storeAt D0 r p 0 (cs.take (min n n1 * sz)) = z at hs
          generalize storeAt D0' r p 0 (cs'.take (min n n1 * sz)) = z' at hs
          cases hs with
          | none => exact .none
          | some hz => exact .some ⟨.int _ _, hz⟩
         ·exact .none
       | _ => exact .none
   | _ => exact .none
theorem lenV_sm (t : TypeId) {D D' : St} (h : SmS D D') {v v' : V} (hv : Sm v v') : lenV P t v' D' = lenV P t v D := by
 unfold lenV
 have hr := rs_sm h hv
 generalize rs D v = z at hr
 generalize rs D' v' = z' at hr
 split <;> first
  | rfl
  | (cases hr with
     | none => rfl
     | some hz => cases hz <;> rfl)
end Go.Abs
end
noncomputable section
namespace Go.Abs
open Go
variable {P : Program} {H : Hint}
theorem minmaxA_sm (isMax : Bool) (k : IntKind) : ∀ {l l' : List V} (x : Int), SmL l l' → minmaxA isMax k x l' = minmaxA isMax k x l
 | _, _, x, .nil => rfl
 | _, _, x, .cons hv hl => by
   cases hv with
   | int k' b =>
     simp only [minmaxA]
     split
     ·exact minmaxA_sm isMax k _ hl
     ·rfl
   | _ => rfl
theorem minmax_sm (isMax : Bool) {l l' : List V} (h : SmL l l') : minmax isMax l' = minmax isMax l := by
 cases h with
 | nil => rfl
 | cons hv hl =>
   cases hv with
   | int k x => exact minmaxA_sm isMax k x hl
   | _ => rfl
theorem keep_sm {D D' : St} (h : SmS D D') (r : Option V) : OptR (PairR Sm SmS) (match r with | some y => some (y, D) | none => none) (match r with | some y => some (y, D') | none => none) := by
 cases r with
 | none => exact .none
 | some y => exact .some ⟨Sm.refl y, h⟩
theorem doBuiltin_sm (b : Builtin) (ts : List TypeId) {D D' : St} (h : SmS D D') {vs vs' : List V} (hv : SmL vs vs') : OptR (PairR Sm SmS) (doBuiltin P b ts vs D) (doBuiltin P b ts vs' D') := by
 have hmax := minmax_sm true hv
 have hmin := minmax_sm false hv
 cases b
 case max => simp only [doBuiltin, hmax]; exact keep_sm h _
 case min => simp only [doBuiltin, hmin]; exact keep_sm h _
 case append =>
  rcases ts with _ | ⟨t, _ | ⟨t', _ | _⟩⟩ <;> try exact .none
  rcases hv with _ | ⟨hv, _ | ⟨hx, _ | _⟩⟩ <;> try exact .none
  simp only [doBuiltin]
  split
  ·exact appendV_sm t h hv hx
  ·exact .none
 case copy =>
  rcases ts with _ | ⟨t, _ | ⟨t', _ | _⟩⟩ <;> try exact .none
  rcases hv with _ | ⟨hv, _ | ⟨hx, _ | _⟩⟩ <;> try exact .none
  exact copyV_sm t h hv hx
 case len =>
  rcases ts with _ | ⟨t, _ | _⟩ <;> try exact .none
  rcases hv with _ | ⟨hv, _ | _⟩ <;> try exact .none
  simp only [doBuiltin, lenV_sm t h hv]; exact keep_sm h _
 all_goals exact .none
end Go.Abs
end
noncomputable section
namespace Go.Abs
open Go
variable {P : Program} {H : Hint}
mutual
theorem lend_sm (md : Nat) : ∀ {v v' : V} {D D' : St}, Sm v v' → SmS D D' → OptR (PairR Sm SmS) (lend md v D) (lend md v' D')
 | _, _, D, D', .ref r p, h => by
   simp only [lend]
   split
   ·have hl := look_sm h r p
    generalize look D r p = x at hl
    generalize look D' r p = x' at hl
    cases hl with
    | none => exact .none
    | some hx =>
      cases hx with
      | own hc => exact .some ⟨frz_sm false (.own hc), h⟩
      | _ => exact .none
   ·have ht := takeF_sm h r p
    generalize takeF D r p = x at ht
    generalize takeF D' r p = x' at ht
    cases ht with
    | none => exact .none
    | some hp =>
      simp only [noBor_sm hp.1]
      split
      ·exact .some ⟨frz_sm false hp.1, hp.2⟩
      ·split
       ·exact .some hp
       ·exact .none
 | _, _, D, D', .loc r p, h => .none
 | _, _, D, D', .own hc, h => by
   simp only [lend]
   split
   ·exact .some ⟨frz_sm _ (.own hc), h⟩
   ·exact .none
 | _, _, D, D', .agg hc, h => by
   simp only [lend]
   have := lendL_sm md hc h
   generalize lendL md _ D = x at this
   generalize lendL md _ D' = x' at this
   cases this with
   | none => exact .none
   | some hp => exact .some ⟨.agg hp.1, hp.2⟩
 | _, _, D, D', .tup hc, h => by
   simp only [lend]
   have := lendL_sm md hc h
   generalize lendL md _ D = x at this
   generalize lendL md _ D' = x' at this
   cases this with
   | none => exact .none
   | some hp => exact .some ⟨.tup hp.1, hp.2⟩
 | _, _, D, D', .fn h1 h2, h => by
   simp only [lend]
   have := lendL_sm md h1 h
   generalize lendL md _ D = x at this
   generalize lendL md _ D' = x' at this
   cases this with
   | none => exact .none
   | some hp =>
     have h3 := lendL_sm md h2 hp.2
     simp only
     generalize lendL md _ _ = y at h3
     generalize lendL md _ _ = y' at h3
     cases h3 with
     | none => exact .none
     | some hq => exact .some ⟨.fn hp.1 hq.1, hq.2⟩
 | _, _, D, D', .im (pm := pm) (cs := cs) hc, h => by
   simp only [lend, noBor, noBorL_sm hc]
   by_cases hm : md = 2
   ·rw [if_pos hm, if_pos hm]
    by_cases hb : (pm && noBorL cs) = true
    ·simp only [hb, ↓reduceIte]; exact .some ⟨.im hc, h⟩
    ·simp only [hb, Bool.false_eq_true, ↓reduceIte]; exact .none
   ·rw [if_neg hm, if_neg hm]; exact .some ⟨frz_sm false (.im hc), h⟩
 | _, _, D, D', .ip (pm := pm) (cs := cs) hc, h => by
   simp only [lend, noBor, noBorL_sm hc]
   by_cases hm : md = 2
   ·rw [if_pos hm, if_pos hm]
    by_cases hb : (pm && noBorL cs) = true
    ·simp only [hb, ↓reduceIte]; exact .some ⟨.ip hc, h⟩
    ·simp only [hb, Bool.false_eq_true, ↓reduceIte]; exact .none
   ·rw [if_neg hm, if_neg hm]; exact .some ⟨frz_sm false (.ip hc), h⟩
 | _, _, D, D', .int _ _, h => by simp only [lend]; split <;> exact .some ⟨.int _ _, h⟩
 | _, _, D, D', .bool _, h => by simp only [lend]; split <;> exact .some ⟨.bool _, h⟩
 | _, _, D, D', .nilp, h => by simp only [lend]; split <;> exact .some ⟨.nilp, h⟩
 | _, _, D, D', .nilf, h => by simp only [lend]; split <;> exact .some ⟨.nilf, h⟩
 | _, _, D, D', .bptr _ _, h => by simp only [lend]; split <;> exact .some ⟨.bptr _ _, h⟩
 | _, _, D, D', .dead, h => by simp only [lend]; split <;> exact .some ⟨.dead, h⟩
theorem lendL_sm (md : Nat) : ∀ {l l' : List V} {D D' : St}, SmL l l' → SmS D D' → OptR (PairR SmL SmS) (lendL md l D) (lendL md l' D')
 | _, _, D, D', .nil, h => .some ⟨.nil, h⟩
 | _, _, D, D', .cons hv hl, h => by
   simp only [lendL]
   have h1 := lend_sm md hv h
   generalize lend md _ D = x at h1
   generalize lend md _ D' = x' at h1
   cases h1 with
   | none => exact .none
   | some hp =>
     have h2 := lendL_sm md hl hp.2
     simp only
     generalize lendL md _ _ = y at h2
     generalize lendL md _ _ = y' at h2
     cases h2 with
     | none => exact .none
     | some hq => exact .some ⟨.cons hp.1 hq.1, hq.2⟩
end
end Go.Abs
end
noncomputable section
namespace Go.Abs
open Go
variable {P : Program} {H : Hint}
theorem lendArgs_sm : ∀ (md : List Nat) {l l' : List V} {D D' : St}, SmL l l' → SmS D D' → OptR (PairR SmL SmS) (lendArgs md l D) (lendArgs md l' D')
 | md, _, _, D, D', .nil, h => .some ⟨.nil, h⟩
 | md, _, _, D, D', .cons hv hl, h => by
   simp only [lendArgs]
   have h1 := lend_sm (md.headD 1) hv h
   generalize lend (md.headD 1) _ D = x at h1
   generalize lend (md.headD 1) _ D' = x' at h1
   cases h1 with
   | none => exact .none
   | some hp =>
     have h2 := lendArgs_sm md.tail hl hp.2
     simp only
     generalize lendArgs md.tail _ _ = y at h2
     generalize lendArgs md.tail _ _ = y' at h2
     cases h2 with
     | none => exact .none
     | some hq => exact .some ⟨.cons hp.1 hq.1, hq.2⟩
mutual
theorem hasRef_sm : ∀ {v v' : V}, Sm v v' → hasRef v' = hasRef v
 | _, _, .agg hc => hasRefL_sm hc
 | _, _, .tup hc => hasRefL_sm hc
 | _, _, .fn h1 h2 => by simp only [hasRef, hasRefL_sm h1, hasRefL_sm h2]
 | _, _, .own _ | _, _, .im _ | _, _, .ip _ => rfl
 | _, _, .int _ _ | _, _, .bool _ | _, _, .nilp | _, _, .nilf | _, _, .bptr _ _ | _, _, .ref _ _ | _, _, .loc _ _ | _, _, .dead => rfl
theorem hasRefL_sm : ∀ {l l' : List V}, SmL l l' → hasRefL l' = hasRefL l
 | _, _, .nil => rfl
 | _, _, .cons hv hl => by simp only [hasRefL, hasRef_sm hv, hasRefL_sm hl]
end
theorem lendsB_sm : ∀ (md : List Nat) {l l' : List V}, SmL l l' → lendsB md l' = lendsB md l
 | md, _, _, .nil => rfl
 | md, _, _, .cons hv hl => by simp only [lendsB, hasRef_sm hv, lendsB_sm md.tail hl]
theorem lendsS_sm : ∀ (md : List Nat) {l l' : List V}, SmL l l' → lendsS md l' = lendsS md l
 | _, _, _, .nil => rfl
 | md, _, _, .cons hv hl => by
   simp only [lendsS, lendsS_sm md.tail hl]
   cases hv with
   | ref r p => rfl
   | agg h => simp only [hasRef_sm (.agg h)]
   | tup h => simp only [hasRef_sm (.tup h)]
   | fn h k => simp only [hasRef_sm (.fn h k)]
   | _ => rfl
theorem reach_sm {m m' : List (Nat × Box)} (h : SmM m m') : ∀ (k : Nat) (ids : List Nat), reach m' k ids = reach m k ids
 | 0, ids => rfl
 | k + 1, ids => by
   have e : ∀ b, (match getBox m' b with | some c => ptrsL c.cs | none => []) = (match getBox m b with | some c => ptrsL c.cs | none => [] : List Nat) := by
    intro b
    have hb := getBox_sm h b
    generalize getBox m b = x at hb
    generalize getBox m' b = x' at hb
    cases hb with
    | none => rfl
    | some hc => exact ptrsL_sm hc
   have key : ∀ F F' : Nat → List Nat, F' = F → (if ((ids.flatMap F').filter fun b => !ids.contains b).isEmpty then ids else reach m' k (ids ++ ((ids.flatMap F').filter fun b => !ids.contains b).eraseDups)) =
    (if ((ids.flatMap F).filter fun b => !ids.contains b).isEmpty then ids else reach m k (ids ++ ((ids.flatMap F).filter fun b => !ids.contains b).eraseDups)) := by
    intro F F' hF
    subst hF
    rw [reach_sm h k]
   exact key _ _ (funext e)
mutual
theorem killB_sm (ids : List Nat) (nx : Nat) : ∀ {v v' : V}, Sm v v' → Sm (killB ids nx v) (killB ids nx v')
 | _, _, .ref r p => Sm.refl _
 | _, _, .loc r p => Sm.refl _
 | _, _, .agg hc => .agg (killBL_sm ids nx hc)
 | _, _, .tup hc => .tup (killBL_sm ids nx hc)
 | _, _, .fn h1 h2 => .fn (killBL_sm ids nx h1) (killBL_sm ids nx h2)
 | _, _, .own h => .own h
 | _, _, .im h => .im h
 | _, _, .ip h => .ip h
 | _, _, .int _ _ => .int _ _
 | _, _, .bool _ => .bool _
 | _, _, .nilp => .nilp
 | _, _, .nilf => .nilf
 | _, _, .bptr _ _ => .bptr _ _
 | _, _, .dead => .dead
theorem killBL_sm (ids : List Nat) (nx : Nat) : ∀ {l l' : List V}, SmL l l' → SmL (killBL ids nx l) (killBL ids nx l')
 | _, _, .nil => .nil
 | _, _, .cons h k => .cons (killB_sm ids nx h) (killBL_sm ids nx k)
end
end Go.Abs
end
noncomputable section
namespace Go.Abs
open Go
variable {P : Program} {H : Hint}
def XSm (H : Hint) : Prop := ∀ (f : Nat) {as as' : List V}, SmL as as' → OptR Sm (H.X f as) (H.X f as')
def ResR (a b : V × List (Nat × Box) × Nat) : Prop := Sm a.1 b.1 ∧ SmM a.2.1 b.2.1 ∧ b.2.2 = a.2.2
def CSm (C : Callee) : Prop := ∀ (f : Nat) {as as' : List V} {m m' : List (Nat × Box)} (nx : Nat), SmL as as' → SmM m m' → OptR ResR (C f as m nx) (C f as' m' nx)
theorem SmM.filter {m m' : List (Nat × Box)} (h : SmM m m') (f : Nat → Bool) : SmM (m.filter fun e => f e.1) (m'.filter fun e => f e.1) := by
 induction h with
 | nil => exact .nil
 | @cons i c c' m m' h1 h2 ih =>
   by_cases hf : f i = true
   ·simp only [List.filter_cons, hf, if_true]; exact .cons h1 ih
   ·simp only [List.filter_cons, hf, if_false, Bool.false_eq_true]; exact ih
theorem allFst_sm {m m' : List (Nat × Box)} (h : SmM m m') (f : Nat → Bool) : (m'.all fun e => f e.1) = (m.all fun e => f e.1) := by
 induction h with
 | nil => rfl
 | cons h1 _ ih => simp only [List.all_cons, ih]
theorem allBor_sm {m m' : List (Nat × Box)} (h : SmM m m') : (m'.all fun e => noBorL e.2.cs) = (m.all fun e => noBorL e.2.cs) := by
 induction h with
 | nil => rfl
 | cons h1 _ ih => simp only [List.all_cons, noBorL_sm h1, ih]
theorem SmM.length {m m' : List (Nat × Box)} (h : SmM m m') : m'.length = m.length := by
 induction h with
 | nil => rfl
 | cons _ _ ih => simp [ih]
theorem doCall_sm {C : Callee} (hX : XSm H) (hC : CSm C) (f : Nat) (dst : Option Nat) {vs vs' : List V} {D D' : St} (hv : SmL vs vs') (h : SmS D D') : OptR SmS (doCall H C f vs D dst) (doCall H C f vs' D' dst) := by
 unfold doCall
 have h1 := lendArgs_sm (H.sg f) hv h
 generalize lendArgs (H.sg f) vs D = x at h1
 generalize lendArgs (H.sg f) vs' D' = x' at h1
 cases h1 with
 | none => exact .none
 | @some x x' hp =>
   obtain ⟨as, D1⟩ := x
   obtain ⟨as', D1'⟩ := x'
   obtain ⟨ha, hS⟩ := hp
   simp only at ha hS ⊢
   have h2 := hX f ha
   generalize H.X f as = y at h2
   generalize H.X f as' = y' at h2
   cases h2 with
   | some hr =>
     simp only [lendsB_sm (H.sg f) hv, noBor_sm hr]
     split
     ·exact .none
     ·exact .some (lay_sm hS hr dst)
   | none =>
     simp only [lendsB_sm (H.sg f) hv, lendsS_sm (H.sg f) hv, ptrsL_sm ha, hS.m.length, reach_sm hS.m, hS.nx]
     split
     ·exact .none
     ·have h3 := hC f D1.nx ha (hS.m.filter fun i => (reach D1.m D1.m.length (ptrsL as).eraseDups).contains i)
      generalize C f as (D1.m.filter fun e => (reach D1.m D1.m.length (ptrsL as).eraseDups).contains e.1) D1.nx = z at h3
      generalize C f as' (D1'.m.filter fun e => (reach D1.m D1.m.length (ptrsL as).eraseDups).contains e.1) D1.nx = z' at h3
      cases h3 with
      | none => exact .none
      | @some z z' hz =>
        obtain ⟨r, m2, nx2⟩ := z
        obtain ⟨r', m2', nx2'⟩ := z'
        obtain ⟨hr, hm, hn⟩ := hz
        simp only at hr hm hn
        subst hn
        simp only [noBor_sm hr, allBor_sm hm]
        split
        ·exact .none
        ·split
         ·exact .some (lay_sm hS hr dst)
         ·rw [allFst_sm hm (fun i => (reach D1.m D1.m.length (ptrsL as).eraseDups).contains i || decide (D1.nx ≤ i))]
          split
          ·generalize reach D1.m D1.m.length (ptrsL as).eraseDups = ids
           have hS' : SmS (St.mk (fun i => killB ids D1.nx (D1.s i)) (othersM D1.m ids ++ m2) nx2') (St.mk (fun i => killB ids D1.nx (D1'.s i)) (othersM D1'.m ids ++ m2') nx2') :=
            ⟨fun i => killB_sm ids D1.nx (hS.s i), SmM.append (hS.m.filter fun i => !ids.contains i) hm, rfl⟩
           exact .some (lay_sm hS' hr dst)
          ·exact .none
end Go.Abs
end
noncomputable section
namespace Go.Abs
open Go
variable {P : Program} {H : Hint}
theorem un_sm (op : UnOp) {v v' : V} (h : Sm v v') : un op v' = un op v := by cases op <;> cases h <;> rfl
section
variable {C : Callee} {fz : Bool} {o : Oper} {D D' : St} (hX : XSm H) (hC : CSm C) (h : SmS D D')
include h
theorem sm_move {x : Operand} (ho : o.op = .move x) : OptR SmS (evOp P H C fz o D) (evOp P H C fz o D') := by
 have E : ∀ x, OptR Sm (ev H D x) (ev H D' x) := fun x => ev_sm h x
 unfold evOp
 simp only [ho]
 have h1 := E x
 generalize ev H D x = y1 at h1
 generalize ev H D' x = y1' at h1
 cases h1 with
 | none => exact .none
 | some hv =>
   exact .some (lay_sm h hv o.dst)
theorem sm_assign {x : Operand} (ho : o.op = .assign x) : OptR SmS (evOp P H C fz o D) (evOp P H C fz o D') := by
 have E : ∀ x, OptR Sm (ev H D x) (ev H D' x) := fun x => ev_sm h x
 unfold evOp
 simp only [ho]
 have h1 := E x
 generalize ev H D x = y1 at h1
 generalize ev H D' x = y1' at h1
 cases h1 with
 | none => exact .none
 | some hv =>
   have k := settle_sm fz hv h
   simp only
   generalize settle fz _ D = z at k
   generalize settle fz _ D' = z' at k
   cases k with
   | none => exact .none
   | some hp => exact .some (lay_sm hp.2 hp.1 o.dst)
theorem sm_load {t : TypeId} {x : Operand} (ho : o.op = .load t x) : OptR SmS (evOp P H C fz o D) (evOp P H C fz o D') := by
 have E : ∀ x, OptR Sm (ev H D x) (ev H D' x) := fun x => ev_sm h x
 unfold evOp
 simp only [ho]
 have h1 := E x
 generalize ev H D x = y1 at h1
 generalize ev H D' x = y1' at h1
 cases h1 with
 | none => exact .none
 | some hv =>
   have k := loadV_sm (P := P) h t hv
   simp only
   generalize loadV P D t _ = z at k
   generalize loadV P D' t _ = z' at k
   cases k with
   | none => exact .none
   | some hp => exact .some (lay_sm h hp o.dst)
theorem sm_alloc {t : TypeId} (ho : o.op = .alloc t) : OptR SmS (evOp P H C fz o D) (evOp P H C fz o D') := by
 have E : ∀ x, OptR Sm (ev H D x) (ev H D' x) := fun x => ev_sm h x
 unfold evOp
 simp only [ho]
 split
 case h_2 => exact .none
 split
 ·exact .none
 ·refine .some (lay_sm (newAt_sm h 0 0 (SmL.refl _)) ?_ o.dst)
  rw [h.nx]; exact Sm.refl _
theorem sm_box {t : TypeId} {x : Operand} (ho : o.op = .box t x) : OptR SmS (evOp P H C fz o D) (evOp P H C fz o D') := by
 have E : ∀ x, OptR Sm (ev H D x) (ev H D' x) := fun x => ev_sm h x
 unfold evOp
 simp only [ho]
 have h1 := E x
 generalize ev H D x = y1 at h1
 generalize ev H D' x = y1' at h1
 cases h1 with
 | none => exact .none
 | some hv =>
   have k := settle_sm fz hv h
   simp only
   generalize settle fz _ D = z at k
   generalize settle fz _ D' = z' at k
   cases k with
   | none => exact .none
   | @some z z' hp =>
     obtain ⟨y, D1⟩ := z
     obtain ⟨y', D1'⟩ := z'
     obtain ⟨hy, hS⟩ := hp
     simp only at hy hS ⊢
     have hc := cells_sm hy
     have e1 : (y'.cells ≠ []) ↔ (y.cells ≠ []) := by rw [← List.length_pos_iff, ← List.length_pos_iff, hc.length]
     simp only [hc.length, all_sm (f := cellIn) cellIn_sm hc, e1]
     split
     ·refine .some (lay_sm (newAt_sm hS 0 0 hc) ?_ o.dst)
      rw [hS.nx]; exact Sm.refl _
     ·exact .none
theorem sm_unOp {op : UnOp} {t : TypeId} {x : Operand} (ho : o.op = .unOp op t x) : OptR SmS (evOp P H C fz o D) (evOp P H C fz o D') := by
 have E : ∀ x, OptR Sm (ev H D x) (ev H D' x) := fun x => ev_sm h x
 unfold evOp
 simp only [ho]
 have h1 := E x
 generalize ev H D x = y1 at h1
 generalize ev H D' x = y1' at h1
 cases h1 with
 | none => exact .none
 | some hv =>
   simp only [un_sm op hv]
   split
   ·exact .some (lay_sm h (Sm.refl _) o.dst)
   ·exact .none
theorem sm_binOp {op : BinOp} {t t2 : TypeId} {x y : Operand} (ho : o.op = .binOp op t x y t2) : OptR SmS (evOp P H C fz o D) (evOp P H C fz o D') := by
 have E : ∀ x, OptR Sm (ev H D x) (ev H D' x) := fun x => ev_sm h x
 unfold evOp
 simp only [ho]
 have h1 := E x
 generalize ev H D x = y1 at h1
 generalize ev H D' x = y1' at h1
 cases h1 with
 | none => exact .none
 | some hv =>
   have h2 := E y
   generalize ev H D y = y2 at h2
   generalize ev H D' y = y2' at h2
   cases h2 with
   | none => exact .none
   | some hw =>
     simp only [bin_sm (P := P) h op t (isNil y) hv hw]
     split
     ·exact .some (lay_sm h (Sm.refl _) o.dst)
     ·exact .none
theorem sm_convert {s t : TypeId} {x : Operand} (ho : o.op = .convert s t x) : OptR SmS (evOp P H C fz o D) (evOp P H C fz o D') := by
 have E : ∀ x, OptR Sm (ev H D x) (ev H D' x) := fun x => ev_sm h x
 unfold evOp
 simp only [ho]
 have h1 := E x
 generalize ev H D x = y1 at h1
 generalize ev H D' x = y1' at h1
 cases h1 with
 | none => exact .none
 | some hv =>
   cases hv with
   | int k n =>
     split
     ·exact .some (lay_sm h (Sm.refl _) o.dst)
     ·exact .none
   | _ => exact .none
theorem sm_extract {x : Operand} {i : Nat} (ho : o.op = .extract x i) : OptR SmS (evOp P H C fz o D) (evOp P H C fz o D') := by
 have E : ∀ x, OptR Sm (ev H D x) (ev H D' x) := fun x => ev_sm h x
 unfold evOp
 simp only [ho]
 have h1 := E x
 generalize ev H D x = y1 at h1
 generalize ev H D' x = y1' at h1
 cases h1 with
 | none => exact .none
 | some hv =>
   cases hv with
   | tup hl =>
     simp only
     rcases hl.get i with ⟨e1, e2⟩ | ⟨z, z', e1, e2, e3⟩
     ·rw [e1, e2]; exact .none
     ·rw [e1, e2]; exact .some (lay_sm h e3 o.dst)
   | _ => exact .none
theorem sm_nilCheck {x : Operand} (ho : o.op = .nilCheck x) : OptR SmS (evOp P H C fz o D) (evOp P H C fz o D') := by
 have E : ∀ x, OptR Sm (ev H D x) (ev H D' x) := fun x => ev_sm h x
 unfold evOp
 simp only [ho]
 have h1 := E x
 generalize ev H D x = y1 at h1
 generalize ev H D' x = y1' at h1
 cases h1 with
 | none => exact .none
 | some hv =>
   cases hv with
   | bptr b q => exact .some (lay_sm h (Sm.refl _) o.dst)
   | ip hc => exact .some (lay_sm h (.ip hc) o.dst)
   | loc r p =>
     simp only [okAddr_sm h (.loc r p)]
     split
     ·exact .some (lay_sm h (Sm.refl _) o.dst)
     ·exact .none
   | _ => exact .none
theorem sm_field {t : TypeId} {x : Operand} {f : Nat} (ho : o.op = .field t x f) : OptR SmS (evOp P H C fz o D) (evOp P H C fz o D') := by
 have E : ∀ x, OptR Sm (ev H D x) (ev H D' x) := fun x => ev_sm h x
 unfold evOp
 simp only [ho]
 cases hu : P.underlying t with
 | none => exact .none
 | some d =>
   cases d <;> try exact .none
   rename_i fs
   have h1 := E x
   generalize ev H D x = y1 at h1
   generalize ev H D' x = y1' at h1
   cases h1 with
   | none => exact .none
   | some hv =>
     cases hv with
     | agg hc =>
       simp only
       split
       case h_2 => exact .none
       rename_i fd _
       have k := partV_sm (P := P) fd.type hc fd.offset
       generalize partV P fd.type _ fd.offset = z at k
       generalize partV P fd.type _ fd.offset = z' at k
       cases k with
       | none => exact .none
       | some hp => exact .some (lay_sm h hp o.dst)
     | _ => exact .none
theorem sm_fieldAddr {t : TypeId} {x : Operand} {f : Nat} (ho : o.op = .fieldAddr t x f) : OptR SmS (evOp P H C fz o D) (evOp P H C fz o D') := by
 have E : ∀ x, OptR Sm (ev H D x) (ev H D' x) := fun x => ev_sm h x
 unfold evOp
 simp only [ho]
 cases hu : P.underlying t with
 | none => exact .none
 | some d =>
   cases d <;> try exact .none
   rename_i fs
   have h1 := E x
   generalize ev H D x = y1 at h1
   generalize ev H D' x = y1' at h1
   cases h1 with
   | none => exact .none
   | some hv =>
     simp only
     cases hf : fs[f]? with
     | none => exact .none
     | some fd =>
       simp only
       have k := moveV_sm fd.offset hv
       generalize moveV fd.offset _ = z at k
       generalize moveV fd.offset _ = z' at k
       simp only [okAddr_sm h hv]
       cases k with
       | none => cases sizeT P fd.type with
         | none => exact .none
         | some q => cases q <;> exact .none
       | some hp =>
         cases sizeT P fd.type with
         | none => exact .none
         | some q =>
           cases q with
           | zero => exact .none
           | succ q =>
             simp only
             split
             ·exact .some (lay_sm h hp o.dst)
             ·exact .none
end
end Go.Abs
end
noncomputable section
namespace Go.Abs
open Go
variable {P : Program} {H : Hint}
section
variable {C : Callee} {fz : Bool} {o : Oper} {D D' : St} (hX : XSm H) (hC : CSm C) (h : SmS D D')
include h
theorem sm_pick {c a b : Operand} (ho : o.op = .pick c a b) : OptR SmS (evOp P H C fz o D) (evOp P H C fz o D') := by
 have E : ∀ x, OptR Sm (ev H D x) (ev H D' x) := fun x => ev_sm h x
 unfold evOp
 simp only [ho]
 have h1 := E c
 generalize ev H D c = y1 at h1
 generalize ev H D' c = y1' at h1
 cases h1 with
 | none => exact .none
 | some hv =>
   have ha := E a
   have hb := E b
   generalize ev H D a = ya at ha
   generalize ev H D' a = ya' at ha
   generalize ev H D b = yb at hb
   generalize ev H D' b = yb' at hb
   cases hv with
   | bool t =>
     cases ha with
     | none =>
       cases hb with
       | none => cases t <;> exact .none
       | some hb => cases t <;> first | exact .none | exact .some (lay_sm h hb o.dst)
     | some ha =>
       cases hb with
       | none => cases ha <;> cases t <;> first | exact .none | exact .some (lay_sm h (by first | exact Sm.refl _ | (constructor <;> assumption)) o.dst)
       | some hb => cases ha <;> cases hb <;> cases t <;> first | exact .some (lay_sm h (Sm.refl _) o.dst) | exact .some (lay_sm h (by constructor <;> assumption) o.dst)
   | _ => exact .none
theorem sm_store {t : TypeId} {a x : Operand} (ho : o.op = .store t a x) : OptR SmS (evOp P H C fz o D) (evOp P H C fz o D') := by
 have E : ∀ x, OptR Sm (ev H D x) (ev H D' x) := fun x => ev_sm h x
 unfold evOp
 simp only [ho]
 have h1 := E x
 generalize ev H D x = y1 at h1
 generalize ev H D' x = y1' at h1
 cases h1 with
 | none => exact .none
 | some hv =>
   have k := settle_sm fz hv h
   simp only
   generalize settle fz _ D = z at k
   generalize settle fz _ D' = z' at k
   cases k with
   | none => exact .none
   | @some z z' hp =>
     obtain ⟨y, D1⟩ := z
     obtain ⟨y', D1'⟩ := z'
     obtain ⟨hy, hS⟩ := hp
     simp only at hy hS ⊢
     have hc := cells_sm hy
     have e1 : (y'.cells ≠ []) ↔ (y.cells ≠ []) := by rw [← List.length_pos_iff, ← List.length_pos_iff, hc.length]
     have h2 := ev_sm (H := H) hS a
     generalize ev H D1 a = w at h2
     generalize ev H D1' a = w' at h2
     cases h2 with
     | none => exact .none
     | some hw =>
       simp only [target_sm hw, hc.length, e1]
       split
       ·rename_i r p j _
        split
        ·have h3 := storeAt_sm r p j hc hS
         generalize storeAt D1 r p j y.cells = q at h3
         generalize storeAt D1' r p j y'.cells = q' at h3
         cases h3 with
         | none => exact .none
         | some hq => exact .some (lay_sm hq .dead o.dst)
        ·exact .none
       ·exact .none
theorem sm_makeFunc {f : Fn} {a b : Array Operand} (ho : o.op = .makeFunc f a b) : OptR SmS (evOp P H C fz o D) (evOp P H C fz o D') := by
 have E : ∀ x, OptR Sm (ev H D x) (ev H D' x) := fun x => ev_sm h x
 unfold evOp
 simp only [ho]
 have h1 := evL_sm (H := H) h a.toList
 generalize evL H D a.toList = x at h1
 generalize evL H D' a.toList = x' at h1
 have h2 := evL_sm (H := H) h b.toList
 generalize evL H D b.toList = y at h2
 generalize evL H D' b.toList = y' at h2
 cases h1 with
 | none => exact .none
 | some ha =>
   cases h2 with
   | none => exact .none
   | some hb => exact .some (lay_sm h (.fn ha hb) o.dst)
theorem sm_makeSlice {t : TypeId} {l c : Operand} (ho : o.op = .makeSlice t l c) : OptR SmS (evOp P H C fz o D) (evOp P H C fz o D') := by
 have E : ∀ x, OptR Sm (ev H D x) (ev H D' x) := fun x => ev_sm h x
 unfold evOp
 simp only [ho]
 have h1 := E l
 have h2 := E c
 generalize ev H D l = x at h1
 generalize ev H D' l = x' at h1
 generalize ev H D c = y at h2
 generalize ev H D' c = y' at h2
 cases P.underlying t with
 | none => exact .none
 | some d =>
   cases h1 with
   | none => cases d <;> exact .none
   | some ha =>
     cases h2 with
     | none => cases d <;> cases ha <;> exact .none
     | some hb =>
       cases d <;> cases ha <;> cases hb <;> try exact .none
       simp only
       split
       ·split
        ·exact .some (lay_sm h (Sm.refl _) o.dst)
        ·exact .none
       ·exact .none
theorem sm_slice {t : TypeId} {x : Operand} {lo hi mx : Option Operand} (ho : o.op = .slice t x lo hi mx) : OptR SmS (evOp P H C fz o D) (evOp P H C fz o D') := by
 have E : ∀ x, OptR Sm (ev H D x) (ev H D' x) := fun x => ev_sm h x
 unfold evOp
 simp only [ho]
 have h1 := E x
 generalize ev H D x = y1 at h1
 generalize ev H D' x = y1' at h1
 simp only [evI_sm h lo, evI_sm h hi, evI_sm h mx]
 cases h1 with
 | none => cases P.underlying t with
   | none => exact .none
   | some d => cases d <;> exact .none
 | some hv =>
   cases P.underlying t with
   | none => exact .none
   | some d =>
     cases d <;> try exact .none
     rename_i e
     cases evI H D lo with
     | none => exact .none
     | some l =>
       cases evI H D hi with
       | none => exact .none
       | some hh =>
         cases evI H D mx with
         | none => exact .none
         | some m =>
           have k := takeC_sm h hv
           simp only
           generalize takeC D _ = z at k
           generalize takeC D' _ = z' at k
           cases k with
           | none => cases sizeT P _ <;> exact .none
           | @some z z' hp =>
             obtain ⟨y, D1⟩ := z
             obtain ⟨y', D1'⟩ := z'
             obtain ⟨hy, hS⟩ := hp
             simp only at hy hS ⊢
             cases sizeT P _ with
             | none => exact .none
             | some q =>
               simp only
               have k2 := cutV_sm q l hh m hy
               generalize cutV q l hh m y = w at k2
               generalize cutV q l hh m y' = w' at k2
               cases k2 with
               | none => exact .none
               | some hw => exact .some (lay_sm hS hw o.dst)
theorem sm_index {t : TypeId} {x ix : Operand} (ho : o.op = .index t x ix) : OptR SmS (evOp P H C fz o D) (evOp P H C fz o D') := by
 have E : ∀ x, OptR Sm (ev H D x) (ev H D' x) := fun x => ev_sm h x
 unfold evOp
 simp only [ho]
 have h1 := E x
 have h2 := E ix
 split
 ·rename_i s _
  generalize ev H D ix = y2 at h2
  generalize ev H D' ix = y2' at h2
  cases P.underlying t with
  | none => exact .none
  | some d =>
    cases h2 with
    | none => cases d <;> exact .none
    | some hb =>
      cases d <;> cases hb <;> try exact .none
      simp only
      split
      ·split
       ·exact .some (lay_sm h (Sm.refl _) o.dst)
       ·exact .none
      ·exact .none
 generalize ev H D x = y1 at h1
 generalize ev H D' x = y1' at h1
 generalize ev H D ix = y2 at h2
 generalize ev H D' ix = y2' at h2
 cases P.underlying t with
 | none => exact .none
 | some d =>
   cases h1 with
   | none => cases d <;> exact .none
   | some ha =>
     cases h2 with
     | none => cases d <;> cases ha <;> exact .none
     | some hb =>
       cases d <;> cases ha <;> cases hb <;> try exact .none
       rename_i n e _ _ hc _ i
       simp only
       split
       ·rename_i k _
        split
        ·have k2 := partV_sm (P := P) e hc (i.toNat * k)
         generalize partV P e _ (i.toNat * k) = w at k2
         generalize partV P e _ (i.toNat * k) = w' at k2
         cases k2 with
         | none => exact .none
         | some hw => exact .some (lay_sm h hw o.dst)
        ·exact .none
       ·exact .none
theorem sm_build {t : TypeId} {ps : Array (Nat × Operand)} (ho : o.op = .build t ps) : OptR SmS (evOp P H C fz o D) (evOp P H C fz o D') := by
 have E : ∀ x, OptR Sm (ev H D x) (ev H D' x) := fun x => ev_sm h x
 unfold evOp
 simp only [ho]
 have h1 := evParts_sm (H := H) h ps.toList
 generalize evParts H D ps.toList = x at h1
 generalize evParts H D' ps.toList = x' at h1
 cases hz : zeroT P t with
 | none => exact .none
 | some z =>
   cases h1 with
   | none => exact .none
   | some hp =>
     have F : ∀ place, OptR SmL (fillV place z _) (fillV place z _) := fun place => fillV_sm place hp (SmL.refl z)
     simp only
     cases P.underlying t with
     | none => exact .none
     | some d =>
       cases d <;> try exact .none
       ·rename_i n e
        simp only
        cases sizeT P e with
        | none => exact .none
        | some k =>
          have k2 := F (fun i => some (i * k, k))
          simp only
          generalize fillV (fun i => some (i * k, k)) z _ = w at k2
          generalize fillV (fun i => some (i * k, k)) z _ = w' at k2
          cases k2 with
          | none => exact .none
          | some hw => exact .some (lay_sm h (.agg hw) o.dst)
       ·rename_i fs
        simp only
        split
        ·have k2 := F (structPlace P fs)
         generalize fillV (structPlace P fs) z _ = w at k2
         generalize fillV (structPlace P fs) z _ = w' at k2
         cases k2 with
         | none => exact .none
         | some hw => exact .some (lay_sm h (.agg hw) o.dst)
        ·exact .none
theorem sm_buildSlice {t : TypeId} {n : Nat} {ps : Array (Nat × Operand)} (ho : o.op = .buildSlice t n ps) : OptR SmS (evOp P H C fz o D) (evOp P H C fz o D') := by
 have E : ∀ x, OptR Sm (ev H D x) (ev H D' x) := fun x => ev_sm h x
 unfold evOp
 simp only [ho]
 have h1 := evParts_sm (H := H) h ps.toList
 generalize evParts H D ps.toList = x at h1
 generalize evParts H D' ps.toList = x' at h1
 cases P.underlying t with
 | none => exact .none
 | some d =>
   cases d <;> try exact .none
   rename_i e
   simp only
   cases sizeT P e with
   | none => exact .none
   | some k =>
     cases hz : zeroT P e with
     | none => exact .none
     | some z =>
       cases h1 with
       | none => exact .none
       | some hp =>
         have k1 := settleP_sm fz hp h
         simp only
         generalize settleP fz _ D = w at k1
         generalize settleP fz _ D' = w' at k1
         cases k1 with
         | none => exact .none
         | @some w w' hw =>
           obtain ⟨ys, D1⟩ := w
           obtain ⟨ys', D1'⟩ := w'
           obtain ⟨hy, hS⟩ := hw
           simp only at hy hS ⊢
           have k2 := fillV_sm (fun i => some (i * k, k)) hy (SmL.refl (rep n z))
           generalize fillV (fun i => some (i * k, k)) (rep n z) ys = u at k2
           generalize fillV (fun i => some (i * k, k)) (rep n z) ys' = u' at k2
           cases k2 with
           | none => exact .none
           | some hu =>
             simp only [hu.length, all_sm (f := cellIn) cellIn_sm hu]
             split
             ·exact .some (lay_sm hS (.own hu) o.dst)
             ·exact .none
theorem sm_indexAddr {t : TypeId} {x ix : Operand} (ho : o.op = .indexAddr t x ix) : OptR SmS (evOp P H C fz o D) (evOp P H C fz o D') := by
 have E : ∀ x, OptR Sm (ev H D x) (ev H D' x) := fun x => ev_sm h x
 unfold evOp
 simp only [ho]
 have h1 := E x
 have h2 := E ix
 generalize ev H D x = y1 at h1
 generalize ev H D' x = y1' at h1
 generalize ev H D ix = y2 at h2
 generalize ev H D' ix = y2' at h2
 cases P.underlying t with
 | none => exact .none
 | some d =>
   cases h1 with
   | none => cases d <;> exact .none
   | some ha =>
     cases h2 with
     | none => cases d <;> exact .none
     | some hb =>
       cases hb with
       | int ki i =>
         cases d <;> try exact .none
         ·rename_i e
          simp only
          cases sizeT P e with
          | none => exact .none
          | some k =>
            cases ha with
            | im hc =>
              simp only [hc.length]
              split
              ·exact .some (lay_sm h (.ip (hc.drop _)) o.dst)
              ·exact .none
            | ref r p =>
              simp only
              have k3 := look_sm h r p
              generalize look D r p = w at k3
              generalize look D' r p = w' at k3
              cases k3 with
              | none => exact .none
              | some hw =>
                cases hw with
                | own hc =>
                  simp only [hc.length]
                  split
                  ·exact .some (lay_sm h (Sm.refl _) o.dst)
                  ·exact .none
                | _ => exact .none
            | _ => exact .none
         ·rename_i n e
          simp only
          cases sizeT P e with
          | none => exact .none
          | some k =>
            simp only [okAddr_sm h ha]
            split
            ·have k2 := moveV_sm (i.toNat * k) ha
             generalize moveV (i.toNat * k) _ = w at k2
             generalize moveV (i.toNat * k) _ = w' at k2
             cases k2 with
             | none => exact .none
             | some hw => exact .some (lay_sm h hw o.dst)
            ·exact .none
       | _ => cases d <;> exact .none
include hX hC in
theorem sm_call {c : Call} (ho : o.op = .call c) : OptR SmS (evOp P H C fz o D) (evOp P H C fz o D') := by
 have E : ∀ x, OptR Sm (ev H D x) (ev H D' x) := fun x => ev_sm h x
 unfold evOp
 simp only [ho]
 have h1 := evL_sm (H := H) h c.args.toList
 generalize evL H D c.args.toList = x at h1
 generalize evL H D' c.args.toList = x' at h1
 split
 ·rename_i b _
  cases h1 with
  | none => exact .none
  | some hv =>
    have k := doBuiltin_sm (P := P) b c.argTypes.toList h hv
    simp only
    generalize doBuiltin P b c.argTypes.toList _ D = z at k
    generalize doBuiltin P b c.argTypes.toList _ D' = z' at k
    cases k with
    | none => exact .none
    | some hp => exact .some (lay_sm hp.2 hp.1 o.dst)
 ·rename_i g _
  have h2 := E g
  generalize ev H D g = y at h2
  generalize ev H D' g = y' at h2
  cases h2 with
  | none => exact .none
  | some hg =>
    cases h1 with
    | none =>
      cases hg with
      | @fn f a a' b b' ha hb => cases f <;> exact .none
      | _ => exact .none
    | some hv =>
      cases hg with
      | @fn f a a' b b' ha hb => cases f <;> first | exact .none | exact doCall_sm hX hC _ o.dst ((ha.append hv).append hb) h
      | _ => exact .none
 ·exact .none
end
theorem evOp_sm {C : Callee} (fz : Bool) (o : Oper) {D D' : St} (hX : XSm H) (hC : CSm C) (h : SmS D D') : OptR SmS (evOp P H C fz o D) (evOp P H C fz o D') := by
 cases ho : o.op with
 | move x => exact sm_move h ho
 | assign x => exact sm_assign h ho
 | pick c a b => exact sm_pick h ho
 | alloc t => exact sm_alloc h ho
 | box t x => exact sm_box h ho
 | build t ps => exact sm_build h ho
 | buildSlice t n ps => exact sm_buildSlice h ho
 | load t a => exact sm_load h ho
 | store t a x => exact sm_store h ho
 | nilCheck x => exact sm_nilCheck h ho
 | binOp op t x y t2 => exact sm_binOp h ho
 | unOp op t x => exact sm_unOp h ho
 | convert s d x => exact sm_convert h ho
 | makeFunc f a b => exact sm_makeFunc h ho
 | makeSlice t l c => exact sm_makeSlice h ho
 | slice t x lo hi mx => exact sm_slice h ho
 | fieldAddr s x f => exact sm_fieldAddr h ho
 | field s x f => exact sm_field h ho
 | indexAddr t x ix => exact sm_indexAddr h ho
 | index t x ix => exact sm_index h ho
 | extract t i => exact sm_extract h ho
 | call c => exact sm_call hX hC h ho
 | _ => unfold evOp; simp only [ho]; exact .none
end Go.Abs
end
noncomputable section
namespace Go.Abs
open Go
variable {P : Program} {H : Hint}
theorem wantedV_sm (ops : Array Oper) (o : Oper) {D D' : St} (h : SmS D D') : wantedV ops o D' = wantedV ops o D := by
 unfold wantedV
 split
 ·rfl
 ·rename_i j want _
  cases (ops[j]?).bind (·.dst) with
  | none => rfl
  | some t =>
    simp only
    have k := h.s t
    generalize D.s t = x at k
    generalize D'.s t = x' at k
    cases k <;> rfl
theorem evOps_sm {C : Callee} (ops : Array Oper) (fz : Nat → Bool) (hX : XSm H) (hC : CSm C) : ∀ (l : List Oper) (i : Nat) {D D' : St}, SmS D D' → OptR SmS (evOps P H C ops fz i l D) (evOps P H C ops fz i l D')
 | [], i, D, D', h => .some h
 | o :: l, i, D, D', h => by
   unfold evOps
   rw [wantedV_sm ops o h]
   cases wantedV ops o D with
   | none => exact .none
   | some b =>
     cases b with
     | false => exact evOps_sm ops fz hX hC l (i + 1) (lay_sm h (Sm.refl _) o.dst)
     | true =>
       have k := evOp_sm (P := P) (fz i) o hX hC h
       simp only
       generalize evOp P H C (fz i) o D = x at k
       generalize evOp P H C (fz i) o D' = x' at k
       cases k with
       | none => exact .none
       | some hS => exact evOps_sm ops fz hX hC l (i + 1) hS
theorem capless_sm {z z' : Option V} (h : OptR Sm z z') : capless z' = capless z := by
 cases h with
 | none => rfl
 | some hx =>
   cases hx with
   | @own d d' r n cs cs' hc =>
     cases hc with
     | nil => cases r <;> cases n <;> rfl
     | cons _ _ => cases r <;> cases n <;> rfl
   | _ => rfl
theorem bareV_sm {D D' : St} (h : SmS D D') {v v' : V} (hv : Sm v v') : bareV D' v' = bareV D v := by
 cases hv with
 | ref r p => exact capless_sm (look_sm h r p)
 | @own d d' r n cs cs' hc =>
   cases hc with
   | nil => cases r <;> cases n <;> rfl
   | cons _ _ => cases r <;> cases n <;> rfl
 | _ => rfl
theorem caplessV_sm {D D' : St} (h : SmS D D') (ts : List TypeId) {y y' : Option (List V)} (hy : OptR SmL y y') : caplessV D' ts y' = caplessV D ts y := by
 unfold caplessV
 split
 ·congr 1
  cases hy with
  | none => rfl
  | some hv =>
    cases hv with
    | nil => rfl
    | cons h3 h4 =>
      cases h4 with
      | nil => rfl
      | cons h5 h6 =>
        cases h6 with
        | nil => exact bareV_sm h h3
        | cons _ _ => rfl
 ·rfl
theorem quietB_sm (o : Oper) {D D' : St} (h : SmS D D') : quietB H o D' = quietB H o D := by
 unfold quietB
 split <;> try rfl
 rename_i c _
 split
 case h_1 => exact caplessV_sm h _ (evL_sm (H := H) h c.args.toList)
 case h_3 => rfl
 rename_i g _
 have h1 := ev_sm (H := H) h g
 generalize ev H D g = x at h1
 generalize ev H D' g = x' at h1
 have h2 := evL_sm (H := H) h c.args.toList
 generalize evL H D c.args.toList = y at h2
 generalize evL H D' c.args.toList = y' at h2
 cases h1 with
 | none => rfl
 | some hg =>
   cases hg with
   | @fn f a a' b b' ha hb =>
     cases h2 with
     | none => cases f <;> rfl
     | some hv =>
       cases f <;> try rfl
       rename_i f
       simp only
       have k := lendArgs_sm (H.sg f) ((ha.append hv).append hb) h
       generalize lendArgs (H.sg f) _ D = z at k
       generalize lendArgs (H.sg f) _ D' = z' at k
       cases k with
       | none => rfl
       | some hp => simp only [ptrsL_sm hp.1]
   | _ => rfl
theorem evDraw_sm {C : Callee} (ops : Array Oper) (fz mu : Nat → Bool) (hX : XSm H) (hC : CSm C) : ∀ (l : List Nat) {D D' : St}, SmS D D' → OptR SmS (evDraw P H C ops fz mu l D) (evDraw P H C ops fz mu l D')
 | [], D, D', h => .some h
 | i :: l, D, D', h => by
   unfold evDraw
   cases ops[i]? with
   | none => exact .none
   | some o =>
     simp only
     rw [wantedV_sm ops o h]
     cases wantedV ops o D with
     | none => exact .none
     | some b =>
       cases b with
       | false => exact evDraw_sm ops fz mu hX hC l (lay_sm h (Sm.refl _) o.dst)
       | true =>
         simp only [quietB_sm o h]
         split
         ·have k := evOp_sm (P := P) (fz i) o hX hC h
          generalize evOp P H C (fz i) o D = x at k
          generalize evOp P H C (fz i) o D' = x' at k
          cases k with
          | none => exact .none
          | some hS => exact evDraw_sm ops fz mu hX hC l hS
         ·exact .none
theorem stepT_sm {C : Callee} (ops : Array Oper) (fz mu : Nat → Bool) (hX : XSm H) (hC : CSm C) (i : Nat) {D D' : St} (h : SmS D D') : OptR SmS (stepT P H C ops fz mu i D) (stepT P H C ops fz mu i D') := by
 unfold stepT
 cases ops[i]? with
 | none => exact .none
 | some o =>
   simp only
   rw [wantedV_sm ops o h]
   cases wantedV ops o D with
   | none => exact .none
   | some b =>
     cases b with
     | false => exact .some (lay_sm h (Sm.refl _) o.dst)
     | true =>
       simp only [quietB_sm o h]
       split
       ·exact evOp_sm (P := P) (fz i) o hX hC h
       ·exact .none
theorem bindO_sm {x x' : Option St} {f f' : St → Option St} (h : OptR SmS x x') (hf : ∀ {D D' : St}, SmS D D' → OptR SmS (f D) (f' D')) : OptR SmS (x.bind f) (x'.bind f') := by
 cases h with
 | none => exact .none
 | some h => exact hf h
open Classical in
theorem bothO_sm {x x' y y' : Option St} (h : OptR SmS x x') (k : OptR SmS y y') : OptR SmS (bothO x y) (bothO x' y') := by
 cases h with
 | none => cases k <;> exact .none
 | @some D1 D1' hS =>
   cases k with
   | none => exact .none
   | @some D2 D2' hS2 =>
     show OptR SmS (if SmS D1 D2 then some D1 else none) (if SmS D1' D2' then some D1' else none)
     by_cases hq : SmS D1 D2
     ·rw [if_pos hq, if_pos ((hS.symm.trans hq).trans hS2)]; exact .some hS
     ·rw [if_neg hq, if_neg (fun hq' => hq ((hS.trans hq').trans hS2.symm))]; exact .none
open Classical in
theorem bothO_some {Da Db D : St} (h : bothO (some Da) (some Db) = some D) : Da = D ∧ SmS D Db := by
 have h : (if SmS Da Db then some Da else none) = some D := h
 by_cases hq : SmS Da Db
 ·rw [if_pos hq] at h; cases h; exact ⟨rfl, hq⟩
 ·rw [if_neg hq] at h; cases h
theorem evDrawT_sm {C : Callee} (ops : Array Oper) (fz mu : Nat → Bool) (hX : XSm H) (hC : CSm C) : ∀ (T : Pl) {D D' : St}, SmS D D' → OptR SmS (evDrawT P H C ops fz mu T D) (evDrawT P H C ops fz mu T D')
 | .fin, D, D', h => .some h
 | .one i l, D, D', h => by
   unfold evDrawT
   exact bindO_sm (stepT_sm (P := P) ops fz mu hX hC i h) fun hS => evDrawT_sm ops fz mu hX hC l hS
 | .two i a j b, D, D', h => by
   unfold evDrawT
   exact bothO_sm (bindO_sm (stepT_sm (P := P) ops fz mu hX hC i h) fun hS => evDrawT_sm ops fz mu hX hC a hS) (bindO_sm (stepT_sm (P := P) ops fz mu hX hC j h) fun hS => evDrawT_sm ops fz mu hX hC b hS)
 | .three i a j b k c, D, D', h => by
   unfold evDrawT
   exact bothO_sm (bindO_sm (stepT_sm (P := P) ops fz mu hX hC i h) fun hS => evDrawT_sm ops fz mu hX hC a hS) (bothO_sm (bindO_sm (stepT_sm (P := P) ops fz mu hX hC j h) fun hS => evDrawT_sm ops fz mu hX hC b hS) (bindO_sm (stepT_sm (P := P) ops fz mu hX hC k h) fun hS => evDrawT_sm ops fz mu hX hC c hS))
def ExR (a b : Ex × St) : Prop := a.1 = b.1 ∧ SmS a.2 b.2
theorem clear_sm (l : Option (List Nat)) {D D' : St} (h : SmS D D') : SmS (clear l D) (clear l D') := by
 cases l with
 | none => exact h
 | some live =>
   refine ⟨fun i => ?_, h.m, h.nx⟩
   show Sm (if live.contains i then D.s i else .dead) (if live.contains i then D'.s i else .dead)
   split
   ·exact h.s i
   ·exact .dead
theorem iter_sm {b : St → Option (Ex × St)} (hb : ∀ {D D' : St}, SmS D D' → OptR ExR (b D) (b D')) (l : Option (List Nat)) : ∀ (k : Nat) {D D' : St}, SmS D D' → OptR ExR (iter b l k D) (iter b l k D')
 | 0, D, D', h => .none
 | k + 1, D, D', h => by
   unfold iter
   have h1 := hb (clear_sm l h)
   generalize b (clear l D) = x at h1
   generalize b (clear l D') = x' at h1
   cases h1 with
   | none => exact .none
   | @some x x' hx =>
     obtain ⟨e, D1⟩ := x
     obtain ⟨e', D1'⟩ := x'
     obtain ⟨he, hS⟩ := hx
     simp only at he hS
     subst he
     cases e with
     | norm => exact iter_sm hb l k hS
     | ret => exact .some ⟨rfl, hS⟩
     | exit i => exact .some ⟨rfl, hS⟩
theorem evCode_sm {C : Callee} (hX : XSm H) (hC : CSm C) (f k : Nat) : ∀ (c : Code) {D D' : St}, SmS D D' → OptR ExR (evCode P H C f k c D) (evCode P H C f k c D')
 | .skip, D, D', h => .some ⟨rfl, h⟩
 | .region id ops w, D, D', h => by
   unfold evCode
   have k : OptR SmS (if w then (match H.tree f id with | some T => evDrawT P H C ops (H.fz f id) (muOf H f id ops) T D | none => evDraw P H C ops (H.fz f id) (muOf H f id ops) (planOf H f id ops) D) else evOps P H C ops (H.fz f id) 0 ops.toList D)
    (if w then (match H.tree f id with | some T => evDrawT P H C ops (H.fz f id) (muOf H f id ops) T D' | none => evDraw P H C ops (H.fz f id) (muOf H f id ops) (planOf H f id ops) D') else evOps P H C ops (H.fz f id) 0 ops.toList D') := by
    cases w
    ·exact evOps_sm (P := P) ops (H.fz f id) hX hC ops.toList 0 h
    ·cases H.tree f id with
     | none => exact evDraw_sm (P := P) ops (H.fz f id) (muOf H f id ops) hX hC _ h
     | some T => exact evDrawT_sm (P := P) ops (H.fz f id) (muOf H f id ops) hX hC T h
   generalize (if w then (match H.tree f id with | some T => evDrawT P H C ops (H.fz f id) (muOf H f id ops) T D | none => evDraw P H C ops (H.fz f id) (muOf H f id ops) (planOf H f id ops) D) else evOps P H C ops (H.fz f id) 0 ops.toList D) = x at k
   generalize (if w then (match H.tree f id with | some T => evDrawT P H C ops (H.fz f id) (muOf H f id ops) T D' | none => evDraw P H C ops (H.fz f id) (muOf H f id ops) (planOf H f id ops) D') else evOps P H C ops (H.fz f id) 0 ops.toList D') = x' at k
   cases k with
   | none => exact .none
   | some hS => exact .some ⟨rfl, hS⟩
 | .seq a b, D, D', h => by
   unfold evCode
   have h1 := evCode_sm hX hC f k a h
   generalize evCode P H C f k a D = x at h1
   generalize evCode P H C f k a D' = x' at h1
   cases h1 with
   | none => exact .none
   | @some x x' hx =>
     obtain ⟨e, D1⟩ := x
     obtain ⟨e', D1'⟩ := x'
     obtain ⟨he, hS⟩ := hx
     simp only at he hS
     subst he
     cases e with
     | norm => exact evCode_sm hX hC f k b hS
     | ret => exact .some ⟨rfl, hS⟩
     | exit i => exact .some ⟨rfl, hS⟩
 | .cond c a b, D, D', h => by
   unfold evCode
   have h1 := ev_sm (H := H) h c
   generalize ev H D c = x at h1
   generalize ev H D' c = x' at h1
   cases h1 with
   | none => exact .none
   | some hx =>
     cases hx with
     | bool t =>
       cases t
       ·exact evCode_sm hX hC f k b h
       ·exact evCode_sm hX hC f k a h
     | _ => exact .none
 | .block id c, D, D', h => by
   unfold evCode
   have h1 := evCode_sm hX hC f k c h
   generalize evCode P H C f k c D = x at h1
   generalize evCode P H C f k c D' = x' at h1
   cases h1 with
   | none => exact .none
   | @some x x' hx =>
     obtain ⟨e, D1⟩ := x
     obtain ⟨e', D1'⟩ := x'
     obtain ⟨he, hS⟩ := hx
     simp only at he hS
     subst he
     cases e with
     | norm => exact .some ⟨rfl, hS⟩
     | ret => exact .some ⟨rfl, hS⟩
     | exit i =>
       simp only
       split
       ·exact .some ⟨rfl, hS⟩
       ·exact .some ⟨rfl, hS⟩
 | .loop c, D, D', h => by
   unfold evCode
   exact iter_sm (fun h => evCode_sm hX hC f k c h) _ k h
 | .exit id, D, D', h => .some ⟨rfl, h⟩
 | .ret, D, D', h => .some ⟨rfl, h⟩
 | .rangeFunc .., D, D', h => .none
 | .scope _, D, D', h => .none
 | .label _, D, D', h => .none
 | .goto _, D, D', h => .none
 | .refuse _, D, D', h => .none
theorem evRes_sm : ∀ (l : List ResultVar) {D D' : St}, SmS D D' → OptR (PairR SmL SmS) (evRes P D l) (evRes P D' l)
 | [], D, D', h => .some ⟨.nil, h⟩
 | .tmp t :: l, D, D', h => by
   unfold evRes
   have k := settle_sm false (view_sm (.slot t) [] (h.s t)) h
   generalize settle false (view (.slot t) [] (D.s t)) D = z at k
   generalize settle false (view (.slot t) [] (D'.s t)) D' = z' at k
   cases k with
   | none => exact .none
   | @some z z' hp =>
     obtain ⟨y, D1⟩ := z
     obtain ⟨y', D1'⟩ := z'
     obtain ⟨hy, hS⟩ := hp
     simp only at hy hS ⊢
     have k2 := evRes_sm l hS
     generalize evRes P D1 l = w at k2
     generalize evRes P D1' l = w' at k2
     cases k2 with
     | none => exact .none
     | some hw => exact .some ⟨.cons hy hw.1, hw.2⟩
 | .cell t ty :: l, D, D', h => by
   unfold evRes
   have k0 := loadV_sm (P := P) h ty (h.s t)
   generalize loadV P D ty (D.s t) = u at k0
   generalize loadV P D' ty (D'.s t) = u' at k0
   cases k0 with
   | none => exact .none
   | some hu =>
     have k := settle_sm false hu h
     simp only
     generalize settle false _ D = z at k
     generalize settle false _ D' = z' at k
     cases k with
     | none => exact .none
     | @some z z' hp =>
       obtain ⟨y, D1⟩ := z
       obtain ⟨y', D1'⟩ := z'
       obtain ⟨hy, hS⟩ := hp
       simp only at hy hS ⊢
       have k2 := evRes_sm l hS
       generalize evRes P D1 l = w at k2
       generalize evRes P D1' l = w' at k2
       cases k2 with
       | none => exact .none
       | some hw => exact .some ⟨.cons hy hw.1, hw.2⟩
theorem packRes_sm {l l' : List V} (h : SmL l l') : Sm (packRes l) (packRes l') := by
 cases h with
 | nil => exact .tup .nil
 | cons h1 h2 =>
   cases h2 with
   | nil => exact h1
   | cons h3 h4 => exact .tup (.cons h1 (.cons h3 h4))
theorem flatPtrs_sm {m m' : List (Nat × Box)} (h : SmM m m') : (m'.flatMap fun e => ptrsL e.2.cs) = (m.flatMap fun e => ptrsL e.2.cs) := by
 induction h with
 | nil => rfl
 | cons h1 _ ih => simp only [List.flatMap_cons, ptrsL_sm h1, ih]
theorem evCall_sm (hX : XSm H) : ∀ n : Nat, CSm (evCall P H n)
 | 0 => fun f as as' m m' nx _ _ => .none
 | n + 1 => fun f as as' m m' nx ha hm => by
   unfold evCall
   split
   ·exact .none
   cases P.funcs[f]? with
   | none => exact .none
   | some fn =>
     simp only
     cases fn.body with
     | none => exact .none
     | some c =>
       simp only
       have hS : SmS { s := fun i => match as[i]? with | some v => v | none => .dead, m := m, nx := nx } { s := fun i => match as'[i]? with | some v => v | none => .dead, m := m', nx := nx } := by
        refine ⟨fun i => ?_, hm, rfl⟩
        simp only
        have k := ha.getR i
        generalize as[i]? = x at k
        generalize as'[i]? = x' at k
        cases k with
        | none => exact .dead
        | some hx => exact hx
       have k := evCode_sm (P := P) hX (evCall_sm hX n) f n c hS
       generalize evCode P H (evCall P H n) f n c { s := fun i => match as[i]? with | some v => v | none => .dead, m := m, nx := nx } = x at k
       generalize evCode P H (evCall P H n) f n c { s := fun i => match as'[i]? with | some v => v | none => .dead, m := m', nx := nx } = x' at k
       cases k with
       | none => exact .none
       | @some x x' hx =>
         obtain ⟨e, D1⟩ := x
         obtain ⟨e', D1'⟩ := x'
         obtain ⟨he, hS1⟩ := hx
         simp only at he hS1 ⊢
         subst he
         split
         ·have k2 := evRes_sm (P := P) fn.results.toList hS1
          generalize evRes P D1 fn.results.toList = w at k2
          generalize evRes P D1' fn.results.toList = w' at k2
          cases k2 with
          | none => exact .none
          | @some w w' hw =>
            obtain ⟨rs, D2⟩ := w
            obtain ⟨rs', D2'⟩ := w'
            obtain ⟨hr, hS2⟩ := hw
            simp only at hr hS2 ⊢
            rw [noBorL_sm hr]
            split
            ·exact .none
            have hr' : Sm (packRes (if H.fr f then frzL true rs else rs)) (packRes (if H.fr f then frzL true rs' else rs')) := by
             refine packRes_sm ?_
             split
             ·exact frzL_sm true hr
             ·exact hr
            have ho := hS2.m.filter fun i => decide (i < nx)
            rw [ptrs_sm hr', flatPtrs_sm ho, hS2.nx]
            generalize packRes (if H.fr f then frzL true rs else rs) = r at hr' ⊢
            generalize packRes (if H.fr f then frzL true rs' else rs') = r' at hr' ⊢
            split
            ·exact .some (show ResR (_, _, _) (_, _, _) from ⟨hr', hS2.m, rfl⟩)
            ·exact .some (show ResR (_, _, _) (_, _, _) from ⟨hr', ho, rfl⟩)
         ·exact .none
end Go.Abs
end
