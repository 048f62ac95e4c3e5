/- Joined: AbsYB AbsYC AbsYG AbsYD AbsYH AbsBT. -/
import Derived.Test.YtbkhamjlfadfoaaDoorAbs306
import Derived.ProofKit
import Derived.OpenShut
set_option linter.all false
set_option maxHeartbeats 16000000
noncomputable section
namespace Go.Abs
open Go
attribute [simp] evOps evDraw evOp ev evL evI evParts settleP fillV structPlace rep ofVal ofCell ofCells wantedV settle settleL St.lay St.put noRow noRowL killAll kill killL view viewL doBuiltin appendV bring copyV lenV minmax minmaxA rs take takeF look go goSet setAt sub subL
attribute [simp] capless bareV caplessV takeZ cpD loadV loadAt storeAt canStore target okAddr okPart partV moveV cutV capM takeC bin isSh isNil eq0 ne0 un V.scalar V.cells cellIn solid solidL frz frzL noBor noBorL ptrs ptrsL lend lendL lendArgs hasRef hasRefL lendsB lendsS doCall reach getBox setBox St.newAt St.new killB killBL othersM litB mutB quietB planOf muOf strOf packRes evRes
attribute [simp] hitRef hitLoc pre List.range List.range.loop
attribute [simp] clear_none ev_skip ev_ret ev_exit ev_seq ev_region ev_block ev_cond EvK_app condE_b
section
variable (k : IntKind) (a b : Int)
@[simp] theorem int_add : intOp .add k a b = some (.int k (k.wrap (a + b))) := rfl
@[simp] theorem int_sub : intOp .sub k a b = some (.int k (k.wrap (a - b))) := rfl
@[simp] theorem int_mul : intOp .mul k a b = some (.int k (k.wrap (a * b))) := rfl
@[simp] theorem int_eql : intOp .eql k a b = some (.bool (a == b)) := rfl
@[simp] theorem int_neq : intOp .neq k a b = some (.bool (a != b)) := rfl
@[simp] theorem int_lss : intOp .lss k a b = some (.bool (decide (a < b))) := rfl
@[simp] theorem int_leq : intOp .leq k a b = some (.bool (decide (a ≤ b))) := rfl
@[simp] theorem int_gtr : intOp .gtr k a b = some (.bool (decide (a > b))) := rfl
@[simp] theorem int_geq : intOp .geq k a b = some (.bool (decide (a ≥ b))) := rfl
end
end Go.Abs
end
noncomputable section
namespace Go.Abs
open Go
theorem parse {α : Type} (enc : α → List V) (sz : Nat) (Q : α → Prop) : ∀ (n : Nat) (cs : List V), cs.length = n * sz → (∀ i, i < n → ∃ a, Q a ∧ (cs.drop (i * sz)).take sz = enc a) → ∃ l : List α, l.length = n ∧ cs = l.flatMap enc ∧ ∀ x ∈ l, Q x
 | 0, cs, h, _ => ⟨[], rfl, by simpa using h, by simp⟩
 | n + 1, cs, h, hh => by
   obtain ⟨a, ha, he⟩ := hh 0 (by omega)
   rw [Nat.zero_mul, List.drop_zero] at he
   obtain ⟨l, h1, h2, h3⟩ := parse enc sz Q n (cs.drop sz) (by rw [List.length_drop, h, Nat.succ_mul]; omega) fun i hi => by
    obtain ⟨b, hb, hbe⟩ := hh (i + 1) (by omega)
    refine ⟨b, hb, ?_⟩
    rw [List.drop_drop, show sz + i * sz = (i + 1) * sz by rw [Nat.succ_mul]; omega]
    exact hbe
   refine ⟨a :: l, by simp [h1], ?_, fun x hx => ?_⟩
   ·rw [List.flatMap_cons, ← he, ← h2, List.take_append_drop]
   ·rcases List.mem_cons.1 hx with rfl | hx
    ·exact ha
    ·exact h3 x hx
theorem flat_uL (l : List Nat) : uL l = l.flatMap fun (x : Nat) => [V.int .u64 (x : Int)] := by
 unfold uL; induction l with
 | nil => rfl
 | cons x l ih => rw [List.map_cons, ih]; rfl
variable {P : Program} {k : Nat} {t e : TypeId} {vs : List V}
theorem EvK_cut {P : Program} {H : Hint} {C : Callee} {f k : Nat} {c : Code} {Φ : Ex → St → Prop} {D : St} (K : St → Prop) (h : K D) (h2 : ∀ D1, K D1 → EvP P H C f k c D1 Φ) : EvK P H C f k c Φ D := h2 D h
def doCallB (H : Hint) (C : Callee) (f : Nat) (lb : Bool) (xs : List V) (D1 : St) (dst : Option Nat) : Option St :=
 match H.X f xs with
 | some r => if lb && !noBor r then none else some (D1.lay dst r)
 | none =>
   let ids := reach D1.m D1.m.length (ptrsL xs).eraseDups
   if lb && !ids.isEmpty then none else
   match C f xs (D1.m.filter fun e => ids.contains e.1) D1.nx with
   | some (r, m2, nx2) =>
     if lb && !(noBor r && m2.all fun e => noBorL e.2.cs) then none
     else if ids.isEmpty && nx2 == D1.nx then some (D1.lay dst r)
     else if m2.all fun e => ids.contains e.1 || decide (D1.nx ≤ e.1) then some ((St.mk (fun i => killB ids D1.nx (D1.s i)) (othersM D1.m ids ++ m2) nx2).lay dst r)
     else none
   | none => none
def doCallL (H : Hint) (C : Callee) (f : Nat) (ls : Bool) (xs : List V) (D1 : St) (dst : Option Nat) : Option St :=
 match H.X f xs with
 | some r => if !noBor r then none else some (D1.lay dst r)
 | none =>
   let ids := reach D1.m D1.m.length (ptrsL xs).eraseDups
   if !ids.isEmpty && !ls then none else
   match C f xs (D1.m.filter fun e => ids.contains e.1) D1.nx with
   | some (r, m2, nx2) =>
     if !(noBor r && m2.all fun e => noBorL e.2.cs) then none
     else if ids.isEmpty && nx2 == D1.nx then some (D1.lay dst r)
     else if m2.all fun e => ids.contains e.1 || decide (D1.nx ≤ e.1) then some ((St.mk (fun i => killB ids D1.nx (D1.s i)) (othersM D1.m ids ++ m2) nx2).lay dst r)
     else none
   | none => none
def callE (H : Hint) (C : Callee) (f : Nat) (lb ls : Bool) (xs : List V) (D1 : St) (dst : Option Nat) : Option St := match lb with
 | false => doCallB H C f false xs D1 dst
 | true => doCallL H C f ls xs D1 dst
@[simp] theorem callE_f (H : Hint) (C : Callee) (f : Nat) (ls : Bool) (xs : List V) (D1 : St) (dst : Option Nat) : callE H C f false ls xs D1 dst = doCallB H C f false xs D1 dst := rfl
@[simp] theorem callE_t (H : Hint) (C : Callee) (f : Nat) (ls : Bool) (xs : List V) (D1 : St) (dst : Option Nat) : callE H C f true ls xs D1 dst = doCallL H C f ls xs D1 dst := rfl
theorem doCall_eq (H : Hint) (C : Callee) (f : Nat) (vs : List V) (D : St) (dst : Option Nat) : doCall H C f vs D dst = match lendArgs (H.sg f) vs D with | some (xs, D1) => callE H C f (lendsB (H.sg f) vs) (lendsS (H.sg f) vs) xs D1 dst | none => none := by
 unfold doCall
 cases hq : lendArgs (H.sg f) vs D with
 | none => rfl
 | some q =>
   obtain ⟨xs, D1⟩ := q
   cases hb : lendsB (H.sg f) vs with
   | false => simp only [callE, doCallB, hb, Bool.false_and, Bool.false_eq_true, if_false]; rfl
   | true => simp only [callE, doCallL, hb, Bool.true_and]; rfl
section
variable {P : Program} {H : Hint} {f k N : Nat} {xs : List V} {r : V}
theorem callP (h : AnsN N P H f xs r) (hk : N ≤ k) (hp : ptrsL xs = []) (hX : H.X f xs = none) : ∀ (D : St) (dst : Option Nat), doCallB H (evCall P H k) f false xs D dst = some (D.lay dst r) := by
 intro D dst
 have hr : reach D.m D.m.length (ptrsL xs).eraseDups = [] := by
  rw [hp]
  show reach D.m D.m.length [] = []
  cases D.m.length <;> rfl
 have hf : (D.m.filter fun e => ([] : List Nat).contains e.1) = [] := by
  rw [List.filter_eq_nil_iff]; intro e _; simp
 unfold doCallB
 rw [hX]
 simp only [hr, hf, h k hk D.nx, Bool.false_and, Bool.false_eq_true, if_false, List.isEmpty_nil, beq_self_eq_true, Bool.and_self, if_true]
theorem callBox {ids : List Nat} {s : Nat → V} {m M O M2 : List (Nat × Box)} {nx nx2 : Nat} {C : Callee} (hX : H.X f xs = none) (hr : reach m m.length (ptrsL xs).eraseDups = ids) (hf : (m.filter fun e => ids.contains e.1) = M) (ho : othersM m ids = O) (hne : ids ≠ [])
 (hc : C f xs M nx = some (r, M2, nx2)) (hall : ∀ e ∈ M2, e.1 ∈ ids ∨ nx ≤ e.1) (dst : Option Nat) : doCallB H C f false xs ⟨s, m, nx⟩ dst = some ((St.mk (fun i => killB ids nx (s i)) (O ++ M2) nx2).lay dst r) := by
 have h1 : ids.isEmpty = false := by cases ids with | nil => exact absurd rfl hne | cons _ _ => rfl
 have h2 : (M2.all fun e => ids.contains e.1 || decide (nx ≤ e.1)) = true := by
  rw [List.all_eq_true]
  intro e he
  rcases hall e he with h | h
  ·simp [h]
  ·simp [h]
 unfold doCallB
 rw [hX]
 simp only [hr, hf, hc, h1, h2, ho, Bool.false_and, Bool.false_eq_true, if_false, if_true]
theorem callNew {nx d : Nat} {m M2 : List (Nat × Box)} {s : Nat → V} {C : Callee} (hp : ptrsL xs = []) (hX : H.X f xs = none) (hd : 0 < d) (hc : C f xs [] nx = some (r, M2, nx + d)) (hall : ∀ e ∈ M2, nx ≤ e.1) (dst : Option Nat) :
 doCallB H C f false xs ⟨s, m, nx⟩ dst = some ((St.mk (fun i => killB [] nx (s i)) (m ++ M2) (nx + d)).lay dst r) := by
 have hr : reach m m.length (ptrsL xs).eraseDups = [] := by
  rw [hp]
  show reach m m.length [] = []
  cases m.length <;> rfl
 have hf : (m.filter fun e => ([] : List Nat).contains e.1) = [] := by
  rw [List.filter_eq_nil_iff]; intro e _; simp
 have ho : othersM m [] = m := by
  unfold othersM
  rw [List.filter_eq_self]; intro e _; rfl
 have h2 : (M2.all fun e => ([] : List Nat).contains e.1 || decide (nx ≤ e.1)) = true := by
  rw [List.all_eq_true]
  intro e he
  simp [hall e he]
 have h3 : (nx + d == nx) = false := by simp; omega
 unfold doCallB
 rw [hX]
 simp only [hr, hf, hc, h2, h3, ho, Bool.false_and, Bool.and_false, Bool.false_eq_true, if_false, if_true]
end
end Go.Abs
end
noncomputable section
namespace Go.Abs
open Go Go.ChangeShapes Go.WideShapes Go.ChangeAt Go.RowKit
def tabL (l : List Int) : List V := l.map fun x => V.int .i64 x
def Table (W : World) (g : Nat) (l : List Int) : Prop := ∀ (j : Nat) (x : Int), l[j]? = some x → W.cell? ⟨g, j, none⟩ = some (.int .i64 x)
variable {P : Program} {H : Hint} {W : World} {K : Type} {enc : TypeId × Value → K}
end Go.Abs
end
noncomputable section
namespace Go.Abs
open Go
@[congr] theorem condE_congr {x y : Option V} (A B : Prop) (h : x = y) : condE x A B = condE y A B := by rw [h]
theorem EvP.cutN {P : Program} {H : Hint} {C : Callee} {f k : Nat} {c : Code} {D : St} {Q : Ex → St → Prop} (K : St → Prop) (h1 : EvP P H C f k c D (thenE K fun _ _ => False)) (h2 : ∀ D1, K D1 → Q .norm D1) : EvP P H C f k c D Q :=
 h1.mono fun e D1 h => by
  cases e with
  | norm => exact h2 D1 h
  | ret => exact h.elim
  | exit i => exact h.elim
def ShT (P : Program) : Nat → TypeId → List V → Prop
 | 0, _, _ => False
 | k + 1, t, vs => match P.underlying t with
   | some .bool => ∃ b, vs = [.bool b]
   | some (.int ki) => ∃ n, vs = [.int ki n] ∧ (Lit.int ki n).wf = true
   | some (.slice e) => ∃ A cap n cs, vs = [.im true A cap n cs] ∧ n ≤ maxLen ∧ cs.length = n * P.cellsOf e ∧ ∀ i, i < n → ShT P k e ((cs.drop (i * P.cellsOf e)).take (P.cellsOf e))
   | some (.struct fs) => vs.length = P.cellsOf t ∧ ∀ f ∈ fs, ShT P k f.type ((vs.drop f.offset).take (P.cellsOf f.type))
   | some (.array n e) => vs.length = n * P.cellsOf e ∧ ∀ i, i < n → ShT P k e ((vs.drop (i * P.cellsOf e)).take (P.cellsOf e))
   | _ => False
def rootEnvT (w : World) : Env := ⟨fun _ => 0, fun _ => True, fun _ => True⟩
structure ReadT (w : World) (cs : List Value) (vs : List V) : Prop where
 len : vs.length = cs.length
 cell : ∀ (j : Nat) (x : V), vs[j]? = some x → ∃ u, cs[j]? = some u ∧ MR (fun _ => 0) x u
 flat : noRowL vs = true
 at_ : ∀ b ∈ atomsL vs, AtOk (rootEnvT w) w 0 (fun _ => False) b
variable {P : Program} {w : World} {H : Type} {enc : TypeId × Value → H}
theorem read_oneT {u : Value} {x : V} (hm : MR (fun _ => 0) x u) (hf : noRow x = true) (ha : ∀ b ∈ atoms x, AtOk (rootEnvT w) w 0 (fun _ => False) b) : ReadT w [u] [x] :=
 ⟨rfl, fun j y hy => by cases j with | zero => simp at hy; subst hy; exact ⟨u, rfl, hm⟩ | succ j => simp at hy, by simp [noRowL, hf], fun b hb => by simp [atomsL] at hb; exact ha b hb⟩
theorem read_okT : ∀ (k : Nat) (m : Nat) (t : TypeId) (cs : List Value) (x : DataW H × List MemPlace), shB P m t = true → DataW.trod enc P w 0 (fun _ => true) true k t cs = some x → ∃ vs, ShT P m t vs ∧ ReadT w cs vs
 | 0, m, t, cs, x, hB, h => by cases h
 | k + 1, 0, t, cs, x, hB, h => by cases hB
 | k + 1, m + 1, t, cs, x, hB, h => by
   unfold shB at hB
   unfold ShT
   cases hu : P.underlying t with
   | none => rw [hu] at hB; cases hB
   | some d =>
     rw [hu] at hB
     cases d <;> simp only at hB <;> try (cases hB; done)
     case bool =>
      obtain ⟨b, rfl, rfl⟩ := DataW.trod_bool hu h
      exact ⟨[.bool b], ⟨b, rfl⟩, read_oneT (.inl (by simp [hd])) rfl (fun c hc => by simp [atoms] at hc)⟩
     case int ki =>
      obtain ⟨n, rfl, rfl, hw⟩ := DataW.trod_int hu h
      exact ⟨[.int ki n], ⟨n, rfl, hw⟩, read_oneT (.inl (by simp [hd])) rfl (fun c hc => by simp [atoms] at hc)⟩
     case slice e =>
      rcases DataW.trod_slice hu h with ⟨rfl, rfl⟩ | ⟨a, len, cap, elems, rest, n, hk, rfl, hx, hb, hl, hc, he, hel, _, _⟩
      ·refine ⟨[.im true none 0 0 []], ⟨none, 0, 0, [], rfl, Nat.zero_le _, by simp, fun i hi => absurd hi (Nat.not_lt_zero i)⟩, read_oneT (.inl (by simp [hd])) rfl (fun c hc => ?_)⟩
       simp only [atoms, atomsL, List.mem_singleton] at hc
       subst hc
       exact ⟨Nat.le_refl _, rfl, rfl⟩
      ·cases hk
       have hch : ∀ i, i < len → ∃ c : List V, c.length = P.cellsOf e ∧ (ShT P m e c ∧ ∃ l, w.cells? 0 (a.add (i * P.cellsOf e)) (P.cellsOf e) = some l ∧ ReadT w l c) := by
        intro i hi
        have h1 := hel i hi
        rw [List.getElem?_eq_getElem (by omega)] at h1
        cases hcl : w.cells? 0 (a.add (i * P.cellsOf e)) (P.cellsOf e) with
        | none => rw [hcl] at h1; cases h1
        | some l =>
          rw [hcl] at h1
          obtain ⟨vs, h2, h3⟩ := read_okT k m e l _ hB h1
          exact ⟨vs, by rw [h3.len]; exact (cells?_ok hcl).1, h2, l, rfl, h3⟩
       obtain ⟨cs, hlen, hq⟩ := chunks len hch
       refine ⟨[.im true (some a) cap len cs], ⟨some a, cap, len, cs, rfl, Nat.le_trans hl hc, hlen, fun i hi => (hq i hi).1⟩, read_oneT (.inl (by simp [hd])) rfl (fun b hb => ?_)⟩
       have hnr : noRowL cs = true := noRowL_of fun x hx => by
        obtain ⟨i, hi, hx⟩ := in_chunk hlen hx
        obtain ⟨_, l, _, hr⟩ := hq i hi
        exact noRowL_mem hr.flat hx
       simp only [atoms, List.mem_cons] at hb
       rcases hb with rfl | hb
       ·refine ⟨hl, hnr, fun j x hx => ?_, fun _ => ⟨trivial, fun h => h⟩⟩
        have hj : j < len * P.cellsOf e := by rw [← hlen]; exact (List.getElem?_eq_some_iff.1 hx).1
        have hsz : 0 < P.cellsOf e := by
         rcases Nat.eq_zero_or_pos (P.cellsOf e) with h0 | h0
         ·rw [h0, Nat.mul_zero] at hj; omega
         ·exact h0
        have hd' : j / P.cellsOf e < len := by rw [Nat.div_lt_iff_lt_mul hsz]; exact hj
        have hjj : j / P.cellsOf e * P.cellsOf e + j % P.cellsOf e = j := by rw [Nat.mul_comm]; exact Nat.div_add_mod j _
        obtain ⟨_, l, hcl, hr⟩ := hq _ hd'
        have hx' : ((cs.drop (j / P.cellsOf e * P.cellsOf e)).take (P.cellsOf e))[j % P.cellsOf e]? = some x := by
         rw [take_cells (Nat.mod_lt _ hsz), hjj]; exact hx
        obtain ⟨u, hu', hm⟩ := hr.cell _ x hx'
        refine ⟨u, ?_, hm⟩
        have := (cells?_ok hcl).2 _ (Nat.mod_lt j hsz)
        rw [add_of_add, hjj, hu'] at this
        exact this
       ·obtain ⟨x, hx, hb⟩ := atomsL_mem hb
        obtain ⟨i, hi, hx⟩ := in_chunk hlen hx
        obtain ⟨_, l, _, hr⟩ := hq i hi
        exact hr.at_ b (atoms_mem hx hb)
     case array na e =>
      rw [Bool.and_eq_true, decide_eq_true_eq] at hB
      obtain ⟨hsz0, hB⟩ := hB
      obtain ⟨xs, n, hk, hx, hlen, hxs, hel⟩ := DataW.trod_array hu h
      cases hk
      rw [hsz0] at hlen
      have hch : ∀ i, i < na → ∃ c : List V, c.length = P.cellsOf e ∧ (ShT P m e c ∧ ReadT w ((cs.drop (i * P.cellsOf e)).take (P.cellsOf e)) c) := by
       intro i hi
       have h1 := hel i hi
       rw [List.getElem?_eq_getElem (by omega)] at h1
       obtain ⟨vs, h2, h3⟩ := read_okT k m e _ _ hB h1
       refine ⟨vs, ?_, h2, h3⟩
       rw [h3.len, List.length_take, List.length_drop, hlen]
       have : (i + 1) * P.cellsOf e ≤ na * P.cellsOf e := Nat.mul_le_mul_right _ hi
       rw [Nat.succ_mul] at this
       omega
      obtain ⟨vs, hvl, hq⟩ := chunks na hch
      refine ⟨vs, ⟨hvl, fun i hi => (hq i hi).1⟩, ⟨by rw [hvl, hlen], fun j x hx => ?_, noRowL_of fun x hx => ?_, fun b hb => ?_⟩⟩
      ·have hj : j < na * P.cellsOf e := by rw [← hvl]; exact (List.getElem?_eq_some_iff.1 hx).1
       have hsz : 0 < P.cellsOf e := by
        rcases Nat.eq_zero_or_pos (P.cellsOf e) with h0 | h0
        ·rw [h0, Nat.mul_zero] at hj; omega
        ·exact h0
       have hd' : j / P.cellsOf e < na := by rw [Nat.div_lt_iff_lt_mul hsz]; exact hj
       have hjj : j / P.cellsOf e * P.cellsOf e + j % P.cellsOf e = j := by rw [Nat.mul_comm]; exact Nat.div_add_mod j _
       have hx' : ((vs.drop (j / P.cellsOf e * P.cellsOf e)).take (P.cellsOf e))[j % P.cellsOf e]? = some x := by
        rw [take_cells (Nat.mod_lt _ hsz), hjj]; exact hx
       obtain ⟨u, hu', hm⟩ := (hq _ hd').2.cell _ x hx'
       rw [take_cells (Nat.mod_lt _ hsz), hjj] at hu'
       exact ⟨u, hu', hm⟩
      ·obtain ⟨i, hi, hx⟩ := in_chunk hvl hx
       exact noRowL_mem (hq i hi).2.flat hx
      ·obtain ⟨x, hx, hb⟩ := atomsL_mem hb
       obtain ⟨i, hi, hx⟩ := in_chunk hvl hx
       exact (hq i hi).2.at_ b (atoms_mem hx hb)
     case struct fs =>
      rw [Bool.and_eq_true] at hB
      obtain ⟨hlay, hall⟩ := hB
      rw [Array.all_eq_true_iff_forall_mem] at hall
      obtain ⟨xs, n, hk, hx, hlen, hxs, hf⟩ := DataW.trod_struct hu h
      cases hk
      have hfield : ∀ f ∈ fs.toList, ∃ c : List V, ShT P m f.type c ∧ ReadT w ((cs.drop f.offset).take (P.cellsOf f.type)) c := by
       intro f hfm
       obtain ⟨i, hi, rfl⟩ := List.getElem_of_mem hfm
       have h1 := hf i _ (by rw [← Array.getElem?_toList]; exact List.getElem?_eq_getElem hi)
       rw [List.getElem?_eq_getElem (by rw [hxs]; simpa using hi)] at h1
       exact read_okT k m _ _ _ (hall _ (Array.mem_toList_iff.1 hfm)) h1
      have build : ∀ (l : List Field) (off : Nat), layB P (P.cellsOf t) off l = true → off ≤ P.cellsOf t → (∀ f ∈ l, ∃ c : List V, ShT P m f.type c ∧ ReadT w ((cs.drop f.offset).take (P.cellsOf f.type)) c) →
       ∃ vs : List V, ReadT w (cs.drop off) vs ∧ ∀ f ∈ l, off ≤ f.offset ∧ ShT P m f.type ((vs.drop (f.offset - off)).take (P.cellsOf f.type)) := by
       intro l
       induction l with
       | nil =>
         intro off hlay _ _
         simp only [layB, beq_iff_eq] at hlay
         refine ⟨[], ⟨by simp [hlen, hlay], fun j x hx => by simp at hx, rfl, fun b hb => by simp [atomsL] at hb⟩, fun f hf => by cases hf⟩
       | cons f l ih =>
         intro off hlay hle hfs
         simp only [layB, Bool.and_eq_true, beq_iff_eq] at hlay
         obtain ⟨ho, hlay⟩ := hlay
         have hmono : ∀ (l : List Field) (o : Nat), layB P (P.cellsOf t) o l = true → o ≤ P.cellsOf t := by
          intro l
          induction l with
          | nil => intro o h; simp only [layB, beq_iff_eq] at h; omega
          | cons g l ih2 =>
            intro o h
            simp only [layB, Bool.and_eq_true, beq_iff_eq] at h
            have := ih2 _ h.2
            omega
         obtain ⟨c, h1, h2⟩ := hfs f List.mem_cons_self
         have hle2 := hmono l _ hlay
         obtain ⟨vs, h3, h4⟩ := ih (off + P.cellsOf f.type) hlay hle2 fun g hg => hfs g (List.mem_cons_of_mem _ hg)
         have hcl : c.length = P.cellsOf f.type := by
          rw [h2.len, List.length_take, List.length_drop]; omega
         refine ⟨c ++ vs, ⟨by rw [List.length_append, hcl, h3.len, List.length_drop, List.length_drop]; omega, fun j x hx => ?_, noRowL_of fun x hx => ?_, fun b hb => ?_⟩, fun g hg => ?_⟩
         ·rcases Nat.lt_or_ge j (P.cellsOf f.type) with hj | hj
          ·rw [List.getElem?_append_left (by omega)] at hx
           obtain ⟨u, hu', hm⟩ := h2.cell j x hx
           rw [take_cells hj, ho] at hu'
           exact ⟨u, by rw [List.getElem?_drop]; exact hu', hm⟩
          ·rw [List.getElem?_append_right (by omega), hcl] at hx
           obtain ⟨u, hu', hm⟩ := h3.cell _ x hx
           rw [List.getElem?_drop] at hu'
           refine ⟨u, ?_, hm⟩
           rw [List.getElem?_drop]
           have : off + j = off + P.cellsOf f.type + (j - P.cellsOf f.type) := by omega
           rw [this]; exact hu'
         ·rcases List.mem_append.1 hx with hx | hx
          ·exact noRowL_mem h2.flat hx
          ·exact noRowL_mem h3.flat hx
         ·rw [atomsL_append] at hb
          rcases List.mem_append.1 hb with hb | hb
          ·exact h2.at_ b hb
          ·exact h3.at_ b hb
         ·rcases List.mem_cons.1 hg with rfl | hg
          ·refine ⟨by omega, ?_⟩
           rw [ho, Nat.sub_self, List.drop_zero, ← hcl, List.take_left]; exact h1
          ·obtain ⟨q1, q2⟩ := h4 g hg
           refine ⟨by omega, ?_⟩
           have : g.offset - off = c.length + (g.offset - (off + P.cellsOf f.type)) := by omega
           rw [this, ← List.drop_drop, List.drop_left]; exact q2
      obtain ⟨vs, h3, h4⟩ := build fs.toList 0 hlay (Nat.zero_le _) hfield
      rw [List.drop_zero] at h3
      refine ⟨vs, ⟨by rw [h3.len, hlen], fun f hfm => ?_⟩, h3⟩
      exact (h4 f (Array.mem_toList_iff.2 hfm)).2
end Go.Abs
end
noncomputable section
namespace Go.Abs
open Go Go.ChangeShapes Go.WideShapes Go.ChangeAt Go.RowKit
def ArgShT (P : Program) (m : Nat) (t : TypeId) (x : V) : Prop := match P.underlying t with
 | some (.struct _) => ∃ vs, x = .agg vs ∧ ShT P m t vs
 | some (.array _ _) => ∃ vs, x = .agg vs ∧ ShT P m t vs
 | _ => ShT P m t [x]
def ArgShLT (P : Program) (m : Nat) : List TypeId → List V → Prop
 | [], [] => True
 | t :: ts, x :: xs => ArgShT P m t x ∧ ArgShLT P m ts xs
 | _, _ => False
variable {P : Program} {H : Hint} {W : World} {K : Type} {enc : TypeId × Value → K}
theorem one_cellT {m : Nat} {t : TypeId} {vs : List V} (h : ShT P m t vs) (ht : ∀ fs, P.underlying t ≠ some (.struct fs)) (ht2 : ∀ n e, P.underlying t ≠ some (.array n e)) : ∃ x, vs = [x] := by
 cases m with
 | zero => cases h
 | succ m =>
   unfold ShT at h
   split at h
   ·obtain ⟨b, rfl⟩ := h; exact ⟨_, rfl⟩
   ·obtain ⟨n, rfl, _⟩ := h; exact ⟨_, rfl⟩
   ·obtain ⟨A, cap, n, cs, rfl, _⟩ := h; exact ⟨_, rfl⟩
   ·rename_i fs hu; exact absurd hu (ht fs)
   ·rename_i n e hu; exact absurd hu (ht2 n e)
   ·cases h
theorem arg_okT {m : Nat} {t : TypeId} {v : Value} {d : DataW K} {ps : List MemPlace} {base : Nat} (hB : shB P m t = true) (hval : Value.okWide P W .any base t v) (h : DataW.Trod enc P W 0 (fun _ => true) true t v d ps) :
 ∃ x, ArgShT P m t x ∧ (∀ D, PR (fun _ => 0) D x v) ∧ noRow x = true ∧ ∀ b ∈ atoms x, AtOk (rootEnvT W) W 0 (fun _ => False) b := by
 obtain ⟨k, hk⟩ := h
 obtain ⟨vs, h1, h2⟩ := read_okT k m t _ _ hB hk
 unfold ArgShT
 by_cases hst : ∃ fs, P.underlying t = some (.struct fs)
 ·obtain ⟨fs, hu⟩ := hst
  obtain ⟨cs, rfl, hsz⟩ := okWide_struct hu hval
  rw [hu]
  refine ⟨.agg vs, ⟨vs, rfl, h1⟩, fun D => ⟨cs.toList, by simp, PRL_of (by rw [h2.len]; simp [Value.cells]) fun j x hx => ?_⟩, by simpa [noRow] using h2.flat, fun b hb => h2.at_ b (by simpa [atoms] using hb)⟩
  obtain ⟨u, hu', hm⟩ := h2.cell j x hx
  exact ⟨u, by simpa [Value.cells] using hu', MR_PR hm⟩
 by_cases har : ∃ n e, P.underlying t = some (.array n e)
 ·obtain ⟨n, e, hu⟩ := har
  obtain ⟨cs, rfl, hsz⟩ := okWide_array hu hval
  rw [hu]
  refine ⟨.agg vs, ⟨vs, rfl, h1⟩, fun D => ⟨cs.toList, by simp, PRL_of (by rw [h2.len]; simp [Value.cells]) fun j x hx => ?_⟩, by simpa [noRow] using h2.flat, fun b hb => h2.at_ b (by simpa [atoms] using hb)⟩
  obtain ⟨u, hu', hm⟩ := h2.cell j x hx
  exact ⟨u, by simpa [Value.cells] using hu', MR_PR hm⟩
 ·have hst' : ∀ fs, P.underlying t ≠ some (.struct fs) := fun fs h => hst ⟨fs, h⟩
  have har' : ∀ n e, P.underlying t ≠ some (.array n e) := fun n e h => har ⟨n, e, h⟩
  obtain ⟨x, rfl⟩ := one_cellT h1 hst' har'
  have hlen := h2.len
  obtain ⟨u, hu', hm⟩ := h2.cell 0 x rfl
  have hv : v.cells.toList = [u] := by
   match hc : v.cells.toList, hlen with
   | [u'], _ => rw [hc] at hu'; simp at hu'; rw [hu']
  refine ⟨x, ?_, fun D => ?_, by simpa [noRowL] using h2.flat, fun b hb => h2.at_ b (by simp [atomsL, hb])⟩
  ·split
   ·rename_i fs hu; exact absurd hu (hst' fs)
   ·rename_i n e hu; exact absurd hu (har' n e)
   ·exact h1
  ·have : v = u := by
    have hval' := hval
    unfold Value.okWide at hval'
    cases m with
    | zero => cases h1
    | succ m =>
      unfold ShT at h1
      split at h1
      ·rename_i hu; obtain ⟨b, rfl⟩ := okWide_bool hu hval; simpa [Value.cells] using hv
      ·rename_i ki hu; obtain ⟨b, rfl⟩ := okWide_int hu hval; simpa [Value.cells] using hv
      ·rename_i e hu; obtain ⟨a, l, c, rfl⟩ := okWide_slice hu hval; simpa [Value.cells] using hv
      ·rename_i fs hu; exact absurd hu (hst' fs)
      ·rename_i n e hu; exact absurd hu (har' n e)
      ·cases h1
   rw [this]; exact MR_PR hm
theorem args_readT {m : Nat} {base : Nat} : ∀ {ts : List TypeId} {vs : List Value} {ds : List (DataW K)} {ps : List MemPlace}, (∀ t ∈ ts, shB P m t = true) → (∀ (j : Nat) t v, ts[j]? = some t → vs[j]? = some v → Value.okWide P W .any base t v) →
 DataW.TrodAll enc P W 0 (fun _ => true) true ts vs ds ps → ∃ as, ArgShLT P m ts as ∧ (∀ D, PRL (fun _ => 0) D as vs) ∧ noRowL as = true ∧ ∀ b ∈ atomsL as, AtOk (rootEnvT W) W 0 (fun _ => False) b
 | [], vs, ds, ps, hB, hval, h => by
   cases vs <;> cases ds <;> simp [DataW.TrodAll] at h
   exact ⟨[], trivial, fun _ => rfl, rfl, fun b hb => by simp [atomsL] at hb⟩
 | t :: ts, vs, ds, ps, hB, hval, h => by
   obtain ⟨v, vs', d, ds', p, q, rfl, rfl, rfl, h1, h2⟩ := trodAll_cons h
   obtain ⟨x, a1, a2, a3, a4⟩ := arg_okT (hB t List.mem_cons_self) (hval 0 t v rfl rfl) h1
   obtain ⟨xs, b1, b2, b3, b4⟩ := args_readT (fun u hu => hB u (List.mem_cons_of_mem _ hu)) (fun j t v ht hv => hval (j + 1) t v (by simpa using ht) (by simpa using hv)) h2
   refine ⟨x :: xs, ⟨a1, b1⟩, fun D => ⟨v, vs', rfl, a2 D, b2 D⟩, by simp [noRowL, a3, b3], fun b hb => ?_⟩
   rcases List.mem_append.1 hb with hb | hb
   ·exact a4 b hb
   ·exact b4 b hb
theorem root_invT : Inv (rootEnvT W) 0 (emptyS [] 0) [] W := by
 refine ⟨fun e he => ?_, ?_, fun b hb => ?_, fun e he => ?_, ?_, fun k hk => ?_, fun k hk => trivial, fun k hk => trivial⟩
 ·simp [rowsD, slotRows, boxRows, rowsL, emptyS] at he
 ·simp [keysD, rowsD, slotRows, boxRows, rowsL, emptyS, keysOf]
 ·simp [atomsD, slotAtoms, boxAtoms, atomsL, emptyS] at hb
 ·cases he
 ·simp [emptyS]
 ·simp [keysD, rowsD, slotRows, boxRows, rowsL, emptyS, keysOf] at hk
theorem root_keysT : keysD 0 (emptyS [] 0) [] = [] := by simp [keysD, rowsD, slotRows, boxRows, rowsL, emptyS, keysOf]
theorem law_callsT {f : Nat} {fn : Func} {c : Code} {as : List V} {us : List Value} {n : Nat} {bb : Bool} {m2 : List (Nat × Box)} {nx2 : Nat} (hm : P.follows .mixedOrders = true) (hX : XSm H) (hP : progB P H = true) (hCX : CalleeOk P H (CX H)) (hG : ∀ g, H.G g = none)
 (hf : P.funcs[f]? = some fn) (hb : fn.body = some c) (hpr : ∀ D, PRL (fun _ => 0) D as us) (hfl : noRowL as = true) (hat : ∀ b ∈ atomsL as, AtOk (rootEnvT W) W 0 (fun _ => False) b)
 (hev : evCall P H n f as [] 0 = some (.bool bb, m2, nx2)) : Calls P f us.toArray W fun e W' => e = .returned (.bool bb) ∧ Below W.heap.size W W' := by
 have hgood := evCall_ok hm hX hP hCX n f as [] 0 _ _ _ hev (rootEnvT W) [] W us root_invT hpr hfl (fun b hb => (hat b hb).mono (Nat.le_refl _) (fun k hk => by rw [root_keysT] at hk; cases hk)) (fun g cs h => by rw [hG] at h; cases h)
 rcases hgood with ⟨_, h⟩ | ⟨v, w', h, _⟩
 ·refine h.mono fun e W' he => ?_
  cases e with
  | returned v =>
    obtain ⟨E', r', m2', s1, s2, hB, hpr', hT⟩ := he
    cases s1
    have : v = .bool bb := hpr' (emptyS [] 0)
    subst this
    refine ⟨rfl, hT.os, hT.tape, hT.out, hT.size, fun k hk => hT.same k hk ?_⟩
    rw [root_keysT]; intro h; cases h
  | panicked c => exact he.elim
  | outgrown => exact he.elim
 ·have hgood : H.good f = true := by
   cases n with
   | zero => cases hev
   | succ n =>
     unfold evCall at hev
     split at hev
     ·cases hev
     ·rename_i hg; simpa using hg
  obtain ⟨_, hn⟩ := progB_spec hP hgood hf hb
  rw [enter_run hf hb hn] at h
  cases h
theorem trodAll_belowT {W' : World} (hl : laidOutB P = true) (hb : Below W.heap.size W W') : ∀ {ts : List TypeId} {vs : List Value} {ds : List (DataW K)} {ps : List MemPlace}, (∀ t ∈ ts, P.readableRec t = true ∧ t < P.types.size) →
 DataW.TrodAll enc P W 0 (fun _ => true) true ts vs ds ps → DataW.TrodAll enc P W' 0 (fun b => decide (b < W.heap.size)) true ts vs ds ps
 | [], vs, ds, ps, hr, h => by
   cases vs <;> cases ds <;> simp [DataW.TrodAll] at h ⊢
   exact h
 | t :: ts, vs, ds, ps, hr, h => by
   obtain ⟨v, vs', d, ds', p, q, rfl, rfl, rfl, h1, h2⟩ := trodAll_cons h
   have hr1 := hr t List.mem_cons_self
   refine ⟨p, q, Below.trod hl hr1.1 hr1.2 h1 hb (fun x hx => ?_), trodAll_belowT hl hb (fun u hu => hr u (List.mem_cons_of_mem _ hu)) h2, rfl⟩
   obtain ⟨k, hk⟩ := h1
   exact DataW.trod_lt k t _ _ hk x hx
theorem law_contractT {f : Nat} {fn : Func} {c : Code} {s : ChangeSpec} {apart fresh handsOn : Bool} {m : Nat} {tb : TypeId} (hm : P.follows .mixedOrders = true) (hX : XSm H) (hP : progB P H = true) (hCX : CalleeOk P H (CX H)) (hG : ∀ g, H.G g = none)
 (hf : P.funcs[f]? = some fn) (hb : fn.body = some c) (hl : laidOutB P = true) (hts : (fn.params.toList.all fun t => shB P m t && P.readableRec t && decide (t < P.types.size)) = true) (hvars : s.vars = []) (hres : fn.resultTypes = #[tb]) (htb : P.underlying tb = some .bool)
 (hs : ∀ ds : List (DataW K), ds.length = fn.params.size → s.fn K ds = { results := [.lit (.bool true)], args := ds })
 (hev : ∀ as, ArgShLT P m fn.params.toList as → ∃ n m2 nx2, evCall P H n f as [] 0 = some (.bool true, m2, nx2))
 (W : World) (base : Nat) (args : Array Value) (ds gs : List (DataW K)) (before : List MemPlace) (hval : ∀ (j : Nat) t v, fn.params[j]? = some t → args[j]? = some v → Value.okWide P W .any base t v)
 (hW : DataW.Whole enc P fn.params.toList s.vars apart W args.toList ds gs before) :
 Calls P f args W fun e W' => ∃ v, e = .returned v ∧ s.post enc P fn apart fresh handsOn false W args v W' := by
 have hW' := hW
 obtain ⟨p, q, hA, hV, hbe, hfz, hnd⟩ := hW
 rw [hvars] at hV
 obtain ⟨hgs, hq⟩ := trodVars_none hV
 rw [List.all_eq_true] at hts
 have hts1 : ∀ t ∈ fn.params.toList, shB P m t = true ∧ P.readableRec t = true ∧ t < P.types.size := fun t ht => by
  have := hts t ht
  simp only [Bool.and_eq_true, decide_eq_true_eq] at this
  exact ⟨this.1.1, this.1.2, this.2⟩
 obtain ⟨as, a1, a2, a3, a4⟩ := args_readT (fun t ht => (hts1 t ht).1) (fun j t v ht hv => hval j t v (by rw [← Array.getElem?_toList]; exact ht) (by rw [← Array.getElem?_toList]; exact hv)) hA
 obtain ⟨n, m2, nx2, h⟩ := hev as a1
 have hcall := law_callsT (W := W) hm hX hP hCX hG hf hb a2 a3 a4 h
 rw [Array.toArray_toList] at hcall
 refine hcall.mono fun e W' ⟨he, hbel⟩ => ⟨.bool true, he, ?_⟩
 have hdl : ds.length = fn.params.size := by
  have key : ∀ {ts : List TypeId} {vs : List Value} {ds : List (DataW K)} {ps : List MemPlace}, DataW.TrodAll enc P W 0 (fun _ => true) true ts vs ds ps → ds.length = ts.length := by
   intro ts
   induction ts with
   | nil => intro vs ds ps h; cases vs <;> cases ds <;> simp [DataW.TrodAll] at h ⊢
   | cons t ts ih =>
     intro vs ds ps h
     obtain ⟨v, vs', d, ds', p, q, rfl, rfl, rfl, h1, h2⟩ := trodAll_cons h
     simp [ih h2]
  simpa using key hA
 have hsf := hs (ds ++ gs) (by rw [hgs, List.append_nil]; exact hdl)
 refine ⟨ds, gs, before, [], p, [], hW', ?_, ?_, ?_, hbel.frame _, fun h => by cases h⟩
 ·rw [hsf, hres]
  exact trodAll_mk1 (shut_bool htb true)
 ·rw [hsf, hgs, List.append_nil]
  exact trodAll_belowT hl hbel (fun t ht => (hts1 t ht).2) hA
 ·rw [hsf, hvars]
  exact rfl
end Go.Abs
end
noncomputable section
namespace Go.Abs
open Go
variable {P : Program} {k : Nat} {t e : TypeId} {vs : List V}
theorem sh_u64T (hu : P.underlying t = some (.int .u64)) (h : ShT P (k + 1) t vs) : ∃ x : Nat, x < 18446744073709551616 ∧ vs = [.int .u64 (x : Int)] := by
 unfold ShT at h
 rw [hu] at h
 obtain ⟨n, rfl, hn⟩ := h
 have hn : (decide (IntKind.u64.min ≤ n) && decide (n ≤ IntKind.u64.max)) = true := hn
 simp only [Bool.and_eq_true, decide_eq_true_eq] at hn
 have e1 : IntKind.u64.min = 0 := rfl
 have e2 : IntKind.u64.max = 18446744073709551615 := rfl
 rw [e1, e2] at hn
 exact ⟨n.toNat, by omega, by rw [show ((n.toNat : Nat) : Int) = n by omega]⟩
theorem sh_i64T (hu : P.underlying t = some (.int .i64)) (h : ShT P (k + 1) t vs) : ∃ x : Int, (-9223372036854775808 ≤ x ∧ x ≤ 9223372036854775807) ∧ vs = [.int .i64 x] := by
 unfold ShT at h
 rw [hu] at h
 obtain ⟨n, rfl, hn⟩ := h
 have hn : (decide (IntKind.i64.min ≤ n) && decide (n ≤ IntKind.i64.max)) = true := hn
 simp only [Bool.and_eq_true, decide_eq_true_eq] at hn
 have e1 : IntKind.i64.min = -9223372036854775808 := rfl
 have e2 : IntKind.i64.max = 9223372036854775807 := rfl
 rw [e1, e2] at hn
 exact ⟨n, hn, rfl⟩
theorem sh_sliceT {α : Type} {sz : Nat} (enc : α → List V) (Q : α → Prop) (hu : P.underlying t = some (.slice e)) (ce : P.cellsOf e = sz) (he : ∀ c, ShT P k e c → ∃ a, Q a ∧ c = enc a) (h : ShT P (k + 1) t vs) :
 ∃ A cap, ∃ l : List α, l.length ≤ maxLen ∧ (∀ x ∈ l, Q x) ∧ vs = [.im true A cap l.length (l.flatMap enc)] := by
 unfold ShT at h
 rw [hu] at h
 obtain ⟨A, cap, n, cs, rfl, h1, h2, h3⟩ := h
 simp only [ce] at h2 h3
 obtain ⟨l, q1, q2, q3⟩ := parse enc sz Q n cs h2 fun i hi => he _ (h3 i hi)
 subst q1 q2
 exact ⟨A, cap, l, h1, q3, rfl⟩
theorem sh_wordsT (hu : P.underlying t = some (.slice e)) (hue : P.underlying e = some (.int .u64)) (ce : P.cellsOf e = 1) (h : ShT P (k + 1 + 1) t vs) : ∃ A cap l, l.length ≤ maxLen ∧ (∀ x ∈ l, x < 18446744073709551616) ∧ vs = [.im true A cap l.length (uL l)] := by
 obtain ⟨A, cap, l, h1, h2, h3⟩ := sh_sliceT (fun x : Nat => [V.int .u64 (x : Int)]) (fun x => x < 18446744073709551616) hu ce (fun c h => sh_u64T hue h) h
 rw [← flat_uL] at h3
 exact ⟨A, cap, l, h1, h2, h3⟩
theorem args1T {m : Nat} {t1 : TypeId} {xs : List V} (h : ArgShLT P m [t1] xs) : ∃ x, xs = [x] ∧ ArgShT P m t1 x := by
 match xs, h with
 | [x], ⟨h1, _⟩ => exact ⟨x, rfl, h1⟩
end Go.Abs
end
noncomputable section
namespace Go.Abs
open Go Go.ChangeShapes Go.WideShapes Go.ChangeAt Go.RowKit
theorem AtOk.envT {E E' : Env} {w : World} {nx : Nat} {K : Nat → Prop} (hβ : E.β = E'.β) (hp : ∀ k, E.Gp k → E'.Gp k) (hb : ∀ k, E.Gb k → E'.Gb k) : ∀ {b : At}, AtOk E w nx K b → AtOk E' w nx K b := by
 have hf : ∀ {pm A cs}, FOk E w K pm A cs → FOk E' w K pm A cs := by
  intro pm A cs ⟨h1, h2, h3⟩
  refine ⟨h1, fun j x hx => ?_, fun hc => ⟨?_, (h3 hc).2⟩⟩
  ·obtain ⟨u, hu, hm⟩ := h2 j x hx
   exact ⟨u, hu, hβ ▸ hm⟩
  ·have := (h3 hc).1
   cases pm with
   | true => exact hp _ this
   | false => exact hb _ this
 intro b h
 cases b with
 | p b => exact h
 | i pm A cap n cs =>
   refine ⟨h.1, ?_⟩
   have h2 := h.2
   cases A with
   | none => exact h2
   | some a => exact hf h2
 | f pm A cs => exact hf h
theorem rowsL_tabLT (l : List Int) : rowsL (tabL l) = [] := by
 unfold tabL; induction l with
 | nil => rfl
 | cons x l ih => simp [rowsL, rows, ih]
theorem atomsL_tabLT (l : List Int) : atomsL (tabL l) = [] := by
 unfold tabL; induction l with
 | nil => rfl
 | cons x l ih => simp [atomsL, atoms, ih]
theorem noRowL_tabLT (l : List Int) : noRowL (tabL l) = true := by
 unfold tabL; induction l with
 | nil => rfl
 | cons x l ih => simp [noRowL, noRow, ih]
variable {P : Program} {H : Hint} {W : World} {K : Type} {enc : TypeId × Value → K}
def envGT (w : World) (g : Nat) : Env := ⟨fun _ => 0, fun _ => True, fun _ => True⟩
theorem rootG_rowsT (g : Nat) (l : List Int) : rowsD 0 (emptyS [] 0) [.ip true ⟨g, 0, none⟩ (tabL l)] = [] := by
 simp [rowsD, slotRows, boxRows, rowsL, rows, emptyS, rowsL_tabLT]
theorem rootG_keysT (g : Nat) (l : List Int) : keysD 0 (emptyS [] 0) [.ip true ⟨g, 0, none⟩ (tabL l)] = [] := by
 unfold keysD; rw [rootG_rowsT]; rfl
theorem rootG_invT {g : Nat} {l : List Int} (h : Table W g l) : Inv (envGT W g) 0 (emptyS [] 0) [.ip true ⟨g, 0, none⟩ (tabL l)] W := by
 refine ⟨fun e he => ?_, ?_, fun b hb => ?_, fun e he => ?_, ?_, fun k hk => ?_, fun k hk => trivial, fun k hk => trivial⟩
 ·rw [rootG_rowsT] at he; cases he
 ·rw [rootG_keysT]; exact List.nodup_nil
 ·have hb' : b = .f true ⟨g, 0, none⟩ (tabL l) := by
   simpa [atomsD, slotAtoms, boxAtoms, atomsL, atoms, emptyS, atomsL_tabLT] using hb
  subst hb'
  refine ⟨noRowL_tabLT l, fun j x hx => ?_, fun _ => ⟨trivial, fun hk => by rw [rootG_keysT] at hk; cases hk⟩⟩
  unfold tabL at hx
  rw [List.getElem?_map, Option.map_eq_some_iff] at hx
  obtain ⟨y, hy, rfl⟩ := hx
  refine ⟨.int .i64 y, ?_, .inl rfl⟩
  have e : (⟨g, 0, none⟩ : Addr).add j = ⟨g, j, none⟩ := by
   unfold Addr.add
   split
   ·rename_i h; subst h; rfl
   ·simp
  rw [e]; exact h j y hy
 ·cases he
 ·simp [emptyS]
 ·rw [rootG_keysT] at hk; cases hk
theorem law_callsGT {f : Nat} {fn : Func} {c : Code} {xs : List V} {us : List Value} {n : Nat} {bb : Bool} {m2 : List (Nat × Box)} {nx2 : Nat} {g : Nat} {l : List Int} (hm : P.follows .mixedOrders = true) (hX : XSm H) (hP : progB P H = true) (hCX : CalleeOk P H (CX H)) (hG : ∀ g' cs, H.G g' = some cs → g' = g ∧ cs = tabL l) (hT : Table W g l)
 (hf : P.funcs[f]? = some fn) (hb : fn.body = some c) (hpr : ∀ D, PRL (fun _ => 0) D xs us) (hfl : noRowL xs = true) (hat : ∀ b ∈ atomsL xs, AtOk (rootEnvT W) W 0 (fun _ => False) b)
 (hev : evCall P H n f xs [] 0 = some (.bool bb, m2, nx2)) : Calls P f us.toArray W fun e W' => e = .returned (.bool bb) ∧ Below W.heap.size W W' := by
 have hgood := evCall_ok hm hX hP hCX n f xs [] 0 _ _ _ hev (envGT W g) _ W us (rootG_invT hT) hpr hfl
  (fun b hb => (AtOk.envT (E := rootEnvT W) (E' := envGT W g) rfl (fun k hk => trivial) (fun k hk => hk) (hat b hb)).mono (Nat.le_refl _) (fun k hk => by rw [rootG_keysT] at hk; cases hk))
  (fun g' cs h => by obtain ⟨rfl, rfl⟩ := hG g' cs h; exact List.mem_cons_self)
 rcases hgood with ⟨_, h⟩ | ⟨v, w', h, _⟩
 ·refine h.mono fun e W' he => ?_
  cases e with
  | returned v =>
    obtain ⟨E', r', m2', s1, s2, hB, hpr', hT⟩ := he
    cases s1
    have : v = .bool bb := hpr' (emptyS [] 0)
    subst this
    refine ⟨rfl, hT.os, hT.tape, hT.out, hT.size, fun k hk => hT.same k hk ?_⟩
    rw [rootG_keysT]; intro h; cases h
  | panicked c => exact he.elim
  | outgrown => exact he.elim
 ·have hgood : H.good f = true := by
   cases n with
   | zero => cases hev
   | succ n =>
     unfold evCall at hev
     split at hev
     ·cases hev
     ·rename_i hg; simpa using hg
  obtain ⟨_, hn⟩ := progB_spec hP hgood hf hb
  rw [enter_run hf hb hn] at h
  cases h
theorem law_contractGT {f : Nat} {fn : Func} {c : Code} {s : ChangeSpec} {apart fresh handsOn : Bool} {m : Nat} {tb : TypeId} {g : Nat} {l : List Int} (hm : P.follows .mixedOrders = true) (hX : XSm H) (hP : progB P H = true) (hCX : CalleeOk P H (CX H)) (hG : ∀ g' cs, H.G g' = some cs → g' = g ∧ cs = tabL l)
 (hf : P.funcs[f]? = some fn) (hb : fn.body = some c) (hl : laidOutB P = true) (hts : (fn.params.toList.all fun t => shB P m t && P.readableRec t && decide (t < P.types.size)) = true) (hvars : s.vars = []) (hres : fn.resultTypes = #[tb]) (htb : P.underlying tb = some .bool)
 (hs : ∀ ds : List (DataW K), ds.length = fn.params.size → s.fn K ds = { results := [.lit (.bool true)], args := ds })
 (hev : ∀ xs, ArgShLT P m fn.params.toList xs → ∃ n m2 nx2, evCall P H n f xs [] 0 = some (.bool true, m2, nx2))
 (W : World) (hT : Table W g l) (base : Nat) (args : Array Value) (ds gs : List (DataW K)) (before : List MemPlace) (hval : ∀ (j : Nat) t v, fn.params[j]? = some t → args[j]? = some v → Value.okWide P W .any base t v)
 (hW : DataW.Whole enc P fn.params.toList s.vars apart W args.toList ds gs before) :
 Calls P f args W fun e W' => ∃ v, e = .returned v ∧ s.post enc P fn apart fresh handsOn false W args v W' := by
 have hW' := hW
 obtain ⟨p, q, hA, hV, hbe, hfz, hnd⟩ := hW
 rw [hvars] at hV
 obtain ⟨hgs, hq⟩ := trodVars_none hV
 rw [List.all_eq_true] at hts
 have hts1 : ∀ t ∈ fn.params.toList, shB P m t = true ∧ P.readableRec t = true ∧ t < P.types.size := fun t ht => by
  have := hts t ht
  simp only [Bool.and_eq_true, decide_eq_true_eq] at this
  exact ⟨this.1.1, this.1.2, this.2⟩
 obtain ⟨xs, a1, a2, a3, a4⟩ := args_readT (fun t ht => (hts1 t ht).1) (fun j t v ht hv => hval j t v (by rw [← Array.getElem?_toList]; exact ht) (by rw [← Array.getElem?_toList]; exact hv)) hA
 obtain ⟨n, m2, nx2, h⟩ := hev xs a1
 have hcall := law_callsGT (W := W) hm hX hP hCX hG hT hf hb a2 a3 a4 h
 rw [Array.toArray_toList] at hcall
 refine hcall.mono fun e W' ⟨he, hbel⟩ => ⟨.bool true, he, ?_⟩
 have hdl : ds.length = fn.params.size := by
  have key : ∀ {ts : List TypeId} {vs : List Value} {ds : List (DataW K)} {ps : List MemPlace}, DataW.TrodAll enc P W 0 (fun _ => true) true ts vs ds ps → ds.length = ts.length := by
   intro ts
   induction ts with
   | nil => intro vs ds ps h; cases vs <;> cases ds <;> simp [DataW.TrodAll] at h ⊢
   | cons t ts ih =>
     intro vs ds ps h
     obtain ⟨v, vs', d, ds', p, q, rfl, rfl, rfl, h1, h2⟩ := trodAll_cons h
     simp [ih h2]
  simpa using key hA
 have hsf := hs (ds ++ gs) (by rw [hgs, List.append_nil]; exact hdl)
 refine ⟨ds, gs, before, [], p, [], hW', ?_, ?_, ?_, hbel.frame _, fun h => by cases h⟩
 ·rw [hsf, hres]
  exact trodAll_mk1 (shut_bool htb true)
 ·rw [hsf, hgs, List.append_nil]
  exact trodAll_belowT hl hbel (fun t ht => (hts1 t ht).2) hA
 ·rw [hsf, hvars]
  exact rfl
end Go.Abs
end
