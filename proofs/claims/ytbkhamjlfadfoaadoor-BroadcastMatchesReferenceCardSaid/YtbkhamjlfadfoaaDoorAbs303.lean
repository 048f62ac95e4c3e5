/- Joined: AbsP AbsQ AbsR AbsS AbsU AbsW AbsX AbsY AbsZ AbsAA. -/
import Derived.Test.YtbkhamjlfadfoaaDoorAbs302
set_option linter.all false
set_option maxHeartbeats 16000000
noncomputable section
namespace Go.Abs
open Go
def Leads (H : Hint) (E : Env) (nt : Nat) (D : St) (ex : List V) (w : World) (D1 : St) (K : Act → World → Prop) : Prop :=
 ∀ E' D1' w' a', SmS D1 D1' → To E nt D ex w E' D1' ex w' → Now H E' nt D1' ex w' a' → K a' w'
theorem Leads.pre {H : Hint} {E E1 : Env} {nt : Nat} {D D0 D1 : St} {ex : List V} {w w1 : World} {K : Act → World → Prop} (h : Leads H E nt D ex w D1 K) (ht : To E nt D ex w E1 D0 ex w1) : Leads H E1 nt D0 ex w1 D1 K :=
 fun E' D1' w' a' hs hT hN => h E' D1' w' a' hs (ht.trans hT) hN
theorem lay_fin {E : Env} {nt : Nat} {D : St} {ex : List V} {w : World} {a : Act} {dst : Option Nat} {v : V} {u : Value} (hI : Inv E nt D (v :: ex) w) (hS : SlotsOk E nt D a) (hd : ∀ t, dst = some t → t < nt) (hu : PR E.β D v u) :
 Inv E nt (D.lay dst v) ex w ∧ SlotsOk E nt (D.lay dst v) (a.put dst u) ∧ To E nt D (v :: ex) w E (D.lay dst v) ex w := by
 cases dst with
 | none => exact ⟨hI.drop, hS, To.of_keys rfl fun k hk => keysD_drop hk⟩
 | some t =>
   obtain ⟨h1, h2, h3, h4, h5⟩ := lay_ok hI hS (hd t rfl) hu
   exact ⟨h1, h2, To.of_keys h3 h5⟩
theorem Seen.join {E : Env} {nt : Nat} {D : St} {ex : List V} {w : World} {v : V} {u : Value} (hs : Seen E nt D ex w v u) (hI : Inv E nt D ex w) : Inv E nt D (v :: ex) w ∧ To E nt D ex w E D (v :: ex) w := by
 refine ⟨hI.join hs.flat hs.ok, To.of_keys rfl fun k hk => ?_⟩
 rw [show keysD nt D _ = keysOf (rowsD nt D _) from rfl, (keysOf_perm (rowsD_ex nt D _ ex)).mem_iff, keysOf_append] at hk
 rcases List.mem_append.1 hk with hk | hk
 ·obtain ⟨e, he, hk⟩ := List.mem_filterMap.1 hk
  rw [(hs.flat e he).2] at hk; cases hk
 ·exact hk
variable {P : Program} {H : Hint} {E : Env} {nt : Nat} {D D1 : St} {ex : List V} {w : World} {a : Act} {o : Oper} {K : Act → World → Prop} {Q : Exit → Act → World → Prop}
theorem op_done {E2 : Env} {D2 : St} {w2 : World} {v : V} {u : Value} (hN : Now H E nt D ex w a) (hd : ∀ t, o.dst = some t → t < nt) (hI : Inv E2 nt D2 (v :: ex) w2) (hS : SlotsOk E2 nt D2 a) (hT : To E nt D ex w E2 D2 (v :: ex) w2) (hu : PR E2.β D2 v u)
 (hrun : (execOp a.eval o).run P w = .ok (.value u) w2) (hs : SmS D1 (D2.lay o.dst v)) (hK : Leads H E nt D ex w D1 K) : o.wp P a w K Q := by
 obtain ⟨h1, h2, h3⟩ := lay_fin hI hS hd hu
 simp only [Oper.wp, hrun, Oper.upon_value]
 exact hK _ _ _ _ hs (hT.trans h3) ⟨h1, h2, hN.glob⟩
theorem op_value {v : V} {u : Value} (hN : Now H E nt D ex w a) (hd : ∀ t, o.dst = some t → t < nt) (hs : Seen E nt D ex w v u)
 (hrun : (execOp a.eval o).run P w = .ok (.value u) w) (hK : Leads H E nt D ex w (D.lay o.dst v) K) : o.wp P a w K Q := by
 obtain ⟨h1, h2⟩ := hs.join hN.inv
 exact op_done hN hd h1 hN.slots h2 hs.pr hrun (SmS.refl _) hK
theorem okAddr_ptr {v : V} {u : Value} (hN : Now H E nt D ex w a) (hs : Seen E nt D ex w v u) (hok : okAddr D v = true) : ∃ A, u = .pointer (some A) := by
 cases v <;> simp only [okAddr] at hok <;> try (cases hok)
 case bptr => exact ⟨_, hs.pr⟩
 case ip => exact ⟨_, hs.pr⟩
 case loc r p =>
  split at hok
  ·rename_i r' q j ht
   rw [Bool.and_eq_true] at hok
   cases hl : look D r' (q ++ [j]) with
   | none => rw [hl] at hok; simp at hok
   | some old =>
     obtain ⟨g, cap, kk, cur, el, h1, h2, h3, h4, h5⟩ := place_ok hN.inv hok.1 hl (canStore_lt hN.slots hok.1)
     exact ⟨_, target_addr ht hs.pr h1⟩
  ·cases hok
theorem seen_int (k : IntKind) (n : Int) : Seen E nt D ex w (.int k n) (.int k n) := ⟨rfl, fun b hb => by simp [atoms] at hb, fun e he => by simp [rows] at he⟩
theorem seen_bool (b : Bool) : Seen E nt D ex w (.bool b) (.bool b) := ⟨rfl, fun b hb => by simp [atoms] at hb, fun e he => by simp [rows] at he⟩
section
variable {C : Callee} {fz : Bool} (hN : Now H E nt D ex w a) (hd : ∀ t, o.dst = some t → t < nt) (h : evOp P H C fz o D = some D1) (hK : Leads H E nt D ex w D1 K)
include hN hd h hK
theorem op_move {x : Operand} (ho : o.op = .move x) : o.wp P a w K Q := by
 unfold evOp at h
 simp only [ho] at h
 split at h
 ·rename_i v hv
  cases h
  exact op_value hN hd (ev_ok hN hv) (by simp [execOp, ho]) hK
 ·cases h
theorem op_assign {x : Operand} (ho : o.op = .assign x) : o.wp P a w K Q := by
 unfold evOp at h
 simp only [ho] at h
 split at h
 ·rename_i v hv
  split at h
  ·rename_i y D2 hy
   cases h
   have hs := ev_ok hN hv
   obtain ⟨h1, h2⟩ := settle_ok hN.inv hN.slots hs.pr hs.ok hs.flat hy
   exact op_done hN hd h1.inv h1.slots (To.of_keys h1.nx h1.keys) (h2 _) (by simp [execOp, ho]) (SmS.refl _) hK
  ·cases h
 ·cases h
theorem op_pick {c x y : Operand} (ho : o.op = .pick c x y) : o.wp P a w K Q := by
 unfold evOp at h
 simp only [ho] at h
 split at h
 ·rename_i t hc
  have hc1 : a.eval c = .bool t := (ev_ok hN hc).pr
  split at h
  ·rename_i bx by_ hx hy
   cases h
   have hx1 : a.eval x = .bool bx := (ev_ok hN hx).pr
   have hy1 : a.eval y = .bool by_ := (ev_ok hN hy).pr
   refine op_value hN hd (seen_bool _) ?_ hK
   simp only [execOp, ho, hc1, hx1, hy1]
   cases t <;> simp [asBool]
  ·split at h
   ·rename_i v hv
    cases h
    refine op_value (u := if t then a.eval x else a.eval y) hN hd ?_ ?_ hK
    ·cases t
     ·exact ev_ok hN hv
     ·exact ev_ok hN hv
    ·simp only [execOp, ho, hc1]
     cases t <;> simp [asBool]
   ·cases h
 ·cases h
theorem op_nilCheck {x : Operand} (ho : o.op = .nilCheck x) : o.wp P a w K Q := by
 unfold evOp at h
 simp only [ho] at h
 split at h
 ·rename_i b o' hv
  cases h
  have hs := ev_ok hN hv
  refine op_value hN hd hs ?_ hK
  have : a.eval x = _ := hs.pr
  simp [execOp, ho, this]
 ·rename_i pm A cs hv
  cases h
  have hs := ev_ok hN hv
  refine op_value hN hd hs ?_ hK
  have : a.eval x = _ := hs.pr
  simp [execOp, ho, this]
 ·rename_i r p hv
  split at h
  ·rename_i hok
   cases h
   have hs := ev_ok hN hv
   refine op_value hN hd hs ?_ hK
   obtain ⟨A, hA⟩ := okAddr_ptr hN hs hok
   simp [execOp, ho, hA]
  ·cases h
 ·cases h
end
section
variable {P : Program} {w : World}
theorem sizeT_info {t : TypeId} {k : Nat} (h : sizeT P t = some k) : ∃ i, P.info? t = some i ∧ i.size = k := by
 unfold sizeT at h
 split at h
 ·rename_i i hi; cases h; exact ⟨i, hi, rfl⟩
 ·cases h
theorem run_typeInfo' {t : TypeId} {i : TypeInfo} (h : P.info? t = some i) : (typeInfo t).run P w = .ok i w := by
 simp [typeInfo, h]
theorem run_sizeOf' {t : TypeId} {k : Nat} (h : sizeT P t = some k) : (sizeOf t).run P w = .ok k w := by
 obtain ⟨i, hi, rfl⟩ := sizeT_info h
 simp [sizeOf, run_typeInfo' hi]
theorem run_underlying' {t : TypeId} {d : TypeDesc} (h : P.underlying t = some d) : (underlying t).run P w = .ok d w := by
 simp [underlying, h]
theorem run_isAgg' {t : TypeId} {b : Bool} (h : aggT P t = some b) : (isAgg t).run P w = .ok b w := by
 unfold aggT at h
 cases hu : P.underlying t with
 | none => rw [hu] at h; cases h
 | some d =>
   rw [hu] at h
   cases d <;> (cases h; simp [isAgg, run_underlying' hu])
theorem zeroT_info {t : TypeId} {l : List V} (h : zeroT P t = some l) : ∃ i z, P.info? t = some i ∧ i.zero = some z ∧ ofCells z.cells.toList = some l := by
 unfold zeroT at h
 split at h
 ·rename_i i hi
  split at h
  ·rename_i z hz; exact ⟨i, z, hi, hz, h⟩
  ·cases h
 ·cases h
theorem run_zeroValue' {t : TypeId} {i : TypeInfo} {z : Value} (h : P.info? t = some i) (hz : i.zero = some z) : (zeroValue t).run P w = .ok z w := by
 simp [zeroValue, run_typeInfo' h, hz]
end
variable {P : Program} {H : Hint} {E : Env} {nt : Nat} {D D1 : St} {ex : List V} {w : World} {a : Act} {o : Oper} {K : Act → World → Prop} {Q : Exit → Act → World → Prop}
theorem PRL_get {β : Nat → Nat} {D : St} : ∀ {l : List V} {us : List Value}, PRL β D l us → l.length = us.length ∧ ∀ (j : Nat) (x : V), l[j]? = some x → ∃ u, us[j]? = some u ∧ PR β D x u
 | [], us, h => by simp only [PRL] at h; subst h; exact ⟨rfl, fun j x hx => by simp at hx⟩
 | v :: l, us, h => by
   obtain ⟨u, us', rfl, h1, h2⟩ := h
   obtain ⟨h3, h4⟩ := PRL_get h2
   refine ⟨by simp [h3], fun j x hx => ?_⟩
   cases j with
   | zero => simp at hx; subst hx; exact ⟨u, rfl, h1⟩
   | succ j => simp at hx ⊢; exact h4 j x hx
theorem PRL_of {β : Nat → Nat} {D : St} : ∀ {l : List V} {us : List Value}, l.length = us.length → (∀ (j : Nat) (x : V), l[j]? = some x → ∃ u, us[j]? = some u ∧ PR β D x u) → PRL β D l us
 | [], us, hl, h => by simp at hl; exact List.eq_nil_of_length_eq_zero hl.symm
 | v :: l, [], hl, h => by simp at hl
 | v :: l, u :: us, hl, h => by
   refine ⟨u, us, rfl, ?_, PRL_of (by simpa using hl) fun j x hx => ?_⟩
   ·obtain ⟨u', hu, hp⟩ := h 0 v rfl; simp at hu; subst hu; exact hp
   ·obtain ⟨u', hu, hp⟩ := h (j + 1) x (by simpa using hx); exact ⟨u', by simpa using hu, hp⟩
theorem cells_PRL {β : Nat → Nat} {D : St} {y : V} {u : Value} (h : ∀ x ∈ y.cells, cellIn x = true) (hu : PR β D y u) : PRL β D y.cells u.cells.toList := by
 cases y <;> first
  | (obtain ⟨us, rfl, hl⟩ := hu; simpa [V.cells, Value.cells] using hl)
  | (have hh := cellIn_hd (h _ (by simp [V.cells])) hu
     have h1 := hd_oneCell hh
     have : u.cells.toList = [u] := by cases u <;> simp_all [Value.oneCell', Value.cells]
     rw [this]
     exact ⟨u, [], rfl, hu, rfl⟩)
  | (have := h _ (by simp [V.cells]); simp [cellIn, solid] at this)
theorem loadCells_from (A : Addr) : ∀ (us : List Value) (i : Nat) (acc : Array Value), (∀ j u, us[j]? = some u → w.cell? (A.add (i + j)) = some u) → (loadCellsFrom A i us.length acc).run P w = .ok (acc ++ us.toArray) w
 | [], i, acc, h => by simp [loadCellsFrom]
 | u :: us, i, acc, h => by
   have h0 := h 0 u rfl
   have ih := loadCells_from A us (i + 1) (acc.push u) (fun j v hv => by rw [show i + 1 + j = i + (j + 1) by omega]; exact h (j + 1) v (by simpa using hv))
   have he : acc.push u ++ us.toArray = acc ++ (u :: us).toArray := by rw [← Array.toList_inj]; simp
   simp only [List.length_cons, loadCellsFrom, Sem.run_bind, run_load, show w.cell? (A.add i) = some u from h0]
   rw [← he]; exact ih
theorem loadV_ok {D : St} {ex : List V} (hI : Inv E nt D ex w) (hS : SlotsOk E nt D a) {t : TypeId} {v y : V} {u : Value} (hu : PR E.β D v u) (hv : VOk E nt D ex w v) (h : loadV P D t v = some y) :
 ∃ A r, u = .pointer (some A) ∧ (loadVar t A).run P w = .ok r w ∧ Seen E nt D ex w y r := by
 have tgt : ∀ v', v' = v → (match target v' with
  | some (r, p, j) => match aggT P t, sizeT P t with
    | some true, some (k + 1) => match loadAt D r p j (k + 1) with | some l => some (V.agg l) | none => none
    | some false, _ => match loadAt D r p j 1 with | some (c :: _) => some c | _ => none
    | _, _ => none
  | none => none) = some y → ∃ A r, u = .pointer (some A) ∧ (loadVar t A).run P w = .ok r w ∧ Seen E nt D ex w y r := by
  intro v' hv' h1
  subst hv'
  clear h
  have h := h1
  clear h1
  have hcont : ∀ {r p j k l}, loadAt D r p j (k + 1) = some l → ∃ g, contOf E.β D r p = some g := by
   intro r p j k l hl
   simp only [loadAt] at hl
   cases hq : look D r (p ++ [j]) with
   | none => rw [hq] at hl; cases hl
   | some x =>
     rw [hq] at hl
     simp only at hl
     split at hl
     ·rename_i hck
      obtain ⟨g, cap, kk, cur, el, h1, _⟩ := place_ok hI hck hq (canStore_lt hS hck)
      exact ⟨g, h1⟩
     ·cases hl
  split at h
  ·rename_i r p j ht
   split at h
   ·rename_i k hag hsz
    split at h
    ·rename_i l hl
     cases h
     obtain ⟨g, hg⟩ := hcont hl
     obtain ⟨us, e1, e2, e3, e4, e5, e6⟩ := loadAt_ok (P := P) (g := g) (o0 := j) (i := 0) hI hS #[] (by simpa using hl) (.inr hg)
     refine ⟨⟨g, j, none⟩, .agg us.toArray, target_addr ht hu hg, ?_, ⟨⟨us, rfl, e3⟩, fun b hb => hI.atoms b (e4 b hb), fun e he => ?_⟩⟩
     ·simp [loadVar, run_isAgg' hag, run_sizeOf' hsz, loadCells, e1]
     ·rw [show rows (V.agg l) = rowsL l from rfl, rowsL_noRow e5] at he; cases he
    ·cases h
   ·rename_i hag
    split at h
    ·rename_i c l' hl
     cases h
     obtain ⟨g, hg⟩ := hcont hl
     obtain ⟨us, e1, e2, e3, e4, e5, e6⟩ := loadAt_ok (P := P) (g := g) (o0 := j) (i := 0) hI hS #[] (by simpa using hl) (.inr hg)
     obtain ⟨u0, us', rfl, hu0, _⟩ := e3
     refine ⟨⟨g, j, none⟩, u0, target_addr ht hu hg, ?_, ⟨hu0, fun b hb => hI.atoms b (e4 b (List.mem_append_left _ hb)), fun e he => ?_⟩⟩
     ·have hc := e6 0 u0 rfl
      simp only [Nat.add_zero] at hc
      simp [loadVar, run_isAgg' hag, hc]
     ·simp only [noRowL, Bool.and_eq_true] at e5
      rw [rows_noRow e5.1] at he; cases he
    ·cases h
   ·cases h
  ·cases h
 cases v <;> first
  | exact tgt _ rfl h
  | skip
 case ip pm A cs =>
  simp only [loadV] at h
  have hf : FOk E w _ pm A cs := hv (.f pm A cs) (by simp [atoms])
  have hat : ∀ b ∈ atomsL cs, AtOk E w D.nx (fun k => k ∈ keysD nt D ex) b := fun b hb => hv b (by simp only [atoms]; exact List.mem_cons_of_mem _ hb)
  split at h
  ·rename_i k hag hsz
   split at h
   ·rename_i hk
    cases h
    have hex : ∀ j, j < k → ∃ u, w.cell? (A.add j) = some u := fun j hj => by
     obtain ⟨u, hu, _⟩ := hf.2.1 j _ (List.getElem?_eq_getElem (by omega)); exact ⟨u, hu⟩
    let us : List Value := (List.range k).map fun j => (w.cell? (A.add j)).getD undef
    have hus : ∀ j u, us[j]? = some u → w.cell? (A.add j) = some u := by
     intro j u hj
     simp only [us, List.getElem?_map, Option.map_eq_some_iff] at hj
     obtain ⟨q, hq, rfl⟩ := hj
     have hq2 := List.getElem?_eq_some_iff.1 hq
     obtain ⟨hlt, rfl⟩ := hq2
     simp only [List.length_range] at hlt
     obtain ⟨u, hu⟩ := hex j hlt
     simp [hu]
    have hlen : us.length = k := by simp [us]
    have hrun := loadCells_from (P := P) (w := w) A us 0 #[] (by simpa using hus)
    refine ⟨A, .agg us.toArray, hu, ?_, ⟨⟨us, rfl, PRL_of (by simp [hlen]; omega) fun j x hx => ?_⟩, fun b hb => hat b ?_, fun e he => ?_⟩⟩
    ·rw [hlen] at hrun
     simp [loadVar, run_isAgg' hag, run_sizeOf' hsz, loadCells, hrun]
    ·have hj : j < k := by have := (List.getElem?_eq_some_iff.1 hx).1; simp at this; omega
     have hx' : cs[j]? = some x := by rw [List.getElem?_take_of_lt hj] at hx; exact hx
     obtain ⟨u', hu', hm⟩ := hf.2.1 j x hx'
     refine ⟨u', ?_, MR_PR hm⟩
     have : us[j]? = some us[j] := List.getElem?_eq_getElem (by omega)
     have h2 := hus j _ this
     rw [hu'] at h2; cases h2; exact this
    ·obtain ⟨x, hx, hb⟩ := atomsL_mem hb
     exact atoms_mem (List.mem_of_mem_take hx) hb
    ·rw [show rows (V.agg (cs.take k)) = rowsL (cs.take k) from rfl] at he
     obtain ⟨x, hx, he⟩ := rowsL_mem he
     rw [rows_noRow (noRowL_mem hf.1 (List.mem_of_mem_take hx))] at he; cases he
   ·cases h
  ·rename_i hag
   obtain ⟨u', hu', hm⟩ := hf.2.1 0 y h
   refine ⟨A, u', hu, ?_, ⟨MR_PR hm, fun b hb => hat b (atoms_mem (List.mem_of_getElem? h) hb), fun e he => ?_⟩⟩
   ·have : A.add 0 = A := rfl
    rw [this] at hu'
    simp [loadVar, run_isAgg' hag, hu']
   ·rw [rows_noRow (noRowL_mem hf.1 (List.mem_of_getElem? h))] at he; cases he
  ·cases h
section
variable {C : Callee} {fz : Bool} (hN : Now H E nt D ex w a) (hd : ∀ t, o.dst = some t → t < nt) (h : evOp P H C fz o D = some D1) (hK : Leads H E nt D ex w D1 K)
include hN hd h hK
theorem op_load {t : TypeId} {x : Operand} (ho : o.op = .load t x) : o.wp P a w K Q := by
 unfold evOp at h
 simp only [ho] at h
 split at h
 ·rename_i v hv
  split at h
  ·rename_i y hy
   cases h
   have hs := ev_ok hN hv
   obtain ⟨A, r, h1, h2, h3⟩ := loadV_ok hN.inv hN.slots hs.pr hs.ok hy
   refine op_value hN hd h3 ?_ hK
   simp [execOp, ho, Instr.loadAt, h1, Instr.sureAddr, h2]
  ·cases h
 ·cases h
theorem op_store {t : TypeId} {x y : Operand} (ho : o.op = .store t x y) : o.wp P a w K Q := by
 unfold evOp at h
 simp only [ho] at h
 split at h
 ·rename_i v hv
  split at h
  ·rename_i yv D2 hy
   split at h
   ·rename_i va hva
    split at h
    ·rename_i r p j ht
     split at h
     ·rename_i hck
      obtain ⟨hsz, hne⟩ := hck
      split at h
      ·rename_i D3 hst
       cases h
       have hs := ev_ok hN hv
       obtain ⟨h1, h2⟩ := settle_ok hN.inv hN.slots hs.pr hs.ok hs.flat hy
       have hN2 : Now H E nt D2 (yv :: ex) w a := ⟨h1.inv, h1.slots, fun g cs hg => List.mem_cons_of_mem _ (hN.glob g cs hg)⟩
       have hs2 := ev_ok hN2 hva
       have hin : ∀ (l : List V) {D D' : St} {j : Nat}, storeAt D r p j l = some D' → ∀ x ∈ l, cellIn x = true := by
        intro l
        induction l with
        | nil => intro D D' j _ x hx; cases hx
        | cons z l ih =>
          intro D D' j hq x hx
          simp only [storeAt] at hq
          cases hl : look D r (p ++ [j]) with
          | none => rw [hl] at hq; cases hq
          | some old =>
            rw [hl] at hq
            simp only at hq
            split at hq
            ·rename_i hc
             rw [Bool.and_eq_true] at hc
             rcases List.mem_cons.1 hx with rfl | hx
             ·exact hc.1
             ·exact ih hq x hx
            ·cases hq
       have hcells : ∀ D, PRL E.β D yv.cells (a.eval y).cells.toList := fun D => cells_PRL (hin _ hst) (h2 D)
       have hIc : Inv E nt D2 (yv.cells ++ ex) w := by
        cases yv <;> first
         | exact h1.inv
         | (have := h1.inv; refine this.weaken [] (rowsD nt D2 (V.agg _ :: ex)) _ (List.Perm.refl _) (RLeL.refl _ _) (by unfold rowsD; simp only [V.cells, rowsL_append, rowsL, Abs.rows]; exact List.Perm.refl _) (fun b hb => ?_) (fun e he => ⟨e, he, rfl, rfl⟩) this.ids rfl
            unfold atomsD at hb ⊢; simpa only [V.cells, atomsL, atomsL_append, atoms] using hb)
       have hkc : ∀ k, k ∈ keysD nt D2 (yv.cells ++ ex) → k ∈ keysD nt D2 (yv :: ex) := by
        intro k hk
        cases yv <;> first
         | exact hk
         | (rw [keysD_pack (y := V.agg _) (l := _) rfl]; exact hk)
       have hcg : ∃ g, contOf E.β D2 r p = some g := by
        cases hyc : yv.cells with
        | nil => exact absurd hyc hne
        | cons z l =>
          rw [hyc] at hst
          simp only [storeAt] at hst
          cases hl : look D2 r (p ++ [j]) with
          | none => rw [hl] at hst; cases hst
          | some old =>
            rw [hl] at hst
            simp only at hst
            split at hst
            ·rename_i hc
             rw [Bool.and_eq_true] at hc
             obtain ⟨g, cap, kk, cur, el, g1, _⟩ := place_ok h1.inv hc.2 hl (canStore_lt h1.slots hc.2)
             exact ⟨g, g1⟩
            ·cases hst
       obtain ⟨g, hg⟩ := hcg
       obtain ⟨w', e1, e2, e3, e4⟩ := storeAt_ok (P := P) (g := g) (o0 := j) (i := 0) (by simpa using hst) (.inr hg) hIc h1.slots hcells
       have haddr := target_addr ht hs2.pr hg
       have hlen : (a.eval y).cells.size = yv.cells.length := by
        have := (PRL_get (hcells D2)).1; simp at this; exact this.symm
       have hT : To E nt D ex w E D3 ex w' := ((To.of_keys h1.nx h1.keys).trans (To.of_keys rfl hkc)).trans e4
       have hrun : (execOp a.eval o).run P w = .ok .skip w' := by
        simp only [execOp, ho, Instr.storeAt, haddr, Instr.sureAddr, Sem.run_bind, Sem.run_pure, storeVar, run_sizeOf' hsz, hlen]
        simp only [ne_eq, Result.andThen_ok, not_true_eq_false, if_false]
        rw [show (storeCells ⟨g, j, none⟩ (a.eval y).cells.toList).run P w = .ok () w' from e1]
        rfl
       have hI4 : Inv E nt D3 (.dead :: ex) w' := e2.join (v := .dead) (fun e he => by simp [Abs.rows] at he) (fun b hb => by simp [atoms] at hb)
       obtain ⟨f1, f2, f3⟩ := lay_fin (dst := o.dst) (v := .dead) (u := undef) hI4 e3 hd trivial
       have hk4 : To E nt D3 ex w' E D3 (.dead :: ex) w' := To.of_keys rfl fun k hk => by
        rw [show keysD nt D3 _ = keysOf (rowsD nt D3 _) from rfl, (keysOf_perm (rowsD_ex nt D3 _ ex)).mem_iff, keysOf_append] at hk
        rcases List.mem_append.1 hk with hk | hk
        ·simp [Abs.rows, keysOf] at hk
        ·exact hk
       simp only [Oper.wp, hrun, Oper.upon_skip]
       exact hK _ _ _ _ (SmS.refl _) ((hT.trans hk4).trans f3) ⟨f1, f2, hN.glob⟩
      ·cases h
     ·cases h
    ·cases h
   ·cases h
  ·cases h
 ·cases h
end
end Go.Abs
end
noncomputable section
namespace Go.Abs
open Go
variable {P : Program} {H : Hint} {E : Env} {nt : Nat} {D D1 : St} {ex : List V} {w : World} {a : Act} {o : Oper} {K : Act → World → Prop} {Q : Exit → Act → World → Prop}
theorem eqGuard_free {op : BinOp} {t : TypeId} {x y : Operand} {u u' : Value} (h : (∀ us, u ≠ .agg us) ∧ u ≠ .nilIface) : (eqGuard op t x y u u').run P w = .ok () w := by
 cases op <;> first
  | rfl
  | (cases u <;> first
   | rfl
   | exact absurd rfl h.2
   | exact absurd rfl (h.1 _))
theorem map_arr {α β : Type} (f : α → β) (xs : Array α) : xs.map f = (xs.toList.map f).toArray := by rw [← Array.toList_inj]; simp
theorem eqFs_run {β : Nat → Nat} {D1 : St} (d : Nat) : ∀ (fs : List Field) {xs ys : List V} {us vs : List Value} {r : Bool}, eqFs P fs xs ys = some r → PRL β D1 xs us → PRL β D1 ys vs → (Op.eqFields (d + 1) us.toArray vs.toArray fs).run P w = .ok r w
 | [], _, _, _, _, r, h, _, _ => by
   cases h; rfl
 | f :: fs, xs, ys, us, vs, r, h, hx, hy => by
   unfold eqFs at h
   split at h
   ·cases h
   rename_i hn
   split at h
   case h_2 => cases h
   rename_i k0 k a k' b hag hu e1 e2
   have getI : ∀ {o : Option V} {q : IntKind × Int}, intV o = some q → o = some (.int q.1 q.2) := fun {o q} h => by
    unfold intV at h
    split at h
    ·cases h; rfl
    ·cases h
   replace e1 := getI e1
   replace e2 := getI e2
   split at h
   case isFalse => cases h
   rename_i hk
   subst hk
   obtain ⟨u, hu1, hp1⟩ := (PRL_get hx).2 _ _ e1
   obtain ⟨v, hv1, hp2⟩ := (PRL_get hy).2 _ _ e2
   have hp1 : u = .int k a := hp1
   have hp2 : v = .int k b := hp2
   subst hp1 hp2
   have q1 : (part f.type us.toArray f.offset).run P w = .ok (.int k a) w := by simp [part, run_isAgg' hag, hu1]
   have q2 : (part f.type vs.toArray f.offset).run P w = .ok (.int k b) w := by simp [part, run_isAgg' hag, hv1]
   have q3 := run_equalIn_int w d f.type k _ a b hu
   unfold Op.eqFields
   rw [if_pos hn]
   simp only [Sem.run_bind, q1, q2, q3, Result.andThen_ok, Sem.run_ite]
   by_cases hab : a = b
   ·rw [if_pos hab] at h
    have : (a == b) = true := by simp [hab]
    rw [this]
    simp only [Bool.not_true, Bool.false_eq_true, if_false]
    exact eqFs_run d fs h hx hy
   ·rw [if_neg hab] at h
    cases h
    have : (a == b) = false := by simpa using hab
    rw [this]
    simp
theorem eqStruct_run {β : Nat → Nat} {D1 : St} {op : BinOp} {t : TypeId} {x y : Operand} {xs ys : List V} {us vs : List Value} {r : Bool} {v : V} (h : eqStruct P t xs ys = some r) (hv : eqB op r = some v) (hx : PRL β D1 xs us) (hy : PRL β D1 ys vs) :
 ∃ b, v = .bool b ∧ (eqGuard op t x y (.agg us.toArray) (.agg vs.toArray)).run P w = .ok () w ∧ (binOp op t (.agg us.toArray) (.agg vs.toArray)).run P w = .ok (.bool b) w := by
 unfold eqStruct at h
 split at h
 case h_2 => cases h
 rename_i fs hu
 split at h
 ·cases h
 rename_i hg
 simp only [Bool.or_eq_true, not_or, Bool.not_eq_true] at hg
 have hf : P.fieldsOf t = fs := by unfold Program.fieldsOf; rw [hu]
 have he : (Op.equalIn 10000 t (.agg us.toArray) (.agg vs.toArray)).run P w = .ok r w := by
  have := run_equalIn_agg w 9999 t us.toArray vs.toArray (by rw [hf]; exact hu) hg.1
  rw [hf] at this
  exact this.trans (eqFs_run 9998 fs.toList h hx hy)
 have hgd := run_eqGuard_agg w op t x y us.toArray vs.toArray hg.2
 unfold eqB at hv
 split at hv
 ·cases hv
  exact ⟨r, rfl, hgd, by rw [run_eql_struct, he]; rfl⟩
 ·cases hv
  exact ⟨!r, rfl, hgd, by rw [run_neq_struct, he]; rfl⟩
 ·cases hv
theorem equal_of {t : TypeId} {x y : Value} {r : Result Bool} (h : ∀ d, (Op.equalIn (d + 1) t x y).run P w = r) : (Op.equal t x y).run P w = r := h 9999
theorem intOp_ok {op : BinOp} {k : IntKind} {x y : Int} {v : V} (h : intOp op k x y = some v) (t : TypeId) : ∃ u, (binOp op t (.int k x) (.int k y)).run P w = .ok u w ∧ Seen E nt D ex w v u := by
 cases op <;> simp only [intOp] at h <;> first
  | (cases h; refine ⟨_, ?_, seen_int _ _⟩; simp [binOp, Op.intBits, Op.intArith, Op.intCmp]; done)
  | (cases h; refine ⟨_, ?_, seen_bool _⟩; simp [binOp, Op.intBits, Op.intArith, Op.intCmp]; done)
  | (split at h
     ·cases h
     ·rename_i hy; cases h; refine ⟨_, ?_, seen_int _ _⟩; simp [binOp, Op.intDiv, hy]; done)
  | (cases h; done)
theorem shOp_ok {op : BinOp} (hs : isSh op = true) {k k' : IntKind} {x y : Int} {v : V} (h : shOp op k x y = some v) (t : TypeId) : ∃ u, (binOp op t (.int k x) (.int k' y)).run P w = .ok u w ∧ Seen E nt D ex w v u := by
 unfold shOp at h
 split at h
 ·cases h
 ·rename_i hy
  cases op <;> simp [isSh] at hs <;> (cases h; exact ⟨_, by simp [binOp, Op.shift, hy], seen_int _ _⟩)
section
variable {C : Callee} {fz : Bool} (hN : Now H E nt D ex w a) (hd : ∀ t, o.dst = some t → t < nt) (h : evOp P H C fz o D = some D1) (hK : Leads H E nt D ex w D1 K)
include hN hd h hK
theorem op_binOp {op : BinOp} {t t2 : TypeId} {x y : Operand} (ho : o.op = .binOp op t x y t2) : o.wp P a w K Q := by
 unfold evOp at h
 simp only [ho] at h
 split at h
 case h_2 => cases h
 rename_i va vb hx hy
 split at h
 case h_2 => cases h
 rename_i v hv
 cases h
 have hsx := ev_ok hN hx
 have hsy := ev_ok hN hy
 have fin : ∀ u, (∀ us, a.eval x ≠ .agg us) ∧ a.eval x ≠ .nilIface → (binOp op t (a.eval x) (a.eval y)).run P w = .ok u w → Seen E nt D ex w v u → o.wp P a w K Q := by
  intro u hf hr hs
  refine op_value hN hd hs ?_ hK
  simp [execOp, ho, eqGuard_free hf, hr]
 have eqlike : ∀ (b : Bool), (op = .eql ∧ v = .bool b) ∨ (op = .neq ∧ v = .bool !b) → (∀ us, a.eval x ≠ .agg us) ∧ a.eval x ≠ .nilIface → (Op.equal t (a.eval x) (a.eval y)).run P w = .ok b w → (binOp op t (a.eval x) (a.eval y) = (if op = .eql then (do pure (.bool (← Op.equal t (a.eval x) (a.eval y)))) else (do pure (.bool (!(← Op.equal t (a.eval x) (a.eval y))))) : Sem Value)) → o.wp P a w K Q := by
  intro b hb hf hr hbin
  rcases hb with ⟨rfl, rfl⟩ | ⟨rfl, rfl⟩
  ·exact fin (.bool b) hf (by rw [hbin]; simp [hr]) (seen_bool b)
  ·exact fin (.bool !b) hf (by rw [hbin]; simp [hr]) (seen_bool _)
 have e0 : eq0 op = some v → (op = .eql ∧ v = .bool true) ∨ (op = .neq ∧ v = .bool false) := by
  intro he; unfold eq0 at he; split at he <;> cases he
  ·exact .inl ⟨rfl, rfl⟩
  ·exact .inr ⟨rfl, rfl⟩
 have n0 : ne0 op = some v → (op = .eql ∧ v = .bool false) ∨ (op = .neq ∧ v = .bool true) := by
  intro he; unfold ne0 at he; split at he <;> cases he
  ·exact .inl ⟨rfl, rfl⟩
  ·exact .inr ⟨rfl, rfl⟩
 unfold bin at hv
 split at hv
 ·
  rename_i k n k' n'
  have ex1 : a.eval x = .int k n := hsx.pr
  have ey1 : a.eval y = .int k' n' := hsy.pr
  split at hv
  ·rename_i hsh
   obtain ⟨u, hr, hs⟩ := shOp_ok (P := P) (E := E) (nt := nt) (D := D) (ex := ex) (w := w) (k' := k') hsh hv t
   exact fin u (by rw [ex1]; simp) (by rw [ex1, ey1]; exact hr) hs
  ·split at hv
   ·rename_i hk
    subst hk
    obtain ⟨u, hr, hs⟩ := intOp_ok (P := P) (E := E) (nt := nt) (D := D) (ex := ex) (w := w) hv t
    exact fin u (by rw [ex1]; simp) (by rw [ex1, ey1]; exact hr) hs
   ·cases hv
 ·rename_i b b'
  have ex1 : a.eval x = .bool b := hsx.pr
  have ey1 : a.eval y = .bool b' := hsy.pr
  split at hv
  ·rename_i hu
   cases hv
   refine eqlike (b == b') (.inl ⟨rfl, rfl⟩) (by rw [ex1]; simp) (by rw [ex1, ey1]; exact equal_of fun d => by simp [Op.equalIn, run_underlying' hu]) ?_
   rw [ex1, ey1]; rfl
  ·rename_i hu
   cases hv
   refine eqlike (b == b') (.inr ⟨rfl, rfl⟩) (by rw [ex1]; simp) (by rw [ex1, ey1]; exact equal_of fun d => by simp [Op.equalIn, run_underlying' hu]) ?_
   rw [ex1, ey1]; rfl
  ·cases hv
 ·split at hv
  ·rename_i e hu
   have ex1 : a.eval x = .pointer none := hsx.pr
   have ey1 : a.eval y = .pointer none := hsy.pr
   refine eqlike true (e0 hv) (by rw [ex1]; simp) (by rw [ex1, ey1]; exact equal_of fun d => by simp [Op.equalIn, run_underlying' hu]) ?_
   rw [ex1, ey1]
   rcases e0 hv with ⟨rfl, _⟩ | ⟨rfl, _⟩ <;> rfl
  ·cases hv
 ·rename_i b q
  split at hv
  ·rename_i e hu
   have ex1 : a.eval x = .pointer (some ⟨E.β b, q, none⟩) := hsx.pr
   have ey1 : a.eval y = .pointer none := hsy.pr
   refine eqlike false (n0 hv) (by rw [ex1]; simp) (by rw [ex1, ey1]; exact equal_of fun d => by simp [Op.equalIn, run_underlying' hu]) ?_
   rw [ex1, ey1]
   rcases n0 hv with ⟨rfl, _⟩ | ⟨rfl, _⟩ <;> rfl
  ·cases hv
 ·rename_i b q
  split at hv
  ·rename_i e hu
   have ex1 : a.eval x = .pointer none := hsx.pr
   have ey1 : a.eval y = .pointer (some ⟨E.β b, q, none⟩) := hsy.pr
   refine eqlike false (n0 hv) (by rw [ex1]; simp) (by rw [ex1, ey1]; exact equal_of fun d => by simp [Op.equalIn, run_underlying' hu]) ?_
   rw [ex1, ey1]
   rcases n0 hv with ⟨rfl, _⟩ | ⟨rfl, _⟩ <;> rfl
  ·cases hv
 ·rename_i xs ys
  split at hv
  case h_2 => cases hv
  rename_i r hr
  obtain ⟨us, hus, hl⟩ := hsx.pr
  obtain ⟨vs, hvs, hl2⟩ := hsy.pr
  obtain ⟨b, rfl, hg, hb⟩ := eqStruct_run (P := P) (w := w) (x := x) (y := y) hr hv hl hl2
  refine op_value hN hd (seen_bool b) ?_ hK
  simp [execOp, ho, hus, hvs, hg, hb]
 ·split at hv
  case isFalse => cases hv
  rename_i hnil
  have ey1 : a.eval y = .slice none 0 0 := by
   unfold isNil at hnil
   split at hnil
   ·rfl
   ·cases hnil
  have main : ∀ e A n cap, P.underlying t = some (.slice e) → a.eval x = .slice (some A) n cap → ne0 op = some v → o.wp P a w K Q := by
   intro e A n cap hu ex1 hne
   refine eqlike false (n0 hne) (by rw [ex1]; simp) (by rw [ex1, ey1]; exact equal_of fun d => by simp [Op.equalIn, run_underlying' hu]) ?_
   rw [ex1, ey1]
   rcases n0 hne with ⟨rfl, _⟩ | ⟨rfl, _⟩ <;> rfl
  split at hv
  ·rename_i e pm A cap n cs hu hrs
   have key : ∀ v', rs D v' = some (.im pm A cap (n + 1) cs) → v' = .im pm A cap (n + 1) cs := by
    intro v' hv'
    unfold rs at hv'
    split at hv'
    ·split at hv' <;> cases hv'
    ·cases hv'; rfl
   have hva := key _ hrs
   subst hva
   have ha := hsx.ok (.i pm A cap (n + 1) cs) (by simp [atoms])
   have ex1 : a.eval x = .slice A (n + 1) cap := hsx.pr
   cases A with
   | none => exact absurd ha.2.1 (by omega)
   | some A => exact main e A _ _ hu ex1 hv
  ·rename_i e d k n cs hu hrs
   have ex1 : Abs.hd E.β (.own d k (n + 1) cs) = some (a.eval x) ∧ RowOk E w (d, k, n + 1, cs.map sh) := by
    unfold rs at hrs
    split at hrs
    ·split at hrs
     ·rename_i r p d' k' n' cs' hl
      cases hrs
      refine ⟨hsx.pr _ _ _ _ hl, ?_⟩
      obtain ⟨R0, hR0⟩ := row_of_look (ex := ex) (hN.slots.lt hl) hl (e := (d, k, n + 1, cs.map sh)) (by simp [Abs.rows])
      exact hN.inv.rows _ (hR0.mem_iff.2 (List.mem_append_left _ (by simp [Abs.rows])))
     ·cases hrs
    ·cases hrs
     exact ⟨hsx.pr, (hsx.flat _ (by simp [Abs.rows])).1⟩
   obtain ⟨h1, h2⟩ := ex1
   cases d with
   | nil => exact absurd h2.1 (by simp)
   | emp A => exact absurd h2.1 (by simp)
   | blk g cap kk =>
     simp only [Abs.hd, Option.some.injEq] at h1
     exact main e _ _ _ hu h1.symm hv
  ·cases hv
theorem op_unOp {op : UnOp} {t : TypeId} {x : Operand} (ho : o.op = .unOp op t x) : o.wp P a w K Q := by
 unfold evOp at h
 simp only [ho] at h
 split at h
 case h_2 => cases h
 rename_i va hx
 split at h
 case h_2 => cases h
 rename_i v hv
 cases h
 have hsx := ev_ok hN hx
 unfold un at hv
 split at hv
 ·rename_i k n
  cases hv
  have ex1 : a.eval x = .int k n := hsx.pr
  exact op_value hN hd (seen_int _ _) (by simp [execOp, ho, ex1, Op.unary, Op.intArith]) hK
 ·rename_i k n
  cases hv
  have ex1 : a.eval x = .int k n := hsx.pr
  exact op_value hN hd (seen_int _ _) (by simp [execOp, ho, ex1, Op.unary, Op.intBits]) hK
 ·rename_i b
  cases hv
  have ex1 : a.eval x = .bool b := hsx.pr
  exact op_value hN hd (seen_bool _) (by simp [execOp, ho, ex1, Op.unary]) hK
 ·cases hv
theorem op_convert {s t : TypeId} {x : Operand} (ho : o.op = .convert s t x) : o.wp P a w K Q := by
 unfold evOp at h
 simp only [ho] at h
 split at h
 case h_2 => cases h
 rename_i k0 n k d hx hu hs
 cases h
 have ex1 : a.eval x = .int k0 n := (ev_ok hN hx).pr
 exact op_value hN hd (seen_int _ _) (by simp [execOp, ho, ex1, convert, run_underlying' hu, run_underlying' hs, Conv.intToInt]) hK
theorem op_makeFunc {f : Fn} {xs ys : Array Operand} (ho : o.op = .makeFunc f xs ys) : o.wp P a w K Q := by
 unfold evOp at h
 simp only [ho] at h
 split at h
 case h_2 => cases h
 rename_i va vb hx hy
 cases h
 obtain ⟨h1, h2, h3⟩ := evL_ok hN hx
 obtain ⟨h4, h5, h6⟩ := evL_ok hN hy
 refine op_value (v := .fn f va vb) (u := .func f (xs.map a.eval) (ys.map a.eval)) hN hd ⟨⟨xs.toList.map a.eval, ys.toList.map a.eval, by rw [← map_arr, ← map_arr], h1, h4⟩, fun b hb => ?_, fun e he => ?_⟩ (by simp [execOp, ho, Instr.makeFunc]) hK
 ·rcases List.mem_append.1 hb with hb | hb
  ·exact h2 b hb
  ·exact h5 b hb
 ·rcases List.mem_append.1 he with he | he
  ·exact h3 e he
  ·exact h6 e he
theorem op_extract {x : Operand} {i : Nat} (ho : o.op = .extract x i) : o.wp P a w K Q := by
 unfold evOp at h
 simp only [ho] at h
 split at h
 case h_2 => cases h
 rename_i vs hx
 split at h
 case h_2 => cases h
 rename_i v hv
 cases h
 have hs := ev_ok hN hx
 obtain ⟨us, hu, hl⟩ := hs.pr
 obtain ⟨u, h1, h2⟩ := (PRL_get hl).2 i v hv
 refine op_value (u := u) hN hd ⟨h2, fun b hb => hs.ok b (atoms_mem (List.mem_of_getElem? hv) hb), fun e he => hs.flat e (rowsL_mem_of (List.mem_of_getElem? hv) he)⟩ ?_ hK
 simp [execOp, ho, hu, Instr.extract, h1]
end
end Go.Abs
end
noncomputable section
namespace Go.Abs
open Go
variable {P : Program} {H : Hint} {E : Env} {nt : Nat} {D D1 : St} {ex : List V} {w : World} {a : Act} {o : Oper} {K : Act → World → Prop} {Q : Exit → Act → World → Prop}
theorem partV_ok {t : TypeId} {cs : List V} {us : List Value} {off : Nat} {y : V} (h : partV P t cs off = some y) (hl : PRL E.β D cs us) (ha : ∀ b ∈ atomsL cs, AtOk E w D.nx (fun k => k ∈ keysD nt D ex) b) (hf : ∀ e ∈ rowsL cs, RowOk E w e ∧ keyOf e = none) :
 ∃ u, (part t us.toArray off).run P w = .ok u w ∧ Seen E nt D ex w y u := by
 obtain ⟨hlen, hget⟩ := PRL_get hl
 unfold partV at h
 split at h
 ·rename_i k hag hsz
  split at h
  ·rename_i hk
   cases h
   refine ⟨.agg (us.toArray.extract off (off + k)), by simp [part, run_isAgg' hag, run_sizeOf' hsz], ⟨⟨(us.drop off).take k, ?_, PRL_of ?_ fun j x hx => ?_⟩, fun b hb => ?_, fun e he => ?_⟩⟩
   ·exact congrArg Value.agg (by rw [← Array.toList_inj]; simp)
   ·simp [hlen]
   ·have hj : j < k := by have := (List.getElem?_eq_some_iff.1 hx).1; simp at this; omega
    rw [List.getElem?_take_of_lt hj, List.getElem?_drop] at hx ⊢
    exact hget _ x hx
   ·obtain ⟨x, hx, hb⟩ := atomsL_mem hb
    exact ha b (atoms_mem (List.mem_of_mem_drop (List.mem_of_mem_take hx)) hb)
   ·obtain ⟨x, hx, he⟩ := rowsL_mem he
    exact hf e (rowsL_mem_of (List.mem_of_mem_drop (List.mem_of_mem_take hx)) he)
  ·cases h
 ·rename_i hag
  obtain ⟨u, hu, hp⟩ := hget off y h
  exact ⟨u, by simp [part, run_isAgg' hag, hu], ⟨hp, fun b hb => ha b (atoms_mem (List.mem_of_getElem? h) hb), fun e he => hf e (rowsL_mem_of (List.mem_of_getElem? h) he)⟩⟩
 ·cases h
theorem moveV_ok {v y : V} {u : Value} {d : Nat} (hN : Now H E nt D ex w a) (hs : Seen E nt D ex w v u) (hok : okAddr D v = true) (h : moveV d v = some y) : ∃ A, u = .pointer (some A) ∧ Seen E nt D ex w y (.pointer (some (A.add d))) := by
 cases v <;> simp only [moveV] at h <;> try (cases h; done)
 case bptr b q =>
  cases h
  refine ⟨⟨E.β b, q, none⟩, hs.pr, ⟨?_, fun c hc => ?_, fun e he => by simp [rows] at he⟩⟩
  ·simp only [PR, add_mk]
  ·simp only [atoms, List.mem_singleton] at hc
   subst hc
   exact hs.ok (.p b) (by simp [atoms])
 case ip pm A cs =>
  split at h
  ·rename_i hd
   cases h
   refine ⟨A, hs.pr, ⟨rfl, fun c hc => ?_, fun e he => by simp [rows] at he⟩⟩
   simp only [atoms, List.mem_cons] at hc
   rcases hc with rfl | hc
   ·have h0 : FOk E w _ pm A cs := hs.ok (.f pm A cs) (by simp [atoms])
    refine ⟨?_, fun j x hx => ?_, fun hne => ?_⟩
    ·have : ∀ (l : List V) (j : Nat), noRowL l = true → noRowL (l.drop j) = true := by
      intro l
      induction l with
      | nil => intro j h; simp [noRowL]
      | cons z l ih =>
        intro j h
        cases j with
        | zero => exact h
        | succ j => simp only [noRowL, Bool.and_eq_true] at h; exact ih j h.2
     exact this cs d h0.1
    ·rw [List.getElem?_drop] at hx
     obtain ⟨u', hu', hm⟩ := h0.2.1 _ x hx
     exact ⟨u', by rw [add_of_add]; exact hu', hm⟩
    ·rw [block_of_add]
     exact h0.2.2 fun e => hne (by rw [e]; simp)
   ·obtain ⟨x, hx, hc⟩ := atomsL_mem hc
    exact hs.ok c (by simp only [atoms]; exact List.mem_cons_of_mem _ (atoms_mem (List.mem_of_mem_drop hx) hc))
  ·cases h
 case loc r p =>
  cases hl : p.getLast? with
  | none => rw [hl] at h; cases h
  | some q =>
    rw [hl] at h
    cases h
    simp only [okAddr] at hok
    split at hok
    ·rename_i r' q' j ht
     rw [Bool.and_eq_true] at hok
     cases hlk : look D r' (q' ++ [j]) with
     | none => rw [hlk] at hok; simp at hok
     | some old =>
       obtain ⟨g, cap, kk, cur, el, h1, h2, h3, h4, h5⟩ := place_ok hN.inv hok.1 hlk (canStore_lt hN.slots hok.1)
       have hA := target_addr ht hs.pr h1
       refine ⟨⟨g, j, none⟩, hA, ⟨fun A' hA' => ?_, fun c hc => by simp [atoms] at hc, fun e he => by simp [rows] at he⟩⟩
       rw [add_mk]
       have e1 : j = q ∧ r' = r ∧ q' = p.dropLast := by
        simp only [target, hl] at ht
        cases r with
        | slot t => simp only [Option.some.injEq, Prod.mk.injEq] at ht; exact ⟨ht.2.2.symm, ht.1.symm, ht.2.1.symm⟩
        | box b =>
          cases hdl : p.dropLast with
          | nil => rw [hdl] at ht; cases ht
          | cons x q'' => rw [hdl] at ht; simp only [Option.some.injEq, Prod.mk.injEq] at ht; exact ⟨ht.2.2.symm, ht.1.symm, ht.2.1.symm⟩
       obtain ⟨rfl, rfl, rfl⟩ := e1
       unfold addrOf at hA'
       simp only [List.getLast?_append, List.getLast?_singleton, Option.some_or, List.dropLast_concat] at hA'
       unfold contOf at h1
       cases r' with
       | slot t =>
         try simp only at h1
         split at h1
         ·rename_i g' c1 c2 c3 c4 c5 hh
          cases h1
          simp only [hh] at hA'; cases hA'; rfl
         ·cases h1
       | box b =>
         cases hdl : p.dropLast with
         | nil => rw [hdl] at hA'; cases hA'
         | cons x q'' =>
           rw [hdl] at hA' h1
           try simp only at h1
           split at h1
           ·rename_i g' c1 c2 c3 c4 c5 hh
            cases h1
            simp only [hh] at hA'; cases hA'; rfl
           ·cases h1
    ·cases hok
section
variable {C : Callee} {fz : Bool} (hN : Now H E nt D ex w a) (hd : ∀ t, o.dst = some t → t < nt) (h : evOp P H C fz o D = some D1) (hK : Leads H E nt D ex w D1 K)
include hN hd h hK
theorem op_field {t : TypeId} {x : Operand} {f : Nat} (ho : o.op = .field t x f) : o.wp P a w K Q := by
 unfold evOp at h
 simp only [ho] at h
 split at h
 case h_2 => cases h
 rename_i fs cs hu hx
 split at h
 case h_2 => cases h
 rename_i fd hfd
 split at h
 case h_2 => cases h
 rename_i y hy
 cases h
 have hs := ev_ok hN hx
 obtain ⟨us, hus, hl⟩ := hs.pr
 obtain ⟨u, h1, h2⟩ := partV_ok (P := P) (w := w) (ex := ex) (nt := nt) hy hl (fun b hb => hs.ok b hb) (fun e he => hs.flat e he)
 refine op_value hN hd h2 ?_ hK
 simp [execOp, ho, Instr.field, run_underlying' hu, hfd, hus, asAgg, h1]
theorem op_index {t : TypeId} {x ix : Operand} (ho : o.op = .index t x ix) : o.wp P a w K Q := by
 unfold evOp at h
 simp only [ho] at h
 split at h
 ·rename_i s hs
  have hx : x = .const (.string s) := by
   unfold strOf at hs
   split at hs
   ·cases hs; rfl
   ·cases hs
  split at h
  case h_2 => cases h
  rename_i k0 i hu hi
  split at h
  case isFalse => cases h
  rename_i h0
  split at h
  case h_2 => cases h
  rename_i b hb
  cases h
  have ei : a.eval ix = .int k0 i := (ev_ok hN hi).pr
  have ex1 : a.eval x = .string s := by rw [hx]; rfl
  exact op_value hN hd (seen_int _ _) (by simp [execOp, ho, Instr.index, run_underlying' hu, ex1, ei, asIntOf, h0, hb]) hK
 split at h
 case h_2 => cases h
 rename_i n e cs k0 i hu hx hi
 split at h
 case h_2 => cases h
 rename_i k hk
 split at h
 case isFalse => cases h
 rename_i hb
 split at h
 case h_2 => cases h
 rename_i y hy
 cases h
 have hs := ev_ok hN hx
 have ei : a.eval ix = .int k0 i := (ev_ok hN hi).pr
 obtain ⟨us, hus, hl⟩ := hs.pr
 obtain ⟨u, h1, h2⟩ := partV_ok (P := P) (w := w) (ex := ex) (nt := nt) hy hl (fun b hb => hs.ok b hb) (fun e he => hs.flat e he)
 refine op_value hN hd h2 ?_ hK
 simp [execOp, ho, Instr.index, run_underlying' hu, hus, ei, asIntOf, hb, run_sizeOf' hk, h1]
theorem op_fieldAddr {t : TypeId} {x : Operand} {f : Nat} (ho : o.op = .fieldAddr t x f) : o.wp P a w K Q := by
 unfold evOp at h
 simp only [ho] at h
 split at h
 case h_2 => cases h
 rename_i fs v hu hx
 split at h
 case h_2 => cases h
 rename_i fd hfd
 split at h
 case h_2 => cases h
 rename_i k y hk hy
 split at h
 case isFalse => cases h
 rename_i hok
 cases h
 obtain ⟨A, h1, h2⟩ := moveV_ok hN (ev_ok hN hx) hok hy
 refine op_value hN hd h2 ?_ hK
 simp [execOp, ho, Instr.fieldAt, run_underlying' hu, hfd, h1, Instr.sureAddr, fieldPlace, run_sizeOf' hk]
theorem op_indexAddr {t : TypeId} {x ix : Operand} (ho : o.op = .indexAddr t x ix) : o.wp P a w K Q := by
 unfold evOp at h
 simp only [ho] at h
 split at h
 ·rename_i e v k0 i hu hx hi
  have ei : a.eval ix = .int k0 i := (ev_ok hN hi).pr
  have hs := ev_ok hN hx
  split at h
  case h_2 => cases h
  rename_i k hk
  split at h
  ·rename_i pm A cap n cs
   split at h
   case isFalse => cases h
   rename_i hb
   cases h
   have ha := hs.ok (.i pm A cap n cs) (by simp [atoms])
   have ex1 : a.eval x = .slice A n cap := hs.pr
   cases A with
   | none => have := ha.2.1; omega
   | some A =>
     have h0 : FOk E w _ pm A cs := ha.2
     have hs2 : Seen E nt D ex w (.ip pm A cs) (.pointer (some A)) := ⟨rfl, fun c hc => by
      simp only [atoms, List.mem_cons] at hc
      rcases hc with rfl | hc
      ·exact h0
      ·exact hs.ok c (by simp only [atoms]; exact List.mem_cons_of_mem _ hc), fun e he => by simp [rows] at he⟩
     have hle : i.toNat * k ≤ cs.length := by rw [hb.1]; exact Nat.mul_le_mul_right _ (by omega)
     obtain ⟨A', h1, h2⟩ := moveV_ok (d := i.toNat * k) (y := .ip pm (A.add (i.toNat * k)) (cs.drop (i.toNat * k))) hN hs2 rfl (by simp [moveV, hle])
     cases h1
     refine op_value hN hd h2 ?_ hK
     simp [execOp, ho, Instr.indexAt, run_underlying' hu, ex1, ei, asIntOf, hb.2.1, hb.2.2, run_sizeOf' hk]
  ·rename_i r p
   split at h
   case h_2 => cases h
   rename_i d0 k1 n cs hl
   split at h
   case isFalse => cases h
   rename_i hb
   cases h
   have hhd := hs.pr _ _ _ _ hl
   obtain ⟨R0, hR0⟩ := row_of_look (ex := ex) (hN.slots.lt hl) hl (e := (d0, k1, n, cs.map sh)) (by simp [Abs.rows])
   have hrow := hN.inv.rows (d0, k1, n, cs.map sh) (hR0.mem_iff.2 (List.mem_append_left _ (by simp [Abs.rows])))
   cases d0 with
   | nil => have := hrow.1; omega
   | emp A => have := hrow.1; omega
   | blk g cap kk =>
     simp only [Abs.hd, Option.some.injEq] at hhd
     refine op_value (v := .loc r (p ++ [i.toNat * k])) (u := .pointer (some ((⟨g, 0, none⟩ : Addr).add (i.toNat * k)))) hN hd ⟨fun A' hA' => ?_, fun c hc => by simp [atoms] at hc, fun e he => by simp [rows] at he⟩ ?_ hK
     ·unfold addrOf at hA'
      simp only [List.getLast?_append, List.getLast?_singleton, Option.some_or, List.dropLast_concat] at hA'
      cases r with
      | slot t => simp only [hl] at hA'; cases hA'; rw [add_mk]; simp
      | box b =>
        cases p with
        | nil => simp at hA'
        | cons q p => simp only [hl] at hA'; cases hA'; rw [add_mk]; simp
     ·simp [execOp, ho, Instr.indexAt, run_underlying' hu, ← hhd, ei, asIntOf, hb.2.1, hb.2.2, run_sizeOf' hk]
  ·cases h
 ·rename_i n e v k0 i hu hx hi
  have ei : a.eval ix = .int k0 i := (ev_ok hN hi).pr
  have hs := ev_ok hN hx
  split at h
  case h_2 => cases h
  rename_i k hk
  split at h
  case isFalse => cases h
  rename_i hb
  split at h
  case h_2 => cases h
  rename_i y hy
  cases h
  obtain ⟨A, h1, h2⟩ := moveV_ok hN hs hb.2.2 hy
  refine op_value hN hd h2 ?_ hK
  simp [execOp, ho, Instr.indexAt, run_underlying' hu, h1, ei, asIntOf, hb.1, hb.2.1, run_sizeOf' hk, Instr.sureAddr]
 ·cases h
end
end Go.Abs
end
noncomputable section
namespace Go.Abs
open Go
mutual
theorem noRow_sm : ∀ {v v' : V}, Sm v v' → noRow v' = noRow v
 | _, _, .agg h => by simp only [noRow]; exact noRowL_sm h
 | _, _, .tup h => by simp only [noRow]; exact noRowL_sm h
 | _, _, .fn h k => by simp only [noRow, noRowL_sm h, noRowL_sm k]
 | _, _, .int _ _ | _, _, .bool _ | _, _, .nilp | _, _, .nilf | _, _, .bptr _ _ | _, _, .ip _ | _, _, .im _ | _, _, .own _ | _, _, .ref _ _ | _, _, .loc _ _ | _, _, .dead => rfl
theorem noRowL_sm : ∀ {l l' : List V}, SmL l l' → noRowL l' = noRowL l
 | _, _, .nil => rfl
 | _, _, .cons h k => by simp only [noRowL, noRow_sm h, noRowL_sm k]
end
mutual
theorem kill_sm (r : Root) (p : List Nat) : ∀ {v v' : V}, Sm v v' → Sm (kill r p v) (kill r p v')
 | _, _, .agg h => .agg (killL_sm r p h)
 | _, _, .tup h => .tup (killL_sm r p h)
 | _, _, .fn h k => .fn (killL_sm r p h) (killL_sm r p k)
 | _, _, .ref r' q => Sm.refl _
 | _, _, .loc r' q => Sm.refl _
 | _, _, .int _ _ => .int _ _
 | _, _, .bool _ => .bool _
 | _, _, .nilp => .nilp
 | _, _, .nilf => .nilf
 | _, _, .bptr _ _ => .bptr _ _
 | _, _, .ip h => .ip h
 | _, _, .im h => .im h
 | _, _, .own h => .own h
 | _, _, .dead => .dead
theorem killL_sm (r : Root) (p : List Nat) : ∀ {l l' : List V}, SmL l l' → SmL (killL r p l) (killL r p l')
 | _, _, .nil => .nil
 | _, _, .cons h k => .cons (kill_sm r p h) (killL_sm r p k)
end
theorem killAll_sm {D D' : St} (h : SmS D D') (r : Root) (p : List Nat) : SmS (killAll D r p) (killAll D' r p) := ⟨fun i => kill_sm r p (h.s i), h.m, h.nx⟩
theorem put_sm {D D' : St} (h : SmS D D') {v v' : V} (hv : Sm v v') (t : Nat) : SmS (D.put t v) (D'.put t v') := by
 refine ⟨fun i => ?_, h.m, h.nx⟩
 simp only [St.put]
 split
 ·exact hv
 ·exact h.s i
theorem lay_sm {D D' : St} (h : SmS D D') {v v' : V} (hv : Sm v v') (dst : Option Nat) : SmS (D.lay dst v) (D'.lay dst v') := by
 cases dst with
 | none => exact h
 | some t =>
   simp only [St.lay, noRow_sm hv]
   split
   ·exact put_sm h hv t
   ·exact killAll_sm (put_sm h hv t) _ _
variable {P : Program} {H : Hint} {E : Env} {nt : Nat} {D D1 : St} {ex : List V} {w : World} {a : Act} {o : Oper} {K : Act → World → Prop} {Q : Exit → Act → World → Prop}
theorem Inv.reflight {ex1 ex2 : List V} (h : Inv E nt D ex1 w) (S : List RowE) (hp : (rowsL ex1).Perm (S ++ rowsL ex2)) (ha : ∀ b ∈ atomsL ex2, b ∈ atomsL ex1) : Inv E nt D ex2 w ∧ To E nt D ex1 w E D ex2 w := by
 have h1 : (rowsD nt D ex1).Perm (S ++ rowsD nt D ex2) := by
  unfold rowsD
  refine (List.Perm.append_left _ (List.Perm.append_left _ hp)).trans ?_
  generalize slotRows nt D.s = x
  generalize boxRows D.m = y
  refine (List.Perm.append_left _ (List.perm_append_comm_assoc _ _ _)).trans ?_
  exact List.perm_append_comm_assoc _ _ _
 refine ⟨h.weaken S _ _ h1 (RLeL.refl _ _) (List.Perm.refl _) (fun b hb => ?_) (fun e he => ⟨e, he, rfl, rfl⟩) h.ids rfl, To.of_keys rfl (keys_sub h1 (RLeL.refl E.β _) (List.Perm.refl _))⟩
 unfold atomsD at hb ⊢
 rcases List.mem_append.1 hb with hb | hb
 ·exact List.mem_append_left _ hb
 rcases List.mem_append.1 hb with hb | hb
 ·exact List.mem_append_right _ (List.mem_append_left _ hb)
 ·exact List.mem_append_right _ (List.mem_append_right _ (ha b hb))
theorem foldl_set (cells vs : List Value) (off : Nat) (h : off + vs.length ≤ cells.length) : (vs.toArray.zipIdx.foldl (fun cs (c, j) => cs.setIfInBounds (off + j) c) cells.toArray) = (cells.take off ++ vs ++ cells.drop (off + vs.length)).toArray := by
 have key : ∀ (vs : List Value) (k : Nat) (acc : Array Value), (vs.zipIdx k).foldl (fun cs (x : Value × Nat) => cs.setIfInBounds (off + x.2) x.1) acc = (List.range vs.length).foldl (fun cs i => cs.setIfInBounds (off + (k + i)) (vs.getD i undef)) acc := by
  intro vs
  induction vs with
  | nil => intro k acc; rfl
  | cons v vs ih =>
    intro k acc
    simp only [List.zipIdx_cons, List.foldl_cons, List.length_cons, List.range_succ_eq_map, List.foldl_map]
    rw [ih (k + 1)]
    simp only [Nat.add_zero, List.getD_cons_zero, List.getD_cons_succ]
    congr 1
    funext cs i
    congr 1; omega
 have main : ∀ (vs : List Value) (k : Nat) (cells : List Value), off + k + vs.length ≤ cells.length → (vs.zipIdx k).foldl (fun cs (x : Value × Nat) => cs.setIfInBounds (off + x.2) x.1) cells.toArray = (cells.take (off + k) ++ vs ++ cells.drop (off + k + vs.length)).toArray := by
  intro vs
  induction vs with
  | nil => intro k cells h; simp
  | cons v vs ih =>
    intro k cells h
    simp only [List.length_cons] at h
    simp only [List.zipIdx_cons, List.foldl_cons, List.setIfInBounds_toArray]
    rw [ih (k + 1) _ (by simp; omega)]
    congr 1
    refine List.ext_getElem? fun j => ?_
    simp only [List.getElem?_append, List.getElem?_take, List.getElem?_drop, List.getElem?_set, List.length_append, List.length_take, List.length_set, List.length_cons]
    have hlt : off + k < cells.length := by omega
    rw [Nat.min_eq_left (by omega), Nat.min_eq_left (by omega)]
    by_cases h1 : j < off + k
    ·simp [h1, show j < off + (k + 1) by omega, show j < off + (k + 1) + vs.length by omega, show ¬ off + k = j by omega, show j < off + k + (vs.length + 1) by omega]
    ·by_cases h2 : j = off + k
     ·subst h2
      simp [show off + k < off + (k + 1) by omega, show off + k < off + (k + 1) + vs.length by omega, hlt]
     ·by_cases h3 : j < off + k + (vs.length + 1)
      ·obtain ⟨i, rfl⟩ : ∃ i, j = off + (k + 1) + i := ⟨j - (off + (k + 1)), by omega⟩
       simp [h1, show ¬ off + (k + 1) + i < off + (k + 1) by omega, show off + (k + 1) + i < off + (k + 1) + vs.length by omega, h3, show off + (k + 1) + i - (off + k) = i + 1 by omega]
      ·simp [h1, show ¬ j < off + (k + 1) by omega, show ¬ j < off + (k + 1) + vs.length by omega, h3, show ¬ off + k = off + (k + 1) + vs.length + (j - (off + (k + 1) + vs.length)) by omega]
       congr 1; omega
 have := main vs 0 cells (by simpa using h)
 simp only [Nat.add_zero] at this
 rw [← this]
 rw [← Array.foldl_toList]
 simp
end Go.Abs
end
noncomputable section
namespace Go.Abs
open Go
variable {P : Program} {H : Hint} {E : Env} {nt : Nat} {D D1 : St} {ex : List V} {w : World} {a : Act} {o : Oper} {K : Act → World → Prop} {Q : Exit → Act → World → Prop}
def PRP (β : Nat → Nat) (D : St) : List (Nat × V) → List (Nat × Value) → Prop
 | [], qs => qs = []
 | (i, v) :: l, qs => ∃ u qs', qs = (i, u) :: qs' ∧ PRL β D v.cells u.cells.toList ∧ PRP β D l qs'
theorem PRL_append {β : Nat → Nat} {D : St} : ∀ {l l' : List V} {us us' : List Value}, PRL β D l us → PRL β D l' us' → PRL β D (l ++ l') (us ++ us')
 | [], l', us, us', h, h' => by simp only [PRL] at h; subst h; exact h'
 | v :: l, l', us, us', h, h' => by obtain ⟨u, us2, rfl, h1, h2⟩ := h; exact ⟨u, us2 ++ us', rfl, h1, PRL_append h2 h'⟩
theorem PRL_take {β : Nat → Nat} {D : St} : ∀ {l : List V} {us : List Value} (k : Nat), PRL β D l us → PRL β D (l.take k) (us.take k)
 | [], us, k, h => by simp only [PRL] at h; subst h; simp [PRL]
 | v :: l, us, 0, h => rfl
 | v :: l, us, k + 1, h => by obtain ⟨u, us2, rfl, h1, h2⟩ := h; exact ⟨u, us2.take k, rfl, h1, PRL_take k h2⟩
theorem PRL_drop {β : Nat → Nat} {D : St} : ∀ {l : List V} {us : List Value} (k : Nat), PRL β D l us → PRL β D (l.drop k) (us.drop k)
 | [], us, k, h => by simp only [PRL] at h; subst h; simp [PRL]
 | v :: l, us, 0, h => h
 | v :: l, us, k + 1, h => by obtain ⟨u, us2, rfl, h1, h2⟩ := h; exact PRL_drop (l := l) k h2
theorem fill_ok {β : Nat → Nat} {D : St} {place place' : Nat → Option (Nat × Nat)} (hp : ∀ i r, place i = some r → place' i = some r) : ∀ {ps : List (Nat × V)} {qs : List (Nat × Value)} {zs l : List V} {us : List Value}, fillV place zs ps = some l → PRL β D zs us → PRP β D ps qs →
 ∃ ls : List Value, Instr.fill place' us.toArray qs = some ls.toArray ∧ PRL β D l ls
 | [], qs, zs, l, us, h, hz, hq => by
   simp only [fillV, Option.some.injEq] at h
   simp only [PRP] at hq
   subst h hq
   exact ⟨us, rfl, hz⟩
 | (i, v) :: ps, qs, zs, l, us, h, hz, hq => by
   obtain ⟨u, qs', rfl, h1, h2⟩ := hq
   simp only [fillV] at h
   split at h
   ·rename_i off size hpl
    split at h
    ·rename_i hc
     have hl1 := (PRL_get h1).1
     have hl2 := (PRL_get hz).1
     simp only [Array.length_toList] at hl1
     have e1 : u.cells.size = size := by rw [← hl1]; exact hc.1
     have e2 : off + u.cells.toList.length ≤ us.length := by simp only [Array.length_toList]; rw [e1, ← hl2]; exact hc.2
     obtain ⟨ls, g1, g2⟩ := fill_ok hp (us := us.take off ++ u.cells.toList ++ us.drop (off + size)) (qs := qs') h (PRL_append (PRL_append (PRL_take off hz) h1) (PRL_drop (off + size) hz)) h2
     refine ⟨ls, ?_, g2⟩
     simp only [Instr.fill, hp _ _ hpl]
     rw [if_neg (by simp [e1]; rw [← hl2]; exact hc.2)]
     have hf := foldl_set us u.cells.toList off e2
     simp only [Array.toArray_toList, Array.length_toList, e1] at hf
     rw [hf]; exact g1
    ·cases h
   ·cases h
theorem rowsL_cells (v : V) : rowsL v.cells = rows v := by cases v <;> simp [V.cells, rowsL, rows]
theorem atomsL_cells (v : V) : atomsL v.cells = atoms v := by cases v <;> simp [V.cells, atomsL, atoms]
theorem fill_rows {place : Nat → Option (Nat × Nat)} : ∀ {ps : List (Nat × V)} {zs l : List V}, fillV place zs ps = some l → (∃ S, (rowsL (zs ++ ps.map (·.2))).Perm (S ++ rowsL l)) ∧ ∀ b ∈ atomsL l, b ∈ atomsL (zs ++ ps.map (·.2))
 | [], zs, l, h => by
   simp only [fillV, Option.some.injEq] at h
   subst h
   exact ⟨⟨[], by simp⟩, fun b hb => by simpa using hb⟩
 | (i, v) :: ps, zs, l, h => by
   simp only [fillV] at h
   split at h
   ·rename_i off size hpl
    split at h
    ·rename_i hc
     obtain ⟨⟨S, h1⟩, h2⟩ := fill_rows h
     have hz : zs = zs.take off ++ ((zs.drop off).take size ++ zs.drop (off + size)) := by
      rw [show zs.drop (off + size) = (zs.drop off).drop size by rw [List.drop_drop], List.take_append_drop, List.take_append_drop]
     refine ⟨⟨rowsL ((zs.drop off).take size) ++ S, ?_⟩, fun b hb => ?_⟩
     ·have e1 : (rowsL (zs ++ ((i, v) :: ps).map (·.2))).Perm (rowsL ((zs.drop off).take size) ++ rowsL (zs.take off ++ v.cells ++ zs.drop (off + size) ++ ps.map (·.2))) := by
       conv => lhs; rw [hz]
       simp only [rowsL_append, rowsL_cells, List.map_cons, rowsL, List.append_assoc]
       generalize rowsL (zs.take off) = x
       generalize rowsL ((zs.drop off).take size) = y
       generalize rowsL (zs.drop (off + size)) = z
       generalize rowsL (ps.map (·.2)) = q
       refine (List.perm_append_comm_assoc x y _).trans (List.Perm.append_left y (List.Perm.append_left x ?_))
       exact List.perm_append_comm_assoc z _ _
      refine e1.trans ((List.Perm.append_left _ h1).trans ?_)
      rw [← List.append_assoc]
     ·have := h2 b hb
      rw [hz]
      simp only [atomsL_append, atomsL_cells, List.map_cons, atomsL, List.mem_append] at this ⊢
      rcases this with ((h | h) | h) | h
      ·exact .inl (.inl h)
      ·exact .inr (.inl h)
      ·exact .inl (.inr (.inr h))
      ·exact .inr (.inr h)
    ·cases h
   ·cases h
theorem okPart_cells {v : V} {u : Value} (hN : Now H E nt D ex w a) (hs : Seen E nt D ex w v u) (hok : okPart D v = true) : PRL E.β D v.cells u.cells.toList := by
 have one : u.oneCell' = true → (∀ cs, v ≠ .agg cs) → PRL E.β D v.cells u.cells.toList := by
  intro h1 h2
  have e1 : u.cells.toList = [u] := by cases u <;> simp_all [Value.oneCell', Value.cells]
  have e2 : v.cells = [v] := by cases v <;> first | rfl | exact absurd rfl (h2 _)
  rw [e1, e2]
  exact ⟨u, [], rfl, hs.pr, rfl⟩
 cases v <;> simp only [okPart] at hok <;> try (cases hok; done)
 case agg cs => obtain ⟨us, rfl, hl⟩ := hs.pr; simpa [V.cells, Value.cells] using hl
 case ref r p =>
  cases hl : look D r p with
  | none => rw [hl] at hok; cases hok
  | some x =>
    cases x <;> simp only [hl] at hok <;> try (cases hok; done)
    exact one (hd_oneCell (hs.pr _ _ _ _ hl)) (by simp)
 case loc r p =>
  obtain ⟨A, rfl⟩ := okAddr_ptr hN hs hok
  exact one rfl (by simp)
 case own d k n cs => exact one (hd_oneCell hs.pr) (by simp)
 case fn f x y => obtain ⟨ua, ub, rfl, _, _⟩ := hs.pr; exact one rfl (by simp)
 all_goals
  have hp := hs.pr
  simp only [PR] at hp
  subst hp
  exact one rfl (by simp)
theorem evParts_ok (hN : Now H E nt D ex w a) : ∀ {ps : List (Nat × Operand)} {vs : List (Nat × V)}, evParts H D ps = some vs →
 PRP E.β D vs (ps.map fun x => (x.1, a.eval x.2)) ∧ (∀ b ∈ atomsL (vs.map (·.2)), AtOk E w D.nx (fun k => k ∈ keysD nt D ex) b) ∧ (∀ e ∈ rowsL (vs.map (·.2)), RowOk E w e ∧ keyOf e = none) ∧ PRL E.β D (vs.map (·.2)) (ps.map fun x => a.eval x.2)
 | [], vs, h => by simp only [evParts, Option.some.injEq] at h; subst h; exact ⟨rfl, fun b hb => by simp [atomsL] at hb, fun e he => by simp [rowsL] at he, rfl⟩
 | (i, x) :: ps, vs, h => by
   simp only [evParts] at h
   split at h
   ·rename_i v hv
    split at h
    ·rename_i hok
     split at h
     ·rename_i l hl
      cases h
      have hs := ev_ok hN hv
      obtain ⟨h1, h2, h3, h4⟩ := evParts_ok hN hl
      refine ⟨⟨_, _, rfl, okPart_cells hN hs hok, h1⟩, fun b hb => ?_, fun e he => ?_, ⟨_, _, rfl, hs.pr, h4⟩⟩
      ·rcases List.mem_append.1 hb with hb | hb
       ·exact hs.ok b hb
       ·exact h2 b hb
      ·rcases List.mem_append.1 he with he | he
       ·exact hs.flat e he
       ·exact h3 e he
     ·cases h
    ·cases h
   ·cases h
theorem ofCells_zero {us : List Value} {l : List V} (h : ofCells us = some l) : PRL E.β D l us ∧ atomsL l = [] ∧ ∀ e ∈ rowsL l, RowOk E w e ∧ keyOf e = none := ofCells_ok (nt := 0) (ex := []) h
section
variable {C : Callee} {fz : Bool} (hN : Now H E nt D ex w a) (hd : ∀ t, o.dst = some t → t < nt) (h : evOp P H C fz o D = some D1) (hK : Leads H E nt D ex w D1 K)
include hN hd h hK
theorem op_build {t : TypeId} {ps : Array (Nat × Operand)} (ho : o.op = .build t ps) : o.wp P a w K Q := by
 unfold evOp at h
 simp only [ho] at h
 split at h
 case h_2 => cases h
 rename_i z vs hz hvs
 obtain ⟨i, zv, hi, hzv, hzc⟩ := zeroT_info hz
 obtain ⟨z1, z2, z3⟩ := ofCells_zero (E := E) (D := D) (w := w) hzc
 obtain ⟨p1, p2, p3, p4⟩ := evParts_ok hN hvs
 have seen : ∀ {place l ls}, fillV place z vs = some l → PRL E.β D l ls → Seen E nt D ex w (.agg l) (.agg ls.toArray) := by
  intro place l ls hf hl
  obtain ⟨⟨S, hS⟩, hA⟩ := fill_rows hf
  refine ⟨⟨ls, rfl, hl⟩, fun b hb => ?_, fun e he => ?_⟩
  ·have := hA b hb
   rw [atomsL_append, z2, List.nil_append] at this
   exact p2 b this
  ·have := hS.mem_iff.2 (List.mem_append_right _ he)
   rw [rowsL_append] at this
   rcases List.mem_append.1 this with h | h
   ·exact z3 e h
   ·exact p3 e h
 have hparts : (ps.map fun x => (x.1, a.eval x.2)).toList = ps.toList.map fun x => (x.1, a.eval x.2) := by simp
 split at h
 ·rename_i fs hu
  split at h
  case isFalse => cases h
  rename_i hall
  split at h
  case h_2 => cases h
  rename_i l hf
  cases h
  have hmap : ∀ (l : List Field), (∀ f ∈ l, (sizeT P f.type).isSome = true) → ∃ pl : List (Nat × Nat), (l.mapM fun f => Prod.mk f.offset <$> sizeOf f.type).run P w = .ok pl w ∧ pl = l.map fun f => (f.offset, (sizeT P f.type).getD 0) := by
   intro l
   induction l with
   | nil => intro _; exact ⟨[], rfl, rfl⟩
   | cons f l ih =>
     intro hl
     obtain ⟨pl, h1, h2⟩ := ih fun g hg => hl g (List.mem_cons_of_mem _ hg)
     obtain ⟨k, hk⟩ := Option.isSome_iff_exists.1 (hl f List.mem_cons_self)
     refine ⟨(f.offset, k) :: pl, ?_, by simp [h2, hk]⟩
     simp [List.mapM_cons, run_sizeOf' hk, h1]
  rw [Array.all_eq_true'] at hall
  obtain ⟨pl, g1, g2⟩ := hmap fs.toList fun f hf => hall f (Array.mem_toList_iff.1 hf)
  have g1' : (fs.mapM fun f => Prod.mk f.offset <$> sizeOf f.type).run P w = .ok pl.toArray w := by
   rw [Array.mapM_eq_mapM_toList, Sem.run_map, g1]; rfl
  obtain ⟨ls, f1, f2⟩ := fill_ok (place' := (pl.toArray[·]?)) (fun j r hr => by
   unfold structPlace at hr
   split at hr
   ·rename_i f hfj
    split at hr
    ·rename_i k hk
     cases hr
     rw [g2]
     simp only [List.getElem?_toArray, List.getElem?_map, Array.getElem?_toList, hfj, Option.map_some, hk, Option.getD_some]
    ·cases hr
   ·cases hr) hf z1 p1
  refine op_value hN hd (seen hf f2) ?_ hK
  simp only [Array.toArray_toList, List.getElem?_toArray] at f1
  simp [execOp, ho, Instr.build, run_zeroValue' hi hzv, run_underlying' hu, g1', hparts, f1]
 ·rename_i n e hu
  split at h
  case h_2 => cases h
  rename_i k hk
  split at h
  case h_2 => cases h
  rename_i l hf
  cases h
  obtain ⟨ls, f1, f2⟩ := fill_ok (place' := fun i => some (i * k, k)) (fun j r hr => hr) hf z1 p1
  refine op_value hN hd (seen hf f2) ?_ hK
  simp only [Array.toArray_toList] at f1
  simp [execOp, ho, Instr.build, run_zeroValue' hi hzv, run_underlying' hu, run_sizeOf' hk, hparts, f1]
 ·cases h
end
end Go.Abs
end
noncomputable section
namespace Go.Abs
open Go
variable {P : Program} {H : Hint} {E : Env} {nt : Nat} {D D1 : St} {ex : List V} {w : World} {a : Act} {o : Oper} {K : Act → World → Prop} {Q : Exit → Act → World → Prop}
theorem Inv.joinL {cs : List V} (h : Inv E nt D ex w) (hf : ∀ e ∈ rowsL cs, RowOk E w e ∧ keyOf e = none) (ha : ∀ b ∈ atomsL cs, AtOk E w D.nx (fun k => k ∈ keysD nt D ex) b) : Inv E nt D (cs ++ ex) w ∧ To E nt D ex w E D (cs ++ ex) w := by
 have hs : Seen E nt D ex w (.agg cs) (.agg (cs.map fun _ => undef).toArray) ∨ True := .inr trivial
 have h1 : Inv E nt D (.agg cs :: ex) w := h.join hf ha
 have h2 : To E nt D ex w E D (.agg cs :: ex) w := To.of_keys rfl fun k hk => by
  rw [show keysD nt D _ = keysOf (rowsD nt D _) from rfl, (keysOf_perm (rowsD_ex nt D _ ex)).mem_iff, keysOf_append] at hk
  rcases List.mem_append.1 hk with hk | hk
  ·obtain ⟨e, he, hk⟩ := List.mem_filterMap.1 hk
   rw [(hf e he).2] at hk; cases hk
  ·exact hk
 obtain ⟨h3, h4⟩ := h1.reflight (ex2 := cs ++ ex) [] (by simp only [rowsL, Abs.rows, rowsL_append, List.nil_append]; exact List.Perm.refl _) (fun b hb => by simpa [atomsL, Abs.atoms, atomsL_append] using hb)
 exact ⟨h3, h2.trans h4⟩
theorem keys_own {D : St} {ex cs : List V} {g cap kk r n k : Nat} (hk : k ∈ keysD nt D (.own (.blk g cap kk) r n cs :: ex)) : k = g ∨ k ∈ keysD nt D (cs ++ ex) := by
 rw [show keysD nt D _ = keysOf (rowsD nt D _) from rfl, (keysOf_perm (rowsD_ex nt D _ ex)).mem_iff, keysOf_append] at hk
 simp only [Abs.rows, keysOf_cons_blk, List.cons_append, List.mem_cons] at hk
 refine hk.imp id fun hk => ?_
 have key : ∀ {e}, e ∈ rowsL cs ∨ e ∈ rowsD nt D ex → e ∈ rowsD nt D (cs ++ ex) := by
  intro e he
  unfold rowsD at he ⊢; rw [rowsL_append]
  rcases he with he | he
  ·exact List.mem_append_right _ (List.mem_append_right _ (List.mem_append_left _ he))
  rcases List.mem_append.1 he with he | he
  ·exact List.mem_append_left _ he
  rcases List.mem_append.1 he with he | he
  ·exact List.mem_append_right _ (List.mem_append_left _ he)
  ·exact List.mem_append_right _ (List.mem_append_right _ (List.mem_append_right _ he))
 rcases List.mem_append.1 hk with h | h
 ·obtain ⟨e, he, hk2⟩ := List.mem_filterMap.1 h
  exact List.mem_filterMap.2 ⟨e, key (.inl he), hk2⟩
 ·obtain ⟨e, he, hk2⟩ := List.mem_filterMap.1 h
  exact List.mem_filterMap.2 ⟨e, key (.inr he), hk2⟩
theorem newRow_to {D : St} {ex cs : List V} (cur : Array Value) (el : TypeId) (cap kk r n : Nat) : To E nt D (cs ++ ex) w E D (.own (.blk w.heap.size cap kk) r n cs :: ex) (w.alloc (.cells cur el)) := by
 refine ⟨fun _ _ => rfl, rfl, rfl, Nat.le_refl _, by simp, fun k hk => ?_, fun k hk _ => ?_, rfl, rfl, rfl⟩
 ·rcases keys_own hk with rfl | hk
  ·exact .inr (Nat.le_refl _)
  ·exact .inl hk
 ·first | exact heap_alloc_old w _ k hk | exact heap_alloc_old w _ hk
theorem op_newRow {E2 : Env} {D2 : St} {cs : List V} {us : Array Value} {el : TypeId} {cap kk r n : Nat} {d : Dec} (hN : Now H E nt D ex w a) (hd : ∀ t, o.dst = some t → t < nt) (hI : Inv E nt D2 (cs ++ ex) w) (hS : SlotsOk E nt D2 a) (hT : To E nt D ex w E D2 (cs ++ ex) w)
 (h1 : n ≤ cap) (h2 : cap ≤ 9223372036854775807) (h3 : 0 < kk) (h4 : cs.length = n * kk) (h5 : 0 < n ∨ r = kk ∨ cap = 0) (h6 : us.size = cap * kk) (h7 : ∀ (j : Nat) (x : V), cs[j]? = some x → ∃ u, us[j]? = some u ∧ MR E.β x u)
 (hrun : (execOp a.eval o).run P w = .ok (.value (.slice (some ⟨w.heap.size, 0, none⟩) n cap)) (w.alloc (.cells us el))) (hK : Leads H E nt D ex w (D2.lay o.dst (.own d r n cs)) K) : o.wp P a w K Q := by
 have hI2 := hI.newRow (cur := us) (el := el) (r := r) h1 h2 h3 h4 h5 h6 h7
 exact op_done hN hd hI2 hS (hT.trans (newRow_to us el cap kk r n)) rfl hrun (lay_sm (SmS.refl _) (.own (SmL.refl _)) _) hK
theorem rep_length (n : Nat) (l : List V) : (rep n l).length = n * l.length := by
 induction n with
 | zero => simp [rep]
 | succ n ih => simp only [rep, List.length_append, ih, Nat.succ_mul]; omega
theorem rep_get {l : List V} : ∀ (n j : Nat), j < n * l.length → (rep n l)[j]? = l[j % l.length]?
 | 0, j, h => by simp at h
 | n + 1, j, h => by
   simp only [rep]
   by_cases hj : j < l.length
   ·rw [List.getElem?_append_left hj, Nat.mod_eq_of_lt hj]
   ·rw [List.getElem?_append_right (by omega), rep_get n (j - l.length) (by rw [Nat.succ_mul] at h; omega)]
    congr 1
    rw [Nat.mod_eq_sub_mod (a := j) (by omega)]
theorem rep_mem {l : List V} {x : V} : ∀ {n : Nat}, x ∈ rep n l → x ∈ l
 | 0, h => by simp [rep] at h
 | n + 1, h => by
   simp only [rep, List.mem_append] at h
   exact h.elim id rep_mem
theorem PRL_rep {β : Nat → Nat} {D : St} {z : List V} {zv : Array Value} (hz : PRL β D z zv.toList) (hk : 0 < z.length) {n N : Nat} (hN : n ≤ N) : ∀ (j : Nat) (x : V), (rep n z)[j]? = some x → ∃ u, (madeCells zv (N * z.length))[j]? = some u ∧ PR β D x u := by
 intro j x hx
 have hj : j < n * z.length := by rw [← rep_length]; exact (List.getElem?_eq_some_iff.1 hx).1
 rw [rep_get n j hj] at hx
 obtain ⟨hl, hg⟩ := PRL_get hz
 obtain ⟨u, hu, hp⟩ := hg _ x hx
 refine ⟨u, ?_, hp⟩
 have hsz : zv.size = z.length := by rw [hl]; simp
 have hjN : j < N * z.length := Nat.lt_of_lt_of_le hj (Nat.mul_le_mul_right _ hN)
 simp only [madeCells, Array.getElem?_map, Array.getElem?_range, hjN, if_true, Option.map_some, hsz]
 rw [Array.getElem?_toList] at hu
 have hlt : j % z.length < zv.size := (Array.getElem?_eq_some_iff.1 hu).1
 have e2 : zv[j % z.length]! = zv[j % z.length] := getElem!_pos zv (j % z.length) hlt
 rw [e2, ← hu, Array.getElem?_eq_getElem hlt]
section
variable {C : Callee} {fz : Bool} (hN : Now H E nt D ex w a) (hd : ∀ t, o.dst = some t → t < nt) (h : evOp P H C fz o D = some D1) (hK : Leads H E nt D ex w D1 K)
include hN hd h hK
theorem op_alloc {t : TypeId} (ho : o.op = .alloc t) : o.wp P a w K Q := by
 unfold evOp at h
 simp only [ho] at h
 split at h
 case h_2 => cases h
 rename_i cs hz
 split at h
 ·cases h
 rename_i hck
 cases h
 simp only [Bool.or_eq_true, Bool.not_eq_true', not_or, Bool.not_eq_true, Bool.not_eq_false] at hck
 obtain ⟨i, zv, hi, hzv, hzc⟩ := zeroT_info hz
 obtain ⟨z1, z2, z3⟩ := ofCells_zero (E := E) (D := D) (w := w) hzc
 obtain ⟨hI, hT⟩ := hN.inv.joinL z3 (fun b hb => by rw [z2] at hb; cases hb)
 have hall := List.all_eq_true.1 hck.2
 obtain ⟨hl, hg⟩ := PRL_get z1
 obtain ⟨E', b1, b2, b3, b4, b5⟩ := newBox_ok (el := t) (us := zv.cells.toList) hI hN.slots (by intro e; simp [e] at hck) (fun j x hx => by
  obtain ⟨u, hu, hp⟩ := hg j x hx
  exact ⟨u, hu, .inl (cellIn_hd (hall x (List.mem_of_getElem? hx)) hp)⟩) hl.symm
 have hs : Seen E' nt (D.newAt w.heap.size cs) ex (w.alloc (.cells zv.cells.toList.toArray t)) (.bptr D.nx 0) (.pointer (some ⟨w.heap.size, 0, none⟩)) :=
  ⟨by simp only [PR]; rw [b1], fun b hb => by simp only [atoms, List.mem_singleton] at hb; subst hb; exact Nat.lt_succ_self _, fun e he => by simp [rows] at he⟩
 obtain ⟨c1, c2⟩ := hs.join b2
 refine op_done hN hd c1 b3 ((hT.trans b4).trans c2) hs.pr ?_ (lay_sm b5 (Sm.refl _) _) hK
 simp [execOp, ho, Instr.alloc, run_zeroValue' hi hzv, newVar, newRow]
theorem op_box {t : TypeId} {x : Operand} (ho : o.op = .box t x) : o.wp P a w K Q := by
 unfold evOp at h
 simp only [ho] at h
 split at h
 case h_2 => cases h
 rename_i v hv
 split at h
 case h_2 => cases h
 rename_i y D2 hy
 split at h
 case isFalse => cases h
 rename_i hck
 cases h
 have hs := ev_ok hN hv
 obtain ⟨h1, h2⟩ := settle_ok hN.inv hN.slots hs.pr hs.ok hs.flat hy
 have hall := List.all_eq_true.1 hck.2.2
 have hc := cells_PRL (D := D2) hall (h2 D2)
 obtain ⟨hl, hg⟩ := PRL_get hc
 obtain ⟨hI, hT⟩ := h1.inv.reflight (ex2 := y.cells ++ ex) [] (by simp only [rowsL, rowsL_append, rowsL_cells, List.nil_append]; exact List.Perm.refl _) (fun b hb => by simpa [atomsL, atomsL_append, atomsL_cells] using hb)
 obtain ⟨E', b1, b2, b3, b4, b5⟩ := newBox_ok (el := t) (us := (a.eval x).cells.toList) hI h1.slots hck.2.1 (fun j z hz => by
  obtain ⟨u, hu, hp⟩ := hg j z hz
  exact ⟨u, hu, .inl (cellIn_hd (hall z (List.mem_of_getElem? hz)) hp)⟩) hl.symm
 have hs : Seen E' nt (D2.newAt w.heap.size y.cells) ex (w.alloc (.cells (a.eval x).cells.toList.toArray t)) (.bptr D2.nx 0) (.pointer (some ⟨w.heap.size, 0, none⟩)) :=
  ⟨by simp only [PR]; rw [b1], fun b hb => by simp only [atoms, List.mem_singleton] at hb; subst hb; exact Nat.lt_succ_self _, fun e he => by simp [rows] at he⟩
 obtain ⟨c1, c2⟩ := hs.join b2
 refine op_done hN hd c1 b3 ((((To.of_keys h1.nx h1.keys).trans hT).trans b4).trans c2) hs.pr ?_ (lay_sm b5 (Sm.refl _) _) hK
 simp [execOp, ho, Instr.box, newVar, newRow]
theorem op_makeSlice {t : TypeId} {x y : Operand} (ho : o.op = .makeSlice t x y) : o.wp P a w K Q := by
 unfold evOp at h
 simp only [ho] at h
 split at h
 case h_2 => cases h
 rename_i e k0 n k1 m hu hx hy
 split at h
 case h_2 => cases h
 rename_i k by_ z hk hb hz
 split at h
 case isFalse => cases h
 rename_i hck
 cases h
 obtain ⟨c1, c2, c3, c4, c5, c6⟩ := hck
 have ex1 : a.eval x = .int k0 n := (ev_ok hN hx).pr
 have ey1 : a.eval y = .int k1 m := (ev_ok hN hy).pr
 obtain ⟨i, zv, hi, hzv, hzc⟩ := zeroT_info hz
 obtain ⟨z1, z2, z3⟩ := ofCells_zero (E := E) (D := D) (w := w) hzc
 have hsz : i.size = k := by obtain ⟨i', hi', e'⟩ := sizeT_info hk; rw [hi] at hi'; cases hi'; exact e'
 have hby : i.bytes = by_ := by unfold bytesT at hb; rw [hi] at hb; simpa using hb
 obtain ⟨hI, hT⟩ := hN.inv.joinL (cs := rep n.toNat z) (fun e he => by
  obtain ⟨q, hq, he⟩ := rowsL_mem he
  exact z3 e (rowsL_mem_of (rep_mem hq) he)) (fun b hb => by
  obtain ⟨q, hq, hb⟩ := atomsL_mem hb
  have := atoms_mem (rep_mem hq) hb
  rw [z2] at this; cases this)
 have hcell : ∀ u x, PR E.β D x u → x ∈ z → MR E.β x u := fun u x hp hx => by
  have hin : ∀ {us : List Value} {l : List V}, ofCells us = some l → ∀ x ∈ l, cellIn x = true := by
   intro us
   induction us with
   | nil => intro l hl x hx; simp only [ofCells, Option.some.injEq] at hl; subst hl; cases hx
   | cons u us ih =>
     intro l hl x hx
     simp only [ofCells] at hl
     split at hl
     ·rename_i y hy
      split at hl
      ·rename_i ys hys
       cases hl
       rcases List.mem_cons.1 hx with rfl | hx
       ·unfold ofCell at hy
        split at hy <;> first | (cases hy; rfl) | cases hy
       ·exact ih hys x hx
      ·cases hl
     ·cases hl
  exact .inl (cellIn_hd (hin hzc x hx) hp)
 refine op_newRow (us := madeCells zv.cells (m.toNat * k)) (el := e) (cap := m.toNat) (kk := k) (E2 := E) hN hd hI hN.slots hT (by omega) (by omega) c6 (by rw [rep_length, c5]) ?_ (size_madeCells _ _) (fun j q hq => ?_) ?_ hK
 ·split
  ·exact .inr (.inl rfl)
  ·rename_i hh
   by_cases h0 : n = 0
   ·exact .inr (.inr (by omega))
   ·exact .inl (by omega)
 ·obtain ⟨u, hu', hp⟩ := PRL_rep (n := n.toNat) (N := m.toNat) z1 (by omega) (by omega) j q hq
  rw [c5] at hu'
  exact ⟨u, hu', hcell u q hp (rep_mem (List.mem_of_getElem? hq))⟩
 ·have hr := run_make (P := P) w t e i zv hu hi hzv k0 k1 n m c1 c2 (by rw [hby, Int.mul_comm]; omega) (by omega)
  simp only [execOp, ho, ex1, ey1, Sem.run_bind, hr, hsz, Result.andThen_ok]
  rfl
end
end Go.Abs
end
noncomputable section
namespace Go.Abs
open Go
variable {P : Program} {H : Hint} {E : Env} {nt : Nat} {D D1 : St} {ex : List V} {w : World} {a : Act} {o : Oper} {K : Act → World → Prop} {Q : Exit → Act → World → Prop}
theorem settleP_ok {fz : Bool} : ∀ {ps ys : List (Nat × V)} {D D1 : St} {ex : List V} {qs : List (Nat × Value)}, Inv E nt D ex w → SlotsOk E nt D a → (qs.map (·.1) = ps.map (·.1)) → PRL E.β D (ps.map (·.2)) (qs.map (·.2)) →
 (∀ b ∈ atomsL (ps.map (·.2)), AtOk E w D.nx (fun k => k ∈ keysD nt D ex) b) → (∀ e ∈ rowsL (ps.map (·.2)), RowOk E w e ∧ keyOf e = none) → settleP fz ps D = some (ys, D1) → Step E nt D D1 ex (ys.map (·.2) ++ ex) w a ∧ ∀ D', PRP E.β D' ys qs
 | [], ys, D, D1, ex, qs, hI, hS, hix, hu, hv, hr, h => by
   simp only [settleP, Option.some.injEq, Prod.mk.injEq] at h
   obtain ⟨rfl, rfl⟩ := h
   simp only [List.map_nil, List.map_eq_nil_iff] at hix
   subst hix
   exact ⟨⟨hI, hS, Kept.refl D, rfl, fun k hk => hk⟩, fun D' => rfl⟩
 | (i, v) :: ps, ys, D, D1, ex, qs, hI, hS, hix, hu, hv, hr, h => by
   simp only [settleP] at h
   split at h
   case h_2 => cases h
   rename_i x D2 hc
   split at h
   case isFalse => cases h
   rename_i hck
   split at h
   case h_2 => cases h
   rename_i xs D3 hc2
   cases h
   cases qs with
   | nil => simp at hix
   | cons q qs =>
     obtain ⟨j, u⟩ := q
     simp only [List.map_cons, List.cons.injEq] at hix
     obtain ⟨rfl, hix⟩ := hix
     obtain ⟨u', us', e, hu1, hu2⟩ := hu
     simp only [List.map_cons, List.cons.injEq] at e
     obtain ⟨rfl, rfl⟩ := e
     obtain ⟨h1, h2⟩ := settle_ok hI hS hu1 (fun b hb => hv b (List.mem_append_left _ hb)) (fun e he => hr e (List.mem_append_left _ he)) hc
     obtain ⟨h3, h4⟩ := settleP_ok h1.inv h1.slots hix (PRL_kept h1.kept hu2) (fun b hb => (hv b (List.mem_append_right _ hb)).mono (by rw [h1.nx]; exact Nat.le_refl _) h1.keys) (fun e he => hr e (List.mem_append_right _ he)) hc2
     have hp : (xs.map (·.2) ++ x :: ex).Perm ((x :: xs.map (·.2)) ++ ex) := List.perm_middle
     exact ⟨⟨h3.inv.perm hp, h3.slots, h1.kept.trans h3.kept, h3.nx.trans h1.nx, fun k hk => h1.keys k (h3.keys k (keysD_perm hp hk))⟩, fun D' => ⟨u, qs, rfl, cells_PRL (List.all_eq_true.1 hck) (h2 D'), h4 D'⟩⟩
section
variable {C : Callee} {fz : Bool} (hN : Now H E nt D ex w a) (hd : ∀ t, o.dst = some t → t < nt) (h : evOp P H C fz o D = some D1) (hK : Leads H E nt D ex w D1 K)
include hN hd h hK
theorem op_buildSlice {t : TypeId} {n : Nat} {ps : Array (Nat × Operand)} (ho : o.op = .buildSlice t n ps) : o.wp P a w K Q := by
 unfold evOp at h
 simp only [ho] at h
 split at h
 case h_2 => cases h
 rename_i e hu
 split at h
 case h_2 => cases h
 rename_i k z vs hk hz hvs
 split at h
 case h_2 => cases h
 rename_i ys D2 hys
 split at h
 case h_2 => cases h
 rename_i l hl
 split at h
 case isFalse => cases h
 rename_i hck
 cases h
 obtain ⟨c1, c2, c3, c4, c5⟩ := hck
 obtain ⟨i, zv, hi, hzv, hzc⟩ := zeroT_info hz
 obtain ⟨z1, z2, z3⟩ := ofCells_zero (E := E) (D := D2) (w := w) hzc
 obtain ⟨p1, p2, p3, p4⟩ := evParts_ok hN hvs
 obtain ⟨s1, s2⟩ := settleP_ok (qs := ps.toList.map fun x => (x.1, a.eval x.2)) hN.inv hN.slots (by
  have : ∀ {ps : List (Nat × Operand)} {vs : List (Nat × V)}, evParts H D ps = some vs → ps.map (·.1) = vs.map (·.1) := by
   intro ps
   induction ps with
   | nil => intro vs h; simp only [evParts, Option.some.injEq] at h; subst h; rfl
   | cons q ps ih =>
     intro vs h
     obtain ⟨j, x⟩ := q
     simp only [evParts] at h
     split at h
     ·split at h
      ·split at h
       ·rename_i l' hl'
        cases h
        simp [ih hl']
       ·cases h
      ·cases h
     ·cases h
  rw [← this hvs]; simp) (by rw [List.map_map]; exact p4) p2 p3 hys
 obtain ⟨hI, hT⟩ := s1.inv.joinL (cs := rep n z) (fun e he => by
  obtain ⟨q, hq, he⟩ := rowsL_mem he
  exact z3 e (rowsL_mem_of (rep_mem hq) he)) (fun b hb => by
  obtain ⟨q, hq, hb⟩ := atomsL_mem hb
  have := atoms_mem (rep_mem hq) hb
  rw [z2] at this; cases this)
 obtain ⟨⟨S, hS⟩, hA⟩ := fill_rows hl
 obtain ⟨hI2, hT2⟩ := hI.reflight (ex2 := l ++ ex) S (by
  rw [← List.append_assoc, rowsL_append, rowsL_append l, ← List.append_assoc]
  exact List.Perm.append_right _ hS) (fun b hb => by
  rw [atomsL_append] at hb
  rw [← List.append_assoc, atomsL_append]
  rcases List.mem_append.1 hb with hb | hb
  ·exact List.mem_append_left _ (hA b hb)
  ·exact List.mem_append_right _ hb)
 have hsz : zv.cells.size = k := by have := (PRL_get z1).1; simp at this; omega
 have hzl : PRL E.β D2 (rep n z) (madeCells zv.cells (n * k)).toList := by
  refine PRL_of (by rw [rep_length, c2]; simp [size_madeCells]) fun j x hx => ?_
  obtain ⟨u, hu', hp⟩ := PRL_rep (n := n) (N := n) z1 (by omega) (Nat.le_refl _) j x hx
  rw [c2] at hu'
  exact ⟨u, by rw [Array.getElem?_toList]; exact hu', hp⟩
 obtain ⟨ls, f1, f2⟩ := fill_ok (place' := fun i => some (i * k, k)) (fun j r hr => hr) hl hzl (s2 D2)
 obtain ⟨hlen, hget⟩ := PRL_get f2
 have hall := List.all_eq_true.1 c5
 refine op_newRow (us := ls.toArray) (el := e) (cap := n) (kk := k) (E2 := E) hN hd hI2 s1.slots (((To.of_keys s1.nx s1.keys).trans hT).trans hT2) (Nat.le_refl _) ?_ c4 c3.symm (by by_cases h0 : 0 < n; exact .inl h0; exact .inr (.inr (by omega))) (by simp [← hlen, c3]) (fun j x hx => ?_) ?_ hK
 ·have : n * 1 ≤ n * k := Nat.mul_le_mul_left _ c4
  omega
 ·obtain ⟨u, hu', hp⟩ := hget j x hx
  exact ⟨u, by simpa using hu', .inl (cellIn_hd (hall x (List.mem_of_getElem? hx)) hp)⟩
 ·simp only [Array.toArray_toList] at f1
  have hparts : (ps.map fun x => (x.1, a.eval x.2)).toList = ps.toList.map fun x => (x.1, a.eval x.2) := by simp
  have hnot : ¬ (16777216 < n * k) := by omega
  by_cases h0 : n * k = 0
  ·have hm : madeCells zv.cells 0 = #[] := by simp [madeCells]
   rw [h0, hm] at f1
   simp [execOp, ho, Instr.buildSlice, run_underlying' hu, run_sizeOf' hk, h0, hparts, f1, newRow, Array.range_zero']
  ·simp only [madeCells] at f1
   simp [execOp, ho, Instr.buildSlice, run_underlying' hu, run_sizeOf' hk, hnot, h0, run_zeroValue' hi hzv, hparts, f1, newRow]
end
def BI : Option Value → Option Int → Prop
 | none, none => True
 | some v, some q => ∃ k, v = .int k q
 | _, _ => False
theorem run_bounds {n cap : Nat} {lo hi mx : Option Value} {l0 h0 m0 : Option Int} (hl : BI lo l0) (hh : BI hi h0) (hm : BI mx m0) (b1 : 0 ≤ l0.getD 0) (b2 : l0.getD 0 ≤ h0.getD n) (b3 : h0.getD n ≤ m0.getD (h0.getD n)) (b4 : m0.getD (h0.getD n) ≤ n) (hc : n ≤ cap)
 (b6 : m0.isSome = true → h0.isSome = true) : (Instr.sliceBounds true n cap lo hi mx).run P w = .ok ((l0.getD 0).toNat, (h0.getD n).toNat, capM cap m0) w := by
 have hb : ∀ (kk : IntKind) (q : Int) (c : Nat) (code : BoundsCode), 0 ≤ q → q ≤ c → (Instr.sliceBound (.int kk q) c code).run P w = .ok q.toNat w := fun kk q c code h1 h2 => run_sliceBound w kk q c code h1 h2
 cases mx with
 | none =>
   cases m0 with
   | some m => exact hm.elim
   | none =>
     cases hi with
     | none =>
       cases h0 with
       | some q => exact hh.elim
       | none =>
         cases lo with
         | none =>
           cases l0 with
           | some q => exact hl.elim
           | none => simp [Instr.sliceBounds, capM]
         | some vl =>
           cases l0 with
           | none => exact hl.elim
           | some l =>
             obtain ⟨kl, rfl⟩ := hl
             simp only [Option.getD_some, Option.getD_none] at b1 b2 b3 b4
             simp [Instr.sliceBounds, capM, hb kl l n _ b1 b2]
     | some vh =>
       cases h0 with
       | none => exact hh.elim
       | some q =>
         obtain ⟨kh, rfl⟩ := hh
         simp only [Option.getD_some, Option.getD_none] at b1 b2 b3 b4
         cases lo with
         | none =>
           cases l0 with
           | some q => exact hl.elim
           | none =>
             simp only [Option.getD_some, Option.getD_none] at b1 b2 b3 b4
             simp [Instr.sliceBounds, capM, hb kh q cap _ (by omega) (by omega)]
         | some vl =>
           cases l0 with
           | none => exact hl.elim
           | some l =>
             obtain ⟨kl, rfl⟩ := hl
             simp only [Option.getD_some, Option.getD_none] at b1 b2 b3 b4
             simp [Instr.sliceBounds, capM, hb kh q cap _ (by omega) (by omega), hb kl l q.toNat _ (by omega) (by omega)]
 | some vm =>
   cases m0 with
   | none => exact hm.elim
   | some m =>
     obtain ⟨km, rfl⟩ := hm
     cases hi with
     | none =>
       cases h0 with
       | some q => exact hh.elim
       | none => exact absurd (b6 rfl) (by simp)
     | some vh =>
       cases h0 with
       | none => exact hh.elim
       | some q =>
         obtain ⟨kh, rfl⟩ := hh
         simp only [Option.getD_some, Option.getD_none] at b1 b2 b3 b4
         cases lo with
         | none =>
           cases l0 with
           | some q => exact hl.elim
           | none =>
             simp only [Option.getD_some, Option.getD_none] at b1 b2 b3 b4
             simp [Instr.sliceBounds, capM, hb km m cap _ (by omega) (by omega), hb kh q m.toNat _ (by omega) (by omega)]
         | some vl =>
           cases l0 with
           | none => exact hl.elim
           | some l =>
             obtain ⟨kl, rfl⟩ := hl
             simp only [Option.getD_some, Option.getD_none] at b1 b2 b3 b4
             simp [Instr.sliceBounds, capM, hb km m cap _ (by omega) (by omega), hb kh q m.toNat _ (by omega) (by omega), hb kl l q.toNat _ (by omega) (by omega)]
theorem evI_ok (hN : Now H E nt D ex w a) {x : Option Operand} {r : Option Int} (h : evI H D x = some r) : match x, r with
 | none, none => True
 | some x, some n => ∃ k, a.eval x = .int k n
 | _, _ => False := by
 cases x with
 | none => simp only [evI, Option.some.injEq] at h; subst h; trivial
 | some x =>
   simp only [evI] at h
   split at h
   ·rename_i k n hx
    cases h
    exact ⟨k, (ev_ok hN hx).pr⟩
   ·cases h
theorem noRowL_drop : ∀ {l : List V} {j : Nat}, noRowL l = true → noRowL (l.drop j) = true
 | [], j, h => by simp [noRowL]
 | z :: l, 0, h => h
 | z :: l, j + 1, h => by simp only [noRowL, Bool.and_eq_true] at h; exact noRowL_drop (l := l) h.2
theorem noRowL_take : ∀ {l : List V} {j : Nat}, noRowL l = true → noRowL (l.take j) = true
 | [], j, h => by simp [noRowL]
 | z :: l, 0, h => rfl
 | z :: l, j + 1, h => by simp only [noRowL, Bool.and_eq_true, List.take_succ_cons] at h ⊢; exact ⟨h.1, noRowL_take (l := l) h.2⟩
section
variable {C : Callee} {fz : Bool} (hN : Now H E nt D ex w a) (hd : ∀ t, o.dst = some t → t < nt) (h : evOp P H C fz o D = some D1) (hK : Leads H E nt D ex w D1 K)
include hN hd h hK
theorem op_slice {t : TypeId} {x : Operand} {lo hi mx : Option Operand} (ho : o.op = .slice t x lo hi mx) : o.wp P a w K Q := by
 unfold evOp at h
 simp only [ho] at h
 split at h
 case h_2 => cases h
 rename_i e v l0 h0 m0 hu hx hlo hhi hmx
 split at h
 case h_2 => cases h
 rename_i k y D2 hk hy
 split at h
 case h_2 => cases h
 rename_i z hz
 cases h
 have hs := ev_ok hN hx
 have hst : Step E nt D D2 ex (y :: ex) w a ∧ ∀ D', PR E.β D' y (a.eval x) := by
  unfold takeC at hy
  split at hy
  ·exact takeF_step hN.inv hN.slots hs.pr hy
  ·cases hy
   refine settle_ok (fz := true) hN.inv hN.slots hs.pr hs.ok hs.flat ?_
   unfold cutV at hz
   split at hz
   ·rfl
   ·cases hz
 obtain ⟨s1, s2⟩ := hst
 unfold cutV at hz
 split at hz
 case h_2 => cases hz
 rename_i pm A cap n cs
 simp only at hz
 split at hz
 case isFalse => cases hz
 rename_i hb
 obtain ⟨b1, b2, b3, b4, b5, b6⟩ := hb
 have ey : a.eval x = .slice A n cap := s2 D2
 have hat := s1.inv.atoms (.i pm A cap n cs) (atomsD_ex.2 (.inl (by simp [atoms])))
 have hcs : ∀ b ∈ atomsL cs, b ∈ atomsD nt D2 (.im pm A cap n cs :: ex) := fun b hb => atomsD_ex.2 (.inl (by simp only [atoms]; exact List.mem_cons_of_mem _ hb))
 have hncap : n ≤ cap := hat.1
 have hll := evI_ok hN hlo
 have hhh := evI_ok hN hhi
 have hmm := evI_ok hN hmx
 have hrun : ∀ u, u = Value.slice (if capM cap m0 = (l0.getD 0).toNat then A else A.map (·.add ((l0.getD 0).toNat * k))) ((h0.getD n).toNat - (l0.getD 0).toNat) (capM cap m0 - (l0.getD 0).toNat) →
  (execOp a.eval o).run P w = .ok (.value u) w := by
  intro u hu'
  subst hu'
  have hb' := run_bounds (P := P) (w := w) (n := n) (cap := cap) (lo := lo.map a.eval) (hi := hi.map a.eval) (mx := mx.map a.eval) (l0 := l0) (h0 := h0) (m0 := m0)
   (by cases lo <;> cases l0 <;> simp_all [BI]) (by cases hi <;> cases h0 <;> simp_all [BI]) (by cases mx <;> cases m0 <;> simp_all [BI]) b1 b2 b3 b4 hncap b6
  simp [execOp, ho, Instr.sliceAt, Instr.slice, run_underlying' hu, ey, run_sizeOf' hk, hb']
 have hI0 : Inv E nt D2 ex w := s1.inv.drop
 have hT0 : To E nt D ex w E D2 ex w := (To.of_keys s1.nx s1.keys).trans (To.of_keys rfl fun k hk => keysD_drop hk)
 have hkd : ∀ q, q ∈ keysD nt D2 ex → q ∈ keysD nt D2 (.im pm A cap n cs :: ex) := fun q hq => keysD_drop hq
 have hL : Leads H E nt D2 ex w (D2.lay o.dst z) K := hK.pre hT0
 have hN2 : Now H E nt D2 ex w a := ⟨hI0, s1.slots, hN.glob⟩
 split at hz
 ·rename_i hempty
  cases hz
  rw [Bool.and_eq_true, decide_eq_true_eq] at hempty
  obtain ⟨e1, e2⟩ := hempty
  cases m0 with
  | none => cases e1
  | some m =>
    simp only [Option.getD_some] at e2 b3 b4
    have hz0 : (h0.getD ↑n).toNat - (l0.getD 0).toNat = 0 := by omega
    have hm0 : capM cap (some m) = (l0.getD 0).toNat := by rw [e2]; rfl
    have hr := hrun _ rfl
    simp only [hm0, if_true, hz0, Nat.sub_self] at hr
    simp only [if_pos hm0] at hL
    refine op_value (v := .own (match A with | some a => .emp a | none => .nil) 0 0 []) hN2 hd ⟨?_, fun b hb => ?_, fun e he => ?_⟩ hr hL
    ·cases A <;> rfl
    ·simp only [atoms, atomsL] at hb; cases hb
    ·cases A <;> (simp only [rows, rowsL, List.map_nil, List.mem_singleton] at he; subst he; exact ⟨⟨rfl, rfl⟩, rfl⟩)
 ·cases hz
  have hr := hrun _ rfl
  have hcap : (h0.getD ↑n).toNat ≤ capM cap m0 := by
   cases m0 with
   | none => simp only [Option.getD_none] at b3 b4; simp only [capM]; omega
   | some m => simp only [Option.getD_some] at b3 b4; simp only [capM]; omega
  have hhn : (h0.getD ↑n).toNat ≤ n := by omega
  have hlh : (l0.getD 0).toNat ≤ (h0.getD ↑n).toNat := by omega
  refine op_value hN2 hd ⟨?_, fun b hb => ?_, fun e he => by simp [rows] at he⟩ hr hL
  ·simp only [PR]
   cases A <;> rfl
  ·simp only [atoms, List.mem_cons] at hb
   rcases hb with rfl | hb
   ·refine ⟨by omega, ?_⟩
    have hA := hat.2
    cases A with
    | none =>
      simp only at hA
      obtain ⟨q1, q2⟩ := hA
      split
      ·refine ⟨by omega, by rw [q2]; simp⟩
      ·rename_i hsome
       split at hsome <;> cases hsome
    | some A =>
      have hF : FOk E w _ pm A cs := hA
      have hlen : ((cs.drop ((l0.getD 0).toNat * k)).take (((h0.getD ↑n).toNat - (l0.getD 0).toNat) * k)) ≠ [] → cs ≠ [] := by intro h1 h2; rw [h2] at h1; simp at h1
      have main : ∀ A', (((cs.drop ((l0.getD 0).toNat * k)).take (((h0.getD ↑n).toNat - (l0.getD 0).toNat) * k)) = [] ∨ A' = A.add ((l0.getD 0).toNat * k)) → FOk E w (fun q => q ∈ keysD nt D2 ex) pm A' ((cs.drop ((l0.getD 0).toNat * k)).take (((h0.getD ↑n).toNat - (l0.getD 0).toNat) * k)) := by
       intro A' hA'
       refine ⟨noRowL_take (noRowL_drop hF.1), fun j x hx => ?_, fun hne => ?_⟩
       ·rcases hA' with hA' | rfl
        ·rw [hA'] at hx; simp at hx
        ·rw [List.getElem?_take] at hx
         split at hx
         ·rw [List.getElem?_drop] at hx
          obtain ⟨u, hu', hm⟩ := hF.2.1 _ x hx
          exact ⟨u, by rw [add_of_add]; exact hu', hm⟩
         ·cases hx
       ·rcases hA' with hA' | rfl
        ·exact absurd hA' hne
        ·rw [block_of_add]
         obtain ⟨g1, g2⟩ := hF.2.2 (hlen hne)
         exact ⟨g1, fun hq => g2 (hkd _ hq)⟩
      have e4 : (if capM cap m0 = (l0.getD 0).toNat then some A else match some A with | some a => some (a.add ((l0.getD 0).toNat * k)) | none => none) = some (if capM cap m0 = (l0.getD 0).toNat then A else A.add ((l0.getD 0).toNat * k)) := by
       split <;> rfl
      simp only [e4]
      refine main _ ?_
      split
      ·rename_i hc
       left
       rw [show (h0.getD ↑n).toNat - (l0.getD 0).toNat = 0 by omega]
       simp
      ·exact .inr rfl
   ·obtain ⟨x, hx, hb⟩ := atomsL_mem hb
    exact (s1.inv.atoms b (hcs b (atoms_mem (List.mem_of_mem_drop (List.mem_of_mem_take hx)) hb))).mono (Nat.le_refl _) hkd
end
end Go.Abs
end
noncomputable section
namespace Go.Abs
open Go
variable {P : Program} {H : Hint} {E : Env} {nt : Nat} {D D1 : St} {ex : List V} {w : World} {a : Act} {o : Oper} {K : Act → World → Prop} {Q : Exit → Act → World → Prop}
theorem firstCells_of {sz n : Nat} {b : Option Addr} {c : Nat} {us : List Value} (hl : us.length = n * sz) (h : (b = none → us = []) ∧ ∀ A, b = some A → ∀ (j : Nat) (v : Value), us[j]? = some v → w.cell? (A.add j) = some v) :
 ∀ w' : World, w'.heap = w.heap → (Builtin.firstCells sz n (.slice b n c)).run P w' = .ok us.toArray w' := by
 intro w' hw
 cases b with
 | none => rw [h.1 rfl]; exact run_firstCells_none w' sz n n c
 | some A => exact run_firstCells_some w' sz n A n c us hl (fun j v hv => by rw [World.cell?_of_block (w := w) (by rw [hw])]; exact h.2 A rfl j v hv)
theorem firstCells_pre {sz n q : Nat} {b : Option Addr} {c : Nat} {us : List Value} (hl : us.length = n * sz) (h : (b = none → us = []) ∧ ∀ A, b = some A → ∀ (j : Nat) (v : Value), us[j]? = some v → w.cell? (A.add j) = some v) (hq : q ≤ n) :
 ∀ w' : World, w'.heap = w.heap → (Builtin.firstCells sz q (.slice b n c)).run P w' = .ok (us.take (q * sz)).toArray w' := by
 intro w' hw
 cases b with
 | none => rw [h.1 rfl]; simp only [List.take_nil]; exact run_firstCells_none w' sz q n c
 | some A =>
   exact run_firstCells_some w' sz q A n c (us.take (q * sz)) (by rw [List.length_take, hl]; exact Nat.min_eq_left (Nat.mul_le_mul_right _ hq)) (fun j v hv => by
    rw [World.cell?_of_block (w := w) (by rw [hw])]
    rw [List.getElem?_take] at hv
    split at hv
    ·exact h.2 A rfl j v hv
    ·cases hv)
theorem row_cells {g cap kk k n : Nat} {cs : List V} (h : RowOk E w (.blk g cap kk, k, n, cs.map sh)) (hin : ∀ x ∈ cs, cellIn x = true) : ∃ us : List Value, us.length = cs.length ∧ (∀ (j : Nat) (x : V), cs[j]? = some x → ∃ v, us[j]? = some v ∧ MR E.β x v ∧ v.oneCell' = true) ∧
 ∀ (j : Nat) (v : Value), us[j]? = some v → w.cell? ((⟨g, 0, none⟩ : Addr).add j) = some v := by
 obtain ⟨q1, q2, q3, q4, q5, cur, el, q6, q7, q8⟩ := h
 simp only [List.length_map] at q4
 have hle : cs.length ≤ cur.size := by rw [q4, q7]; exact Nat.mul_le_mul_right _ q1
 refine ⟨cur.toList.take cs.length, by simp; omega, fun j x hx => ?_, fun j v hv => ?_⟩
 ·obtain ⟨u, hu, hm⟩ := q8 j (sh x) (by rw [List.getElem?_map, hx]; rfl)
  have hm := MR_sh.1 hm
  have hj : j < cs.length := (List.getElem?_eq_some_iff.1 hx).1
  refine ⟨u, by rw [List.getElem?_take_of_lt hj, Array.getElem?_toList]; exact hu, hm, ?_⟩
  rcases hm with hm | rfl
  ·exact hd_oneCell hm
  ·have := hin _ (List.mem_of_getElem? hx); simp [cellIn, solid] at this
 ·rw [List.getElem?_take] at hv
  split at hv
  ·rw [Array.getElem?_toList] at hv
   rw [add_mk]
   simp [World.cell?, q6, hv]
  ·cases hv
theorem bring_ok {sz n : Nat} {x : V} {u : Value} {cs : List V} {D0 : St} (hI : Inv E nt D ex w) (hS : SlotsOk E nt D a) (hs : Seen E nt D ex w x u) (h : bring sz x D = some (n, cs, D0)) : ∃ (us : List Value) (b : Option Addr) (c : Nat), u = .slice b n c ∧ Inv E nt D0 (cs ++ ex) w ∧ SlotsOk E nt D0 a ∧ Kept D D0 ∧
 To E nt D ex w E D0 (cs ++ ex) w ∧ cs.length = n * sz ∧ us.length = cs.length ∧ (∀ (j : Nat) (x : V), cs[j]? = some x → ∃ v, us[j]? = some v ∧ MR E.β x v ∧ v.oneCell' = true) ∧ ∀ q, q ≤ n → ∀ w' : World, w'.heap = w.heap → (Builtin.firstCells sz q u).run P w' = .ok (us.take (q * sz)).toArray w' := by
 unfold bring at h
 split at h
 ·rename_i pm A cap n0 cs0
  split at h
  case isFalse => cases h
  rename_i hck
  cases h
  have hat := hs.ok (.i pm A cap n cs) (by simp [atoms])
  have hcs : ∀ b ∈ atomsL cs, AtOk E w D.nx (fun k => k ∈ keysD nt D ex) b := fun b hb => hs.ok b (by simp only [atoms]; exact List.mem_cons_of_mem _ hb)
  have hin := List.all_eq_true.1 hck.2
  cases A with
  | none =>
    obtain ⟨q1, q2⟩ := hat.2
    subst q2
    refine ⟨[], none, cap, hs.pr, hI, hS, Kept.refl D, To.refl _ _ _ _ _, hck.1, rfl, fun j x hx => by simp at hx, fun q hq w' hw => ?_⟩
    rw [show u = .slice none n cap from hs.pr]
    exact firstCells_pre (w := w) (by simpa using hck.1) ⟨fun _ => rfl, fun A hA => (by cases hA)⟩ hq w' hw
  | some A =>
    have hF : FOk E w _ pm A cs := hat.2
    obtain ⟨hI2, hT2⟩ := hI.joinL (cs := cs) (fun e he => by rw [rowsL_noRow hF.1] at he; cases he) hcs
    let us : List Value := (List.range cs.length).map fun j => (w.cell? (A.add j)).getD undef
    have hus : ∀ j u, us[j]? = some u → w.cell? (A.add j) = some u := by
     intro j u hj
     simp only [us, List.getElem?_map, Option.map_eq_some_iff] at hj
     obtain ⟨q, hq, rfl⟩ := hj
     obtain ⟨hlt, rfl⟩ := List.getElem?_eq_some_iff.1 hq
     simp only [List.length_range, List.getElem_range] at hlt ⊢
     obtain ⟨u, hu, _⟩ := hF.2.1 j _ (List.getElem?_eq_getElem hlt)
     simp [hu]
    have hlen : us.length = cs.length := by simp [us]
    refine ⟨us, some A, cap, hs.pr, hI2, hS, Kept.refl D, hT2, hck.1, hlen, fun j x hx => ?_, fun q hq w' hw => ?_⟩
    ·obtain ⟨v, hv, hm⟩ := hF.2.1 j x hx
     have hj : j < cs.length := (List.getElem?_eq_some_iff.1 hx).1
     have h1 : us[j]? = some us[j] := List.getElem?_eq_getElem (by omega)
     have h2 := hus j _ h1
     rw [hv] at h2; cases h2
     refine ⟨_, h1, hm, ?_⟩
     rcases hm with hm | rfl
     ·exact hd_oneCell hm
     ·have := hin _ (List.mem_of_getElem? hx); simp [cellIn, solid] at this
    ·rw [show u = .slice (some A) n cap from hs.pr]
     exact firstCells_pre (w := w) (by rw [hlen]; exact hck.1) ⟨fun hA => (by cases hA), fun A' hA => (by cases hA; exact hus)⟩ hq w' hw
 ·rename_i r p
  split at h
  case h_2 => cases h
  rename_i d k n0 cs0 hl
  split at h
  case isFalse => cases h
  rename_i hck
  have hin := List.all_eq_true.1 hck.2
  have hr := hS.lt hl
  have hhd := hs.pr _ _ _ _ hl
  obtain ⟨R0, hR0⟩ := row_of_look (ex := ex) hr hl (e := (d, k, n0, cs0.map sh)) (by simp [Abs.rows])
  have hrow := hI.rows (d, k, n0, cs0.map sh) (hR0.mem_iff.2 (List.mem_append_left _ (by simp [Abs.rows])))
  have hst : n0 = n ∧ cs0 = cs ∧ Inv E nt D0 (cs ++ ex) w ∧ SlotsOk E nt D0 a ∧ Kept D D0 ∧ To E nt D ex w E D0 (cs ++ ex) w := by
   split at h
   ·rename_i hnr
    cases h
    obtain ⟨hI2, hT2⟩ := hI.joinL (cs := cs) (fun e he => by rw [rowsL_noRow hnr] at he; cases he) (fun b hb => hI.atoms b (atoms_look hr hl (by simpa [atoms] using hb)))
    exact ⟨rfl, rfl, hI2, hS, Kept.refl D, hT2⟩
   ·cases h
    have ht : take D r p = some (.own d k n cs, setAt D r p .dead) := by unfold take; rw [hl]
    obtain ⟨t1, t2, t3, t4, t5, t6, t7⟩ := take_ok hI hS ht
    obtain ⟨hI2, hT2⟩ := t1.reflight (ex2 := cs ++ ex) [(d, k, n, cs.map sh)] (by simp only [rowsL, Abs.rows, rowsL_append, List.cons_append, List.nil_append]; exact List.Perm.refl _) (fun b hb => by simpa [atomsL, Abs.atoms, atomsL_append] using hb)
    exact ⟨rfl, rfl, hI2, t2, t3, (To.of_keys t4 t5).trans hT2⟩
  obtain ⟨rfl, rfl, s1, s2, s3, s4⟩ := hst
  cases d with
  | nil =>
    obtain ⟨q1, q2⟩ := hrow
    have q2 : cs0 = [] := by simpa using q2
    subst q2
    have q1 : n0 = 0 := q1
    subst q1
    have eu : u = .slice none 0 0 := by simpa [hd] using hhd.symm
    refine ⟨[], none, 0, eu, s1, s2, s3, s4, hck.1, rfl, fun j x hx => by simp at hx, fun q hq w' hw => ?_⟩
    rw [eu]
    exact firstCells_pre (w := w) (by simp) ⟨fun _ => rfl, fun A hA => (by cases hA)⟩ hq w' hw
  | emp A =>
    obtain ⟨q1, q2⟩ := hrow
    have q2 : cs0 = [] := by simpa using q2
    subst q2
    have q1 : n0 = 0 := q1
    subst q1
    have eu : u = .slice (some A) 0 0 := by simpa [hd] using hhd.symm
    refine ⟨[], some A, 0, eu, s1, s2, s3, s4, hck.1, rfl, fun j x hx => by simp at hx, fun q hq w' hw => ?_⟩
    rw [eu]
    exact firstCells_pre (w := w) (by simp) ⟨fun _ => rfl, fun A' hA j v hv => by simp at hv⟩ hq w' hw
  | blk g cap kk =>
    obtain ⟨us, r1, r2, r3⟩ := row_cells hrow hin
    have eu : u = .slice (some ⟨g, 0, none⟩) n0 cap := by simpa [hd] using hhd.symm
    refine ⟨us, some ⟨g, 0, none⟩, cap, eu, s1, s2, s3, s4, hck.1, r1, r2, fun q hq w' hw => ?_⟩
    rw [eu]
    exact firstCells_pre (w := w) (by rw [r1]; exact hck.1) ⟨fun hA => (by cases hA), fun A' hA => (by cases hA; exact r3)⟩ hq w' hw
 ·cases h
theorem run_append_grow' {t ty e : TypeId} {i : TypeInfo} {z : Value} (ht : P.underlying t = some (.slice e)) (hi : P.info? e = some i) (hz : i.zero = some z) {base : Option Addr} {n cap m c : Nat} {b : Option Addr} {xs news : List Value}
 (hs : ∀ w' : World, w'.heap = w.heap → (Builtin.firstCells i.size n (.slice base n cap)).run P w' = .ok xs.toArray w') (hx : ∀ w' : World, w'.heap = w.heap → (Builtin.firstCells i.size m (.slice b m c)).run P w' = .ok news.toArray w')
 (hg : cap < n + m) (h63 : n + m ≤ 140737488355328) (hb : (n + m) * i.bytes ≤ 140737488355328) :
 (Builtin.append_ #[t, t] ty #[.slice base n cap, .slice b m c]).run P w = .ok (.slice (some ⟨w.heap.size, 0, none⟩) (n + m) (grownCap w (n + m) cap e)) (w.drew.alloc (.cells (xs.toArray ++ (news.toArray ++ Builtin.zeroCells z.cells (grownCap w (n + m) cap e - (n + m)))) e)) := by
 have hn : ¬ (n + m ≤ cap) := by omega
 have h63' : ¬ (9223372036854775807 < ((n : Int) + (m : Int))) := by omega
 have hf := growslice_fits hg hb
 have h48' : ¬ (281474976710656 < Builtin.nextslicecap (n + m) cap * i.bytes) := by omega
 have e1 := hs w.drew rfl
 have e2 := hx w.drew rfl
 simp [Builtin.append_, run_underlying ht, sizeOf, typeInfo, zeroValue, hi, hz, Builtin.lenOf, hn, h63', h48', Question.forced, e1, e2, newRow, grownCap]
theorem run_append_in {t ty e : TypeId} {i : TypeInfo} (ht : P.underlying t = some (.slice e)) (hi : P.info? e = some i) {base : Option Addr} {n cap m c : Nat} {b : Option Addr} {news : List Value}
 (hx : (Builtin.firstCells i.size m (.slice b m c)).run P w = .ok news.toArray w) (hg : n + m ≤ cap) {w' : World} (hst : ∀ A, base = some A → (storeCells (A.add (n * i.size)) news).run P w = .ok () w') (hno : base = none → w' = w) :
 (Builtin.append_ #[t, t] ty #[.slice base n cap, .slice b m c]).run P w = .ok (.slice base (n + m) cap) w' := by
 cases base with
 | none =>
   rw [hno rfl]
   simp [Builtin.append_, run_underlying ht, sizeOf, typeInfo, hi, Builtin.lenOf, hg, hx]
 | some A =>
   have := hst A rfl
   simp [Builtin.append_, run_underlying ht, sizeOf, typeInfo, hi, Builtin.lenOf, hg, hx, this]
end Go.Abs
end
noncomputable section
namespace Go.Abs
open Go
variable {P : Program} {H : Hint} {E : Env} {nt : Nat} {D D1 : St} {ex : List V} {w : World} {a : Act} {o : Oper} {K : Act → World → Prop} {Q : Exit → Act → World → Prop}
theorem Inv.rewrite {g cap kk r n n2 r2 : Nat} {cs ncs : List V} {cur cur' : Array Value} {el : TypeId} (hI : Inv E nt D (.own (.blk g cap kk) r n cs :: (ncs ++ ex)) w) (hg : w.heap[g]? = some (.cells cur el (0, 0))) (h1 : n2 ≤ cap) (h4 : (cs ++ ncs).length = n2 * kk)
 (h5 : 0 < n2 ∨ r2 = kk ∨ cap = 0) (h6 : cur'.size = cap * kk) (h7 : ∀ (j : Nat) (x : V), (cs ++ ncs)[j]? = some x → ∃ u, cur'[j]? = some u ∧ MR E.β x u) :
 Inv E nt D (.own (.blk g cap kk) r2 n2 (cs ++ ncs) :: ex) (w.setRow g cur') ∧ To E nt D (.own (.blk g cap kk) r n cs :: (ncs ++ ex)) w E D (.own (.blk g cap kk) r2 n2 (cs ++ ncs) :: ex) (w.setRow g cur') := by
 have p1 : (rowsD nt D (.own (.blk g cap kk) r n cs :: (ncs ++ ex))).Perm ((.blk g cap kk, r, n, cs.map sh) :: (rowsL cs ++ rowsD nt D (ncs ++ ex))) := rowsD_ex _ _ _ _
 have p2 : (rowsD nt D (.own (.blk g cap kk) r2 n2 (cs ++ ncs) :: ex)).Perm ((.blk g cap kk, r2, n2, (cs ++ ncs).map sh) :: (rowsL cs ++ rowsD nt D (ncs ++ ex))) := by
  refine (rowsD_ex _ _ _ _).trans ?_
  simp only [Abs.rows, List.cons_append, rowsL_append, List.append_assoc]
  refine List.Perm.cons _ (List.Perm.append_left _ ?_)
  unfold rowsD
  rw [rowsL_append]
  generalize rowsL ncs = x
  generalize slotRows nt D.s = y
  generalize boxRows D.m = z
  exact (List.perm_append_comm_assoc x y _).trans (List.Perm.append_left y (List.perm_append_comm_assoc x z _))
 have hk := (keysOf_perm p1).nodup_iff.1 hI.nodup
 rw [keysOf_cons_blk] at hk
 have hk1 := (List.nodup_cons.1 hk).1
 have hkeys : ∀ q, q ∈ keysD nt D (.own (.blk g cap kk) r2 n2 (cs ++ ncs) :: ex) ↔ q ∈ keysD nt D (.own (.blk g cap kk) r n cs :: (ncs ++ ex)) := by
  intro q
  rw [show keysD nt D _ = keysOf (rowsD nt D _) from rfl, show keysD nt D (.own (.blk g cap kk) r n cs :: (ncs ++ ex)) = keysOf (rowsD nt D _) from rfl, (keysOf_perm p1).mem_iff, (keysOf_perm p2).mem_iff]
  rfl
 have hgk : g ∈ keysD nt D (.own (.blk g cap kk) r n cs :: (ncs ++ ex)) := (keysOf_perm p1).mem_iff.2 (by rw [keysOf_cons_blk]; exact List.mem_cons_self)
 have hsame : ∀ q, q ≠ g → (w.setRow g cur').heap[q]? = w.heap[q]? := fun q hq => setRow_other w g q cur' hq
 have hrow := hI.rows _ (p1.mem_iff.2 List.mem_cons_self)
 obtain ⟨q1, q2, q3, q4, q5, _⟩ := hrow
 refine ⟨⟨fun e he => ?_, ?_, fun b hb => ?_, hI.boxes, hI.ids, fun q hq => hI.keysG q ((hkeys q).1 hq), fun q hq => hI.newG q (by simpa using hq), hI.gpb⟩, ⟨fun _ _ => rfl, rfl, rfl, Nat.le_refl _, by simp, fun q hq => .inl ((hkeys q).1 hq), fun q _ hq => hsame q fun e => hq (by rw [e]; exact hgk), rfl, rfl, rfl⟩⟩
 ·rcases List.mem_cons.1 (p2.mem_iff.1 he) with rfl | he2
  ·refine ⟨h1, q2, q3, by simpa using h4, h5, cur', el, setRow_heap w g cur cur' el (0, 0) hg, h6, fun j x hx => ?_⟩
   rw [List.getElem?_map, Option.map_eq_some_iff] at hx
   obtain ⟨z, hz, rfl⟩ := hx
   obtain ⟨u, hu, hm⟩ := h7 j z hz
   exact ⟨u, hu, MR_sh.2 hm⟩
  ·refine (hI.rows e (p1.mem_iff.2 (List.mem_cons_of_mem _ he2))).ext fun q hq => hsame q fun e' => ?_
   subst e'
   exact hk1 (List.mem_filterMap.2 ⟨e, he2, hq⟩)
 ·refine (keysOf_perm p2).nodup_iff.2 ?_
  rw [keysOf_cons_blk]; exact hk
 ·have hb' : b ∈ atomsD nt D (.own (.blk g cap kk) r n cs :: (ncs ++ ex)) := by
   unfold atomsD at hb ⊢
   simp only [atomsL, Abs.atoms, atomsL_append, List.mem_append] at hb ⊢
   rcases hb with hb | hb | (hb | hb) | hb
   ·exact .inl hb
   ·exact .inr (.inl hb)
   ·exact .inr (.inr (.inl hb))
   ·exact .inr (.inr (.inr (.inl hb)))
   ·exact .inr (.inr (.inr (.inr hb)))
  have hf : ∀ {pm A cs'}, FOk E w (fun q => q ∈ keysD nt D (.own (.blk g cap kk) r n cs :: (ncs ++ ex))) pm A cs' → FOk E (w.setRow g cur') (fun q => q ∈ keysD nt D (.own (.blk g cap kk) r2 n2 (cs ++ ncs) :: ex)) pm A cs' := by
   intro pm A cs' hf
   have hf2 := FOk.ext (w' := w.setRow g cur') (fun q _ hq => hsame q fun e => hq (by rw [e]; exact hgk)) hf
   exact ⟨hf2.1, hf2.2.1, fun hc' => ⟨(hf2.2.2 hc').1, fun hq => (hf2.2.2 hc').2 ((hkeys _).1 hq)⟩⟩
  have h0 := hI.atoms b hb'
  cases b with
  | p b => exact h0
  | i pm A cap n cs' =>
    refine ⟨h0.1, ?_⟩
    have h2 := h0.2
    cases A with
    | none => exact h2
    | some a => exact hf h2
  | f pm A cs' => exact hf h0
theorem Inv.drew {ex : List V} (h : Inv E nt D ex w) : Inv E nt D ex w.drew := h.ext (Nat.le_refl _) (fun _ _ => rfl)
theorem row_cells' {g cap kk k n : Nat} {cs : List V} (h : RowOk E w (.blk g cap kk, k, n, cs.map sh)) : ∃ us : List Value, us.length = cs.length ∧ (∀ (j : Nat) (x : V), cs[j]? = some x → ∃ v, us[j]? = some v ∧ MR E.β x v) ∧
 ∀ (j : Nat) (v : Value), us[j]? = some v → w.cell? ((⟨g, 0, none⟩ : Addr).add j) = some v := by
 obtain ⟨q1, q2, q3, q4, q5, cur, el, q6, q7, q8⟩ := h
 simp only [List.length_map] at q4
 have hle : cs.length ≤ cur.size := by rw [q4, q7]; exact Nat.mul_le_mul_right _ q1
 refine ⟨cur.toList.take cs.length, by simp; omega, fun j x hx => ?_, fun j v hv => ?_⟩
 ·obtain ⟨u, hu, hm⟩ := q8 j (sh x) (by rw [List.getElem?_map, hx]; rfl)
  have hj : j < cs.length := (List.getElem?_eq_some_iff.1 hx).1
  exact ⟨u, by rw [List.getElem?_take_of_lt hj, Array.getElem?_toList]; exact hu, MR_sh.1 hm⟩
 ·rw [List.getElem?_take] at hv
  split at hv
  ·rw [Array.getElem?_toList] at hv
   rw [add_mk]
   simp [World.cell?, q6, hv]
  ·cases hv
theorem append_core {t ty e : TypeId} {i : TypeInfo} {z : Value} (ht : P.underlying t = some (.slice e)) (hi : P.info? e = some i) (hz : i.zero = some z) (hzs : z.cells.size = i.size) (hsz : 0 < i.size) {d : Dec} {k n n2 c : Nat} {cs ncs : List V} {news : List Value} {b : Option Addr} {s : Value}
 (hI : Inv E nt D (.own d k n cs :: (ncs ++ ex)) w) (hs : hd E.β (.own d k n cs) = some s) (hk : (∃ g cap kk, d = .blk g cap kk) → k = 0 ∨ k = i.size) (hcs : cs.length = n * i.size) (hncs : ncs.length = n2 * i.size) (hnews : news.length = ncs.length) (hmr : ∀ (j : Nat) (x : V), ncs[j]? = some x → ∃ v, news[j]? = some v ∧ MR E.β x v ∧ v.oneCell' = true)
 (hone : ∀ v ∈ news, v.oneCell' = true) (hx : ∀ w' : World, w'.heap = w.heap → (Builtin.firstCells i.size n2 (.slice b n2 c)).run P w' = .ok news.toArray w') (hb1 : (n + n2) * i.bytes ≤ 140737488355328) (hb2 : n + n2 ≤ 140737488355328) :
 ∃ d2 u w', (Builtin.append_ #[t, t] ty #[s, .slice b n2 c]).run P w = .ok u w' ∧ hd E.β (.own d2 (if n + n2 = 0 then k else 0) (n + n2) (cs ++ ncs)) = some u ∧ Inv E nt D (.own d2 (if n + n2 = 0 then k else 0) (n + n2) (cs ++ ncs) :: ex) w' ∧
  To E nt D (.own d k n cs :: (ncs ++ ex)) w E D (.own d2 (if n + n2 = 0 then k else 0) (n + n2) (cs ++ ncs) :: ex) w' := by
 have hrow := hI.rows (d, k, n, cs.map sh) ((rowsD_ex nt D _ _).mem_iff.2 (List.mem_append_left _ (by simp [Abs.rows])))
 have hlen : (cs ++ ncs).length = (n + n2) * i.size := by rw [List.length_append, hcs, hncs, Nat.add_mul]
 have grow : ∀ (base : Option Addr) (cap : Nat) (xs : List Value), s = .slice base n cap → cap < n + n2 → xs.length = cs.length → (∀ (j : Nat) (x : V), cs[j]? = some x → ∃ v, xs[j]? = some v ∧ MR E.β x v) → (∀ w' : World, w'.heap = w.heap → (Builtin.firstCells i.size n (.slice base n cap)).run P w' = .ok xs.toArray w') →
  ∃ d2 u w', (Builtin.append_ #[t, t] ty #[s, .slice b n2 c]).run P w = .ok u w' ∧ hd E.β (.own d2 (if n + n2 = 0 then k else 0) (n + n2) (cs ++ ncs)) = some u ∧ Inv E nt D (.own d2 (if n + n2 = 0 then k else 0) (n + n2) (cs ++ ncs) :: ex) w' ∧
   To E nt D (.own d k n cs :: (ncs ++ ex)) w E D (.own d2 (if n + n2 = 0 then k else 0) (n + n2) (cs ++ ncs) :: ex) w' := by
  intro base cap xs es hcap hxl hxm hxr
  subst es
  have hr := run_append_grow' (P := P) (w := w) (ty := ty) (z := z) ht hi hz hxr hx hcap hb2 hb1
  obtain ⟨hI2, hT2⟩ := hI.reflight (ex2 := (cs ++ ncs) ++ ex) ((rows (.own d k n cs)).take 1) (by
   simp only [rowsL, Abs.rows, rowsL_append, List.cons_append, List.nil_append, List.append_assoc, List.take_succ_cons, List.take_zero]; exact List.Perm.refl _) (fun b hb => by simpa [atomsL, Abs.atoms, atomsL_append, or_assoc] using hb)
  have hge := grownCap_ge w (n + n2) cap e
  have hle := grownCap_le_maxLen w (n + n2) cap e (by simp only [maxLen]; omega)
  simp only [maxLen] at hle
  have hI3 := (Inv.drew hI2).newRow (el := e) (cap := grownCap w (n + n2) cap e) (kk := i.size) (r := if n + n2 = 0 then k else 0) (n := n + n2) (cur := xs.toArray ++ (news.toArray ++ Builtin.zeroCells z.cells (grownCap w (n + n2) cap e - (n + n2)))) hge (by omega) hsz hlen (.inl (by omega)) (by
   simp only [Array.size_append, List.size_toArray, size_zeroCells, hzs, hxl, hnews, hcs, hncs, ← Nat.add_mul]
   congr 1; omega) (fun j x hx' => by
   rw [List.getElem?_append] at hx'
   split at hx'
   ·rename_i hj
    obtain ⟨v, hv, hm⟩ := hxm j x hx'
    refine ⟨v, ?_, hm⟩
    rw [Array.getElem?_append_left (by simp [hxl, hj])]
    simpa using hv
   ·rename_i hj
    obtain ⟨v, hv, hm, _⟩ := hmr _ x hx'
    refine ⟨v, ?_, hm⟩
    have hjn : j - cs.length < news.length := (List.getElem?_eq_some_iff.1 hv).1
    rw [Array.getElem?_append_right (by simp [hxl]; omega), Array.getElem?_append_left (by simp [hxl]; exact hjn)]
    simpa [hxl] using hv)
  refine ⟨.blk w.heap.size (grownCap w (n + n2) cap e) i.size, _, _, hr, rfl, hI3, hT2.trans ?_⟩
  exact newRow_to (w := w.drew) _ e _ _ _ _ |> fun h => (⟨h.beta, h.gp, h.gb, h.nx, h.size, h.keys, h.same, h.os, h.tape, h.out⟩ : To E nt D ((cs ++ ncs) ++ ex) w E D _ _)
 cases d with
 | nil =>
   obtain ⟨q1, q2⟩ := hrow
   have q2 : cs = [] := by simpa using q2
   have q1 : n = 0 := q1
   subst q1 q2
   have es : s = .slice none 0 0 := by simpa [hd] using hs.symm
   by_cases h0 : n2 = 0
   ·subst h0
    have e1 : ncs = [] := List.eq_nil_of_length_eq_zero (by simpa using hncs)
    subst e1
    have e2 : news = [] := List.eq_nil_of_length_eq_zero hnews
    subst e2
    refine ⟨.nil, .slice none 0 0, w, ?_, by simp [hd], by simpa using hI, by simpa using To.refl _ _ _ _ _⟩
    rw [es]
    exact run_append_in ht hi (hx w rfl) (Nat.le_refl _) (fun A hA => by cases hA) (fun _ => rfl)
   ·exact grow none 0 [] es (by omega) rfl (fun j x hx => by simp at hx) (firstCells_of (w := w) (by simp) ⟨fun _ => rfl, fun A hA => (by cases hA)⟩)
 | emp A0 =>
   obtain ⟨q1, q2⟩ := hrow
   have q2 : cs = [] := by simpa using q2
   have q1 : n = 0 := q1
   subst q1 q2
   have es : s = .slice (some A0) 0 0 := by simpa [hd] using hs.symm
   by_cases h0 : n2 = 0
   ·subst h0
    have e1 : ncs = [] := List.eq_nil_of_length_eq_zero (by simpa using hncs)
    subst e1
    have e2 : news = [] := List.eq_nil_of_length_eq_zero hnews
    subst e2
    refine ⟨.emp A0, .slice (some A0) 0 0, w, ?_, by simp [hd], by simpa using hI, by simpa using To.refl _ _ _ _ _⟩
    rw [es]
    exact run_append_in ht hi (hx w rfl) (Nat.le_refl _) (fun A hA => rfl) (fun h => by cases h)
   ·exact grow (some A0) 0 [] es (by omega) rfl (fun j x hx => by simp at hx) (firstCells_of (w := w) (by simp) ⟨fun _ => rfl, fun A hA j v hv => (by simp at hv)⟩)
 | blk g cap kk =>
   have es : s = .slice (some ⟨g, 0, none⟩) n cap := by simpa [hd] using hs.symm
   obtain ⟨us, r1, r2, r3⟩ := row_cells' hrow
   by_cases hcap : n + n2 ≤ cap
   ·obtain ⟨q1, q2, q3, q4, q5, cur, el, q6, q7, q8⟩ := hrow
    simp only [List.length_map] at q4
    have hkk : (cs ++ ncs).length = (n + n2) * kk := by
     rw [hlen]
     rcases Nat.eq_zero_or_pos (n + n2) with h0 | h0
     ·rw [h0]; simp
     ·congr 1
      rcases Nat.eq_zero_or_pos n with hn | hn
      ·rcases q5 with q5 | q5 | q5
       ·omega
       ·rcases hk ⟨_, _, _, rfl⟩ with hk | hk
        ·omega
        ·omega
       ·omega
      ·exact Nat.eq_of_mul_eq_mul_left hn (hcs.symm.trans q4)
    have hfit : n * i.size + news.length ≤ cur.size := by
     rw [hnews, ← hcs, ← List.length_append, hkk, q7]; exact Nat.mul_le_mul_right _ hcap
    have hst := run_storeCells_at P g (n * i.size) el news 0 cur w q6 (by simpa using hfit) hone
    simp only [Nat.add_zero] at hst
    obtain ⟨hI2, hT2⟩ := hI.rewrite (r2 := if n + n2 = 0 then k else 0) (n2 := n + n2) (cur' := (cur.toList.take (n * i.size) ++ news ++ cur.toList.drop (n * i.size + news.length)).toArray) q6 hcap hkk (by
     rcases Nat.eq_zero_or_pos (n + n2) with h0 | h0
     ·rw [if_pos h0]; exact .inr (q5.resolve_left (by omega))
     ·exact .inl h0) (by simp; omega) (fun j x hx' => by
     have hce : cur.toList.length = cur.size := Array.length_toList
     rw [List.getElem?_append] at hx'
     split at hx'
     ·rename_i hj
      obtain ⟨u, hu, hm⟩ := q8 j (sh x) (by rw [List.getElem?_map, hx']; rfl)
      refine ⟨u, ?_, MR_sh.1 hm⟩
      rw [List.getElem?_toArray, List.append_assoc, List.getElem?_append_left (by rw [List.length_take]; omega), List.getElem?_take_of_lt (by omega), Array.getElem?_toList]
      exact hu
     ·rename_i hj
      obtain ⟨v, hv, hm, _⟩ := hmr _ x hx'
      refine ⟨v, ?_, hm⟩
      have hjn : j - cs.length < news.length := (List.getElem?_eq_some_iff.1 hv).1
      rw [List.getElem?_toArray, List.append_assoc, List.getElem?_append_right (by rw [List.length_take]; omega), List.getElem?_append_left (by rw [List.length_take]; omega), List.length_take]
      rw [show j - min (n * i.size) cur.toList.length = j - cs.length by omega]
      exact hv)
    refine ⟨.blk g cap kk, .slice (some ⟨g, 0, none⟩) (n + n2) cap, _, ?_, rfl, hI2, hT2⟩
    rw [es]
    exact run_append_in ht hi (hx w rfl) hcap (fun A hA => by cases hA; rw [add_mk, Nat.zero_add]; exact hst) (fun h => by cases h)
   ·exact grow (some ⟨g, 0, none⟩) cap us es (by omega) r1 r2 (firstCells_of (w := w) (by rw [r1]; exact hcs) ⟨fun hA => (by cases hA), fun A' hA => (by cases hA; exact r3)⟩)
end Go.Abs
end
