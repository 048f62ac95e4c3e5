/- Joined: AbsAS AbsAV AbsAW AbsAX AbsAY AbsAZ AbsBA. -/
import Derived.Test.YtbkhamjlfadfoaaDoorAbs304
import Derived.OrdersHeld
set_option linter.all false
set_option maxHeartbeats 16000000
noncomputable section
namespace Go.Abs
open Go
theorem Grow.refl (w : World) : Grow w w := ⟨Nat.le_refl _, fun _ _ => rfl⟩
theorem Grow.trans {w w1 w2 : World} (h : Grow w w1) (k : Grow w1 w2) : Grow w w2 :=
 ⟨Nat.le_trans h.1 k.1, fun q hq => (k.2 q (Nat.lt_of_lt_of_le hq h.1)).trans (h.2 q hq)⟩
theorem Grow.get {w w' : World} (h : Grow w w') {k : Nat} {o : Obj} (ho : w.heap[k]? = some o) : w'.heap[k]? = some o := by
 have hk : k < w.heap.size := (Array.getElem?_eq_some_iff.1 ho).1
 rw [h.2 k hk]; exact ho
theorem Grow.cell {w w' : World} (h : Grow w w') {a : Addr} {v : Value} (hc : w.cell? a = some v) : w'.cell? a = some v := by
 unfold World.cell? at hc ⊢
 split at hc
 ·rename_i c e f he
  rw [h.get he]; exact hc
 ·cases hc
def Firm {α : Type} (P : Program) (s : Sem α) : Prop := ∀ w r w1, s.run P w = .ok r w1 → ∀ w', Grow w w' → s.run P w' = .ok r w'
def Dies {α : Type} (P : Program) (s : Sem α) : Prop := ∀ w r w1, s.run P w ≠ .ok r w1
section
variable {P : Program} {α β : Type}
theorem Dies.firm {s : Sem α} (h : Dies P s) : Firm P s := fun w r w1 hr => absurd hr (h w r w1)
theorem firm_pure (x : α) : Firm P (pure x : Sem α) := fun w r w1 h w' _ => by
 simp only [Sem.run_pure, Result.ok.injEq] at h ⊢; exact ⟨h.1, trivial⟩
theorem Firm.bind {s : Sem α} {f : α → Sem β} (hs : Firm P s) (hf : ∀ x, Firm P (f x)) : Firm P (s >>= f) := fun w r w1 h w' hg => by
 rw [Sem.run_bind] at h ⊢
 cases hq : s.run P w with
 | halt e w2 => rw [hq] at h; simp at h
 | ok v w2 =>
   have h1 := hs w v w2 hq
   rw [hq] at h
   simp only [Result.andThen_ok] at h
   have h2 := h1 w (Grow.refl w)
   rw [hq] at h2
   cases h2
   rw [h1 w' hg]
   simp only [Result.andThen_ok]
   exact hf v _ r w1 h w' hg
theorem Dies.bind {s : Sem α} {f : α → Sem β} (hs : Dies P s) : Dies P (s >>= f) := fun w r w1 h => by
 rw [Sem.run_bind] at h
 cases hq : s.run P w with
 | halt e w2 => rw [hq] at h; simp at h
 | ok v w2 => exact hs _ _ _ hq
theorem Dies.bind2 {s : Sem α} {f : α → Sem β} (hf : ∀ x, Dies P (f x)) : Dies P (s >>= f) := fun w r w1 h => by
 rw [Sem.run_bind] at h
 cases hq : s.run P w with
 | halt e w2 => rw [hq] at h; simp at h
 | ok v w2 => rw [hq] at h; simp only [Result.andThen_ok] at h; exact hf _ _ _ _ h
theorem dies_halt (e : Halt) : Dies P (.halt e : Sem α) := fun w r w1 h => by cases h
theorem dies_stuck (e : String) : Dies P (stuck e : Sem α) := dies_halt _
theorem dies_unsupported (e : Unsupported) : Dies P (unsupported e : Sem α) := dies_halt _
theorem dies_runtimePanic (e : RuntimeError) : Dies P (runtimePanic e : Sem α) := by
 unfold runtimePanic
 refine Dies.bind2 fun p => ?_
 cases e <;> first
  | exact dies_halt _
  | exact Dies.bind2 fun _ => dies_halt _
  | exact Dies.bind2 fun _ => Dies.bind2 fun _ => dies_halt _
theorem dies_boundsPanic (k : IntKind) (x y : Int) (c : BoundsCode) : Dies P (boundsPanic k x y c : Sem α) := by
 unfold boundsPanic
 simp only
 split
 ·exact Dies.bind2 fun _ => dies_runtimePanic _
 ·exact Dies.bind2 fun _ => dies_runtimePanic _
theorem firm_program : Firm P Go.program := fun w r w1 h w' _ => by
 cases h; rfl
theorem firm_typeInfo (t : TypeId) : Firm P (typeInfo t) := by
 unfold typeInfo
 repeat' (first
  | exact firm_pure _
  | exact firm_program
  | exact (dies_stuck _).firm
  | exact (dies_unsupported _).firm
  | exact (dies_runtimePanic _).firm
  | exact (dies_boundsPanic _ _ _ _).firm
  | exact firm_program
  | refine Firm.bind ?_ fun _ => ?_
  | split
  | dsimp only)
theorem firm_underlying (t : TypeId) : Firm P (underlying t) := by
 unfold underlying
 repeat' (first
  | exact firm_pure _
  | exact firm_program
  | exact (dies_stuck _).firm
  | exact (dies_unsupported _).firm
  | exact (dies_runtimePanic _).firm
  | exact (dies_boundsPanic _ _ _ _).firm
  | (first | exact firm_typeInfo _)
  | refine Firm.bind ?_ fun _ => ?_
  | split
  | dsimp only)
theorem firm_sizeOf (t : TypeId) : Firm P (sizeOf t) := by
 unfold sizeOf
 repeat' (first
  | exact firm_pure _
  | exact firm_program
  | exact (dies_stuck _).firm
  | exact (dies_unsupported _).firm
  | exact (dies_runtimePanic _).firm
  | exact (dies_boundsPanic _ _ _ _).firm
  | (first | exact firm_typeInfo _ | exact firm_underlying _)
  | refine Firm.bind ?_ fun _ => ?_
  | split
  | dsimp only)
theorem firm_isAgg (t : TypeId) : Firm P (isAgg t) := by
 unfold isAgg
 repeat' (first
  | exact firm_pure _
  | exact firm_program
  | exact (dies_stuck _).firm
  | exact (dies_unsupported _).firm
  | exact (dies_runtimePanic _).firm
  | exact (dies_boundsPanic _ _ _ _).firm
  | (first | exact firm_typeInfo _ | exact firm_underlying _ | exact firm_sizeOf _)
  | refine Firm.bind ?_ fun _ => ?_
  | split
  | dsimp only)
theorem firm_zeroValue (t : TypeId) : Firm P (zeroValue t) := by
 unfold zeroValue
 repeat' (first
  | exact firm_pure _
  | exact firm_program
  | exact (dies_stuck _).firm
  | exact (dies_unsupported _).firm
  | exact (dies_runtimePanic _).firm
  | exact (dies_boundsPanic _ _ _ _).firm
  | (first | exact firm_typeInfo _ | exact firm_underlying _ | exact firm_sizeOf _ | exact firm_isAgg _)
  | refine Firm.bind ?_ fun _ => ?_
  | split
  | dsimp only)
theorem firm_asBool (v : Value) : Firm P (asBool v) := by
 unfold asBool
 repeat' (first
  | exact firm_pure _
  | exact firm_program
  | exact (dies_stuck _).firm
  | exact (dies_unsupported _).firm
  | exact (dies_runtimePanic _).firm
  | exact (dies_boundsPanic _ _ _ _).firm
  | (first | exact firm_typeInfo _ | exact firm_underlying _ | exact firm_sizeOf _ | exact firm_isAgg _ | exact firm_zeroValue _)
  | refine Firm.bind ?_ fun _ => ?_
  | split
  | dsimp only)
theorem firm_asAgg (v : Value) : Firm P (asAgg v) := by
 unfold asAgg
 repeat' (first
  | exact firm_pure _
  | exact firm_program
  | exact (dies_stuck _).firm
  | exact (dies_unsupported _).firm
  | exact (dies_runtimePanic _).firm
  | exact (dies_boundsPanic _ _ _ _).firm
  | (first | exact firm_typeInfo _ | exact firm_underlying _ | exact firm_sizeOf _ | exact firm_isAgg _ | exact firm_zeroValue _ | exact firm_asBool _)
  | refine Firm.bind ?_ fun _ => ?_
  | split
  | dsimp only)
theorem firm_asIntOf (v : Value) : Firm P (asIntOf v) := by
 unfold asIntOf
 repeat' (first
  | exact firm_pure _
  | exact firm_program
  | exact (dies_stuck _).firm
  | exact (dies_unsupported _).firm
  | exact (dies_runtimePanic _).firm
  | exact (dies_boundsPanic _ _ _ _).firm
  | (first | exact firm_typeInfo _ | exact firm_underlying _ | exact firm_sizeOf _ | exact firm_isAgg _ | exact firm_zeroValue _ | exact firm_asBool _ | exact firm_asAgg _)
  | refine Firm.bind ?_ fun _ => ?_
  | split
  | dsimp only)
theorem firm_sureAddr (v : Value) : Firm P (Instr.sureAddr v) := by
 unfold Instr.sureAddr
 repeat' (first
  | exact firm_pure _
  | exact firm_program
  | exact (dies_stuck _).firm
  | exact (dies_unsupported _).firm
  | exact (dies_runtimePanic _).firm
  | exact (dies_boundsPanic _ _ _ _).firm
  | (first | exact firm_typeInfo _ | exact firm_underlying _ | exact firm_sizeOf _ | exact firm_isAgg _ | exact firm_zeroValue _ | exact firm_asBool _ | exact firm_asAgg _ | exact firm_asIntOf _)
  | refine Firm.bind ?_ fun _ => ?_
  | split
  | dsimp only)
theorem firm_asAddr (v : Value) : Firm P (asAddr v) := by
 unfold asAddr
 repeat' (first
  | exact firm_pure _
  | exact firm_program
  | exact (dies_stuck _).firm
  | exact (dies_unsupported _).firm
  | exact (dies_runtimePanic _).firm
  | exact (dies_boundsPanic _ _ _ _).firm
  | (first | exact firm_typeInfo _ | exact firm_underlying _ | exact firm_sizeOf _ | exact firm_isAgg _ | exact firm_zeroValue _ | exact firm_asBool _ | exact firm_asAgg _ | exact firm_asIntOf _ | exact firm_sureAddr _)
  | refine Firm.bind ?_ fun _ => ?_
  | split
  | dsimp only)
theorem firm_part (t : TypeId) (cs : Array Value) (k : Nat) : Firm P (part t cs k) := by
 unfold part
 repeat' (first
  | exact firm_pure _
  | exact firm_program
  | exact (dies_stuck _).firm
  | exact (dies_unsupported _).firm
  | exact (dies_runtimePanic _).firm
  | exact (dies_boundsPanic _ _ _ _).firm
  | (first | exact firm_typeInfo _ | exact firm_underlying _ | exact firm_sizeOf _ | exact firm_isAgg _ | exact firm_zeroValue _ | exact firm_asBool _ | exact firm_asAgg _ | exact firm_asIntOf _ | exact firm_sureAddr _ | exact firm_asAddr _)
  | refine Firm.bind ?_ fun _ => ?_
  | split
  | dsimp only)
theorem firm_field (t : TypeId) (v : Value) (k : Nat) : Firm P (Instr.field t v k) := by
 unfold Instr.field
 repeat' (first
  | exact firm_pure _
  | exact firm_program
  | exact (dies_stuck _).firm
  | exact (dies_unsupported _).firm
  | exact (dies_runtimePanic _).firm
  | exact (dies_boundsPanic _ _ _ _).firm
  | (first | exact firm_typeInfo _ | exact firm_underlying _ | exact firm_sizeOf _ | exact firm_isAgg _ | exact firm_zeroValue _ | exact firm_asBool _ | exact firm_asAgg _ | exact firm_asIntOf _ | exact firm_sureAddr _ | exact firm_asAddr _ | exact firm_part _ _ _)
  | refine Firm.bind ?_ fun _ => ?_
  | split
  | dsimp only)
theorem firm_index (t : TypeId) (v u : Value) : Firm P (Instr.index t v u) := by
 unfold Instr.index
 repeat' (first
  | exact firm_pure _
  | exact firm_program
  | exact (dies_stuck _).firm
  | exact (dies_unsupported _).firm
  | exact (dies_runtimePanic _).firm
  | exact (dies_boundsPanic _ _ _ _).firm
  | (first | exact firm_typeInfo _ | exact firm_underlying _ | exact firm_sizeOf _ | exact firm_isAgg _ | exact firm_zeroValue _ | exact firm_asBool _ | exact firm_asAgg _ | exact firm_asIntOf _ | exact firm_sureAddr _ | exact firm_asAddr _ | exact firm_part _ _ _)
  | refine Firm.bind ?_ fun _ => ?_
  | split
  | dsimp only)
theorem firm_indexAt (t : TypeId) (v u : Value) : Firm P (Instr.indexAt t v u) := by
 unfold Instr.indexAt
 repeat' (first
  | exact firm_pure _
  | exact firm_program
  | exact (dies_stuck _).firm
  | exact (dies_unsupported _).firm
  | exact (dies_runtimePanic _).firm
  | exact (dies_boundsPanic _ _ _ _).firm
  | (first | exact firm_typeInfo _ | exact firm_underlying _ | exact firm_sizeOf _ | exact firm_isAgg _ | exact firm_zeroValue _ | exact firm_asBool _ | exact firm_asAgg _ | exact firm_asIntOf _ | exact firm_sureAddr _ | exact firm_asAddr _ | exact firm_part _ _ _)
  | refine Firm.bind ?_ fun _ => ?_
  | split
  | dsimp only)
theorem firm_sliceBound (v : Value) (n : Nat) (c : BoundsCode) : Firm P (Instr.sliceBound v n c) := by
 unfold Instr.sliceBound
 repeat' (first
  | exact firm_pure _
  | exact firm_program
  | exact (dies_stuck _).firm
  | exact (dies_unsupported _).firm
  | exact (dies_runtimePanic _).firm
  | exact (dies_boundsPanic _ _ _ _).firm
  | (first | exact firm_typeInfo _ | exact firm_underlying _ | exact firm_sizeOf _ | exact firm_isAgg _ | exact firm_zeroValue _ | exact firm_asBool _ | exact firm_asAgg _ | exact firm_asIntOf _ | exact firm_sureAddr _ | exact firm_asAddr _ | exact firm_part _ _ _)
  | refine Firm.bind ?_ fun _ => ?_
  | split
  | dsimp only)
theorem firm_sliceBounds (b : Bool) (n m : Nat) (x y z : Option Value) : Firm P (Instr.sliceBounds b n m x y z) := by
 unfold Instr.sliceBounds
 repeat' (first
  | exact firm_pure _
  | exact firm_program
  | exact (dies_stuck _).firm
  | exact (dies_unsupported _).firm
  | exact (dies_runtimePanic _).firm
  | exact (dies_boundsPanic _ _ _ _).firm
  | (first | exact firm_typeInfo _ | exact firm_underlying _ | exact firm_sizeOf _ | exact firm_isAgg _ | exact firm_zeroValue _ | exact firm_asBool _ | exact firm_asAgg _ | exact firm_asIntOf _ | exact firm_sureAddr _ | exact firm_asAddr _ | exact firm_part _ _ _ | exact firm_sliceBound _ _ _)
  | refine Firm.bind ?_ fun _ => ?_
  | split
  | dsimp only)
theorem firm_slice (t : TypeId) (v : Value) (x y z : Option Value) : Firm P (Instr.slice t v x y z) := by
 unfold Instr.slice
 repeat' (first
  | exact firm_pure _
  | exact firm_program
  | exact (dies_stuck _).firm
  | exact (dies_unsupported _).firm
  | exact (dies_runtimePanic _).firm
  | exact (dies_boundsPanic _ _ _ _).firm
  | (first | exact firm_typeInfo _ | exact firm_underlying _ | exact firm_sizeOf _ | exact firm_isAgg _ | exact firm_zeroValue _ | exact firm_asBool _ | exact firm_asAgg _ | exact firm_asIntOf _ | exact firm_sureAddr _ | exact firm_asAddr _ | exact firm_part _ _ _ | exact firm_sliceBound _ _ _ | exact firm_sliceBounds _ _ _ _ _ _)
  | refine Firm.bind ?_ fun _ => ?_
  | split
  | dsimp only)
theorem firm_sliceAt (t : TypeId) (v : Value) (x y z : Option Value) : Firm P (Instr.sliceAt t v x y z) := by
 unfold Instr.sliceAt
 repeat' (first
  | exact firm_pure _
  | exact firm_program
  | exact (dies_stuck _).firm
  | exact (dies_unsupported _).firm
  | exact (dies_runtimePanic _).firm
  | exact (dies_boundsPanic _ _ _ _).firm
  | (first | exact firm_typeInfo _ | exact firm_underlying _ | exact firm_sizeOf _ | exact firm_isAgg _ | exact firm_zeroValue _ | exact firm_asBool _ | exact firm_asAgg _ | exact firm_asIntOf _ | exact firm_sureAddr _ | exact firm_asAddr _ | exact firm_part _ _ _ | exact firm_sliceBound _ _ _ | exact firm_sliceBounds _ _ _ _ _ _ | exact firm_slice _ _ _ _ _)
  | refine Firm.bind ?_ fun _ => ?_
  | split
  | dsimp only)
theorem firm_mapM {f : α → Sem β} (hf : ∀ x, Firm P (f x)) : ∀ l : List α, Firm P (l.mapM f)
 | [] => by rw [List.mapM_nil]; exact firm_pure _
 | x :: l => by
   rw [List.mapM_cons]
   exact Firm.bind (hf x) fun _ => Firm.bind (firm_mapM hf l) fun _ => firm_pure _
theorem Firm.map {s : Sem α} (hs : Firm P s) (f : α → β) : Firm P (f <$> s) := by
 rw [map_eq_pure_bind]; exact hs.bind fun _ => firm_pure _
theorem firm_mapA {f : α → Sem β} (hf : ∀ x, Firm P (f x)) (l : Array α) : Firm P (l.mapM f) := by
 rw [Array.mapM_eq_mapM_toList]; exact (firm_mapM hf _).map _
theorem firm_build (t : TypeId) (ps : Array (Nat × Value)) : Firm P (Instr.build t ps) := by
 unfold Instr.build
 repeat' (first
  | exact firm_pure _
  | exact firm_program
  | exact (dies_stuck _).firm
  | exact (dies_unsupported _).firm
  | exact (dies_runtimePanic _).firm
  | exact (dies_boundsPanic _ _ _ _).firm
  | (first | exact firm_typeInfo _ | exact firm_underlying _ | exact firm_sizeOf _ | exact firm_isAgg _ | exact firm_zeroValue _ | exact firm_asBool _ | exact firm_asAgg _ | exact firm_asIntOf _ | exact firm_sureAddr _ | exact firm_asAddr _ | exact firm_part _ _ _ | exact firm_sliceBound _ _ _ | exact firm_sliceBounds _ _ _ _ _ _ | exact firm_slice _ _ _ _ _ | exact firm_mapA (fun _ => Firm.bind (firm_sizeOf _) fun _ => firm_pure _) _)
  | refine Firm.bind ?_ fun _ => ?_
  | split
  | dsimp only)
theorem firm_extract (v : Value) (k : Nat) : Firm P (Instr.extract v k) := by
 unfold Instr.extract
 repeat' (first
  | exact firm_pure _
  | exact firm_program
  | exact (dies_stuck _).firm
  | exact (dies_unsupported _).firm
  | exact (dies_runtimePanic _).firm
  | exact (dies_boundsPanic _ _ _ _).firm
  | (first | exact firm_typeInfo _ | exact firm_underlying _ | exact firm_sizeOf _ | exact firm_isAgg _ | exact firm_zeroValue _ | exact firm_asBool _ | exact firm_asAgg _ | exact firm_asIntOf _ | exact firm_sureAddr _ | exact firm_asAddr _ | exact firm_part _ _ _ | exact firm_sliceBound _ _ _ | exact firm_sliceBounds _ _ _ _ _ _ | exact firm_slice _ _ _ _ _ | exact firm_mapA (fun _ => Firm.bind (firm_sizeOf _) fun _ => firm_pure _) _)
  | refine Firm.bind ?_ fun _ => ?_
  | split
  | dsimp only)
end
section
variable {P : Program}
theorem seen_grow {w w' : World} (hg : Grow w w') {at_ : Addr} {u : TypeId} {k : Addr} {m : Bool} {r} (h : w.seen P at_ u k m = .ok r) : w'.seen P at_ u k m = .ok r := by
 by_cases hk : at_.block < w.heap.size
 ·unfold World.seen at h ⊢
  rw [hg.2 _ hk]; exact h
 ·have hn : w.heap[at_.block]? = none := Array.getElem?_eq_none (by omega)
  unfold World.seen at h
  rw [hn] at h
  simp only [bind, Except.bind, pure, Except.pure, throw, throwThe, MonadExceptOf.throw] at h
  repeat' (first | (cases h; done) | split at h)
theorem farLoad_grow {w w' : World} (hg : Grow w w') {a : Addr} {m : Bool} {r} (h : w.farLoad P a m = .ok r) : w'.farLoad P a m = .ok r := by
 unfold World.farLoad at h ⊢
 split at h
 ·rename_i at_ u he
  rw [hg.get he]
  simp only
  split at h
  ·rename_i r' hv
   cases h
   unfold World.viewLoad at hv ⊢
   cases hs : w.seen P at_ u a m with
   | error e => rw [hs] at hv; cases hv
   | ok q =>
     rw [hs] at hv
     rw [seen_grow hg hs, hv]
  ·cases h
 ·cases h
theorem firm_load (a : Addr) : Firm P (load a) := fun w r w1 h w' hg => by
 unfold load at h ⊢
 simp only [Sem.run] at h ⊢
 cases hc : w.cell? a with
 | some v =>
   rw [hc] at h
   cases h
   rw [hg.cell hc]
 | none =>
   rw [hc] at h
   simp only at h
   have hc' : w'.cell? a = none := by
    cases hf : w.farLoad P a (Mode.plain == .atomic) with
    | error e => rw [hf] at h; cases h
    | ok q =>
      unfold World.farLoad at hf
      split at hf
      ·rename_i at_ u he
       unfold World.cell?
       rw [hg.get he]
      ·cases hf
   rw [hc']
   simp only
   cases hf : w.farLoad P a (Mode.plain == .atomic) with
   | error e => rw [hf] at h; cases h
   | ok q =>
     rw [hf] at h
     rw [farLoad_grow hg hf]
     cases h; rfl
theorem firm_loadCellsFrom (a : Addr) : ∀ (n i : Nat) (acc : Array Value), Firm P (loadCellsFrom a i n acc)
 | 0, i, acc => firm_pure _
 | n + 1, i, acc => Firm.bind (firm_load _) fun _ => firm_loadCellsFrom a n _ _
theorem firm_loadVar (t : TypeId) (a : Addr) : Firm P (loadVar t a) := by
 unfold loadVar loadCells
 repeat' (first
  | exact firm_pure _
  | exact firm_load _
  | exact firm_loadCellsFrom _ _ _ _
  | exact firm_isAgg _
  | exact firm_sizeOf _
  | refine Firm.bind ?_ fun _ => ?_
  | split)
theorem firm_loadAt (t : TypeId) (v : Value) : Firm P (Instr.loadAt t v) := Firm.bind (firm_sureAddr _) fun _ => firm_loadVar _ _
end
variable {P : Program} {H : Hint} {E : Env} {nt : Nat} {D D1 : St} {ex : List V} {w : World} {a : Act} {o : Oper}
def LitRun (P : Program) (o : Oper) (a : Act) (w : World) : Prop := ∃ v, ∀ w', Grow w w' → (execOp a.eval o).run P w' = .ok (.value v) w'
theorem firm_lit {s : Sem Value} (hs : ∀ w, (execOp a.eval o).run P w = (s.run P w).andThen (fun u w' => .ok (.value u) w')) (hf : Firm P s) (hwp : o.wp P a w (fun _ _ => True) (fun _ _ _ => False)) : LitRun P o a w := by
 unfold Oper.wp at hwp
 rw [hs] at hwp
 cases hq : s.run P w with
 | halt e w2 =>
   rw [hq] at hwp
   cases e <;> exact hwp.elim
 | ok v w2 =>
   refine ⟨v, fun w' hg => ?_⟩
   rw [hs, hf w v w2 hq w' hg]; rfl
theorem leads_true : Leads H E nt D ex w D1 (fun _ _ => True) := fun _ _ _ _ _ _ _ => trivial
theorem intOp_scalar {op : BinOp} {k : IntKind} {x y : Int} {v : V} (h : intOp op k x y = some v) : v.scalar = true := by
 cases op <;> simp only [intOp] at h <;> first
  | (cases h; done)
  | (cases h; rfl)
  | (split at h <;> cases h <;> rfl)
theorem shOp_scalar {op : BinOp} {k : IntKind} {x y : Int} {v : V} (h : shOp op k x y = some v) : v.scalar = true := by
 unfold shOp at h
 split at h
 ·cases h
 ·cases op <;> cases h <;> rfl
theorem bin_run {op : BinOp} {t t2 : TypeId} {x y : Operand} {va vb v : V} (hN : Now H E nt D ex w a) (ho : o.op = .binOp op t x y t2) (hx : ev H D x = some va) (hy : ev H D y = some vb) (hv : bin P D op t (isNil y) va vb = some v) :
 ∃ u, (execOp a.eval o).run P w = .ok (.value u) w ∧ PR E.β D v u ∧ v.scalar = true := by
 have hsx := ev_ok hN hx
 have hsy := ev_ok hN hy
 have fin : ∀ u, (∀ us, a.eval x ≠ .agg us) ∧ a.eval x ≠ .nilIface → (binOp op t (a.eval x) (a.eval y)).run P w = .ok u w → Seen E nt D ex w v u → v.scalar = true → (∃ u, (execOp a.eval o).run P w = .ok (.value u) w ∧ PR E.β D v u ∧ v.scalar = true) := by
  intro u hf hr hs hsc
  refine ⟨u, ?_, hs.pr, hsc⟩
  simp [execOp, ho, eqGuard_free hf, hr]
 have eqlike : ∀ (b : Bool), (op = .eql ∧ v = .bool b) ∨ (op = .neq ∧ v = .bool !b) → (∀ us, a.eval x ≠ .agg us) ∧ a.eval x ≠ .nilIface → (Op.equal t (a.eval x) (a.eval y)).run P w = .ok b w → (binOp op t (a.eval x) (a.eval y) = (if op = .eql then (do pure (.bool (← Op.equal t (a.eval x) (a.eval y)))) else (do pure (.bool (!(← Op.equal t (a.eval x) (a.eval y))))) : Sem Value)) → (∃ u, (execOp a.eval o).run P w = .ok (.value u) w ∧ PR E.β D v u ∧ v.scalar = true) := by
  intro b hb hf hr hbin
  rcases hb with ⟨rfl, rfl⟩ | ⟨rfl, rfl⟩
  ·exact fin (.bool b) hf (by rw [hbin]; simp [hr]) (seen_bool b) rfl
  ·exact fin (.bool !b) hf (by rw [hbin]; simp [hr]) (seen_bool _) rfl
 have e0 : eq0 op = some v → (op = .eql ∧ v = .bool true) ∨ (op = .neq ∧ v = .bool false) := by
  intro he; unfold eq0 at he; split at he <;> cases he
  ·exact .inl ⟨rfl, rfl⟩
  ·exact .inr ⟨rfl, rfl⟩
 have n0 : ne0 op = some v → (op = .eql ∧ v = .bool false) ∨ (op = .neq ∧ v = .bool true) := by
  intro he; unfold ne0 at he; split at he <;> cases he
  ·exact .inl ⟨rfl, rfl⟩
  ·exact .inr ⟨rfl, rfl⟩
 unfold bin at hv
 split at hv
 ·
  rename_i k n k' n'
  have ex1 : a.eval x = .int k n := hsx.pr
  have ey1 : a.eval y = .int k' n' := hsy.pr
  split at hv
  ·rename_i hsh
   have SC : shOp op k n n' = some v → v.scalar = true := shOp_scalar
   obtain ⟨u, hr, hs⟩ := shOp_ok (P := P) (E := E) (nt := nt) (D := D) (ex := ex) (w := w) (k' := k') hsh hv t
   exact fin u (by rw [ex1]; simp) (by rw [ex1, ey1]; exact hr) hs (SC hv)
  ·split at hv
   ·rename_i hk
    subst hk
    have SC : intOp op k n n' = some v → v.scalar = true := intOp_scalar
    obtain ⟨u, hr, hs⟩ := intOp_ok (P := P) (E := E) (nt := nt) (D := D) (ex := ex) (w := w) hv t
    exact fin u (by rw [ex1]; simp) (by rw [ex1, ey1]; exact hr) hs (SC hv)
   ·cases hv
 ·rename_i b b'
  have ex1 : a.eval x = .bool b := hsx.pr
  have ey1 : a.eval y = .bool b' := hsy.pr
  split at hv
  ·rename_i hu
   cases hv
   refine eqlike (b == b') (.inl ⟨rfl, rfl⟩) (by rw [ex1]; simp) (by rw [ex1, ey1]; exact equal_of fun d => by simp [Op.equalIn, run_underlying' hu]) ?_
   rw [ex1, ey1]; rfl
  ·rename_i hu
   cases hv
   refine eqlike (b == b') (.inr ⟨rfl, rfl⟩) (by rw [ex1]; simp) (by rw [ex1, ey1]; exact equal_of fun d => by simp [Op.equalIn, run_underlying' hu]) ?_
   rw [ex1, ey1]; rfl
  ·cases hv
 ·split at hv
  ·rename_i e hu
   have ex1 : a.eval x = .pointer none := hsx.pr
   have ey1 : a.eval y = .pointer none := hsy.pr
   refine eqlike true (e0 hv) (by rw [ex1]; simp) (by rw [ex1, ey1]; exact equal_of fun d => by simp [Op.equalIn, run_underlying' hu]) ?_
   rw [ex1, ey1]
   rcases e0 hv with ⟨rfl, _⟩ | ⟨rfl, _⟩ <;> rfl
  ·cases hv
 ·rename_i b q
  split at hv
  ·rename_i e hu
   have ex1 : a.eval x = .pointer (some ⟨E.β b, q, none⟩) := hsx.pr
   have ey1 : a.eval y = .pointer none := hsy.pr
   refine eqlike false (n0 hv) (by rw [ex1]; simp) (by rw [ex1, ey1]; exact equal_of fun d => by simp [Op.equalIn, run_underlying' hu]) ?_
   rw [ex1, ey1]
   rcases n0 hv with ⟨rfl, _⟩ | ⟨rfl, _⟩ <;> rfl
  ·cases hv
 ·rename_i b q
  split at hv
  ·rename_i e hu
   have ex1 : a.eval x = .pointer none := hsx.pr
   have ey1 : a.eval y = .pointer (some ⟨E.β b, q, none⟩) := hsy.pr
   refine eqlike false (n0 hv) (by rw [ex1]; simp) (by rw [ex1, ey1]; exact equal_of fun d => by simp [Op.equalIn, run_underlying' hu]) ?_
   rw [ex1, ey1]
   rcases n0 hv with ⟨rfl, _⟩ | ⟨rfl, _⟩ <;> rfl
  ·cases hv
 ·rename_i xs ys
  split at hv
  case h_2 => cases hv
  rename_i r hr
  obtain ⟨us, hus, hl⟩ := hsx.pr
  obtain ⟨vs, hvs, hl2⟩ := hsy.pr
  obtain ⟨b, rfl, hg, hb⟩ := eqStruct_run (P := P) (w := w) (x := x) (y := y) hr hv hl hl2
  exact ⟨.bool b, by simp [execOp, ho, hus, hvs, hg, hb], (seen_bool (E := E) (nt := nt) (D := D) (ex := ex) (w := w) b).pr, rfl⟩
 ·split at hv
  case isFalse => cases hv
  rename_i hnil
  have ey1 : a.eval y = .slice none 0 0 := by
   unfold isNil at hnil
   split at hnil
   ·rfl
   ·cases hnil
  have main : ∀ e A n cap, P.underlying t = some (.slice e) → a.eval x = .slice (some A) n cap → ne0 op = some v → (∃ u, (execOp a.eval o).run P w = .ok (.value u) w ∧ PR E.β D v u ∧ v.scalar = true) := by
   intro e A n cap hu ex1 hne
   refine eqlike false (n0 hne) (by rw [ex1]; simp) (by rw [ex1, ey1]; exact equal_of fun d => by simp [Op.equalIn, run_underlying' hu]) ?_
   rw [ex1, ey1]
   rcases n0 hne with ⟨rfl, _⟩ | ⟨rfl, _⟩ <;> rfl
  split at hv
  ·rename_i e pm A cap n cs hu hrs
   have key : ∀ v', rs D v' = some (.im pm A cap (n + 1) cs) → v' = .im pm A cap (n + 1) cs := by
    intro v' hv'
    unfold rs at hv'
    split at hv'
    ·split at hv' <;> cases hv'
    ·cases hv'; rfl
   have hva := key _ hrs
   subst hva
   have ha := hsx.ok (.i pm A cap (n + 1) cs) (by simp [atoms])
   have ex1 : a.eval x = .slice A (n + 1) cap := hsx.pr
   cases A with
   | none => exact absurd ha.2.1 (by omega)
   | some A => exact main e A _ _ hu ex1 hv
  ·rename_i e d k n cs hu hrs
   have ex1 : Abs.hd E.β (.own d k (n + 1) cs) = some (a.eval x) ∧ RowOk E w (d, k, n + 1, cs.map sh) := by
    unfold rs at hrs
    split at hrs
    ·split at hrs
     ·rename_i r p d' k' n' cs' hl
      cases hrs
      refine ⟨hsx.pr _ _ _ _ hl, ?_⟩
      obtain ⟨R0, hR0⟩ := row_of_look (ex := ex) (hN.slots.lt hl) hl (e := (d, k, n + 1, cs.map sh)) (by simp [Abs.rows])
      exact hN.inv.rows _ (hR0.mem_iff.2 (List.mem_append_left _ (by simp [Abs.rows])))
     ·cases hrs
    ·cases hrs
     exact ⟨hsx.pr, (hsx.flat _ (by simp [Abs.rows])).1⟩
   obtain ⟨h1, h2⟩ := ex1
   cases d with
   | nil => exact absurd h2.1 (by simp)
   | emp A => exact absurd h2.1 (by simp)
   | blk g cap kk =>
     simp only [Abs.hd, Option.some.injEq] at h1
     exact main e _ _ _ hu h1.symm hv
  ·cases hv
theorem Now.grow {w' : World} (hN : Now H E nt D ex w a) (hg : Grow w w') : Now H E nt D ex w' a := by
 refine ⟨⟨fun e he => ?_, hN.inv.nodup, fun b hb => ?_, hN.inv.boxes, hN.inv.ids, hN.inv.keysG, fun k hk => hN.inv.newG k (Nat.le_trans hg.1 hk), hN.inv.gpb⟩, hN.slots, hN.glob⟩
 ·have h := hN.inv.rows e he
  obtain ⟨d, k, n, cs⟩ := e
  cases d with
  | nil => exact h
  | emp A => exact h
  | blk g cap kk =>
    obtain ⟨q1, q2, q3, q4, q5, cur, el, q6, q7⟩ := h
    exact ⟨q1, q2, q3, q4, q5, cur, el, hg.get q6, q7⟩
 ·have h := hN.inv.atoms b hb
  have hF : ∀ {pm A cs}, FOk E w (fun k => k ∈ keysD nt D ex) pm A cs → FOk E w' (fun k => k ∈ keysD nt D ex) pm A cs := fun h => ⟨h.1, fun j x hx => by
   obtain ⟨u, hu, hm⟩ := h.2.1 j x hx
   exact ⟨u, hg.cell hu, hm⟩, h.2.2⟩
  cases b with
  | p b => exact h
  | i pm A cap n cs =>
    refine ⟨h.1, ?_⟩
    have h2 := h.2
    cases A with
    | none => exact h2
    | some A => exact hF h2
  | f pm A cs => exact hF h
theorem scalar_pr {β : Nat → Nat} {v : V} {u u' : Value} (hs : v.scalar = true) (h : PR β D v u) (h' : PR β D v u') : u = u' := by
 cases v <;> first
  | (have e1 : u = _ := h; have e2 : u' = _ := h'; rw [e1, e2])
  | cases hs
section
variable {C : Callee} {fz : Bool} (hN : Now H E nt D ex w a) (hd : ∀ t, o.dst = some t → t < nt) (h : evOp P H C fz o D = some D1)
include hN hd h
theorem lit_load {t : TypeId} {x : Operand} (ho : o.op = .load t x) : LitRun P o a w :=
 firm_lit (s := Instr.loadAt t (a.eval x)) (fun w => by simp only [execOp, ho, Sem.run_bind]; rfl) (firm_loadAt _ _) (op_load hN hd h leads_true ho)
omit hN hd h in
theorem lit_move {x : Operand} (ho : o.op = .move x) : LitRun P o a w := ⟨a.eval x, fun w' _ => by simp [execOp, ho]⟩
omit hN hd h in
theorem lit_assign {x : Operand} (ho : o.op = .assign x) : LitRun P o a w := ⟨a.eval x, fun w' _ => by simp [execOp, ho]⟩
omit hN hd h in
theorem lit_makeFunc {f : Fn} {xs ys : Array Operand} (ho : o.op = .makeFunc f xs ys) : LitRun P o a w := ⟨.func f (xs.map a.eval) (ys.map a.eval), fun w' _ => by simp [execOp, ho, Instr.makeFunc]⟩
theorem lit_pick {c x y : Operand} (ho : o.op = .pick c x y) : LitRun P o a w :=
 firm_lit (s := do pure (if ← asBool (a.eval c) then a.eval x else a.eval y)) (fun w => by simp only [execOp, ho, Sem.run_bind]; cases (asBool (a.eval c)).run P w <;> rfl)
  (Firm.bind (firm_asBool _) fun _ => firm_pure _) (op_pick hN hd h leads_true ho)
theorem lit_field {t : TypeId} {x : Operand} {f : Nat} (ho : o.op = .field t x f) : LitRun P o a w :=
 firm_lit (s := Instr.field t (a.eval x) f) (fun w => by simp only [execOp, ho, Sem.run_bind]; rfl) (firm_field _ _ _) (op_field hN hd h leads_true ho)
theorem lit_index {t : TypeId} {x ix : Operand} (ho : o.op = .index t x ix) : LitRun P o a w :=
 firm_lit (s := Instr.index t (a.eval x) (a.eval ix)) (fun w => by simp only [execOp, ho, Sem.run_bind]; rfl) (firm_index _ _ _) (op_index hN hd h leads_true ho)
theorem lit_indexAddr {t : TypeId} {x ix : Operand} (ho : o.op = .indexAddr t x ix) : LitRun P o a w :=
 firm_lit (s := Instr.indexAt t (a.eval x) (a.eval ix)) (fun w => by simp only [execOp, ho, Sem.run_bind]; rfl) (firm_indexAt _ _ _) (op_indexAddr hN hd h leads_true ho)
theorem lit_extract {x : Operand} {i : Nat} (ho : o.op = .extract x i) : LitRun P o a w :=
 firm_lit (s := Instr.extract (a.eval x) i) (fun w => by simp only [execOp, ho, Sem.run_bind]; rfl) (firm_extract _ _) (op_extract hN hd h leads_true ho)
theorem lit_build {t : TypeId} {ps : Array (Nat × Operand)} (ho : o.op = .build t ps) : LitRun P o a w :=
 firm_lit (s := Instr.build t (ps.map fun (i, x) => (i, a.eval x))) (fun w => by simp only [execOp, ho, Sem.run_bind]; rfl) (firm_build _ _) (op_build hN hd h leads_true ho)
theorem lit_slice {t : TypeId} {x : Operand} {lo hi mx : Option Operand} (ho : o.op = .slice t x lo hi mx) : LitRun P o a w :=
 firm_lit (s := Instr.sliceAt t (a.eval x) (lo.map a.eval) (hi.map a.eval) (mx.map a.eval)) (fun w => by simp only [execOp, ho, Sem.run_bind]; rfl) (firm_sliceAt _ _ _ _ _) (op_slice hN hd h leads_true ho)
omit hd in
theorem lit_convert {s t : TypeId} {x : Operand} (ho : o.op = .convert s t x) : LitRun P o a w := by
 unfold evOp at h
 simp only [ho] at h
 split at h
 case h_2 => cases h
 rename_i k0 n k d hx hu hs
 have ex1 : a.eval x = .int k0 n := (ev_ok hN hx).pr
 exact ⟨.int k (k.wrap n), fun w' _ => by simp [execOp, ho, ex1, convert, run_underlying' hu, run_underlying' hs, Conv.intToInt]⟩
omit hd in
theorem lit_fieldAddr {t : TypeId} {x : Operand} {f : Nat} (ho : o.op = .fieldAddr t x f) : LitRun P o a w := by
 unfold evOp at h
 simp only [ho] at h
 split at h
 case h_2 => cases h
 rename_i fs v hu hx
 split at h
 case h_2 => cases h
 rename_i fd hfd
 split at h
 case h_2 => cases h
 rename_i k y hk hy
 split at h
 case isFalse => cases h
 rename_i hok
 obtain ⟨A, h1, h2⟩ := moveV_ok hN (ev_ok hN hx) hok hy
 exact ⟨_, fun w' _ => by simp [execOp, ho, Instr.fieldAt, run_underlying' hu, hfd, h1, Instr.sureAddr, fieldPlace, run_sizeOf' hk]; rfl⟩
omit hd in
theorem lit_nilCheck {x : Operand} (ho : o.op = .nilCheck x) : LitRun P o a w := by
 unfold evOp at h
 simp only [ho] at h
 split at h
 ·rename_i b o' hv
  have : a.eval x = _ := (ev_ok hN hv).pr
  exact ⟨_, fun w' _ => by simp [execOp, ho, this]; rfl⟩
 ·rename_i pm A cs hv
  have : a.eval x = _ := (ev_ok hN hv).pr
  exact ⟨_, fun w' _ => by simp [execOp, ho, this]; rfl⟩
 ·rename_i r p hv
  split at h
  ·rename_i hok
   obtain ⟨A, hA⟩ := okAddr_ptr hN (ev_ok hN hv) hok
   exact ⟨_, fun w' _ => by simp [execOp, ho, hA]; rfl⟩
  ·cases h
 ·cases h
omit hd in
theorem lit_unOp {op : UnOp} {t : TypeId} {x : Operand} (ho : o.op = .unOp op t x) : LitRun P o a w := by
 unfold evOp at h
 simp only [ho] at h
 split at h
 case h_2 => cases h
 rename_i va hx
 split at h
 case h_2 => cases h
 rename_i v hv
 have hsx := ev_ok hN hx
 unfold un at hv
 split at hv
 ·rename_i k n
  have ex1 : a.eval x = .int k n := hsx.pr
  exact ⟨_, fun w' _ => by simp [execOp, ho, ex1, Op.unary, Op.intArith]; rfl⟩
 ·rename_i k n
  have ex1 : a.eval x = .int k n := hsx.pr
  exact ⟨_, fun w' _ => by simp [execOp, ho, ex1, Op.unary, Op.intBits]; rfl⟩
 ·rename_i b
  have ex1 : a.eval x = .bool b := hsx.pr
  exact ⟨_, fun w' _ => by simp [execOp, ho, ex1, Op.unary]; rfl⟩
 ·cases hv
omit hd in
theorem lit_binOp {op : BinOp} {t t2 : TypeId} {x y : Operand} (ho : o.op = .binOp op t x y t2) : LitRun P o a w := by
 unfold evOp at h
 simp only [ho] at h
 split at h
 case h_2 => cases h
 rename_i va vb hx hy
 split at h
 case h_2 => cases h
 rename_i v hv
 obtain ⟨u, h1, h2, h3⟩ := bin_run hN ho hx hy hv
 refine ⟨u, fun w' hg => ?_⟩
 obtain ⟨u', h1', h2', _⟩ := bin_run (hN.grow hg) ho hx hy hv
 rw [scalar_pr h3 h2 h2']; exact h1'
end
theorem lenV_scalar {t : TypeId} {v y : V} (h : lenV P t v D = some y) : y.scalar = true := by
 unfold lenV at h
 split at h
 ·split at h <;> cases h <;> rfl
 ·cases h; rfl
 ·split at h <;> cases h; rfl
 ·cases h
theorem builtin_run {c : Call} {b : Builtin} {vs : List V} {y : V} {D2 : St} (hN : Now H E nt D ex w a) (ho : o.op = .call c) (hc : c.callee = .builtin b) (hb : b = .len ∨ b = .max ∨ b = .min) (hvs : evL H D c.args.toList = some vs) (hy : doBuiltin P b c.argTypes.toList vs D = some (y, D2)) :
 ∃ u, (execOp a.eval o).run P w = .ok (.value u) w ∧ PR E.β D y u ∧ y.scalar = true := by
 have hseen := seen_of (vs := vs) hN hvs
 have hlen := evL_len hvs
 have hrunc0 : ∃ cst, (execOp a.eval o).run P w = ((builtin b c.argTypes o.type cst (c.args.map a.eval)).run P w) := by
  refine ⟨?_, ?_⟩
  rotate_left
  ·simp only [execOp, ho, resolve, hc, invoke, Sem.run_bind, Sem.run_pure, Result.andThen_ok]
   rfl
 obtain ⟨cst, hrunc⟩ := hrunc0
 have one : ∀ v, vs = [v] → ∃ x1, c.args = #[x1] ∧ Seen E nt D ex w v (a.eval x1) := by
  intro v e
  subst e
  match hl : c.args.toList, hlen with
  | [x1], _ =>
    rw [hl] at hseen
    obtain ⟨q1, e1, s1⟩ := hseen 0 v rfl
    simp at e1
    subst e1
    exact ⟨_, by rw [← Array.toList_inj, hl], s1⟩
 have mm : ∀ (isMax : Bool) (y0 : V), minmax isMax vs = some y0 → ∃ k q, y0 = .int k q ∧ (match (c.args.map a.eval).toList with | [] => (stuck "" : Sem Value) | x :: rest => rest.foldlM (if isMax then Builtin.max2 else Builtin.min2) x).run P w = .ok (.int k q) w := by
  intro isMax y0 hm
  unfold minmax at hm
  split at hm
  ·rename_i k x l
   obtain ⟨hprl, _, _⟩ := evL_ok hN hvs
   obtain ⟨u, us, e1, h1, h2⟩ := hprl
   have eu : u = .int k x := h1
   subst eu
   obtain ⟨q, hq, hr⟩ := minmaxA_ok (P := P) (w := w) isMax k hm h2
   refine ⟨k, q, hq, ?_⟩
   simp only [Array.toList_map, e1]
   exact hr
  ·cases hm
 unfold doBuiltin at hy
 split at hy
 ·rcases hb with h | h | h <;> cases h
 ·rcases hb with h | h | h <;> cases h
 ·rename_i t v hts
  obtain ⟨x1, ea, s1⟩ := one v rfl
  have et : c.argTypes = #[t] := by rw [← Array.toList_inj, hts]
  split at hy
  case h_2 => cases hy
  rename_i y0 hy0
  cases hy
  obtain ⟨u, r1, r2⟩ := lenV_ok (P := P) (ty := o.type) hN s1 hy0
  refine ⟨u, ?_, r2.pr, lenV_scalar hy0⟩
  rw [hrunc, ea, et]
  simp [builtin, r1]
 ·split at hy
  case h_2 => cases hy
  rename_i y0 hy0
  cases hy
  obtain ⟨k, q, e, hr⟩ := mm true _ hy0
  subst e
  refine ⟨.int k q, ?_, rfl, rfl⟩
  rw [hrunc]
  have : (Builtin.max_ c.argTypes o.type (c.args.map a.eval)).run P w = .ok (.int k q) w := by
   unfold Builtin.max_
   split
   ·rename_i h0; rw [h0] at hr; simp at hr
   ·rename_i x rest h0; rw [h0] at hr; exact hr
  simp [builtin, this]
 ·split at hy
  case h_2 => cases hy
  rename_i y0 hy0
  cases hy
  obtain ⟨k, q, e, hr⟩ := mm false _ hy0
  subst e
  refine ⟨.int k q, ?_, rfl, rfl⟩
  rw [hrunc]
  have : (Builtin.min_ c.argTypes o.type (c.args.map a.eval)).run P w = .ok (.int k q) w := by
   unfold Builtin.min_
   split
   ·rename_i h0; rw [h0] at hr; simp at hr
   ·rename_i x rest h0; rw [h0] at hr; exact hr
  simp [builtin, this]
 ·cases hy
theorem lit_builtin {C : Callee} {fz : Bool} {c : Call} {b : Builtin} (hN : Now H E nt D ex w a) (h : evOp P H C fz o D = some D1) (ho : o.op = .call c) (hc : c.callee = .builtin b) (hb : b = .len ∨ b = .max ∨ b = .min) : LitRun P o a w := by
 unfold evOp at h
 simp only [ho, hc] at h
 split at h
 case h_2 => cases h
 rename_i vs hvs
 split at h
 case h_2 => cases h
 rename_i y D2 hy
 obtain ⟨u, h1, h2, h3⟩ := builtin_run hN ho hc hb hvs hy
 refine ⟨u, fun w' hg => ?_⟩
 obtain ⟨u', h1', h2', _⟩ := builtin_run (hN.grow hg) ho hc hb hvs hy
 rw [scalar_pr h3 h2 h2']; exact h1'
theorem lit_ok {C : Callee} {fz : Bool} (hN : Now H E nt D ex w a) (hd : ∀ t, o.dst = some t → t < nt) (h : evOp P H C fz o D = some D1) (hl : litB o = true) : LitRun P o a w := by
 cases ho : o.op with
 | move x => exact lit_move ho
 | assign x => exact lit_assign ho
 | pick c x y => exact lit_pick hN hd h ho
 | build t ps => exact lit_build hN hd h ho
 | load t x => exact lit_load hN hd h ho
 | nilCheck x => exact lit_nilCheck hN h ho
 | binOp op t x y t2 => exact lit_binOp hN h ho
 | unOp op t x => exact lit_unOp hN h ho
 | convert s t x => exact lit_convert hN h ho
 | makeFunc f xs ys => exact lit_makeFunc ho
 | slice t x lo hi mx => exact lit_slice hN hd h ho
 | fieldAddr t x f => exact lit_fieldAddr hN h ho
 | field t x f => exact lit_field hN hd h ho
 | indexAddr t x ix => exact lit_indexAddr hN hd h ho
 | index t x ix => exact lit_index hN hd h ho
 | extract x i => exact lit_extract hN hd h ho
 | call c =>
   unfold litB at hl
   simp only [ho] at hl
   cases hc : c.callee with
   | builtin b =>
     simp only [hc] at hl
     cases b <;> first
      | exact lit_builtin hN h ho hc (.inl rfl)
      | exact lit_builtin hN h ho hc (.inr (.inl rfl))
      | exact lit_builtin hN h ho hc (.inr (.inr rfl))
      | cases hl
   | _ => simp only [hc] at hl; cases hl
 | _ => unfold litB at hl; simp only [ho] at hl; cases hl
def pureB (o : Oper) : Bool := match o.op with
 | .move _ | .assign _ | .makeFunc _ _ _ | .nilCheck _ | .fieldAddr _ _ _ => true
 | _ => false
def PureRun (P : Program) (o : Oper) (a : Act) : Prop := ∃ v, ∀ w', (execOp a.eval o).run P w' = .ok (.value v) w'
section
variable {P : Program} {H : Hint} {E : Env} {nt : Nat} {D D1 : St} {ex : List V} {w : World} {a : Act} {o : Oper}
theorem pure_ok {C : Callee} {fz : Bool} (hN : Now H E nt D ex w a) (h : evOp P H C fz o D = some D1) (hl : pureB o = true) : PureRun P o a := by
 cases ho : o.op with
 | move x => exact ⟨a.eval x, fun w' => by simp [execOp, ho]⟩
 | assign x => exact ⟨a.eval x, fun w' => by simp [execOp, ho]⟩
 | makeFunc f xs ys => exact ⟨.func f (xs.map a.eval) (ys.map a.eval), fun w' => by simp [execOp, ho, Instr.makeFunc]⟩
 | nilCheck x =>
   unfold evOp at h
   simp only [ho] at h
   split at h
   ·rename_i b o' hv
    have : a.eval x = _ := (ev_ok hN hv).pr
    exact ⟨_, fun w' => by simp [execOp, ho, this]; rfl⟩
   ·rename_i pm A cs hv
    have : a.eval x = _ := (ev_ok hN hv).pr
    exact ⟨_, fun w' => by simp [execOp, ho, this]; rfl⟩
   ·rename_i r p hv
    split at h
    ·rename_i hok
     obtain ⟨A, hA⟩ := okAddr_ptr hN (ev_ok hN hv) hok
     exact ⟨_, fun w' => by simp [execOp, ho, hA]; rfl⟩
    ·cases h
   ·cases h
 | fieldAddr t x f =>
   unfold evOp at h
   simp only [ho] at h
   split at h
   case h_2 => cases h
   rename_i fs v hu hx
   split at h
   case h_2 => cases h
   rename_i fd hfd
   split at h
   case h_2 => cases h
   rename_i k y hk hy
   split at h
   case isFalse => cases h
   rename_i hok
   obtain ⟨A, h1, h2⟩ := moveV_ok hN (ev_ok hN hx) hok hy
   exact ⟨_, fun w' => by simp [execOp, ho, Instr.fieldAt, run_underlying' hu, hfd, h1, Instr.sureAddr, fieldPlace, run_sizeOf' hk]; rfl⟩
 | _ => unfold pureB at hl; simp only [ho] at hl; cases hl
end
section
variable {P : Program} {md : Region.Mode} {ops : Array Oper} {mu : Nat → Bool} {Q : Exit → Act → World → Prop}
def wpAnyX (P : Program) (md : Region.Mode) (ops : Array Oper) (mu : Nat → Bool) (Q : Exit → Act → World → Prop) : Nat → Array Bool → Act → World → Prop
 | 0, listed, a, w => Region.ready md ops listed = [] ∧ Q .normal a w
 | fuel + 1, listed, a, w =>
   (Region.ready md ops listed = [] → Q .normal a w) ∧
   ∀ i ∈ Region.ready md ops listed, wpOp P ops Q i (fun a' w' => (mu i = false → Grow w w') ∧ wpAnyX P md ops mu Q fuel (listed.setIfInBounds i true) a' w') a w
theorem wpAny_of_X : ∀ (fuel : Nat) (listed : Array Bool) (a : Act) (w : World), wpAnyX P md ops mu Q fuel listed a w → wpAny P md ops Q fuel listed a w
 | 0, _, _, _, h => h
 | fuel + 1, _, _, _, h => ⟨h.1, fun i hi => wpOp_mono (fun a' w' h' => wpAny_of_X fuel _ a' w' h'.2) (h.2 i hi)⟩
inductive Dep (md : Region.Mode) (ops : Array Oper) (i : Nat) : Nat → Prop
 | one {j : Nat} {o : Oper} {e : Edge} (ho : ops[j]? = some o) (he : e ∈ o.after) (hb : Region.binds md e = true) (hi : e.on = i) : Dep md ops i j
 | step {j : Nat} {o : Oper} {e : Edge} (ho : ops[j]? = some o) (he : e ∈ o.after) (hb : Region.binds md e = true) (hi : Dep md ops i e.on) : Dep md ops i j
def depB (md : Region.Mode) (ops : Array Oper) (i : Nat) : Nat → Nat → Bool
 | 0, _ => false
 | k + 1, j => match ops[j]? with
   | some o => o.after.any fun e => Region.binds md e && (e.on == i || depB md ops i k e.on)
   | none => false
theorem depB_spec {i : Nat} : ∀ (k j : Nat), depB md ops i k j = true → Dep md ops i j
 | 0, j, h => by cases h
 | k + 1, j, h => by
   unfold depB at h
   split at h
   ·rename_i o ho
    obtain ⟨e, he, h1⟩ := Array.any_eq_true'.1 h
    simp only [Bool.and_eq_true, Bool.or_eq_true, beq_iff_eq] at h1
    rcases h1.2 with h2 | h2
    ·exact .one ho he h1.1 h2
    ·exact .step ho he h1.1 (depB_spec k _ h2)
   ·cases h
def Closed (md : Region.Mode) (ops : Array Oper) (listed : Array Bool) : Prop :=
 ∀ j o, ops[j]? = some o → listed.getD j false = true → ∀ e ∈ o.after, Region.binds md e = true → listed.getD e.on false = true
theorem Dep.listed {i j : Nat} {listed : Array Bool} (hc : Closed md ops listed) (h : Dep md ops i j) : listed.getD j false = true → listed.getD i false = true := by
 induction h with
 | one ho he hb hi => intro hj; subst hi; exact hc _ _ ho hj _ he hb
 | step ho he hb _ ih => intro hj; exact ih (hc _ _ ho hj _ he hb)
theorem Dep.ready {i j : Nat} {listed : Array Bool} (hc : Closed md ops listed) (h : Dep md ops i j) (hr : j ∈ Region.ready md ops listed) : listed.getD i false = true := by
 obtain ⟨_, o, ho, hall⟩ := mem_ready.1 hr
 cases h with
 | one ho' he hb hi => rw [ho] at ho'; cases ho'; subst hi; exact hall _ he hb
 | step ho' he hb hd => rw [ho] at ho'; cases ho'; exact hd.listed hc (hall _ he hb)
theorem getD_off {listed : Array Bool} {i : Nat} (h : listed.getD i true = false) : listed.getD i false = false := by
 rcases Nat.lt_or_ge i listed.size with h' | h'
 ·simpa [h'] using h
 ·simp [Array.getElem?_eq_none h'] at h
theorem getD_set' {listed : Array Bool} {i j : Nat} (h : (listed.setIfInBounds j true).getD i true = false) : listed.getD i true = false := by
 by_cases hij : j = i
 ·subst hij
  rcases Nat.lt_or_ge j listed.size with h' | h'
  ·simp [h'] at h
  ·simp [Array.getElem?_eq_none h'] at h
 ·rw [getD_set_ne true hij] at h; exact h
theorem Closed.set {listed : Array Bool} {j : Nat} (hc : Closed md ops listed) (hr : j ∈ Region.ready md ops listed) : Closed md ops (listed.setIfInBounds j true) := by
 intro k o ho hk e he hb
 by_cases hkj : k = j
 ·subst hkj
  obtain ⟨_, o', ho', hall⟩ := mem_ready.1 hr
  rw [ho] at ho'; cases ho'
  exact getD_set_true (hall e he hb)
 ·rw [getD_set_ne false (Ne.symm hkj)] at hk
  exact getD_set_true (hc k o ho hk e he hb)
theorem wpAnyX_first {i : Nat} {oi : Oper} {v : Value} (hi : ops[i]? = some oi) (hsel : ∀ (j : Nat) (o : Oper) cs b, ops[j]? = some o → o.op ≠ .select cs b)
 (hQ : ∀ c a w, Q (.panic c) (a.put oi.dst v) w → Q (.panic c) a w) :
 ∀ (fuel : Nat) (listed : Array Bool) (a : Act) (w : World), Closed md ops listed →
  (∀ j, mu j = true → listed.getD j true = false → Dep md ops i j) →
  (∀ j oj, ops[j]? = some oj → j ≠ i → listed.getD j true = false → (∀ e ∈ oj.after, Region.binds md e = true → e.on ≠ i) → oi.apart ops oj = true) →
  i ∈ Region.ready md ops listed → YieldsIf P ops (Grow w) oi v a →
  wpAnyX P md ops mu Q fuel (listed.setIfInBounds i true) (a.put oi.dst v) w → wpAnyX P md ops mu Q (fuel + 1) listed a w := by
 intro fuel
 induction fuel with
 | zero =>
   intro listed a w _ _ _ hr hy H
   refine ⟨fun h => (by rw [h] at hr; cases hr), fun j hj => ?_⟩
   by_cases hji : j = i
   ·subst hji; exact hy.wpOp hi (Grow.refl w) ⟨fun _ => Grow.refl w, H⟩
   ·have := ready_mono hj hji
    rw [H.1] at this
    cases this
 | succ fuel ih =>
   intro listed a w hcl hmu hfree hr hy H
   refine ⟨fun h => (by rw [h] at hr; cases hr), fun j hj => ?_⟩
   by_cases hji : j = i
   ·subst hji; exact hy.wpOp hi (Grow.refl w) ⟨fun _ => Grow.refl w, H⟩
   ·have h1 := H.2 j (ready_mono hj hji)
    obtain ⟨hjun, oj, hoj, hall⟩ := mem_ready.1 hj
    have hiun := (mem_ready.1 hr).1
    have hmj : mu j = false := by
     cases hm : mu j with
     | false => rfl
     | true =>
       have := (hmu j hm hjun).ready hcl hj
       rw [getD_off hiun] at this; cases this
    have hnot : ∀ e ∈ oj.after, Region.binds md e = true → e.on ≠ i := fun e he hb heq => by
     have h1 := hall e he hb
     rw [heq, getD_off hiun] at h1; cases h1
    have h2 := wpOp_putIf hoj (hfree j oj hoj hji hjun hnot) (fun cs b => hsel i oi cs b hi) (fun cs b => hsel j oj cs b hoj) hQ hy h1
    refine wpOp_mono (fun a' w' h3 => ⟨h3.2.1, ih (listed.setIfInBounds j true) a' w' (hcl.set hj) (fun k hk hu => hmu k hk (getD_set' hu)) (fun k ok hk hki hun hno => hfree k ok hk hki (getD_set' hun) hno) (ready_mono hr (Ne.symm hji)) ?_ ?_⟩) h2
    ·rcases h3.1 with ⟨q1, q2⟩ | q
     ·exact .inl ⟨q1, fun w2 hw2 => q2 w2 ((h3.2.1 hmj).trans hw2)⟩
     ·exact .inr q
    ·rw [Array.setIfInBounds_comm _ _ hji]
     exact h3.2.2
theorem wpAnyX_first_pure {i : Nat} {oi : Oper} {v : Value} (hi : ops[i]? = some oi) (hsel : ∀ (j : Nat) (o : Oper) cs b, ops[j]? = some o → o.op ≠ .select cs b)
 (hQ : ∀ c a w, Q (.panic c) (a.put oi.dst v) w → Q (.panic c) a w) :
 ∀ (fuel : Nat) (listed : Array Bool) (a : Act) (w : World), Closed md ops listed →
  (∀ j oj, ops[j]? = some oj → j ≠ i → listed.getD j true = false → (∀ e ∈ oj.after, Region.binds md e = true → e.on ≠ i) → oi.apart ops oj = true) →
  i ∈ Region.ready md ops listed → YieldsIf P ops (fun _ => True) oi v a →
  wpAnyX P md ops mu Q fuel (listed.setIfInBounds i true) (a.put oi.dst v) w → wpAnyX P md ops mu Q (fuel + 1) listed a w := by
 intro fuel
 induction fuel with
 | zero =>
   intro listed a w _ _ hr hy H
   refine ⟨fun h => (by rw [h] at hr; cases hr), fun j hj => ?_⟩
   by_cases hji : j = i
   ·subst hji; exact hy.wpOp hi trivial ⟨fun _ => Grow.refl w, H⟩
   ·have := ready_mono hj hji
    rw [H.1] at this
    cases this
 | succ fuel ih =>
   intro listed a w hcl hfree hr hy H
   refine ⟨fun h => (by rw [h] at hr; cases hr), fun j hj => ?_⟩
   by_cases hji : j = i
   ·subst hji; exact hy.wpOp hi trivial ⟨fun _ => Grow.refl w, H⟩
   ·have h1 := H.2 j (ready_mono hj hji)
    obtain ⟨hjun, oj, hoj, hall⟩ := mem_ready.1 hj
    have hiun := (mem_ready.1 hr).1
    have hnot : ∀ e ∈ oj.after, Region.binds md e = true → e.on ≠ i := fun e he hb heq => by
     have h1 := hall e he hb
     rw [heq, getD_off hiun] at h1; cases h1
    have h2 := wpOp_putIf hoj (hfree j oj hoj hji hjun hnot) (fun cs b => hsel i oi cs b hi) (fun cs b => hsel j oj cs b hoj) hQ hy h1
    refine wpOp_mono (fun a' w' h3 => ⟨h3.2.1, ih (listed.setIfInBounds j true) a' w' (hcl.set hj) (fun k ok hk hki hun hno => hfree k ok hk hki (getD_set' hun) hno) (ready_mono hr (Ne.symm hji)) ?_ ?_⟩) h2
    ·rcases h3.1 with ⟨q1, q2⟩ | q
     ·exact .inl ⟨q1, fun w2 hw2 => q2 w2 hw2⟩
     ·exact .inr q
    ·rw [Array.setIfInBounds_comm _ _ hji]
     exact h3.2.2
def planB (md : Region.Mode) (ops : Array Oper) (mu : Nat → Bool) : List Nat → Array Bool → Bool
 | [], listed => (Region.ready md ops listed).isEmpty
 | i :: l, listed =>
   ((Region.ready md ops listed).contains i && ((match ops[i]? with | some o => litB o | none => false) && Region.free md ops listed i && ((match ops[i]? with | some o => pureB o | none => false) || (List.range ops.size).all (fun j => !mu j || listed.getD j true || depB md ops i ops.size j))) || decide (Region.ready md ops listed = [i])) &&
     planB md ops mu l (listed.setIfInBounds i true)
def planT (md : Region.Mode) (ops : Array Oper) (mu : Nat → Bool) : Nat → Pl → Array Bool → Bool
 | 0, .fin, listed => (Region.ready md ops listed).isEmpty
 | n + 1, .one i l, listed =>
   ((Region.ready md ops listed).contains i && ((match ops[i]? with | some o => litB o | none => false) && Region.free md ops listed i && ((match ops[i]? with | some o => pureB o | none => false) || (List.range ops.size).all (fun j => !mu j || listed.getD j true || depB md ops i ops.size j))) || decide (Region.ready md ops listed = [i])) &&
     planT md ops mu n l (listed.setIfInBounds i true)
 | n + 1, .two i a j b, listed => decide (Region.ready md ops listed = [i, j]) && planT md ops mu n a (listed.setIfInBounds i true) && planT md ops mu n b (listed.setIfInBounds j true)
 | n + 1, .three i a j b k c, listed => decide (Region.ready md ops listed = [i, j, k]) && planT md ops mu n a (listed.setIfInBounds i true) && planT md ops mu n b (listed.setIfInBounds j true) && planT md ops mu n c (listed.setIfInBounds k true)
 | _, _, _ => false
def planTOk (ops : Array Oper) (mu : Nat → Bool) (T : Pl) : Bool := Region.noSelect ops && planT .any ops mu ops.size T (Array.replicate ops.size false)
def planOk (ops : Array Oper) (mu : Nat → Bool) (l : List Nat) : Bool :=
 Region.noSelect ops && decide (l.length = ops.size) && planB .any ops mu l (Array.replicate ops.size false)
end
def Grows {α : Type} (P : Program) (s : Sem α) : Prop := ∀ w r w1, s.run P w = .ok r w1 → Grow w w1
section
variable {P : Program} {α β : Type}
theorem Firm.grows {s : Sem α} (h : Firm P s) : Grows P s := fun w r w1 hr => by
 have := h w r w1 hr w (Grow.refl w)
 rw [hr] at this; cases this; exact Grow.refl _
theorem Grows.bind {s : Sem α} {f : α → Sem β} (hs : Grows P s) (hf : ∀ x, Grows P (f x)) : Grows P (s >>= f) := fun w r w1 h => by
 rw [Sem.run_bind] at h
 cases hq : s.run P w with
 | halt e w2 => rw [hq] at h; simp at h
 | ok v w2 => rw [hq] at h; simp only [Result.andThen_ok] at h; exact (hs _ _ _ hq).trans (hf _ _ _ _ h)
theorem grows_newObj (o : Obj) : Grows P (newObj o) := fun w r w1 h => by
 unfold newObj at h
 simp only [Sem.run] at h
 cases h
 refine ⟨by simp, fun k hk => ?_⟩
 simp [Array.getElem?_push, Nat.ne_of_lt hk]
theorem Dies.grows {s : Sem α} (h : Dies P s) : Grows P s := h.firm.grows
theorem grows_alloc (e : TypeId) : Grows P (Instr.alloc e true (.tuple #[])) := by
 unfold Instr.alloc newVar newRow
 simp only
 repeat' (first
  | exact (firm_zeroValue _).grows
  | exact grows_newObj _
  | exact (firm_pure _).grows
  | refine Grows.bind ?_ fun _ => ?_)
theorem grows_box (e : TypeId) (v : Value) : Grows P (Instr.box e v) := by
 unfold Instr.box newVar newRow
 repeat' (first
  | exact grows_newObj _
  | exact (firm_pure _).grows
  | refine Grows.bind ?_ fun _ => ?_)
theorem grows_buildSlice (t : TypeId) (n : Nat) (ps : Array (Nat × Value)) : Grows P (Instr.buildSlice t n ps) := by
 unfold Instr.buildSlice newRow
 repeat' (first
  | exact (firm_zeroValue _).grows
  | exact (firm_underlying _).grows
  | exact (firm_sizeOf _).grows
  | exact grows_newObj _
  | exact (firm_pure _).grows
  | exact (dies_stuck _).grows
  | exact (dies_unsupported _).grows
  | refine Grows.bind ?_ fun _ => ?_
  | split
  | dsimp only)
end
section
variable {P : Program}
theorem firm_mark (m : Mark) : Firm P (mark m) := fun w r w1 h w' _ => by cases h; rfl
theorem firm_askRoom (n : Nat) : Firm P (askRoom n) := by
 unfold askRoom
 split
 ·exact firm_mark _
 ·exact firm_pure _
theorem firm_asInt (v : Value) : Firm P (asInt v) := by
 unfold asInt
 repeat' (first
  | exact firm_pure _
  | exact (dies_stuck _).firm
  | exact (dies_unsupported _).firm
  | exact firm_asIntOf _
  | refine Firm.bind ?_ fun _ => ?_
  | split)
theorem grows_makeSlice (t : TypeId) (l c : Value) : Grows P (Instr.makeSlice t l c) := by
 unfold Instr.makeSlice newRow
 repeat' (first
  | exact (firm_zeroValue _).grows
  | exact (firm_underlying _).grows
  | exact (firm_sizeOf _).grows
  | exact (firm_typeInfo _).grows
  | exact (firm_asInt _).grows
  | exact (firm_askRoom _).grows
  | exact grows_newObj _
  | exact (firm_pure _).grows
  | exact (dies_stuck _).grows
  | exact (dies_runtimePanic _).grows
  | exact (Dies.bind (dies_runtimePanic _)).grows
  | exact (Dies.bind2 fun _ => dies_runtimePanic _).grows
  | exact (Dies.bind2 fun _ => Dies.bind (dies_runtimePanic _)).grows
  | exact (Dies.bind (Dies.bind2 fun _ => dies_runtimePanic _)).grows
  | exact (dies_unsupported _).grows
  | refine Grows.bind ?_ fun _ => ?_
  | split
  | dsimp only)
end
variable {P : Program} {H : Hint} {E : Env} {nt : Nat} {D D1 : St} {ex : List V} {w : World} {a : Act} {o : Oper} {K : Act → World → Prop} {Q : Exit → Act → World → Prop}
theorem wp_value {s : Sem Value} (hs : ∀ w, (execOp a.eval o).run P w = (s.run P w).andThen (fun u w' => .ok (.value u) w')) (hg : Grows P s) (hwp : o.wp P a w K Q) : o.wp P a w (fun a' w' => Grow w w' ∧ K a' w') Q := by
 unfold Oper.wp at hwp ⊢
 rw [hs] at hwp ⊢
 cases hq : s.run P w with
 | halt e w2 => rw [hq] at hwp; cases e <;> exact hwp
 | ok v w2 => rw [hq] at hwp; exact ⟨hg _ _ _ hq, hwp⟩
theorem wp_valueAt {s : Sem Value} (hs : (execOp a.eval o).run P w = (s.run P w).andThen (fun u w' => .ok (.value u) w')) (hg : ∀ q w', s.run P w = .ok q w' → Grow w w') (hwp : o.wp P a w K Q) : o.wp P a w (fun a' w' => Grow w w' ∧ K a' w') Q := by
 unfold Oper.wp at hwp ⊢
 rw [hs] at hwp ⊢
 cases hq : s.run P w with
 | halt e w2 => rw [hq] at hwp; cases e <;> exact hwp
 | ok v w2 => rw [hq] at hwp; exact ⟨hg _ _ hq, hwp⟩
theorem first_zero {k : Nat} {b : Option Addr} {n c : Nat} (w : World) : (Builtin.firstCells k 0 (.slice b n c)).run P w = .ok (#[] : Array Value) w := by
 cases b with
 | none => rfl
 | some A =>
   show (loadCells A (0 * k)).run P w = _
   rw [Nat.zero_mul]; rfl
theorem appendV_grow {t ty : TypeId} {v x y : V} {s u : Value} {D2 : St} (hN : Now H E nt D ex w a) (hbare : bareV D v = true) (hv : Seen E nt D ex w v s) (hx : Seen E nt D ex w x u) (h : appendV P t v x D = some (y, D2)) :
 ∀ q w', (Builtin.append_ #[t, t] ty #[s, u]).run P w = .ok q w' → Grow w w' := by
 obtain ⟨base, hsb⟩ : ∃ base, s = .slice base 0 0 := by
  unfold bareV at hbare
  split at hbare
  ·rename_i r p
   obtain ⟨d, hl⟩ : ∃ d, look D r p = some (.own d 0 0 []) := by
    unfold capless at hbare
    split at hbare
    ·exact ⟨_, by assumption⟩
    ·cases hbare
   have hpr := hv.pr _ _ _ _ hl
   obtain ⟨R0, hR0⟩ := row_of_look (ex := ex) (hN.slots.lt hl) hl (e := (d, 0, 0, [])) (by simp [Abs.rows, rowsL])
   have hro : RowOk E w (d, 0, 0, []) := hN.inv.rows _ (hR0.mem_iff.2 (List.mem_append_left _ (by simp [Abs.rows, rowsL])))
   cases d with
   | nil => exact ⟨none, by simpa [hd] using hpr.symm⟩
   | emp A => exact ⟨some A, by simpa [hd] using hpr.symm⟩
   | blk g cap kk =>
     obtain ⟨_, _, q1, _, q2, _⟩ := hro
     have : cap = 0 := by omega
     subst this
     exact ⟨some ⟨g, 0, none⟩, by simpa [hd] using hpr.symm⟩
  ·rename_i d
   have hpr := hv.pr
   have hfl := hv.flat (d, 0, 0, []) (by simp [Abs.rows, rowsL])
   cases d with
   | nil => exact ⟨none, by simpa [PR, hd] using hpr.symm⟩
   | emp A => exact ⟨some A, by simpa [PR, hd] using hpr.symm⟩
   | blk g cap kk => simp [keyOf] at hfl
  ·cases hbare
 subst hsb
 unfold appendV at h
 split at h
 case h_2 => cases h
 rename_i e ht
 split at h
 case h_2 => cases h
 rename_i sz by_ z hsz hby hz
 split at h
 ·cases h
 split at h
 case h_2 => cases h
 rename_i n2 ncs D0 hbr
 obtain ⟨i, zv, hi, hzv, hzc⟩ := zeroT_info hz
 have hsi : i.size = sz := by obtain ⟨i', hi', e'⟩ := sizeT_info hsz; rw [hi] at hi'; cases hi'; exact e'
 have hbi : i.bytes = by_ := by unfold bytesT at hby; rw [hi] at hby; simpa using hby
 obtain ⟨us, b, c, eu, b1, b2, b3, b4, b5, b6, b7, b8⟩ := bring_ok (P := P) hN.inv hN.slots hx hbr
 subst eu
 have b8 : ∀ w' : World, w'.heap = w.heap → (Builtin.firstCells i.size n2 (.slice b n2 c)).run P w' = .ok us.toArray w' := fun w' hw => by
  have := b8 n2 (Nat.le_refl _) w' hw
  rw [hsi]
  rwa [List.take_of_length_le (by rw [b6, b5]; exact Nat.le_refl _)] at this
 obtain ⟨hc2, hc3⟩ : n2 * by_ ≤ 140737488355328 ∧ n2 ≤ 140737488355328 := by
  unfold bareV at hbare
  split at hbare
  ·rename_i r p
   obtain ⟨d, hl⟩ : ∃ d, look D r p = some (.own d 0 0 []) := by
    unfold capless at hbare
    split at hbare
    ·exact ⟨_, by assumption⟩
    ·cases hbare
   simp only at h
   split at h
   case h_2 => cases h
   rename_i d' k n cs D1' htk
   split at h
   case isFalse => cases h
   rename_i hc
   have hn : n = 0 := by
    unfold take at htk
    split at htk
    ·rename_i hl'
     simp only [Option.some.injEq, Prod.mk.injEq, V.own.injEq] at htk
     obtain ⟨cs', hk⟩ := b3 _ _ _ _ _ _ hl'
     rw [hl] at hk
     simp only [Option.some.injEq, V.own.injEq] at hk
     omega
    ·cases htk
   subst hn
   have := hc.2.2
   simpa using this
  ·simp only at h
   split at h
   case isFalse => cases h
   rename_i hc
   exact hc
  ·cases hbare
 intro q w' hrun
 by_cases h0 : n2 = 0
 ·subst h0
  have e2 : us = [] := List.eq_nil_of_length_eq_zero (by rw [b6, b5]; simp)
  subst e2
  rw [run_append_in (w' := w) ht hi (b8 w rfl) (Nat.le_refl _) (fun A hA => rfl) (fun _ => rfl)] at hrun
  cases hrun; exact Grow.refl w
 ·rw [run_append_grow' (z := zv) (xs := []) ht hi hzv (fun w' _ => first_zero w') b8 (by omega) (by simpa using hc3) (by rw [hbi]; simpa using hc2)] at hrun
  cases hrun
  refine ⟨by simp, fun k hk => ?_⟩
  show (w.heap.push _)[k]? = w.heap[k]?
  rw [Array.getElem?_push, if_neg (by omega)]
theorem op_grow {C : Callee} {fz : Bool} (hC : CallsOk P H C) (hN : Now H E nt D ex w a) (hd : ∀ t, o.dst = some t → t < nt) (h : evOp P H C fz o D = some D1) (hK : Leads H E nt D ex w D1 K) (hq : (litB o || quietB H o D) = true) :
 o.wp P a w (fun a' w' => Grow w w' ∧ K a' w') Q := by
 have hwp : o.wp P a w K Q := op_ok hC hN hd h hK
 cases hl : litB o with
 | true =>
   obtain ⟨v, hv⟩ := lit_ok hN hd h hl
   have hr := hv w (Grow.refl w)
   unfold Oper.wp at hwp ⊢
   rw [hr] at hwp ⊢
   exact ⟨Grow.refl w, hwp⟩
 | false =>
   rw [hl, Bool.false_or] at hq
   cases ho : o.op with
   | alloc t => exact wp_value (s := Instr.alloc t true (.tuple #[])) (fun w => by simp only [execOp, ho, Sem.run_bind]; rfl) (grows_alloc _) hwp
   | box t x => exact wp_value (s := Instr.box t (a.eval x)) (fun w => by simp only [execOp, ho, Sem.run_bind]; rfl) (grows_box _ _) hwp
   | buildSlice t n ps => exact wp_value (s := Instr.buildSlice t n (ps.map fun (i, x) => (i, a.eval x))) (fun w => by simp only [execOp, ho, Sem.run_bind]; rfl) (grows_buildSlice _ _ _) hwp
   | makeSlice t x y => exact wp_value (s := Instr.makeSlice t (a.eval x) (a.eval y)) (fun w => by simp only [execOp, ho, Sem.run_bind]; rfl) (grows_makeSlice _ _ _) hwp
   | call c =>
     cases hc : c.callee with
     | value g => exact Oper.wp_mono (fun _ _ h => ⟨h.1 hq, h.2⟩) (hC hN hd ho hc (by cases fz; exact .inr h; exact .inl h) hK)
     | builtin bi =>
       have hap : bi = .append ∧ caplessV D c.argTypes.toList (evL H D c.args.toList) = true := by
        unfold quietB at hq
        simp only [ho, hc] at hq
        cases bi <;> first | exact ⟨rfl, hq⟩ | exact absurd hq (by decide) | cases hq
       obtain ⟨rfl, hq⟩ := hap
       unfold evOp at h
       simp only [ho, hc] at h
       split at h
       case h_2 => cases h
       rename_i vs hvs
       split at h
       case h_2 => cases h
       rename_i y D2 hy
       cases h
       rw [hvs] at hq
       unfold caplessV at hq
       split at hq
       case h_2 => cases hq
       rename_i t t' hts
       rw [Bool.and_eq_true, decide_eq_true_eq] at hq
       obtain ⟨htt, hq⟩ := hq
       subst htt
       split at hq
       case h_2 => cases hq
       rename_i v0 x hvse
       cases hvse
       have hseen := seen_of (vs := [v0, x]) hN hvs
       have hlen := evL_len hvs
       obtain ⟨x1, x2, ea, s1, s2⟩ : ∃ x1 x2, c.args = #[x1, x2] ∧ Seen E nt D ex w v0 (a.eval x1) ∧ Seen E nt D ex w x (a.eval x2) := by
        match hl : c.args.toList, hlen with
        | [x1, x2], _ =>
          rw [hl] at hseen
          obtain ⟨q1, e1, s1⟩ := hseen 0 _ rfl
          obtain ⟨q2, e2, s2⟩ := hseen 1 x rfl
          simp at e1 e2
          subst e1 e2
          exact ⟨_, _, by rw [← Array.toList_inj, hl], s1, s2⟩
       have et : c.argTypes = #[t, t] := by rw [← Array.toList_inj, hts]
       unfold doBuiltin at hy
       rw [hts] at hy
       simp only [if_true] at hy
       refine wp_valueAt (s := Builtin.append_ #[t, t] o.type #[a.eval x1, a.eval x2]) ?_ (appendV_grow (H := H) hN hq s1 s2 hy) hwp
       simp only [execOp, ho, resolve, hc, invoke, Sem.run_bind, Sem.run_pure, Result.andThen_ok, ea, et]
       simp [builtin]
     | _ => unfold quietB at hq; simp only [ho, hc] at hq; cases hq
   | _ => unfold quietB at hq; simp only [ho] at hq; cases hq
theorem ops_ok {C : Callee} (hC : CallsOk P H C) (hX : XSm H) (hS : CSm C) (ops : Array Oper) (fz : Nat → Bool) : ∀ (l : List Oper) (i : Nat) {E : Env} {D D2 : St} {w : World} {a : Act}, (∀ o ∈ l, ∀ t, o.dst = some t → t < nt) →
 Now H E nt D ex w a → evOps P H C ops fz i l D = some D2 → Leads H E nt D ex w D2 (Q .normal) → wpList P ops Q l a w
 | [], i, E, D, D2, w, a, hd, hN, h, hK => by
   cases h
   exact hK _ _ _ _ (SmS.refl _) (To.refl _ _ _ _ _) hN
 | o :: l, i, E, D, D2, w, a, hd, hN, h, hK => by
   unfold evOps at h
   unfold wpList
   cases hw : wantedV ops o D with
   | none => rw [hw] at h; cases h
   | some b =>
     rw [hw] at h
     rw [wanted_ok hN hw]
     have rest : ∀ (D1 : St), evOps P H C ops fz (i + 1) l D1 = some D2 → Leads H E nt D ex w D1 (wpList P ops Q l) := by
      intro D1 h1 E' D1' w' a' hs hT hN'
      have k := evOps_sm (P := P) ops fz hX hS l (i + 1) hs
      rw [h1] at k
      generalize hq : evOps P H C ops fz (i + 1) l D1' = q at k
      cases k with
      | some hs2 => exact ops_ok hC hX hS ops fz l (i + 1) (fun o ho => hd o (List.mem_cons_of_mem _ ho)) hN' hq (fun E2 D3 w2 a2 hs3 hT2 hN2 => hK _ _ _ _ (hs2.trans hs3) (hT.trans hT2) hN2)
     cases b with
     | false =>
       simp only [Bool.false_eq_true, if_false]
       exact skip_ok hN (hd o List.mem_cons_self) (rest _ h)
     | true =>
       simp only [if_true]
       simp only at h
       cases h1 : evOp P H C (fz i) o D with
       | none => rw [h1] at h; cases h
       | some D1 =>
         rw [h1] at h
         exact .inl (op_ok hC hN (hd o List.mem_cons_self) h1 (rest D1 h))
theorem draw_ok {C : Callee} (hC : CallsOk P H C) (hX : XSm H) (hS : CSm C) (ops : Array Oper) (fz mu : Nat → Bool) (hsel : Region.noSelect ops = true) (hd : ∀ o ∈ ops, ∀ t, o.dst = some t → t < nt)
 (hQ : ∀ c a a' w, Q (.panic c) a w → Q (.panic c) a' w) : ∀ (l : List Nat) (listed : Array Bool) {E : Env} {D D2 : St} {w : World} {a : Act}, planB .any ops mu l listed = true → Closed .any ops listed → listed.size = ops.size →
 Now H E nt D ex w a → evDraw P H C ops fz mu l D = some D2 → Leads H E nt D ex w D2 (Q .normal) → wpAnyX P .any ops mu Q l.length listed a w
 | [], listed, E, D, D2, w, a, hp, hcl, hsz, hN, h, hK => by
   cases h
   exact ⟨by simpa [planB] using hp, hK _ _ _ _ (SmS.refl _) (To.refl _ _ _ _ _) hN⟩
 | i :: l, listed, E, D, D2, w, a, hp, hcl, hsz, hN, h, hK => by
   unfold planB at hp
   rw [Bool.and_eq_true] at hp
   obtain ⟨hp, hp2⟩ := hp
   unfold evDraw at h
   cases ho : ops[i]? with
   | none => rw [ho] at h; cases h
   | some o =>
     rw [ho] at h
     simp only at h
     have hdo : ∀ t, o.dst = some t → t < nt := hd o (Array.mem_of_getElem? ho)
     have hri : i ∈ Region.ready .any ops listed := by
      rw [ho] at hp
      rcases Bool.or_eq_true _ _ ▸ hp with hp | hp
      ·rw [Bool.and_eq_true] at hp
       simpa using hp.1
      ·simp at hp; rw [hp]; simp
     have rest : ∀ (D1 : St), evDraw P H C ops fz mu l D1 = some D2 → Leads H E nt D ex w D1 (wpAnyX P .any ops mu Q l.length (listed.setIfInBounds i true)) := by
      intro D1 h1 E' D1' w' a' hs hT hN'
      have k := evDraw_sm (P := P) ops fz mu hX hS l hs
      rw [h1] at k
      generalize hq : evDraw P H C ops fz mu l D1' = q at k
      cases k with
      | some hs2 => exact draw_ok hC hX hS ops fz mu hsel hd hQ l _ hp2 (hcl.set hri) (by simpa using hsz) hN' hq (fun E2 D3 w2 a2 hs3 hT2 hN2 => hK _ _ _ _ (hs2.trans hs3) (hT.trans hT2) hN2)
     have sync : Region.ready .any ops listed = [i] → wpOp P ops Q i (fun a' w' => (mu i = false → Grow w w') ∧ wpAnyX P .any ops mu Q l.length (listed.setIfInBounds i true) a' w') a w → wpAnyX P .any ops mu Q (i :: l).length listed a w := by
      intro hr hw
      refine ⟨fun h0 => (by rw [hr] at h0; cases h0), fun j hj => ?_⟩
      rw [hr] at hj
      have : j = i := by simpa using hj
      subst this; exact hw
     have light : litB o = true → Region.free .any ops listed i = true → (pureB o || (List.range ops.size).all (fun j => !mu j || listed.getD j true || depB .any ops i ops.size j)) = true → ∀ v, YieldsIf P ops (Grow w) o v a → (pureB o = true → YieldsIf P ops (fun _ => True) o v a) →
      wpAnyX P .any ops mu Q l.length (listed.setIfInBounds i true) (a.put o.dst v) w → wpAnyX P .any ops mu Q (i :: l).length listed a w := by
      intro hl hf hm v hy hyp hw
      cases hpu : pureB o with
      | true => exact wpAnyX_first_pure ho (Region.noSelect_spec hsel) (fun c a w h => hQ _ _ _ _ h) l.length listed a w hcl (Region.free_spec ho hf) hri (hyp hpu) hw
      | false =>
      rw [hpu, Bool.false_or] at hm
      refine wpAnyX_first ho (Region.noSelect_spec hsel) (fun c a w h => hQ _ _ _ _ h) l.length listed a w hcl (fun j hj hu => ?_) (Region.free_spec ho hf) hri hy hw
      rw [List.all_eq_true] at hm
      rcases Nat.lt_or_ge j ops.size with hjs | hjs
      ·have := hm j (List.mem_range.2 hjs)
       rw [hj, hu] at this
       simp at this
       exact depB_spec _ _ this
      ·rw [Array.getD_eq_getD_getElem?, Array.getElem?_eq_none (by omega)] at hu; cases hu
     cases hw : wantedV ops o D with
     | none => rw [hw] at h; cases h
     | some b =>
       rw [hw] at h
       have hwo := wanted_ok hN hw
       rw [ho] at hp
       simp only [Bool.or_eq_true, Bool.and_eq_true, decide_eq_true_eq] at hp
       cases b with
       | false =>
         simp only at h
         have hk := skip_ok hN hdo (rest _ h)
         rcases hp with hp | hp
         ·exact light hp.2.1.1 hp.2.1.2 (by simpa using hp.2.2) undef (.inr ⟨hwo, rfl⟩) (fun _ => .inr ⟨hwo, rfl⟩) hk
         ·refine sync hp ?_
          unfold wpOp
          simp only [ho, hwo, Bool.false_eq_true, if_false]
          exact ⟨fun _ => Grow.refl w, hk⟩
       | true =>
         simp only at h
         split at h
         case isFalse => cases h
         rename_i hquiet
         cases h1 : evOp P H C (fz i) o D with
         | none => rw [h1] at h; cases h
         | some D1 =>
           rw [h1] at h
           rcases hp with hp | hp
           ·obtain ⟨v, hv, hpv⟩ : ∃ v, (∀ w', Grow w w' → (execOp a.eval o).run P w' = .ok (.value v) w') ∧ (pureB o = true → ∀ w', (execOp a.eval o).run P w' = .ok (.value v) w') := by
             cases hpu : pureB o with
             | true =>
               obtain ⟨v, hv⟩ := pure_ok hN h1 hpu
               exact ⟨v, fun w' _ => hv w', fun _ => hv⟩
             | false =>
               obtain ⟨v, hv⟩ := lit_ok hN hdo h1 hp.2.1.1
               exact ⟨v, hv, fun h => by cases h⟩
            have hk : o.wp P a w (wpAnyX P .any ops mu Q l.length (listed.setIfInBounds i true)) Q := op_ok hC hN hdo h1 (rest D1 h)
            unfold Oper.wp at hk
            rw [hv w (Grow.refl w)] at hk
            exact light hp.2.1.1 hp.2.1.2 (by simpa using hp.2.2) v (.inl ⟨hwo, hv⟩) (fun h => .inl ⟨hwo, fun w' _ => hpv h w'⟩) hk
           ·refine sync hp ?_
            unfold wpOp
            simp only [ho, hwo, if_true]
            refine .inl ?_
            cases hm : mu i with
            | true => exact Oper.wp_mono (fun a' w' h => ⟨fun h0 => (by cases h0), h⟩) (op_ok hC hN hdo h1 (rest D1 h))
            | false =>
              rw [hm, Bool.false_or] at hquiet
              exact Oper.wp_mono (fun a' w' h => ⟨fun _ => h.1, h.2⟩) (op_grow hC hN hdo h1 (rest D1 h) hquiet)
theorem drawT_ok {C : Callee} (hC : CallsOk P H C) (hX : XSm H) (hS : CSm C) (ops : Array Oper) (fz mu : Nat → Bool) (hsel : Region.noSelect ops = true) (hd : ∀ o ∈ ops, ∀ t, o.dst = some t → t < nt)
 (hQ : ∀ c a a' w, Q (.panic c) a w → Q (.panic c) a' w) : ∀ (T : Pl) (n : Nat) (listed : Array Bool) {E : Env} {D D2 : St} {w : World} {a : Act}, planT .any ops mu n T listed = true → Closed .any ops listed → listed.size = ops.size →
 Now H E nt D ex w a → evDrawT P H C ops fz mu T D = some D2 → Leads H E nt D ex w D2 (Q .normal) → wpAnyX P .any ops mu Q n listed a w
 | .fin, 0, listed, E, D, D2, w, a, hp, hcl, hsz, hN, h, hK => by
   cases h
   exact ⟨by simpa [planT] using hp, hK _ _ _ _ (SmS.refl _) (To.refl _ _ _ _ _) hN⟩
 | .fin, n + 1, listed, E, D, D2, w, a, hp, hcl, hsz, hN, h, hK => by simp [planT] at hp
 | .one i l, 0, listed, E, D, D2, w, a, hp, hcl, hsz, hN, h, hK => by simp [planT] at hp
 | .two i A j B, 0, listed, E, D, D2, w, a, hp, hcl, hsz, hN, h, hK => by simp [planT] at hp
 | .three i A j B k C', 0, listed, E, D, D2, w, a, hp, hcl, hsz, hN, h, hK => by simp [planT] at hp
 | .one i l, n + 1, listed, E, D, D2, w, a, hp, hcl, hsz, hN, h, hK => by
   unfold planT at hp
   rw [Bool.and_eq_true] at hp
   obtain ⟨hp, hp2⟩ := hp
   unfold evDrawT stepT at h
   cases ho : ops[i]? with
   | none => rw [ho] at h; cases h
   | some o =>
     rw [ho] at h
     simp only at h
     have hdo : ∀ t, o.dst = some t → t < nt := hd o (Array.mem_of_getElem? ho)
     have hri : i ∈ Region.ready .any ops listed := by
      rw [ho] at hp
      rcases Bool.or_eq_true _ _ ▸ hp with hp | hp
      ·rw [Bool.and_eq_true] at hp
       simpa using hp.1
      ·simp at hp; rw [hp]; simp
     have rest : ∀ (D1 : St), evDrawT P H C ops fz mu l D1 = some D2 → Leads H E nt D ex w D1 (wpAnyX P .any ops mu Q n (listed.setIfInBounds i true)) := by
      intro D1 h1 E' D1' w' a' hs hT hN'
      have k := evDrawT_sm (P := P) ops fz mu hX hS l hs
      rw [h1] at k
      generalize hq : evDrawT P H C ops fz mu l D1' = q at k
      cases k with
      | some hs2 => exact drawT_ok hC hX hS ops fz mu hsel hd hQ l n _ hp2 (hcl.set hri) (by simpa using hsz) hN' hq (fun E2 D3 w2 a2 hs3 hT2 hN2 => hK _ _ _ _ (hs2.trans hs3) (hT.trans hT2) hN2)
     have sync : Region.ready .any ops listed = [i] → wpOp P ops Q i (fun a' w' => (mu i = false → Grow w w') ∧ wpAnyX P .any ops mu Q n (listed.setIfInBounds i true) a' w') a w → wpAnyX P .any ops mu Q (n + 1) listed a w := by
      intro hr hw
      refine ⟨fun h0 => (by rw [hr] at h0; cases h0), fun j hj => ?_⟩
      rw [hr] at hj
      have : j = i := by simpa using hj
      subst this; exact hw
     have light : litB o = true → Region.free .any ops listed i = true → (pureB o || (List.range ops.size).all (fun j => !mu j || listed.getD j true || depB .any ops i ops.size j)) = true → ∀ v, YieldsIf P ops (Grow w) o v a → (pureB o = true → YieldsIf P ops (fun _ => True) o v a) →
      wpAnyX P .any ops mu Q n (listed.setIfInBounds i true) (a.put o.dst v) w → wpAnyX P .any ops mu Q (n + 1) listed a w := by
      intro hl hf hm v hy hyp hw
      cases hpu : pureB o with
      | true => exact wpAnyX_first_pure ho (Region.noSelect_spec hsel) (fun c a w h => hQ _ _ _ _ h) n listed a w hcl (Region.free_spec ho hf) hri (hyp hpu) hw
      | false =>
      rw [hpu, Bool.false_or] at hm
      refine wpAnyX_first ho (Region.noSelect_spec hsel) (fun c a w h => hQ _ _ _ _ h) n listed a w hcl (fun j hj hu => ?_) (Region.free_spec ho hf) hri hy hw
      rw [List.all_eq_true] at hm
      rcases Nat.lt_or_ge j ops.size with hjs | hjs
      ·have := hm j (List.mem_range.2 hjs)
       rw [hj, hu] at this
       simp at this
       exact depB_spec _ _ this
      ·rw [Array.getD_eq_getD_getElem?, Array.getElem?_eq_none (by omega)] at hu; cases hu
     cases hw : wantedV ops o D with
     | none => rw [hw] at h; cases h
     | some b =>
       rw [hw] at h
       have hwo := wanted_ok hN hw
       rw [ho] at hp
       simp only [Bool.or_eq_true, Bool.and_eq_true, decide_eq_true_eq] at hp
       cases b with
       | false =>
         simp only [Option.bind_some] at h
         have hk := skip_ok hN hdo (rest _ h)
         rcases hp with hp | hp
         ·exact light hp.2.1.1 hp.2.1.2 (by simpa using hp.2.2) undef (.inr ⟨hwo, rfl⟩) (fun _ => .inr ⟨hwo, rfl⟩) hk
         ·refine sync hp ?_
          unfold wpOp
          simp only [ho, hwo, Bool.false_eq_true, if_false]
          exact ⟨fun _ => Grow.refl w, hk⟩
       | true =>
         simp only at h
         split at h
         case isFalse => cases h
         rename_i hquiet
         cases h1 : evOp P H C (fz i) o D with
         | none => rw [h1] at h; cases h
         | some D1 =>
           rw [h1] at h
           simp only [Option.bind_some] at h
           rcases hp with hp | hp
           ·obtain ⟨v, hv, hpv⟩ : ∃ v, (∀ w', Grow w w' → (execOp a.eval o).run P w' = .ok (.value v) w') ∧ (pureB o = true → ∀ w', (execOp a.eval o).run P w' = .ok (.value v) w') := by
             cases hpu : pureB o with
             | true =>
               obtain ⟨v, hv⟩ := pure_ok hN h1 hpu
               exact ⟨v, fun w' _ => hv w', fun _ => hv⟩
             | false =>
               obtain ⟨v, hv⟩ := lit_ok hN hdo h1 hp.2.1.1
               exact ⟨v, hv, fun h => by cases h⟩
            have hk : o.wp P a w (wpAnyX P .any ops mu Q n (listed.setIfInBounds i true)) Q := op_ok hC hN hdo h1 (rest D1 h)
            unfold Oper.wp at hk
            rw [hv w (Grow.refl w)] at hk
            exact light hp.2.1.1 hp.2.1.2 (by simpa using hp.2.2) v (.inl ⟨hwo, hv⟩) (fun h => .inl ⟨hwo, fun w' _ => hpv h w'⟩) hk
           ·refine sync hp ?_
            unfold wpOp
            simp only [ho, hwo, if_true]
            refine .inl ?_
            cases hm : mu i with
            | true => exact Oper.wp_mono (fun a' w' h => ⟨fun h0 => (by cases h0), h⟩) (op_ok hC hN hdo h1 (rest D1 h))
            | false =>
              rw [hm, Bool.false_or] at hquiet
              exact Oper.wp_mono (fun a' w' h => ⟨fun _ => h.1, h.2⟩) (op_grow hC hN hdo h1 (rest D1 h) hquiet)
 | .two i A j B, n + 1, listed, E, D, D2, w, a, hp, hcl, hsz, hN, h, hK => by
   unfold planT at hp
   rw [Bool.and_eq_true, Bool.and_eq_true, decide_eq_true_eq] at hp
   obtain ⟨⟨hr, hpA⟩, hpB⟩ := hp
   have half : ∀ (i : Nat) (l : Pl) (D2' : St), i ∈ Region.ready .any ops listed → planT .any ops mu n l (listed.setIfInBounds i true) = true → ((stepT P H C ops fz mu i D).bind fun D1 => evDrawT P H C ops fz mu l D1) = some D2' → SmS D2 D2' →
    (∀ (D1 : St), evDrawT P H C ops fz mu l D1 = some D2' → Leads H E nt D ex w D1 (wpAnyX P .any ops mu Q n (listed.setIfInBounds i true))) →
    wpOp P ops Q i (fun a' w' => (mu i = false → Grow w w') ∧ wpAnyX P .any ops mu Q n (listed.setIfInBounds i true) a' w') a w := by
    intro i l D2' hri hp2 h hsm rest
    unfold stepT at h
    cases ho : ops[i]? with
    | none => rw [ho] at h; cases h
    | some o =>
      rw [ho] at h
      simp only at h
      have hdo : ∀ t, o.dst = some t → t < nt := hd o (Array.mem_of_getElem? ho)
      cases hw : wantedV ops o D with
      | none => rw [hw] at h; cases h
      | some b =>
        rw [hw] at h
        have hwo := wanted_ok hN hw
        cases b with
        | false =>
          simp only [Option.bind_some] at h
          have hk := skip_ok hN hdo (rest _ h)
          unfold wpOp
          simp only [ho, hwo, Bool.false_eq_true, if_false]
          exact ⟨fun _ => Grow.refl w, hk⟩
        | true =>
          simp only at h
          split at h
          case isFalse => cases h
          rename_i hquiet
          cases h1 : evOp P H C (fz i) o D with
          | none => rw [h1] at h; cases h
          | some D1 =>
            rw [h1] at h
            simp only [Option.bind_some] at h
            unfold wpOp
            simp only [ho, hwo, if_true]
            refine .inl ?_
            cases hm : mu i with
            | true => exact Oper.wp_mono (fun a' w' h => ⟨fun h0 => (by cases h0), h⟩) (op_ok hC hN hdo h1 (rest D1 h))
            | false =>
              rw [hm, Bool.false_or] at hquiet
              exact Oper.wp_mono (fun a' w' h => ⟨fun _ => h.1, h.2⟩) (op_grow hC hN hdo h1 (rest D1 h) hquiet)
   have hri : i ∈ Region.ready .any ops listed := by rw [hr]; simp
   have hrj : j ∈ Region.ready .any ops listed := by rw [hr]; simp
   unfold evDrawT at h
   generalize hqa : ((stepT P H C ops fz mu i D).bind fun D1 => evDrawT P H C ops fz mu A D1) = qa at h
   generalize hqb : ((stepT P H C ops fz mu j D).bind fun D1 => evDrawT P H C ops fz mu B D1) = qb at h
   cases qa with
   | none => cases h
   | some Da =>
     cases qb with
     | none => cases h
     | some Db =>
       obtain ⟨rfl, hab⟩ := bothO_some h
       refine ⟨fun h0 => (by rw [hr] at h0; cases h0), fun x hx => ?_⟩
       rw [hr] at hx
       have hx : x = i ∨ x = j := by simpa using hx
       rcases hx with rfl | rfl
       ·refine half x A Da hri hpA hqa (SmS.refl _) ?_
        intro D1 h1 E' D1' w' a' hs hT hN'
        have k := evDrawT_sm (P := P) ops fz mu hX hS A hs
        rw [h1] at k
        generalize hq : evDrawT P H C ops fz mu A D1' = q at k
        cases k with
        | some hs2 => exact drawT_ok hC hX hS ops fz mu hsel hd hQ A n _ hpA (hcl.set hri) (by simpa using hsz) hN' hq (fun E2 D3 w2 a2 hs3 hT2 hN2 => hK _ _ _ _ (hs2.trans hs3) (hT.trans hT2) hN2)
       ·refine half x B Db hrj hpB hqb hab ?_
        intro D1 h1 E' D1' w' a' hs hT hN'
        have k := evDrawT_sm (P := P) ops fz mu hX hS B hs
        rw [h1] at k
        generalize hq : evDrawT P H C ops fz mu B D1' = q at k
        cases k with
        | some hs2 => exact drawT_ok hC hX hS ops fz mu hsel hd hQ B n _ hpB (hcl.set hrj) (by simpa using hsz) hN' hq (fun E2 D3 w2 a2 hs3 hT2 hN2 => hK _ _ _ _ ((hab.trans hs2).trans hs3) (hT.trans hT2) hN2)
 | .three i A j B k3 C3, n + 1, listed, E, D, D2, w, a, hp, hcl, hsz, hN, h, hK => by
   unfold planT at hp
   rw [Bool.and_eq_true, Bool.and_eq_true, Bool.and_eq_true, decide_eq_true_eq] at hp
   obtain ⟨⟨⟨hr, hpA⟩, hpB⟩, hpC⟩ := hp
   have half : ∀ (i : Nat) (l : Pl) (D2' : St), i ∈ Region.ready .any ops listed → planT .any ops mu n l (listed.setIfInBounds i true) = true → ((stepT P H C ops fz mu i D).bind fun D1 => evDrawT P H C ops fz mu l D1) = some D2' → SmS D2 D2' →
    (∀ (D1 : St), evDrawT P H C ops fz mu l D1 = some D2' → Leads H E nt D ex w D1 (wpAnyX P .any ops mu Q n (listed.setIfInBounds i true))) →
    wpOp P ops Q i (fun a' w' => (mu i = false → Grow w w') ∧ wpAnyX P .any ops mu Q n (listed.setIfInBounds i true) a' w') a w := by
    intro i l D2' hri hp2 h hsm rest
    unfold stepT at h
    cases ho : ops[i]? with
    | none => rw [ho] at h; cases h
    | some o =>
      rw [ho] at h
      simp only at h
      have hdo : ∀ t, o.dst = some t → t < nt := hd o (Array.mem_of_getElem? ho)
      cases hw : wantedV ops o D with
      | none => rw [hw] at h; cases h
      | some b =>
        rw [hw] at h
        have hwo := wanted_ok hN hw
        cases b with
        | false =>
          simp only [Option.bind_some] at h
          have hk := skip_ok hN hdo (rest _ h)
          unfold wpOp
          simp only [ho, hwo, Bool.false_eq_true, if_false]
          exact ⟨fun _ => Grow.refl w, hk⟩
        | true =>
          simp only at h
          split at h
          case isFalse => cases h
          rename_i hquiet
          cases h1 : evOp P H C (fz i) o D with
          | none => rw [h1] at h; cases h
          | some D1 =>
            rw [h1] at h
            simp only [Option.bind_some] at h
            unfold wpOp
            simp only [ho, hwo, if_true]
            refine .inl ?_
            cases hm : mu i with
            | true => exact Oper.wp_mono (fun a' w' h => ⟨fun h0 => (by cases h0), h⟩) (op_ok hC hN hdo h1 (rest D1 h))
            | false =>
              rw [hm, Bool.false_or] at hquiet
              exact Oper.wp_mono (fun a' w' h => ⟨fun _ => h.1, h.2⟩) (op_grow hC hN hdo h1 (rest D1 h) hquiet)
   have hri : i ∈ Region.ready .any ops listed := by rw [hr]; simp
   have hrj : j ∈ Region.ready .any ops listed := by rw [hr]; simp
   have hrk : k3 ∈ Region.ready .any ops listed := by rw [hr]; simp
   unfold evDrawT at h
   generalize hqa : ((stepT P H C ops fz mu i D).bind fun D1 => evDrawT P H C ops fz mu A D1) = qa at h
   generalize hqb : ((stepT P H C ops fz mu j D).bind fun D1 => evDrawT P H C ops fz mu B D1) = qb at h
   generalize hqc : ((stepT P H C ops fz mu k3 D).bind fun D1 => evDrawT P H C ops fz mu C3 D1) = qc at h
   cases qa with
   | none => cases h
   | some Da =>
     cases qb with
     | none => cases h
     | some Db =>
      cases qc with
      | none => cases h
      | some Dc =>
       have hbc : ∃ D', bothO (some Db) (some Dc) = some D' := by
        cases hq : bothO (some Db) (some Dc) with
        | none => rw [hq] at h; cases h
        | some D' => exact ⟨D', rfl⟩
       obtain ⟨D', hbc⟩ := hbc
       rw [hbc] at h
       obtain ⟨rfl, hbc⟩ := bothO_some hbc
       obtain ⟨rfl, hab⟩ := bothO_some h
       refine ⟨fun h0 => (by rw [hr] at h0; cases h0), fun x hx => ?_⟩
       rw [hr] at hx
       have hx : x = i ∨ x = j ∨ x = k3 := by simpa using hx
       rcases hx with rfl | rfl | rfl
       ·refine half x A Da hri hpA hqa (SmS.refl _) ?_
        intro D1 h1 E' D1' w' a' hs hT hN'
        have k := evDrawT_sm (P := P) ops fz mu hX hS A hs
        rw [h1] at k
        generalize hq : evDrawT P H C ops fz mu A D1' = q at k
        cases k with
        | some hs2 => exact drawT_ok hC hX hS ops fz mu hsel hd hQ A n _ hpA (hcl.set hri) (by simpa using hsz) hN' hq (fun E2 D3 w2 a2 hs3 hT2 hN2 => hK _ _ _ _ (hs2.trans hs3) (hT.trans hT2) hN2)
       ·refine half x B Db hrj hpB hqb hab ?_
        intro D1 h1 E' D1' w' a' hs hT hN'
        have k := evDrawT_sm (P := P) ops fz mu hX hS B hs
        rw [h1] at k
        generalize hq : evDrawT P H C ops fz mu B D1' = q at k
        cases k with
        | some hs2 => exact drawT_ok hC hX hS ops fz mu hsel hd hQ B n _ hpB (hcl.set hrj) (by simpa using hsz) hN' hq (fun E2 D3 w2 a2 hs3 hT2 hN2 => hK _ _ _ _ ((hab.trans hs2).trans hs3) (hT.trans hT2) hN2)
       ·refine half x C3 Dc hrk hpC hqc (hab.trans hbc) ?_
        intro D1 h1 E' D1' w' a' hs hT hN'
        have k := evDrawT_sm (P := P) ops fz mu hX hS C3 hs
        rw [h1] at k
        generalize hq : evDrawT P H C ops fz mu C3 D1' = q at k
        cases k with
        | some hs2 => exact drawT_ok hC hX hS ops fz mu hsel hd hQ C3 n _ hpC (hcl.set hrk) (by simpa using hsz) hN' hq (fun E2 D3 w2 a2 hs3 hT2 hN2 => hK _ _ _ _ (((hab.trans hbc).trans hs2).trans hs3) (hT.trans hT2) hN2)
end Go.Abs
end
noncomputable section
namespace Go.Abs
open Go
variable {P : Program} {H : Hint} {E : Env} {nt : Nat} {D D1 : St} {ex : List V} {w : World} {a : Act} {Q : Exit → Act → World → Prop}
theorem slotRows_clear (nt : Nat) (s : Nat → V) (p : Nat → Bool) : ∃ S, (slotRows nt s).Perm (S ++ slotRows nt (fun i => if p i then s i else .dead)) := by
 unfold slotRows
 generalize List.range nt = l
 induction l with
 | nil => exact ⟨[], .refl _⟩
 | cons t l ih =>
   obtain ⟨S, hS⟩ := ih
   simp only [List.flatMap_cons]
   by_cases hp : p t = true
   ·refine ⟨S, ?_⟩
    simp only [hp, if_true]
    refine (List.Perm.append_left _ hS).trans ?_
    rw [← List.append_assoc, ← List.append_assoc]
    exact List.Perm.append_right _ List.perm_append_comm
   ·refine ⟨rows (s t) ++ S, ?_⟩
    have : rows V.dead = [] := by simp [rows]
    simp only [hp, if_false, this, List.nil_append, Bool.false_eq_true]
    rw [List.append_assoc]
    exact List.Perm.append_left _ hS
theorem clear_ok (l : Option (List Nat)) (hN : Now H E nt D ex w a) : Now H E nt (clear l D) ex w a ∧ To E nt D ex w E (clear l D) ex w := by
 cases l with
 | none => exact ⟨hN, To.refl _ _ _ _ _⟩
 | some live =>
   obtain ⟨S, hS⟩ := slotRows_clear nt D.s (fun i => live.contains i)
   have hr : (rowsD nt D ex).Perm (S ++ rowsD nt (clear (some live) D) ex) := by
    unfold rowsD
    rw [← List.append_assoc S]
    exact List.Perm.append_right _ hS
   have hkept : Kept D (clear (some live) D) := by
    intro r q d k n cs hq
    cases r with
    | slot t =>
      simp only [look, clear] at hq ⊢
      split at hq
      ·exact ⟨cs, hq⟩
      ·cases q <;> simp [go] at hq
    | box b => exact ⟨cs, hq⟩
   have hat : ∀ b ∈ atomsD nt (clear (some live) D) ex, b ∈ atomsD nt D ex := by
    intro b hb
    unfold atomsD at hb ⊢
    rcases List.mem_append.1 hb with hb | hb
    ·refine List.mem_append_left _ ?_
     obtain ⟨t, ht, hb⟩ := List.mem_flatMap.1 hb
     simp only [clear] at hb
     split at hb
     ·exact List.mem_flatMap.2 ⟨t, ht, hb⟩
     ·simp [atoms] at hb
    ·exact List.mem_append_right _ hb
   refine ⟨⟨hN.inv.weaken S _ _ hr (RLeL.refl _ _) (.refl _) hat (fun e he => ⟨e, he, rfl, rfl⟩) hN.inv.ids rfl, ⟨hN.slots.size, hN.slots.defers, fun t => ?_, fun t ht => ?_⟩, hN.glob⟩,
    To.of_keys rfl (keys_sub hr (RLeL.refl E.β _) (.refl _))⟩
   ·refine PR_kept hkept ?_
    show PR E.β D (if live.contains t then D.s t else .dead) _
    split
    ·exact hN.slots.slot t
    ·trivial
   ·show (if live.contains t then D.s t else .dead) = .dead
    split
    ·exact hN.slots.high t ht
    ·rfl
def exitOf : Ex → Exit
 | .norm => .normal
 | .ret => .ret
 | .exit i => .exit i
def codeB (H : Hint) (f nt : Nat) : Code → Bool
 | .region id ops dr => (ops.all fun o => match o.dst with | some t => decide (t < nt) | none => true) && (!dr || (match H.tree f id with | some T => planTOk ops (muOf H f id ops) T | none => planOk ops (muOf H f id ops) (planOf H f id ops)))
 | .seq a b => codeB H f nt a && codeB H f nt b
 | .cond _ a b => codeB H f nt a && codeB H f nt b
 | .block _ c => codeB H f nt c
 | .loop c => codeB H f nt c
 | _ => true
theorem dst_of {ops : Array Oper} (h : (ops.all fun o => match o.dst with | some t => decide (t < nt) | none => true) = true) : ∀ o ∈ ops, ∀ t, o.dst = some t → t < nt := by
 intro o ho t ht
 rw [Array.all_eq_true_iff_forall_mem] at h
 have := h o ho
 rw [ht] at this
 simpa using this
theorem region_ok {C : Callee} (hC : CallsOk P H C) (hX : XSm H) (hS : CSm C) (hm : P.follows .mixedOrders = true) {f id : Nat} {ops : Array Oper} {dr : Bool} (hB : codeB H f nt (.region id ops dr) = true) {D2 : St} (hN : Now H E nt D ex w a)
 (h : (if dr then (match H.tree f id with | some T => evDrawT P H C ops (H.fz f id) (muOf H f id ops) T D | none => evDraw P H C ops (H.fz f id) (muOf H f id ops) (planOf H f id ops) D) else evOps P H C ops (H.fz f id) 0 ops.toList D) = some D2) (hK : Leads H E nt D ex w D2 (Q .normal)) : (Code.region id ops dr).wp P Q a w := by
 unfold codeB at hB
 rw [Bool.and_eq_true] at hB
 obtain ⟨hd, hp⟩ := hB
 have hd := dst_of hd
 cases dr with
 | false => exact wp_region_list (ops_ok hC hX hS ops _ ops.toList 0 (fun o ho => hd o (Array.mem_toList_iff.1 ho)) hN h hK)
 | true =>
   simp only [Bool.not_true, Bool.false_or] at hp
   simp only [if_true] at h
   cases htree : H.tree f id with
   | none =>
     rw [htree] at hp h
     simp only at hp h
     unfold planOk at hp
     simp only [Bool.and_eq_true, decide_eq_true_eq] at hp
     obtain ⟨⟨h1, h2⟩, h3⟩ := hp
     refine wp_mono (Q := fun e a w => match e with | .panic _ => False | e => Q e a w) (wp_region_any hm (wpAny_of_X (mu := muOf H f id ops) _ _ _ _ ?_)) (fun e a w h => by cases e <;> first | exact h | exact h.elim)
     have hg : Grow w { w with drawn := w.drawn + 1 } := ⟨Nat.le_refl _, fun _ _ => rfl⟩
     have key := fun hcl => draw_ok hC hX hS ops _ _ (Q := fun e a w => match e with | .panic _ => False | e => Q e a w) h1 hd (fun c a a' w h => h) _ _ h3 hcl (by simp) (hN.grow hg) h (fun E' D1' w' a' hs hT hN' => hK _ _ _ _ hs ⟨hT.beta, hT.gp, hT.gb, hT.nx, hT.size, hT.keys, hT.same, hT.os, hT.tape, hT.out⟩ hN')
     rw [h2] at key
     refine key fun j o _ hl => ?_
     rw [Array.getD_eq_getD_getElem?, Array.getElem?_replicate] at hl
     split at hl <;> cases hl
   | some T =>
     rw [htree] at hp h
     simp only at hp h
     unfold planTOk at hp
     rw [Bool.and_eq_true] at hp
     obtain ⟨h1, h3⟩ := hp
     refine wp_mono (Q := fun e a w => match e with | .panic _ => False | e => Q e a w) (wp_region_any hm (wpAny_of_X (mu := muOf H f id ops) _ _ _ _ ?_)) (fun e a w h => by cases e <;> first | exact h | exact h.elim)
     have hg : Grow w { w with drawn := w.drawn + 1 } := ⟨Nat.le_refl _, fun _ _ => rfl⟩
     refine drawT_ok hC hX hS ops _ _ (Q := fun e a w => match e with | .panic _ => False | e => Q e a w) h1 hd (fun c a a' w h => h) T _ _ h3 ?_ (by simp) (hN.grow hg) h (fun E' D1' w' a' hs hT hN' => hK _ _ _ _ hs ⟨hT.beta, hT.gp, hT.gb, hT.nx, hT.size, hT.keys, hT.same, hT.os, hT.tape, hT.out⟩ hN')
     intro j o _ hl
     rw [Array.getD_eq_getD_getElem?, Array.getElem?_replicate] at hl
     split at hl <;> cases hl
theorem least_of {p : Nat → Prop} (h : ∃ k, p k) : ∃ m, p m ∧ ∀ k, p k → m ≤ k := by
 obtain ⟨k, hk⟩ := h
 induction k using Nat.strongRecOn with
 | _ k ih =>
   by_cases hex : ∃ j, j < k ∧ p j
   ·obtain ⟨j, hj, hp⟩ := hex; exact ih j hj hp
   ·exact ⟨k, hk, fun j hj => by
     rcases Nat.lt_or_ge j k with h | h
     ·exact absurd ⟨j, h, hj⟩ hex
     ·exact h⟩
theorem iter_ok {C : Callee} {c : Code} {b : St → Option (Ex × St)} (hsm : ∀ {D D' : St}, SmS D D' → OptR ExR (b D) (b D'))
 (hb : ∀ {E : Env} {D : St} {e : Ex} {D2 : St} {w : World} {a : Act} {Q : Exit → Act → World → Prop}, Now H E nt D ex w a → b D = some (e, D2) → Leads H E nt D ex w D2 (Q (exitOf e)) → c.wp P Q a w) (l : Option (List Nat)) :
 ∀ (k : Nat) {E : Env} {D : St} {e : Ex} {D2 : St} {w : World} {a : Act} {Q : Exit → Act → World → Prop}, Now H E nt D ex w a → iter b l k D = some (e, D2) → Leads H E nt D ex w D2 (Q (exitOf e)) → (Code.loop c).wp P Q a w := by
 intro k E D e D2 w a Q hN h hK
 let J : Nat → Act → World → Prop := fun k a w => ∃ (E : Env) (D : St) (e : Ex) (D2 : St), Now H E nt D ex w a ∧ iter b l k D = some (e, D2) ∧ Leads H E nt D ex w D2 (Q (exitOf e))
 classical
 let μ : Act → World → Nat := fun a w => if h : ∃ k, J k a w then Classical.choose (least_of h) else 0
 have hμ : ∀ {k a w}, J k a w → μ a w ≤ k ∧ J (μ a w) a w := by
  intro k a w hj
  have hex : ∃ k, J k a w := ⟨k, hj⟩
  have : μ a w = Classical.choose (least_of hex) := dif_pos hex
  rw [this]
  exact ⟨(Classical.choose_spec (least_of hex)).2 k hj, (Classical.choose_spec (least_of hex)).1⟩
 refine wp_loop (I := fun a w => ∃ k, J k a w) (μ := μ) ⟨k, E, D, e, D2, hN, h, hK⟩ ?_
 rintro a w ⟨k, hj⟩
 obtain ⟨_, hj⟩ := hμ hj
 generalize hm : μ a w = m at hj ⊢
 obtain ⟨E, D, e, D2, hN, h, hK⟩ := hj
 cases m with
 | zero => cases h
 | succ m =>
   obtain ⟨hN1, hT1⟩ := clear_ok l hN
   unfold iter at h
   cases hq : b (clear l D) with
   | none => rw [hq] at h; cases h
   | some r =>
     obtain ⟨e1, D1⟩ := r
     rw [hq] at h
     refine hb hN1 hq ?_
     intro E' D1' w' a' hs hT hN'
     cases e1 with
     | norm =>
       have k2 := iter_sm hsm l m hs
       simp only at h
       rw [h] at k2
       generalize hr : iter b l m D1' = r' at k2
       cases k2 with
       | @some x y hx =>
         obtain ⟨e', D2'⟩ := y
         obtain ⟨he, hs2⟩ := hx
         simp only at he hs2
         subst he
         have hj' : J m a' w' := ⟨E', D1', e, D2', hN', hr, fun E2 D3 w2 a2 hs3 hT2 hN2 => hK _ _ _ _ (hs2.trans hs3) ((hT1.trans hT).trans hT2) hN2⟩
         exact ⟨⟨m, hj'⟩, Nat.lt_succ_of_le (hμ hj').1⟩
     | ret => simp only [Option.some.injEq, Prod.mk.injEq] at h; obtain ⟨rfl, rfl⟩ := h; exact hK _ _ _ _ hs (hT1.trans hT) hN'
     | exit i => simp only [Option.some.injEq, Prod.mk.injEq] at h; obtain ⟨rfl, rfl⟩ := h; exact hK _ _ _ _ hs (hT1.trans hT) hN'
theorem code_ok {C : Callee} (hC : CallsOk P H C) (hX : XSm H) (hS : CSm C) (hm : P.follows .mixedOrders = true) (f k : Nat) : ∀ (c : Code), codeB H f nt c = true →
 ∀ {E : Env} {D : St} {e : Ex} {D2 : St} {w : World} {a : Act} {Q : Exit → Act → World → Prop}, Now H E nt D ex w a → evCode P H C f k c D = some (e, D2) → Leads H E nt D ex w D2 (Q (exitOf e)) → c.wp P Q a w
 | .skip, hB, E, D, e, D2, w, a, Q, hN, h, hK => by
   cases h
   exact wp_skip (hK _ _ _ _ (SmS.refl _) (To.refl _ _ _ _ _) hN)
 | .region id ops dr, hB, E, D, e, D2, w, a, Q, hN, h, hK => by
   unfold evCode at h
   split at h
   ·rename_i D1 h1
    cases h
    exact region_ok hC hX hS hm hB hN h1 hK
   ·cases h
 | .seq x y, hB, E, D, e, D2, w, a, Q, hN, h, hK => by
   unfold codeB at hB
   rw [Bool.and_eq_true] at hB
   unfold evCode at h
   cases hq : evCode P H C f k x D with
   | none => rw [hq] at h; cases h
   | some r =>
     obtain ⟨e1, D1⟩ := r
     rw [hq] at h
     refine wp_seq (code_ok hC hX hS hm f k x hB.1 hN hq ?_)
     intro E' D1' w' a' hs hT hN'
     cases e1 with
     | norm =>
       have k2 := evCode_sm (P := P) hX hS f k y hs
       simp only at h
       rw [h] at k2
       generalize hr : evCode P H C f k y D1' = r' at k2
       cases k2 with
       | @some _ z hx =>
         obtain ⟨e', D2'⟩ := z
         obtain ⟨he, hs2⟩ := hx
         simp only at he hs2
         subst he
         exact code_ok hC hX hS hm f k y hB.2 hN' hr (fun E2 D3 w2 a2 hs3 hT2 hN2 => hK _ _ _ _ (hs2.trans hs3) (hT.trans hT2) hN2)
     | ret => simp only [Option.some.injEq, Prod.mk.injEq] at h; obtain ⟨rfl, rfl⟩ := h; exact hK _ _ _ _ hs hT hN'
     | exit i => simp only [Option.some.injEq, Prod.mk.injEq] at h; obtain ⟨rfl, rfl⟩ := h; exact hK _ _ _ _ hs hT hN'
 | .cond c x y, hB, E, D, e, D2, w, a, Q, hN, h, hK => by
   unfold codeB at hB
   rw [Bool.and_eq_true] at hB
   unfold evCode at h
   split at h
   ·rename_i t ht
    have hc : a.eval c = .bool t := (ev_ok hN ht).pr
    refine wp_cond hc ?_
    cases t with
    | true => exact code_ok hC hX hS hm f k x hB.1 hN h hK
    | false => exact code_ok hC hX hS hm f k y hB.2 hN h hK
   ·cases h
 | .block id c, hB, E, D, e, D2, w, a, Q, hN, h, hK => by
   unfold evCode at h
   cases hq : evCode P H C f k c D with
   | none => rw [hq] at h; cases h
   | some r =>
     obtain ⟨e1, D1⟩ := r
     rw [hq] at h
     refine wp_block (code_ok hC hX hS hm f k c hB hN hq ?_)
     intro E' D1' w' a' hs hT hN'
     cases e1 with
     | norm => simp only [Option.some.injEq, Prod.mk.injEq] at h; obtain ⟨rfl, rfl⟩ := h; exact hK _ _ _ _ hs hT hN'
     | ret => simp only [Option.some.injEq, Prod.mk.injEq] at h; obtain ⟨rfl, rfl⟩ := h; exact hK _ _ _ _ hs hT hN'
     | exit i =>
       simp only at h
       show (if i = id then Q .normal a' w' else Q (.exit i) a' w')
       split at h
       ·rename_i hi
        cases h
        rw [if_pos hi]
        exact hK _ _ _ _ hs hT hN'
       ·rename_i hi
        cases h
        rw [if_neg hi]
        exact hK _ _ _ _ hs hT hN'
 | .loop c, hB, E, D, e, D2, w, a, Q, hN, h, hK => by
   unfold evCode at h
   exact iter_ok (C := C) (fun hs => evCode_sm (P := P) hX hS f k c hs) (fun hN h hK => code_ok hC hX hS hm f k c hB hN h hK) _ k hN h hK
 | .exit id, hB, E, D, e, D2, w, a, Q, hN, h, hK => by
   cases h
   exact wp_exit (hK _ _ _ _ (SmS.refl _) (To.refl _ _ _ _ _) hN)
 | .ret, hB, E, D, e, D2, w, a, Q, hN, h, hK => by
   cases h
   exact wp_ret (hK _ _ _ _ (SmS.refl _) (To.refl _ _ _ _ _) hN)
 | .rangeFunc .., hB, E, D, e, D2, w, a, Q, hN, h, hK => by cases h
 | .scope _, hB, E, D, e, D2, w, a, Q, hN, h, hK => by cases h
 | .label _, hB, E, D, e, D2, w, a, Q, hN, h, hK => by cases h
 | .goto _, hB, E, D, e, D2, w, a, Q, hN, h, hK => by cases h
 | .refuse _, hB, E, D, e, D2, w, a, Q, hN, h, hK => by cases h
end Go.Abs
end
noncomputable section
namespace Go.Abs
open Go
def lentEnv (E : Env) (nt : Nat) (D : St) (ex : List V) : Env := ⟨E.β, fun k => E.Gp k ∧ k ∉ keysD nt D ex, fun _ => True⟩
structure Lent (E : Env) (nt : Nat) (D D1 : St) (ex : List V) (w : World) (a : Act) (free : Prop) (x : V) (u : Value) : Prop where
 step : Step E nt D D1 ex ex w a
 pr : ∀ D', PR E.β D' x u
 flat : noRow x = true
 all : ∀ b ∈ atoms x, AtOk (lentEnv E nt D1 ex) w D1.nx (fun _ => False) b
 own : free → ∀ b ∈ atoms x, AtOk E w D1.nx (fun k => k ∈ keysD nt D1 ex) b
structure LentL (E : Env) (nt : Nat) (D D1 : St) (ex : List V) (w : World) (a : Act) (free : Prop) (xs : List V) (us : List Value) : Prop where
 step : Step E nt D D1 ex ex w a
 pr : ∀ D', PRL E.β D' xs us
 flat : noRowL xs = true
 all : ∀ b ∈ atomsL xs, AtOk (lentEnv E nt D1 ex) w D1.nx (fun _ => False) b
 own : free → ∀ b ∈ atomsL xs, AtOk E w D1.nx (fun k => k ∈ keysD nt D1 ex) b
variable {E : Env} {nt : Nat} {D D1 : St} {ex : List V} {w : World} {a : Act}
theorem Step.refl (hI : Inv E nt D ex w) (hS : SlotsOk E nt D a) : Step E nt D D ex ex w a := ⟨hI, hS, Kept.refl D, rfl, fun _ h => h⟩
theorem Step.trans {D2 : St} {ex1 ex2 : List V} (h : Step E nt D D1 ex ex1 w a) (k : Step E nt D1 D2 ex1 ex2 w a) : Step E nt D D2 ex ex2 w a :=
 ⟨k.inv, k.slots, h.kept.trans k.kept, k.nx.trans h.nx, fun q hq => h.keys q (k.keys q hq)⟩
theorem AtOk.lent {b : At} (h : AtOk E w D.nx (fun k => k ∈ keysD nt D ex) b) : AtOk (lentEnv E nt D ex) w D.nx (fun _ => False) b := by
 have hF : ∀ {pm A cs}, FOk E w (fun k => k ∈ keysD nt D ex) pm A cs → FOk (lentEnv E nt D ex) w (fun _ => False) pm A cs := fun h => ⟨h.1, h.2.1, fun hc => ⟨by
  obtain ⟨h1, h2⟩ := h.2.2 hc
  unfold Env.good at h1 ⊢
  split
  ·rename_i hp; rw [if_pos hp] at h1; exact ⟨h1, h2⟩
  ·trivial, fun h => h⟩⟩
 cases b with
 | p b => exact h
 | i pm A cap n cs =>
   refine ⟨h.1, ?_⟩
   have h2 := h.2
   cases A with
   | none => exact h2
   | some A => exact hF h2
 | f pm A cs => exact hF h
theorem lentEnv_mono {D2 : St} {w : World} {nx : Nat} (hk : ∀ k, k ∈ keysD nt D2 ex → k ∈ keysD nt D ex) {b : At} (h : AtOk (lentEnv E nt D ex) w nx (fun _ => False) b) : AtOk (lentEnv E nt D2 ex) w nx (fun _ => False) b := by
 have hF : ∀ {pm A cs}, FOk (lentEnv E nt D ex) w (fun _ => False) pm A cs → FOk (lentEnv E nt D2 ex) w (fun _ => False) pm A cs := fun h => ⟨h.1, h.2.1, fun hc => ⟨by
  obtain ⟨h1, h2⟩ := h.2.2 hc
  unfold Env.good at h1 ⊢
  split
  ·rename_i hp; rw [if_pos hp] at h1; exact ⟨h1.1, fun q => h1.2 (hk _ q)⟩
  ·trivial, fun h => h⟩⟩
 cases b with
 | p b => exact h
 | i pm A cap n cs =>
   refine ⟨h.1, ?_⟩
   have h2 := h.2
   cases A with
   | none => exact h2
   | some A => exact hF h2
 | f pm A cs => exact hF h
theorem frz_false {v : V} (hn : noRow v = true) (hI : ∀ k, E.Gp k → E.Gb k) (hv : ∀ b ∈ atoms v, AtOk E w D.nx (fun k => k ∈ keysD nt D ex) b) : ∀ b ∈ atoms (frz false v), AtOk E w D.nx (fun k => k ∈ keysD nt D ex) b := by
 refine frz_atoms (E := E) (E' := E) (pm := false) (fun pm0 k _ hg hk => ⟨?_, hk⟩) rfl v (by rw [rows_noRow hn]; intro e he; cases he) (by rw [rows_noRow hn]; intro k hk; cases hk) hv (fun h => by cases h)
 unfold Env.good at hg ⊢
 cases pm0 with
 | true => simpa using hI k (by simpa using hg)
 | false => simpa using hg
theorem lent_val {md : Nat} {v : V} {u : Value} (hI : Inv E nt D ex w) (hS : SlotsOk E nt D a) (hn : noRow v = true) (hu : ∀ D', PR E.β D' v u) (hu' : ∀ D', PR E.β D' (frz false v) u) (hv : VOk E nt D ex w v) {free : Prop} {x : V}
 (h : (if md = 2 then (if noBor v then some (v, D) else none) else some (frz false v, D)) = some (x, D1)) : Lent E nt D D1 ex w a free x u := by
 split at h
 ·split at h
  ·cases h
   exact ⟨.refl hI hS, hu, hn, fun b hb => (hv b hb).lent, fun _ b hb => hv b hb⟩
  ·cases h
 ·cases h
  have := frz_false (nt := nt) (D := D) (ex := ex) hn hI.gpb hv
  exact ⟨.refl hI hS, hu', noRow_frz _ _, fun b hb => (this b hb).lent, fun _ b hb => this b hb⟩
mutual
theorem lend_ok {md : Nat} : ∀ {v : V} {D D1 : St} {x : V} {u : Value}, Inv E nt D ex w → SlotsOk E nt D a → PR E.β D v u → VOk E nt D ex w v → (∀ e ∈ rows v, RowOk E w e ∧ keyOf e = none) →
 lend md v D = some (x, D1) → Lent E nt D D1 ex w a (md ≠ 0 ∨ hasRef v = false) x u
 | .ref r p, D, D1, x, u, hI, hS, hu, hv, hr, h => by
   simp only [lend] at h
   split at h
   ·rename_i hmd
    split at h
    case h_2 => cases h
    rename_i d k n cs hl
    cases h
    have hr0 := hS.lt hl
    obtain ⟨R0, hR0⟩ := row_of_look (ex := ex) hr0 hl (e := (d, k, n, cs.map sh)) (by simp [rows])
    have hrow : RowOk E w (d, k, n, cs.map sh) := hI.rows _ (hR0.mem_iff.2 (List.mem_append_left _ (by simp [rows])))
    have hh := hu _ _ _ _ hl
    refine ⟨.refl hI hS, fun D' => PR_frz_own hrow hh, noRow_frz _ _, ?_, fun hf => ?_⟩
    ·refine frz_atoms (E := E) (E' := lentEnv E nt D ex) (K := fun k => k ∈ keysD nt D ex) (pm := false) (fun pm0 k _ hg hk => ⟨by simp [Env.good, lentEnv], fun h => h⟩) rfl (.own d k n cs) ?_ ?_ ?_ (fun h => by cases h)
     ·exact fun e he => hI.rows e (hR0.mem_iff.2 (List.mem_append_left _ he))
     ·exact fun k _ => ⟨by simp [Env.good, lentEnv], fun h => h⟩
     ·exact fun c hc => hI.atoms c (atoms_look hr0 hl hc)
    ·rcases hf with hf | hf
     ·exact absurd hmd hf
     ·simp [hasRef] at hf
   ·rename_i hmd
    split at h
    case h_2 => cases h
    rename_i y D2 hy
    obtain ⟨h1, h2, h3, h4, h5, d, k, n, cs, h6, h7, h8⟩ := takeF_ok hI hS hy
    have hpy : noRow y = true := by rw [h7]; exact noRow_frz _ _
    have hI2 := h1.drop
    have hk : ∀ q, q ∈ keysD nt D2 (y :: ex) ↔ q ∈ keysD nt D2 ex := fun q => by
     constructor
     ·intro hq
      have := (keysOf_perm (rowsD_ex nt D2 y ex)).mem_iff.1 hq
      rw [rows_noRow hpy] at this; exact this
     ·exact keysD_drop
    have hat : ∀ b ∈ atoms y, AtOk E w D2.nx (fun k => k ∈ keysD nt D2 ex) b := fun b hb => (h1.atoms b (atomsD_ex.2 (.inl hb))).mono (Nat.le_refl _) (fun q hq => (hk q).2 hq)
    have hst : Step E nt D D2 ex ex w a := ⟨hI2, h2, h3, h4, fun q hq => h5 q (keysD_drop hq)⟩
    have hpr : ∀ D', PR E.β D' y u := fun D' => hd_PR (h8 u (hu _ _ _ _ h6))
    split at h
    ·cases h
     have hf := frz_false (nt := nt) (ex := ex) hpy hI.gpb hat
     refine ⟨hst, fun D' => ?_, noRow_frz _ _, fun b hb => (hf b hb).lent, fun _ b hb => hf b hb⟩
     have : hd E.β (frz false y) = some u := by rw [hd_frz E.β false (fun e he => by rw [rows_noRow hpy] at he; cases he)]; exact h8 u (hu _ _ _ _ h6)
     exact hd_PR this
    ·split at h
     ·cases h
      exact ⟨hst, hpr, hpy, fun b hb => (hat b hb).lent, fun _ b hb => hat b hb⟩
     ·cases h
 | .loc _ _, D, D1, x, u, hI, hS, hu, hv, hr, h => by simp [lend] at h
 | .own d k n cs, D, D1, x, u, hI, hS, hu, hv, hr, h => by
   simp only [lend] at h
   split at h
   ·rename_i hn
    cases h
    subst hn
    have hrow := (hr (d, k, 0, cs.map sh) (by simp [rows])).1
    have hcs : cs = [] := by
     cases d with
     | nil => simpa using hrow.2
     | emp A => simpa using hrow.2
     | blk g cap kk => simpa using hrow.2.2.2.1
    subst hcs
    have hat : ∀ b ∈ atoms (frz (decide (md = 2)) (.own d k 0 [])), AtOk E w D.nx (fun k => k ∈ keysD nt D ex) b := by
     intro b hb
     simp only [frz, frzL, atoms, atomsL, List.mem_singleton] at hb
     subst hb
     refine ⟨Nat.zero_le _, ?_⟩
     cases d with
     | nil => exact ⟨rfl, rfl⟩
     | emp A => exact ⟨rfl, fun j x hx => by simp at hx, fun h => absurd rfl h⟩
     | blk g cap kk => exact ⟨rfl, fun j x hx => by simp at hx, fun h => absurd rfl h⟩
    exact ⟨.refl hI hS, fun D' => PR_frz_own hrow hu, noRow_frz _ _, fun b hb => (hat b hb).lent, fun _ b hb => hat b hb⟩
   ·cases h
 | .agg cs, D, D1, x, u, hI, hS, hu, hv, hr, h => by
   simp only [lend] at h
   split at h
   ·rename_i l D' hl
    cases h
    obtain ⟨us, rfl, hus⟩ := hu
    have k := lendL_ok hI hS hus hv hr hl
    exact ⟨k.step, fun D' => ⟨us, rfl, k.pr D'⟩, k.flat, k.all, k.own⟩
   ·cases h
 | .tup cs, D, D1, x, u, hI, hS, hu, hv, hr, h => by
   simp only [lend] at h
   split at h
   ·rename_i l D' hl
    cases h
    obtain ⟨us, rfl, hus⟩ := hu
    have k := lendL_ok hI hS hus hv hr hl
    exact ⟨k.step, fun D' => ⟨us, rfl, k.pr D'⟩, k.flat, k.all, k.own⟩
   ·cases h
 | .fn f l1 l2, D, D1, x, u, hI, hS, hu, hv, hr, h => by
   simp only [lend] at h
   split at h
   ·rename_i a' D2 h1
    split at h
    ·rename_i b' D3 h2
     cases h
     obtain ⟨ua, ub, rfl, hua, hub⟩ := hu
     have k1 := lendL_ok hI hS hua (fun b hb => hv b (by simp only [atoms]; exact List.mem_append_left _ hb)) (fun e he => hr e (by simp only [rows]; exact List.mem_append_left _ he)) h1
     have k2 := lendL_ok k1.step.inv k1.step.slots (PRL_kept k1.step.kept hub) (fun b hb => (hv b (by simp only [atoms]; exact List.mem_append_right _ hb)).mono (Nat.le_of_eq k1.step.nx.symm) k1.step.keys) (fun e he => hr e (by simp only [rows]; exact List.mem_append_right _ he)) h2
     refine ⟨k1.step.trans k2.step, fun D' => ⟨ua, ub, rfl, k1.pr D', k2.pr D'⟩, by simp [noRow, k1.flat, k2.flat], fun b hb => ?_, fun hf b hb => ?_⟩
     ·rcases List.mem_append.1 hb with hb | hb
      ·have := lentEnv_mono k2.step.keys (k1.all b hb)
       rw [k2.step.nx]; exact this
      ·exact k2.all b hb
     ·have hf1 : md ≠ 0 ∨ hasRefL l1 = false := hf.imp id fun h => by simp only [hasRef, Bool.or_eq_false_iff] at h; exact h.1
      have hf2 : md ≠ 0 ∨ hasRefL l2 = false := hf.imp id fun h => by simp only [hasRef, Bool.or_eq_false_iff] at h; exact h.2
      rcases List.mem_append.1 hb with hb | hb
      ·exact (k1.own hf1 b hb).mono (Nat.le_of_eq k2.step.nx.symm) k2.step.keys
      ·exact k2.own hf2 b hb
    ·cases h
   ·cases h
 | .int k n, D, D1, x, u, hI, hS, hu, hv, hr, h => by
   simp only [lend] at h
   exact lent_val (v := .int k n) (u := u) hI hS rfl (fun _ => hu) (fun _ => hu) hv h
 | .bool b, D, D1, x, u, hI, hS, hu, hv, hr, h => by
   simp only [lend] at h
   exact lent_val (v := .bool b) (u := u) hI hS rfl (fun _ => hu) (fun _ => hu) hv h
 | .nilp, D, D1, x, u, hI, hS, hu, hv, hr, h => by
   simp only [lend] at h
   exact lent_val (v := .nilp) (u := u) hI hS rfl (fun _ => hu) (fun _ => hu) hv h
 | .nilf, D, D1, x, u, hI, hS, hu, hv, hr, h => by
   simp only [lend] at h
   exact lent_val (v := .nilf) (u := u) hI hS rfl (fun _ => hu) (fun _ => hu) hv h
 | .bptr b o, D, D1, x, u, hI, hS, hu, hv, hr, h => by
   simp only [lend] at h
   exact lent_val (v := .bptr b o) (u := u) hI hS rfl (fun _ => hu) (fun _ => hu) hv h
 | .ip pm A cs, D, D1, x, u, hI, hS, hu, hv, hr, h => by
   simp only [lend] at h
   exact lent_val (v := .ip pm A cs) (u := u) hI hS rfl (fun _ => hu) (fun _ => hu) hv h
 | .im pm A cap n cs, D, D1, x, u, hI, hS, hu, hv, hr, h => by
   simp only [lend] at h
   exact lent_val (v := .im pm A cap n cs) (u := u) hI hS rfl (fun _ => hu) (fun _ => hu) hv h
 | .dead, D, D1, x, u, hI, hS, hu, hv, hr, h => by
   simp only [lend] at h
   exact lent_val (v := .dead) (u := u) hI hS rfl (fun _ => trivial) (fun _ => trivial) hv h
theorem lendL_ok {md : Nat} : ∀ {l : List V} {D D1 : St} {xs : List V} {us : List Value}, Inv E nt D ex w → SlotsOk E nt D a → PRL E.β D l us → (∀ b ∈ atomsL l, AtOk E w D.nx (fun k => k ∈ keysD nt D ex) b) → (∀ e ∈ rowsL l, RowOk E w e ∧ keyOf e = none) →
 lendL md l D = some (xs, D1) → LentL E nt D D1 ex w a (md ≠ 0 ∨ hasRefL l = false) xs us
 | [], D, D1, xs, us, hI, hS, hu, hv, hr, h => by
   simp only [lendL] at h
   cases h
   exact ⟨.refl hI hS, fun _ => hu, rfl, fun b hb => by simp [atomsL] at hb, fun _ b hb => by simp [atomsL] at hb⟩
 | v :: l, D, D1, xs, us, hI, hS, hu, hv, hr, h => by
   simp only [lendL] at h
   split at h
   ·rename_i y D2 h1
    split at h
    ·rename_i ys D3 h2
     cases h
     obtain ⟨u, us', rfl, hu1, hu2⟩ := hu
     have k1 := lend_ok hI hS hu1 (fun b hb => hv b (List.mem_append_left _ hb)) (fun e he => hr e (List.mem_append_left _ he)) h1
     have k2 := lendL_ok k1.step.inv k1.step.slots (PRL_kept k1.step.kept hu2) (fun b hb => (hv b (List.mem_append_right _ hb)).mono (Nat.le_of_eq k1.step.nx.symm) k1.step.keys) (fun e he => hr e (List.mem_append_right _ he)) h2
     refine ⟨k1.step.trans k2.step, fun D' => ⟨u, us', rfl, k1.pr D', k2.pr D'⟩, by simp [noRowL, k1.flat, k2.flat], fun b hb => ?_, fun hf b hb => ?_⟩
     ·rcases List.mem_append.1 hb with hb | hb
      ·have := lentEnv_mono k2.step.keys (k1.all b hb)
       rw [k2.step.nx]; exact this
      ·exact k2.all b hb
     ·have hf1 : md ≠ 0 ∨ hasRef v = false := hf.imp id fun h => by simp only [hasRefL, Bool.or_eq_false_iff] at h; exact h.1
      have hf2 : md ≠ 0 ∨ hasRefL l = false := hf.imp id fun h => by simp only [hasRefL, Bool.or_eq_false_iff] at h; exact h.2
      rcases List.mem_append.1 hb with hb | hb
      ·exact (k1.own hf1 b hb).mono (Nat.le_of_eq k2.step.nx.symm) k2.step.keys
      ·exact k2.own hf2 b hb
    ·cases h
   ·cases h
end
theorem lendArgs_ok : ∀ {md : List Nat} {l : List V} {D D1 : St} {xs : List V} {us : List Value}, Inv E nt D ex w → SlotsOk E nt D a → PRL E.β D l us → (∀ b ∈ atomsL l, AtOk E w D.nx (fun k => k ∈ keysD nt D ex) b) → (∀ e ∈ rowsL l, RowOk E w e ∧ keyOf e = none) →
 lendArgs md l D = some (xs, D1) → LentL E nt D D1 ex w a (lendsB md l = false) xs us
 | md, [], D, D1, xs, us, hI, hS, hu, hv, hr, h => by
   simp only [lendArgs] at h
   cases h
   exact ⟨.refl hI hS, fun _ => hu, rfl, fun b hb => by simp [atomsL] at hb, fun _ b hb => by simp [atomsL] at hb⟩
 | md, v :: l, D, D1, xs, us, hI, hS, hu, hv, hr, h => by
   simp only [lendArgs] at h
   split at h
   ·rename_i y D2 h1
    split at h
    ·rename_i ys D3 h2
     cases h
     obtain ⟨u, us', rfl, hu1, hu2⟩ := hu
     have k1 := lend_ok hI hS hu1 (fun b hb => hv b (List.mem_append_left _ hb)) (fun e he => hr e (List.mem_append_left _ he)) h1
     have k2 := lendArgs_ok k1.step.inv k1.step.slots (PRL_kept k1.step.kept hu2) (fun b hb => (hv b (List.mem_append_right _ hb)).mono (Nat.le_of_eq k1.step.nx.symm) k1.step.keys) (fun e he => hr e (List.mem_append_right _ he)) h2
     refine ⟨k1.step.trans k2.step, fun D' => ⟨u, us', rfl, k1.pr D', k2.pr D'⟩, by simp [noRowL, k1.flat, k2.flat], fun b hb => ?_, fun hf b hb => ?_⟩
     ·rcases List.mem_append.1 hb with hb | hb
      ·have := lentEnv_mono k2.step.keys (k1.all b hb)
       rw [k2.step.nx]; exact this
      ·exact k2.all b hb
     ·simp only [lendsB, Bool.or_eq_false_iff, Bool.and_eq_false_iff, beq_eq_false_iff_ne] at hf
      rcases List.mem_append.1 hb with hb | hb
      ·exact (k1.own hf.1 b hb).mono (Nat.le_of_eq k2.step.nx.symm) k2.step.keys
      ·exact k2.own hf.2 b hb
    ·cases h
   ·cases h
end Go.Abs
end
