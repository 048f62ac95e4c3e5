/- Joined: AbsPNYB AbsPNYC AbsPNYD AbsPNYE AbsPNYF. -/
import Derived.Test.YtbkhamjlfadfoaaDoorAbs310
import Derived.Test.YtbkhamjlfadfoaaDoorAbs324
import Derived.Test.YtbkhamjlfadfoaaDoorRows
import Derived.ProofKit
import Derived.LaidMore
import Derived.OpenShut
import Derived.Stop.Joined
set_option linter.all false
set_option maxHeartbeats 16000000
namespace Go.Abs
open Go Go.Proofs Go.ChangeShapes Go.WideShapes Go.ChangeAt Go.WideElems Go.RowKit Go.Proofs.YtbkhamjlfadfoaaDoor
theorem own14 : ownKnob Tryd.prog.godebug = none := by kernel_rfl
theorem laidOut14 : laidOutB Tryd.prog = true := by kernel_rfl
theorem gExps : Tryd.prog.globalNamed "privity/field.exps" = some 0 := by kernel_rfl
theorem tExps : (Tryd.prog.globals[0]?).map (·.type) = some 139 := by kernel_rfl
def laid14 : List (String × DataW Unit) := [("privity/field.exps", Rows.laid_privity_field_exps)]
theorem door_met (os : Os) (args : Array Value) : laidMetH Tryd.prog laid14 ((World.doorLaid Tryd.prog 400 os).forCall (fun _ _ => 0) ⟨#[], args, []⟩).memory :=
 laidMetH_of_parts3 (fuel := 8) (laidMet_of_run' 8 (by kernel_rfl) (by kernel_rfl)) (by kernel_rfl) (by kernel_rfl)
theorem of_laid {W : World} (h : laidMetH Tryd.prog laid14 W) : Table W 0 exps14 := by
 rw [MakeChecks.laidMetH_plain _ _ _ (by kernel_rfl)] at h
 obtain ⟨ps, ⟨g0, t0, cs0, f0, p0, q0, hg0, ht0, hv0, hd0, _, _⟩, _, _⟩ := h
 obtain rfl := Option.some.inj (gExps.symm.trans hg0)
 obtain rfl := Option.some.inj (tExps.symm.trans ht0)
 obtain ⟨xs, m1, rfl, hx1, hlen, hn, hel⟩ := DataW.trod_array Tryd.underlying139 hd0
 have c3 : Tryd.prog.cellsOf 3 = 1 := by kernel_rfl
 simp only [Prod.mk.injEq] at hx1
 have hx2 : xs.map (·.1) = exps14.map fun x => DataW.lit (.int .i64 x) := (DataW.agg.inj hx1.1).symm
 intro j x hj
 have hj7 : j < 7 := by
  have := (List.getElem?_eq_some_iff.1 hj).1
  simpa [exps14] using this
 have h := hel j hj7
 have hxj : j < xs.length := by omega
 rw [c3, Nat.mul_one, List.getElem?_eq_getElem hxj] at h
 obtain ⟨k, e1, e2, _⟩ := DataW.trod_int Tryd.underlying3 h
 have hk : k = x := by
  have e3 := congrArg (fun l => l[j]?) hx2
  simp only [List.getElem?_map, hj, List.getElem?_eq_getElem hxj, Option.map_some, Option.some.injEq] at e3
  rw [e2] at e3
  simpa using e3
 subst hk
 have hc := World.var?_cell hg0 hv0 j
 rw [hc]
 have h0 : (cs0.toList.drop j)[0]? = some (.int .i64 k) := by
  have : ((cs0.toList.drop j).take 1)[0]? = some (.int .i64 k) := by rw [e1]; rfl
  rwa [List.getElem?_take_of_lt (by omega)] at this
 rw [List.getElem?_drop, Nat.add_zero, Array.getElem?_toList] at h0
 exact h0
end Go.Abs
noncomputable section
namespace Go.Abs
open Go Go.Proofs
set_option maxRecDepth 100000
section
variable {b g t g' N k nx : Nat} {σ : NetS} {tb O : List (Nat × Box)} {w : RD} {q q' : Int} {n : Int} {r : V}
end
@[simp] theorem rspsV_length (l : List RSp) : (rspsV l).length = l.length * 2 := by
 induction l with
 | nil => rfl
 | cons r l ih => show (rspC r ++ rspsV l).length = _; rw [List.length_append, ih]; simp [rspC]; omega
structure Around (nx b : Nat) (tp : List Nat) (c : Box) (O : List (Nat × Box)) (x : Nat) : Prop where
 g : getBox O nx = some c
 o : ∀ e ∈ O, nx ≤ e.1 ∧ e.1 < x ∧ e.1 ∉ b :: tp
 t : ∀ y ∈ b :: tp, nx ≤ y ∧ y < x
section
variable {nx b x : Nat} {tp : List Nat} {c c' : Box} {O tb : List (Nat × Box)} {σ σ' : NetS}
theorem Around.get (h : Around nx b tp c O x) : getBox (O ++ (b, ⟨0, netC σ⟩) :: tb) nx = some c := getBox_app_old h.g
theorem Around.mem (h : Around nx b σ.tp c O x) (hT : TB b σ.tp tb) : ∀ e ∈ O ++ (b, (⟨0, netC σ⟩ : Box)) :: tb, nx ≤ e.1 ∧ e.1 < x := fun e he => by
 rcases List.mem_append.1 he with he | he
 ·exact ⟨(h.o e he).1, (h.o e he).2.1⟩
 ·exact h.t _ (net_keys hT e he)
variable {P : Program} {H : Hint} {f k N : Nat} {xs : List V} {r : V}
theorem Around.call (h : Around nx b σ.tp c O x) (hT : TB b σ.tp tb) (hl : 1 ≤ tb.length) (h' : σ'.tp = σ.tp) (hans : AnsM N P H f xs ((b, ⟨0, netC σ⟩) :: tb) r ((b, ⟨0, netC σ'⟩) :: tb)) (hk : N ≤ k) (hp : ptrsL xs = [b]) (hX : H.X f xs = none) (s : Nat → V) (dst : Option Nat) :
 doCallB H (evCall P H k) f false xs ⟨s, O ++ (b, ⟨0, netC σ⟩) :: tb, x⟩ dst = some ((St.mk (fun i => killB (b :: σ.tp) x (s i)) (O ++ (b, ⟨0, netC σ'⟩) :: tb) x).lay dst r) := by
 have := netCall (O1 := O) (O2 := []) hT hl (fun e he => (h.o e (by rwa [List.append_nil] at he)).2.2) h' hans hk hp hX (fun e he => (h.t _ (net_keys hT e he)).2) s dst
 simpa only [List.append_nil] using this
end
def firsts (ms : List MD) : List RD := ms.map fun m => m.l[0]?.getD ⟨false, none, 0, []⟩
@[simp] theorem firsts_length (ms : List MD) : (firsts ms).length = ms.length := by simp [firsts]
theorem net0_around (s : Scn) (nx : Nat) (c c' : Box) : Around nx (nx + 2) (net0 s (nx + 1) s.tapes.length).tp c [(nx, c), (nx + 1, c')] (nx + 1 + (2 + s.tapes.length)) := by
 refine ⟨by simp [getBox], fun e he => ?_, fun y hy => ?_⟩
 ·have hk : e.1 = nx ∨ e.1 = nx + 1 := by
   simp only [List.mem_cons, List.not_mem_nil, or_false] at he
   rcases he with rfl | rfl <;> simp
  refine ⟨by omega, by omega, fun hx => ?_⟩
  rcases List.mem_cons.1 hx with hx | hx
  ·omega
  ·obtain ⟨j, hj, hje⟩ := List.mem_map.1 (show e.1 ∈ (List.range s.tapes.length).map (nx + 1 + 2 + ·) from hx)
   omega
 ·rcases List.mem_cons.1 hy with rfl | hy
  ·exact ⟨by omega, by omega⟩
  ·obtain ⟨j, hj, rfl⟩ := List.mem_map.1 (show y ∈ (List.range s.tapes.length).map (nx + 1 + 2 + ·) from hy)
   have := List.mem_range.1 hj
   exact ⟨by omega, by omega⟩
theorem netM_at (F : RD → List V) (s : Scn) (a : Nat) : netM F s a s.tapes.length = (a, ⟨0, scL s⟩) :: (a + 1, ⟨0, netC (net0 s a s.tapes.length)⟩) :: tapB F (a + 2) s.tapes := by
 unfold netM
 rw [List.take_length]
@[simp] theorem ptrsL_rspsV (l : List RSp) : ptrsL (rspsV l) = [] := by
 induction l with
 | nil => rfl
 | cons r l ih =>
   show ptrs (.bool r.cast) ++ (ptrs (.im false r.A r.cap r.ms.length (msV r.ms)) ++ ptrsL (rspsV l)) = []
   rw [ih]; simp [ptrs]
theorem rsV_lent2 (b : Bool) (rs : List RD) : frzL false (frzL b (rsV rs)) = rsV (rs.map lent) := by
 induction rs with
 | nil => rfl
 | cons r l ih => show frz false (frz b (rV r)) :: frzL false (frzL b (rsV l)) = rV (lent r) :: rsV (l.map lent); rw [ih]; simp [rV, frz, lent]
end Go.Abs
end
