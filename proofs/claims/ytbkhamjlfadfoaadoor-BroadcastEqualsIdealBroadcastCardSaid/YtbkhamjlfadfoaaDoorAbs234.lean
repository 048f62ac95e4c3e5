/- Joined: AbsQJ AbsPV AbsPW AbsQK AbsQL0 AbsQM. -/
import Derived.Test.YtbkhamjlfadfoaaDoorAbs228
import Derived.Test.YtbkhamjlfadfoaaDoorAbs230
import Derived.Test.YtbkhamjlfadfoaaDoorAbs231
import Derived.Test.YtbkhamjlfadfoaaDoorAbs232
import Derived.Test.YtbkhamjlfadfoaaDoorAbs233
set_option linter.all false
set_option linter.unusedVariables false
noncomputable section
namespace Go.Abs
open Go Go.Proofs
set_option maxRecDepth 100000
theorem hpL_sorted (c : List Int) : ∀ n, (hpL c n).Pairwise (· < ·)
  | 0 => List.Pairwise.nil
  | n + 1 => by
    rw [hpL_succ]
    by_cases h : ((n : Int) + 1) ∈ c
    · rw [if_pos h, List.append_nil]; exact hpL_sorted c n
    · rw [if_neg h, List.pairwise_append]
      refine ⟨hpL_sorted c n, List.pairwise_singleton _ _, fun x hx y hy => ?_⟩
      rw [List.mem_singleton] at hy
      obtain ⟨f, hf, rfl, _⟩ := hpL_mem hx
      omega
theorem hpL_get {c : List Int} {n i : Nat} (h : i < (hpL c n).length) : ∃ f : Nat, f < n ∧ (hpL c n)[i] = (f : Int) + 1 ∧ ((f : Int) + 1) ∉ c := hpL_mem (List.getElem_mem h)
theorem hpL_lt {c : List Int} {n i j : Nat} (hi : i < j) (hj : j < (hpL c n).length) : (hpL c n)[i] < (hpL c n)[j] := List.pairwise_iff_getElem.1 (hpL_sorted c n) i j (by omega) hj hi
def dvP (z : Play) (l : List Dev) : Play := { z with s := { z.s with devs := l, dpm := true, dA := none, dcap := 0 } }
end Go.Abs
end
set_option linter.unusedVariables false
noncomputable section
namespace Go.Abs
open Go Go.Proofs
set_option maxRecDepth 100000
def phasesR (n t : Nat) (a : Ph) : Nat → Ph
  | 0 => a
  | k + 1 => phaseR n t k (phasesR n t a k)
end Go.Abs
end
set_option linter.unusedVariables false
noncomputable section
namespace Go.Abs
open Go Go.Proofs
set_option maxRecDepth 100000
structure LikeW (σ τ : NetS) : Prop where
  p : τ.scn.p = σ.scn.p
  c : τ.scn.corrupt = σ.scn.corrupt
  d : τ.scn.devs = σ.scn.devs
  r : τ.round = σ.round
theorem LikeW.said {σ τ : NetS} (h : LikeW σ τ) (n : Nat) (L : List (List Nat)) : saidE τ n L = saidE σ n L := by
  unfold saidE netSaid
  rw [h.p, h.c, h.d, h.r]
theorem LikeW.sent {σ τ : NetS} (h : LikeW σ τ) (n : Nat) (L : List (List Nat)) : LikeW (sentE σ n L) (rsent τ n L) := by
  obtain ⟨a1, _, _, a4⟩ := like_sentS cpW (saidE σ n L) n σ
  obtain ⟨b1, _, _, b4⟩ := like_sentS lnW (saidE τ n L) n τ
  exact ⟨(congrArg (·.p) b1).trans (h.p.trans (congrArg (·.p) a1).symm), (congrArg (·.corrupt) b1).trans (h.c.trans (congrArg (·.corrupt) a1).symm), (congrArg (·.devs) b1).trans (h.d.trans (congrArg (·.devs) a1).symm), b4.trans ((congrArg (· + 1) h.r).trans a4.symm)⟩
abbrev AllQ : Nat → Prop := fun _ => True
theorem LikeW.alike {σ τ : NetS} (h : LikeW σ τ) {n : Nat} (al : Alike n AllQ σ τ) (L : List (List Nat)) : Alike n AllQ (sentE σ n L) (rsent τ n L) := by
  unfold sentE rsent
  rw [h.said]
  exact alike_sent al h.r cpW lnW (fun _ => rfl) fun _ _ _ _ _ => rfl
section
variable {n t k : Nat} {a a' : Ph} {H : Nat → Bool}
theorem phase_ref (hw : LikeW a.σ a'.σ) (hv : a'.vs = a.vs) (al : Alike n AllQ a.σ a'.σ) (hlk : ∀ w, w < n → lock2 n t (hS (phB n t a)) w = ((leastS n (hS (phB n t a) w) (t + 1)).isSome && decide (n - t ≤ votes n (hS (phB n t a) w) (val2 n t (vF a.vs) (hS (phB n t a)) w)))) :
    LikeW (phase n t k a).σ (phaseR n t k a').σ ∧ (phaseR n t k a').vs = (phase n t k a).vs ∧ Alike n AllQ (phase n t k a).σ (phaseR n t k a').σ := by
  have eA : rfA n a' = phA n a := by unfold rfA phA; rw [hv, hw.said]
  have w1 : LikeW (phσ1 n a) (rf1 n a') := by unfold phσ1 rf1; rw [hv]; exact hw.sent n _
  have l1 : Alike n AllQ (phσ1 n a) (rf1 n a') := by unfold phσ1 rf1; rw [hv]; exact hw.alike al _
  have eB : rfB n t a' = phB n t a := by unfold rfB phB; rw [eA, w1.said]
  have w2 : LikeW (phσ2 n t a) (rf2 n t a') := by unfold phσ2 rf2; rw [eA]; exact w1.sent n _
  have l2 : Alike n AllQ (phσ2 n t a) (rf2 n t a') := by unfold phσ2 rf2; rw [eA]; exact w1.alike l1 _
  have eV : rfV n t a' = phV n t a := by unfold rfV phV; rw [eB, hv]
  have eC : rfC n t k a' = phC n t k a := by unfold rfC phC; rw [eV, w2.said]
  have w3 : LikeW (phσ3 n t k a) (rf3 n t k a') := by unfold phσ3 rf3; rw [eV]; exact w2.sent n _
  have l3 : Alike n AllQ (phσ3 n t k a) (rf3 n t k a') := by unfold phσ3 rf3; rw [eV]; exact w2.alike l2 _
  refine ⟨w3, ?_, l3⟩
  show (List.range n).map (rfO n t k a') = (List.range n).map (out3 n t k (vF a.vs) (hS (phB n t a)) (hS (phC n t k a)))
  refine List.map_congr_left fun w hw' => ?_
  have hw' := List.mem_range.1 hw'
  unfold rfO rfL out3
  rw [eB, eC, hv, hlk w hw']
end
theorem phases_ref {N b n t : Nat} {tb : List (Nat × Box)} {s : Scn} {tp : List Nat} {a a' : Ph} {H : Nat → Bool} (h : PhO N b n t tb s tp a) (hn : s.n = (n : Int)) (g : Good n t H) (hh : Hears s n H) (hw : LikeW a.σ a'.σ) (hv : a'.vs = a.vs) (al : Alike n AllQ a.σ a'.σ) :
    ∀ k, k ≤ t + 1 → LikeW (phases n t a k).σ (phasesR n t a' k).σ ∧ (phasesR n t a' k).vs = (phases n t a k).vs ∧ Alike n AllQ (phases n t a k).σ (phasesR n t a' k).σ
  | 0, _ => ⟨hw, hv, al⟩
  | k + 1, hk => by
    obtain ⟨i1, i2, i3⟩ := phases_ref h hn g hh hw hv al k (by omega)
    have g3 := g.third
    have r := run_of h hn (by omega) hh (t + 1) (by omega)
    exact phase_ref i1 i2 i3 fun w hw' => lock_ref g (r.s1 k (by omega)) (r.s2 k (by omega)) hw'
def nwR (s : Scn) (x : Nat) : NetS := net0 (lentS s) x (lentS s).tapes.length
theorem nw_like (s : Scn) (nx x n : Nat) (hn : s.n = (n : Int)) : LikeW (nwO s nx) (nwR s x) ∧ Alike n AllQ (nwO s nx) (nwR s x) := by
  refine ⟨⟨rfl, rfl, rfl, rfl⟩, fun w hw _ => ⟨[], [], ?_, ?_, rfl⟩⟩
  · show (List.replicate s.n.toNat ([] : List Ev))[w]? = _
    rw [hn]; simp [hw]
  · show (List.replicate (lentS s).n.toNat ([] : List Ev))[w]? = _
    show (List.replicate s.n.toNat ([] : List Ev))[w]? = _
    rw [hn]; simp [hw]
end Go.Abs
end
set_option linter.unusedVariables false
noncomputable section
namespace Go.Abs
open Go Go.Proofs
set_option maxRecDepth 100000
end Go.Abs
end
set_option linter.unusedVariables false
noncomputable section
namespace Go.Abs
open Go Go.Proofs
set_option maxRecDepth 100000
def rRun (n t : Nat) (hd : Nat → Nat → List Nat) (i k : Nat) (s : BS) : Ph := phasesR n t ⟨s.σ, (List.range n).map fun j => vF (hd j i) k⟩ (t + 1)
def rStep (n t : Nat) (hd : Nat → Nat → List Nat) (i k : Nat) (s : BS) : BS := ⟨(rRun n t hd i k s).σ, fun j => addT (s.tk j) i (vF (rRun n t hd i k s).vs j)⟩
def rRow (n t : Nat) (hd : Nat → Nat → List Nat) (i : Nat) (s : BS) : Nat → BS
  | 0 => s
  | k + 1 => rStep n t hd i k (rRow n t hd i s k)
def rAll (n t : Nat) (hd : Nat → Nat → List Nat) (ln : Nat → Nat) (s : BS) : Nat → BS
  | 0 => s
  | i + 1 => rRow n t hd i (rAll n t hd ln s i) (ln i)
section
variable {N b n t : Nat} {tb : List (Nat × Box)} {s : Scn} {tp : List Nat} {hd : Nat → Nat → List Nat}
end
def rEnd (n t : Nat) (σ : NetS) (rs : List RD) (ls : List Int) : BS := rAll n t (hrd (saidE σ n (sayL n rs ls)) ls) (lnF ls) ⟨rsent σ n (sayL n rs ls), fun _ _ => []⟩ n
end Go.Abs
end
set_option linter.unusedVariables false
noncomputable section
namespace Go.Abs
open Go Go.Proofs
set_option maxRecDepth 100000
structure LikeB (n : Nat) (y y' : BS) : Prop where
  w : LikeW y.σ y'.σ
  t : y'.tk = y.tk
  a : Alike n AllQ y.σ y'.σ
section
variable {N b n t : Nat} {tb : List (Nat × Box)} {s : Scn} {tp : List Nat} {hd : Nat → Nat → List Nat} {H : Nat → Bool}
theorem phO_start {z : BS} (h : NetO N b tb s tp z.σ) (hp : ∀ j i, ∀ x ∈ hd j i, x < s.p) (i k : Nat) : PhO N b n t tb s tp ⟨z.σ, (List.range n).map fun j => vF (hd j i) k⟩ := by
  have p0 : 0 < s.p := by have := h.I.p0; rwa [h.s] at this
  exact ⟨h, map_len _ _, fun x hx => by
    obtain ⟨j, _, rfl⟩ := List.mem_map.1 hx
    exact vF_lt p0 (hp j i) k⟩
theorem bStep_ref {y y' : BS} (h : NetO N b tb s tp y.σ) (hn : s.n = (n : Int)) (g : Good n t H) (hh : Hears s n H) (hp : ∀ j i, ∀ x ∈ hd j i, x < s.p) (i k : Nat) (L : LikeB n y y') : LikeB n (bStep n t hd i k y) (rStep n t hd i k y') := by
  obtain ⟨q1, q2, q3⟩ := phases_ref (a' := ⟨y'.σ, (List.range n).map fun j => vF (hd j i) k⟩) (phO_start (t := t) h hp i k) hn g hh L.w rfl L.a (t + 1) (Nat.le_refl _)
  refine ⟨q1, ?_, q3⟩
  funext j
  show addT (y'.tk j) i (vF (rRun n t hd i k y').vs j) = addT (y.tk j) i (vF (bRun n t hd i k y).vs j)
  have e : (rRun n t hd i k y').vs = (bRun n t hd i k y).vs := q2
  rw [e, L.t]
theorem bRow_ref {y y' : BS} (h : NetO N b tb s tp y.σ) (hn : s.n = (n : Int)) (htn : t < n) (g : Good n t H) (hh : Hears s n H) (hp : ∀ j i, ∀ x ∈ hd j i, x < s.p) (i : Nat) (L : LikeB n y y') : ∀ k, LikeB n (bRow n t hd i y k) (rRow n t hd i y' k)
  | 0 => L
  | k + 1 => bStep_ref (bRow_ok h hn htn hp i k).1 hn g hh hp i k (bRow_ref h hn htn g hh hp i L k)
theorem bAll_ref {ln : Nat → Nat} {y y' : BS} (h : NetO N b tb s tp y.σ) (hn : s.n = (n : Int)) (htn : t < n) (g : Good n t H) (hh : Hears s n H) (hp : ∀ j i, ∀ x ∈ hd j i, x < s.p) (L : LikeB n y y') : ∀ i, LikeB n (bAll n t hd ln y i) (rAll n t hd ln y' i)
  | 0 => L
  | i + 1 => bRow_ref (bAll_ok h hn htn hp i).1 hn htn g hh hp i (bAll_ref h hn htn g hh hp L i) (ln i)
end
def qEnd (z : Play) (x n t : Nat) : BS := rEnd n t (nwR z.s x) z.rs z.ls
section
variable {z : Play} {n t N nx x : Nat}
theorem PlayOk.like (o : PlayOk z n t N) (nx x : Nat) : LikeB n (pEnd z nx n t) (qEnd z x n t) := by
  obtain ⟨w0, a0⟩ := nw_like z.s nx x n o.hn
  have hs : saidE (nwR z.s x) n (sayL n z.rs z.ls) = saidE (nwO z.s nx) n (sayL n z.rs z.ls) := w0.said n _
  have h1 := (o.z1 nx).1
  rw [pEnd_eq]
  unfold qEnd rEnd
  rw [hs]
  exact bAll_ref h1 o.hn (show t < n by have := o.h3; omega) o.good o.hears (o.hdp nx) (y' := ⟨rsent (nwR z.s x) n (sayL n z.rs z.ls), fun _ _ => []⟩) ⟨w0.sent n (sayL n z.rs z.ls), rfl, w0.alike a0 (sayL n z.rs z.ls)⟩ n
end
end Go.Abs
end
