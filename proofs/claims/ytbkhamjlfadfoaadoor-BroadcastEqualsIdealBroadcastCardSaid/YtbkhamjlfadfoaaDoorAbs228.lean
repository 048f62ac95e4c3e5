/- Joined: AbsPD AbsPE AbsPF AbsPG AbsPT AbsPH AbsPR AbsPS AbsPU. -/
import Derived.Test.YtbkhamjlfadfoaaDoorAbs210
import Derived.Test.YtbkhamjlfadfoaaDoorAbs225
import Derived.Test.YtbkhamjlfadfoaaDoorAbs227
set_option linter.all false
set_option linter.unusedVariables false
noncomputable section
namespace Go.Abs
open Go Go.Proofs
set_option maxRecDepth 100000
def hon (s : Scn) (f : Nat) : Bool := decide (((f : Int) + 1) ∉ s.corrupt)
theorem eachL_at {n : Nat} {L : List (List Nat)} {f w : Nat} (hw : w < n) : at2 (eachL n L) f w = L[f]? := by
  unfold at2 eachL
  rw [List.getElem?_map]
  cases L[f]? with
  | none => rfl
  | some l => simp [hw]
structure Hears (s : Scn) (n : Nat) (H : Nat → Bool) : Prop where
  d : ∀ x ∈ s.devs, DevP (n : Int) x
  h : s.devs = [] ∨ ∀ f, f < n → H f = true → ((f : Int) + 1) ∉ s.corrupt
theorem hS_said {s : Scn} {σ : NetS} (hs : σ.scn = s) {n : Nat} {H : Nat → Bool} (hh : Hears s n H) {L : List (List Nat)} {w f : Nat} (hw : w < n) (hf : f < n) (hH : H f = true) (l : List Nat) (hl : L[f]? = some l) : hS (saidE σ n L) w f = l := by
  unfold hS saidE netSaid
  rw [sw_at2, hs]
  rcases hh.h with h0 | h1
  · rw [h0]
    show (at2 (eachL n L) f w).getD [] = l
    rw [eachL_at hw, hl]; rfl
  · rw [msg_honest hh.d hw (.inl (h1 f hf hH)), eachL_at hw, hl]; rfl
theorem one1_get {vs : List Nat} {n f : Nat} (h : vs.length = n) (hf : f < n) : (one1 vs)[f]? = some [vF vs f] := by
  have : f < vs.length := by omega
  unfold one1 vF
  rw [List.getElem?_map, List.getElem?_eq_getElem this]; rfl
theorem vF_map {n f : Nat} (g : Nat → Nat) (hf : f < n) : vF ((List.range n).map g) f = g f := by
  unfold vF
  rw [List.getElem?_map, List.getElem?_range hf]; rfl
section
variable {N b n t : Nat} {tb : List (Nat × Box)} {s : Scn} {tp : List Nat} {a : Ph} {H : Nat → Bool}
theorem run_of (h : PhO N b n t tb s tp a) (hn : s.n = (n : Int)) (htn : t < n) (hh : Hears s n H) (K : Nat) (hK : K ≤ n) :
    Run n t H K (fun k f => vF (phases n t a k).vs f) (fun k => hS (phA n (phases n t a k))) (fun k => hS (phB n t (phases n t a k))) (fun k => hS (phC n t k (phases n t a k))) := by
  refine ⟨fun k hk w f hw hf hH => ?_, fun k hk w f hw hf hH => ?_, fun k hk w f hw hf hH => ?_, fun k hk w hw => ?_⟩
  · obtain ⟨hP, _⟩ := h.phases hn htn k
    exact hS_said hP.o.s hh hw hf hH _ (one1_get hP.l hf)
  · obtain ⟨hP, _⟩ := h.phases hn htn k
    have F := hP.facts hn htn k
    exact hS_said F.o1.s hh hw hf hH _ (by unfold prL; rw [List.getElem?_map, List.getElem?_range hf]; rfl)
  · obtain ⟨hP, _⟩ := h.phases hn htn k
    have F := hP.facts hn htn k
    refine hS_said F.o2.s hh hw hf hH _ ?_
    unfold kiL phV vaL
    rw [List.getElem?_map, List.getElem?_range hf, vF_map _ (show k < n by omega)]
    rfl
  · exact vF_map _ hw
end
theorem cnt_one (a : Int) : ∀ n : Nat, (List.range n).countP (fun f : Nat => decide ((f : Int) + 1 = a)) = if 1 ≤ a ∧ a ≤ (n : Int) then 1 else 0
  | 0 => by
    have : ¬ (1 ≤ a ∧ a ≤ ((0 : Nat) : Int)) := by omega
    rw [if_neg this]; rfl
  | n + 1 => by
    rw [List.range_succ, List.countP_append, cnt_one a n]
    by_cases h : (n : Int) + 1 = a
    · have h1 : ¬ (1 ≤ a ∧ a ≤ (n : Int)) := by omega
      have h2 : 1 ≤ a ∧ a ≤ ((n + 1 : Nat) : Int) := by omega
      rw [if_neg h1, if_pos h2]; simp [h]
    · by_cases h1 : 1 ≤ a ∧ a ≤ (n : Int)
      · have h2 : 1 ≤ a ∧ a ≤ ((n + 1 : Nat) : Int) := by omega
        rw [if_pos h1, if_pos h2]; simp [h]
      · have h2 : ¬ (1 ≤ a ∧ a ≤ ((n + 1 : Nat) : Int)) := by omega
        rw [if_neg h1, if_neg h2]; simp [h]
theorem cnt_or {q r : Nat → Bool} (l : List Nat) : l.countP (fun f => q f || r f) ≤ l.countP q + l.countP r := by
  induction l with
  | nil => simp
  | cons a l ih =>
    simp only [List.countP_cons]
    cases q a <;> cases r a <;> simp <;> omega
theorem cnt_mem (n : Nat) : ∀ l : List Int, (List.range n).countP (fun f : Nat => decide ((f : Int) + 1 ∈ l)) ≤ l.length
  | [] => by simp
  | a :: l => by
    have h1 := cnt_or (q := fun f => decide ((f : Int) + 1 = a)) (r := fun f => decide ((f : Int) + 1 ∈ l)) (List.range n)
    have h2 := cnt_one a n
    have h3 := cnt_mem n l
    have h4 : (fun f : Nat => decide ((f : Int) + 1 ∈ a :: l)) = fun f : Nat => decide ((f : Int) + 1 = a) || decide ((f : Int) + 1 ∈ l) := by
      funext f; simp
    rw [h4, List.length_cons]
    have h5 : (List.range n).countP (fun f : Nat => decide ((f : Int) + 1 = a)) ≤ 1 := by rw [h2]; split <;> omega
    omega
theorem good_of {s : Scn} {n t : Nat} (ht : s.t = (t : Int)) (hc : (s.corrupt.length : Int) ≤ s.t) (h3 : 3 * t < n) : Good n t (hon s) := by
  refine ⟨?_, h3⟩
  have h := cnt_mem n s.corrupt
  have e : (fun f => !hon s f) = fun f : Nat => decide ((f : Int) + 1 ∈ s.corrupt) := by
    funext f; simp [hon]
  show (List.range n).countP (fun f => !hon s f) ≤ t
  rw [e]; omega
theorem hears_hon {s : Scn} {n : Nat} (hn : s.n = (n : Int)) (hd : ∀ x ∈ s.devs, DevP s.n x) : Hears s n (hon s) := ⟨fun x hx => hn ▸ hd x hx, .inr fun f _ h => by simpa [hon] using h⟩
theorem hears_all {s : Scn} (hd : s.devs = []) (n : Nat) : Hears s n (fun _ => true) := ⟨fun x hx => (by rw [hd] at hx; cases hx), .inl hd⟩
section
variable {N b n t : Nat} {tb : List (Nat × Box)} {s : Scn} {tp : List Nat} {a : Ph} {H : Nat → Bool}
theorem phases_agree (h : PhO N b n t tb s tp a) (hn : s.n = (n : Int)) (g : Good n t H) (hh : Hears s n H) : ∃ x, ∀ f, f < n → H f = true → vF (phases n t a (t + 1)).vs f = x :=
  Run.agree g (run_of h hn (by have := g.third; omega) hh (t + 1) (by have := g.third; omega))
theorem phases_valid (h : PhO N b n t tb s tp a) (hn : s.n = (n : Int)) (g : Good n t H) (hh : Hears s n H) {x : Nat} (hx : ∀ f, f < n → H f = true → vF a.vs f = x) : ∀ f, f < n → H f = true → vF (phases n t a (t + 1)).vs f = x :=
  Run.valid g (run_of h hn (by have := g.third; omega) hh (t + 1) (by have := g.third; omega)) hx
end
end Go.Abs
end
set_option linter.unusedVariables false
noncomputable section
namespace Go.Abs
open Go Go.Proofs
set_option maxRecDepth 100000
structure ScnT (s : Scn) : Prop where
  c : s.cpm = true
  d : s.dpm = true
  t : s.tpm = true
  r : ∀ x ∈ s.tapes, x.pm = true
theorem ScnT.net0 {s : Scn} (h : ScnT s) (nx i : Nat) : NetT (net0 s nx i) := ⟨h.c, h.d, h.t, h.r, fun v hv e he => by
  have : v = [] := (List.mem_replicate.1 (show v ∈ List.replicate s.n.toNat [] from hv)).2
  subst this; cases he⟩
def tbO (s : Scn) (nx : Nat) : List (Nat × Box) := tapB (fun w => tapeC w 0) (nx + 3) s.tapes
theorem ScnT.tbO {s : Scn} (h : ScnT s) (nx : Nat) : ∀ e ∈ tbO s nx, noBorL e.2.cs = true := by
  have key : ∀ (l : List RD) (n : Nat), (∀ x ∈ l, x.pm = true) → ∀ e ∈ tapB (fun w => tapeC w 0) n l, noBorL e.2.cs = true := by
    intro l
    induction l with
    | nil => intro n _ e he; cases he
    | cons w l ih =>
      intro n hl e he
      rcases List.mem_cons.1 he with rfl | he
      · have := hl w List.mem_cons_self
        show noBorL (tapeC w 0) = true
        simp [tapeC, rV, noBorL, noBor, this]
      · exact ih _ (fun x hx => hl x (List.mem_cons_of_mem _ hx)) e he
  exact key _ _ h.r
def nwO (s : Scn) (nx : Nat) : NetS := net0 s (nx + 1) s.tapes.length
theorem nwO_I {s : Scn} {N : Nat} (hs : ScnS s) (hN : SendN (lentS s) N) (nx : Nat) : NetI N (nx + 2) (nwO s nx) (tbO s nx) := by
  have h4 := scnS_n hs
  have hl : (s.tapes.length : Int) = s.n := hs.2.1
  exact net0_I _ (fun w => ptrsL_tapeC w 0) s (nx + 1) hs hN (scnS_pq hs) h4.2 (by omega)
theorem nwO_A (s : Scn) (nx : Nat) (c c' : Box) : Around nx (nx + 2) (nwO s nx).tp c [(nx, c), (nx + 1, c')] (nx + (3 + s.tapes.length)) := by
  have := net0_around s nx c c'
  rwa [show nx + 1 + (2 + s.tapes.length) = nx + (3 + s.tapes.length) by omega] at this
end Go.Abs
end
set_option linter.unusedVariables false
noncomputable section
namespace Go.Abs
open Go Go.Proofs
set_option maxRecDepth 100000
end Go.Abs
end
set_option linter.unusedVariables false
noncomputable section
namespace Go.Abs
open Go Go.Proofs
set_option maxRecDepth 100000
def rt (l : List Nat) : RD := ⟨true, none, 0, l⟩
end Go.Abs
end
set_option linter.unusedVariables false
noncomputable section
namespace Go.Abs
open Go Go.Proofs
set_option maxRecDepth 100000
theorem rd_wordsT {k : Nat} {vs : List V} (h : ShT Tryd.prog (k + 1 + 1) 30 vs) : ∃ r : RD, (r.pm = true ∧ ∀ x ∈ r.l, x < 18446744073709551616) ∧ vs = [rV r] := by
  obtain ⟨A, cap, l, h1, h2, rfl⟩ := sh_wordsT Tryd.underlying30 Tryd.underlying22 ce22 h
  exact ⟨⟨true, A, cap, l⟩, ⟨rfl, h2⟩, rfl⟩
theorem rd_intsT {k : Nat} {vs : List V} (h : ShT Tryd.prog (k + 1 + 1) 25 vs) : ∃ A cap l, vs = [.im true A cap l.length (iL l)] := by
  obtain ⟨A, cap, l, h1, h2, h3⟩ := sh_sliceT (fun x : Int => [V.int .i64 x]) (fun _ => True) Tryd.underlying25 ce3 (fun c h => by
    obtain ⟨x, _, he⟩ := sh_i64T Tryd.underlying3 h
    exact ⟨x, trivial, he⟩) h
  rw [← flat_iL] at h3
  exact ⟨A, cap, l, h3⟩
theorem rd_rowsT {k : Nat} {vs : List V} (h : ShT Tryd.prog (k + 1 + 1 + 1) 27 vs) : ∃ A cap, ∃ l : List RD, (∀ r ∈ l, r.pm = true) ∧ vs = [.im true A cap l.length (rsV l)] := by
  obtain ⟨A, cap, l, h1, h2, h3⟩ := sh_sliceT (fun x : RD => [rV x]) (fun r => r.pm = true ∧ ∀ x ∈ r.l, x < 18446744073709551616) Tryd.underlying27 ce30 (fun c h => rd_wordsT h) h
  rw [← flat_rsV] at h3
  exact ⟨A, cap, l, fun r hr => (h2 r hr).1, h3⟩
theorem rd_paramsT {k : Nat} {vs : List V} (h : ShT Tryd.prog (k + 1 + 1) 24 vs) : ∃ (p : Nat) (n t : Int), p < 18446744073709551616 ∧ vs = [.int .u64 (p : Int), .int .i64 n, .int .i64 t] := by
  unfold ShT at h
  rw [Tryd.underlying24] at h
  obtain ⟨hl, hf⟩ := h
  rw [ce24] at hl
  match vs, hl with
  | [a, b, c], _ =>
    simp [ce22, ce3] at hf
    obtain ⟨h0, h1, h2⟩ := hf
    obtain ⟨p, hp, e0⟩ := sh_u64T Tryd.underlying22 h0
    obtain ⟨n, _, e1⟩ := sh_i64T Tryd.underlying3 h1
    obtain ⟨t, _, e2⟩ := sh_i64T Tryd.underlying3 h2
    simp at e0 e1 e2
    exact ⟨p, n, t, hp, by simp [e0, e1, e2]⟩
theorem rd_devT {k : Nat} {vs : List V} (h : ShT Tryd.prog (k + 1 + 1) 45 vs) : ∃ x : Dev, x.k < 18446744073709551616 ∧ vs = devL x := by
  unfold ShT at h
  rw [Tryd.underlying45] at h
  obtain ⟨hl, hf⟩ := h
  rw [ce45] at hl
  match vs, hl with
  | [a, b, c, d, e, f, g, i], _ =>
    simp [ce22, ce3] at hf
    obtain ⟨h0, h1, h2, h3, h4, h5, h6, h7⟩ := hf
    obtain ⟨x0, _, e0⟩ := sh_i64T Tryd.underlying3 h0
    obtain ⟨x1, _, e1⟩ := sh_i64T Tryd.underlying3 h1
    obtain ⟨x2, _, e2⟩ := sh_i64T Tryd.underlying3 h2
    obtain ⟨x3, _, e3⟩ := sh_i64T Tryd.underlying3 h3
    obtain ⟨x4, _, e4⟩ := sh_i64T Tryd.underlying3 h4
    obtain ⟨x5, hk, e5⟩ := sh_u64T Tryd.underlying22 h5
    obtain ⟨x6, _, e6⟩ := sh_i64T Tryd.underlying3 h6
    obtain ⟨x7, _, e7⟩ := sh_i64T Tryd.underlying3 h7
    simp at e0 e1 e2 e3 e4 e5 e6 e7
    exact ⟨⟨x0, x1, x2, x3, x4, x5, x6, x7⟩, hk, by simp [devL, e0, e1, e2, e3, e4, e5, e6, e7]⟩
theorem rd_devsT {k : Nat} {vs : List V} (h : ShT Tryd.prog (k + 1 + 1 + 1) 26 vs) : ∃ A cap, ∃ l : List Dev, (∀ x ∈ l, x.k < 18446744073709551616) ∧ vs = [.im true A cap l.length (devsV l)] := by
  obtain ⟨A, cap, l, h1, h2, h3⟩ := sh_sliceT devL (fun x : Dev => x.k < 18446744073709551616) Tryd.underlying26 ce45 (fun c h => rd_devT h) h
  exact ⟨A, cap, l, h2, h3⟩
structure ScnB (s : Scn) : Prop where
  k : ∀ x ∈ s.devs, x.k < 18446744073709551616
  T : ScnT s
theorem rd_scnT {k : Nat} {vs : List V} (h : ShT Tryd.prog (k + 1 + 1 + 1 + 1) 29 vs) : ∃ s : Scn, ScnB s ∧ vs = scL s := by
  unfold ShT at h
  rw [Tryd.underlying29] at h
  obtain ⟨hl, hf⟩ := h
  rw [ce29] at hl
  match vs, hl with
  | [a, b, c, d, e, f], _ =>
    simp [ce24, ce25, ce26, ce27] at hf
    obtain ⟨h0, h1, h2, h3⟩ := hf
    obtain ⟨p, n, t, hp, e0⟩ := rd_paramsT h0
    obtain ⟨A1, cap1, l1, e1⟩ := rd_intsT h1
    obtain ⟨A2, cap2, l2, c2, e2⟩ := rd_devsT h2
    obtain ⟨A3, cap3, l3, c3, e3⟩ := rd_rowsT h3
    simp at e0 e1 e2 e3
    exact ⟨⟨p, n, t, true, A1, cap1, l1, true, A2, cap2, l2, true, A3, cap3, l3⟩, ⟨c2, ⟨rfl, rfl, rfl, c3⟩⟩, by simp [scL, e0, e1, e2, e3]⟩
end Go.Abs
end
set_option linter.unusedVariables false
noncomputable section
namespace Go.Abs
open Go Go.Proofs
set_option maxRecDepth 100000
theorem kill_ref_comm (r r' : Root) (p p' : List Nat) (a : Root) (q : List Nat) : kill r p (kill r' p' (.ref a q)) = kill r' p' (kill r p (.ref a q)) := by
  show kill r p (if hitRef r' p' a q then .dead else .ref a q) = kill r' p' (if hitRef r p a q then .dead else .ref a q)
  cases h1 : hitRef r p a q <;> cases h2 : hitRef r' p' a q <;> simp only [if_true, if_false, kill, h1, h2, Bool.false_eq_true]
theorem kill_loc_comm (r r' : Root) (p p' : List Nat) (a : Root) (q : List Nat) : kill r p (kill r' p' (.loc a q)) = kill r' p' (kill r p (.loc a q)) := by
  show kill r p (if hitLoc r' p' a q then .dead else .loc a q) = kill r' p' (if hitLoc r p a q then .dead else .loc a q)
  cases h1 : hitLoc r p a q <;> cases h2 : hitLoc r' p' a q <;> simp only [if_true, if_false, kill, h1, h2, Bool.false_eq_true]
mutual
theorem kill_comm (r r' : Root) (p p' : List Nat) : ∀ v : V, kill r p (kill r' p' v) = kill r' p' (kill r p v)
  | .ref a q => kill_ref_comm r r' p p' a q
  | .loc a q => kill_loc_comm r r' p p' a q
  | .agg cs => by simp only [kill]; rw [killL_comm r r' p p' cs]
  | .tup cs => by simp only [kill]; rw [killL_comm r r' p p' cs]
  | .fn f a b => by simp only [kill]; rw [killL_comm r r' p p' a, killL_comm r r' p p' b]
  | .int _ _ | .bool _ | .nilp | .nilf | .bptr _ _ | .ip _ _ _ | .im _ _ _ _ _ | .own _ _ _ _ | .dead => rfl
theorem killL_comm (r r' : Root) (p p' : List Nat) : ∀ l : List V, killL r p (killL r' p' l) = killL r' p' (killL r p l)
  | [] => rfl
  | v :: l => by simp only [killL]; rw [kill_comm r r' p p' v, killL_comm r r' p p' l]
end
end Go.Abs
end
set_option linter.unusedVariables false
noncomputable section
namespace Go.Abs
open Go Go.Proofs
set_option maxRecDepth 100000
theorem rs_get (rs : List RD) (i : Nat) (h : i < rs.length) : (rsV rs)[i]'(by simp; exact h) = rV rs[i] := by simp [rsV]
theorem ptrsL_ownR (ls : List (List Nat)) : ptrsL (ls.map ownR) = [] := by
  induction ls with
  | nil => rfl
  | cons l ls ih =>
    show ptrs (ownR l) ++ ptrsL (ls.map ownR) = []
    rw [ih]; simp [ownR, ptrs, nil_uL]
end Go.Abs
end
set_option linter.unusedVariables false
noncomputable section
namespace Go.Abs
open Go Go.Proofs
set_option maxRecDepth 100000
def rsent (σ : NetS) (n : Nat) (L : List (List Nat)) : NetS := sentS lnW (saidE σ n L) n σ
section
variable {N b n t : Nat} {tb : List (Nat × Box)} {s : Scn} {tp : List Nat} {σ : NetS}
end
section
variable (n t k : Nat) (a : Ph)
def rfA : List (List (List Nat)) := saidE a.σ n (one1 a.vs)
def rf1 : NetS := rsent a.σ n (one1 a.vs)
def rfB : List (List (List Nat)) := saidE (rf1 n a) n (prL n t (rfA n a))
def rf2 : NetS := rsent (rf1 n a) n (prL n t (rfA n a))
def rfV : List Nat := vaL n t (rfB n t a) a.vs
def rfC : List (List (List Nat)) := saidE (rf2 n t a) n (kiL n k (vF (rfV n t a) k))
def rf3 : NetS := rsent (rf2 n t a) n (kiL n k (vF (rfV n t a) k))
def rfL (w : Nat) : Bool := (leastS n (hS (rfB n t a) w) (t + 1)).isSome && decide (n - t ≤ votes n (hS (rfB n t a) w) (val2 n t (vF a.vs) (hS (rfB n t a)) w))
def rfO (w : Nat) : Nat := if rfL n t a w then val2 n t (vF a.vs) (hS (rfB n t a)) w else (hS (rfC n t k a) w k).headD 0
def phaseR : Ph := ⟨rf3 n t k a, (List.range n).map (rfO n t k a)⟩
end
section
variable {N b n t : Nat} {tb : List (Nat × Box)} {s : Scn} {tp : List Nat} {a : Ph}
end
section
variable {N b g nx n k : Nat} {σ : NetS} {tb O1 O2 : List (Nat × Box)} {bx : Box}
end
end Go.Abs
end
set_option linter.unusedVariables false
noncomputable section
namespace Go.Abs
open Go Go.Proofs
set_option maxRecDepth 100000
theorem uL_get2 {vs : List Nat} {i : Nat} (h : i < vs.length) : (uL vs)[i]'(by simp [uL]; exact h) = .int .u64 (vF vs i : Int) := by
  have h1 := List.getElem?_eq_getElem (l := uL vs) (i := i) (by simp [uL]; exact h)
  rw [uL_vF h] at h1
  exact (Option.some.inj h1).symm
theorem range_snoc {α : Type} (f : Nat → α) (i : Nat) : (List.range (i + 1)).map f = (List.range i).map f ++ [f i] := by rw [List.range_succ, List.map_append]; rfl
theorem map_len {α : Type} (f : Nat → α) (i : Nat) : ((List.range i).map f).length = i := by rw [List.length_map, List.length_range]
end Go.Abs
end
