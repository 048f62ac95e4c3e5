/- Joined: AbsPD AbsPE AbsPF AbsPG AbsPT AbsPH AbsPR AbsPS AbsPU. -/
import Derived.Test.YtbkhamjlfadfoaaDoorAbs310
import Derived.Test.YtbkhamjlfadfoaaDoorAbs325
import Derived.Test.YtbkhamjlfadfoaaDoorAbs327
set_option linter.all false
set_option maxHeartbeats 16000000
noncomputable section
namespace Go.Abs
open Go Go.Proofs
set_option maxRecDepth 100000
def hon (s : Scn) (f : Nat) : Bool := decide (((f : Int) + 1) ∉ s.corrupt)
theorem eachL_at {n : Nat} {L : List (List Nat)} {f w : Nat} (hw : w < n) : at2 (eachL n L) f w = L[f]? := by
 unfold at2 eachL
 rw [List.getElem?_map]
 cases L[f]? with
 | none => rfl
 | some l => simp [hw]
structure Hears (s : Scn) (n : Nat) (H : Nat → Bool) : Prop where
 d : ∀ x ∈ s.devs, DevP (n : Int) x
 h : s.devs = [] ∨ ∀ f, f < n → H f = true → ((f : Int) + 1) ∉ s.corrupt
theorem hS_said {s : Scn} {σ : NetS} (hs : σ.scn = s) {n : Nat} {H : Nat → Bool} (hh : Hears s n H) {L : List (List Nat)} {w f : Nat} (hw : w < n) (hf : f < n) (hH : H f = true) (l : List Nat) (hl : L[f]? = some l) : hS (saidE σ n L) w f = l := by
 unfold hS saidE netSaid
 rw [sw_at2, hs]
 rcases hh.h with h0 | h1
 ·rw [h0]
  show (at2 (eachL n L) f w).getD [] = l
  rw [eachL_at hw, hl]; rfl
 ·rw [msg_honest hh.d hw (.inl (h1 f hf hH)), eachL_at hw, hl]; rfl
theorem one1_get {vs : List Nat} {n f : Nat} (h : vs.length = n) (hf : f < n) : (one1 vs)[f]? = some [vF vs f] := by
 have : f < vs.length := by omega
 unfold one1 vF
 rw [List.getElem?_map, List.getElem?_eq_getElem this]; rfl
theorem vF_map {n f : Nat} (g : Nat → Nat) (hf : f < n) : vF ((List.range n).map g) f = g f := by
 unfold vF
 rw [List.getElem?_map, List.getElem?_range hf]; rfl
section
variable {N b n t : Nat} {tb : List (Nat × Box)} {s : Scn} {tp : List Nat} {a : Ph} {H : Nat → Bool}
theorem run_of (h : PhO N b n t tb s tp a) (hn : s.n = (n : Int)) (htn : t < n) (hh : Hears s n H) (K : Nat) (hK : K ≤ n) :
 Run n t H K (fun k f => vF (phases n t a k).vs f) (fun k => hS (phA n (phases n t a k))) (fun k => hS (phB n t (phases n t a k))) (fun k => hS (phC n t k (phases n t a k))) := by
 refine ⟨fun k hk w f hw hf hH => ?_, fun k hk w f hw hf hH => ?_, fun k hk w f hw hf hH => ?_, fun k hk w hw => ?_⟩
 ·obtain ⟨hP, _⟩ := h.phases hn htn k
  exact hS_said hP.o.s hh hw hf hH _ (one1_get hP.l hf)
 ·obtain ⟨hP, _⟩ := h.phases hn htn k
  have F := hP.facts hn htn k
  exact hS_said F.o1.s hh hw hf hH _ (by unfold prL; rw [List.getElem?_map, List.getElem?_range hf]; rfl)
 ·obtain ⟨hP, _⟩ := h.phases hn htn k
  have F := hP.facts hn htn k
  refine hS_said F.o2.s hh hw hf hH _ ?_
  unfold kiL phV vaL
  rw [List.getElem?_map, List.getElem?_range hf, vF_map _ (show k < n by omega)]
  rfl
 ·exact vF_map _ hw
end
theorem cnt_one (a : Int) : ∀ n : Nat, (List.range n).countP (fun f : Nat => decide ((f : Int) + 1 = a)) = if 1 ≤ a ∧ a ≤ (n : Int) then 1 else 0
 | 0 => by
   have : ¬ (1 ≤ a ∧ a ≤ ((0 : Nat) : Int)) := by omega
   rw [if_neg this]; rfl
 | n + 1 => by
   rw [List.range_succ, List.countP_append, cnt_one a n]
   by_cases h : (n : Int) + 1 = a
   ·have h1 : ¬ (1 ≤ a ∧ a ≤ (n : Int)) := by omega
    have h2 : 1 ≤ a ∧ a ≤ ((n + 1 : Nat) : Int) := by omega
    rw [if_neg h1, if_pos h2]; simp [h]
   ·by_cases h1 : 1 ≤ a ∧ a ≤ (n : Int)
    ·have h2 : 1 ≤ a ∧ a ≤ ((n + 1 : Nat) : Int) := by omega
     rw [if_pos h1, if_pos h2]; simp [h]
    ·have h2 : ¬ (1 ≤ a ∧ a ≤ ((n + 1 : Nat) : Int)) := by omega
     rw [if_neg h1, if_neg h2]; simp [h]
theorem cnt_or {q r : Nat → Bool} (l : List Nat) : l.countP (fun f => q f || r f) ≤ l.countP q + l.countP r := by
 induction l with
 | nil => simp
 | cons a l ih =>
   simp only [List.countP_cons]
   cases q a <;> cases r a <;> simp <;> omega
theorem cnt_mem (n : Nat) : ∀ l : List Int, (List.range n).countP (fun f : Nat => decide ((f : Int) + 1 ∈ l)) ≤ l.length
 | [] => by simp
 | a :: l => by
   have h1 := cnt_or (q := fun f => decide ((f : Int) + 1 = a)) (r := fun f => decide ((f : Int) + 1 ∈ l)) (List.range n)
   have h2 := cnt_one a n
   have h3 := cnt_mem n l
   have h4 : (fun f : Nat => decide ((f : Int) + 1 ∈ a :: l)) = fun f : Nat => decide ((f : Int) + 1 = a) || decide ((f : Int) + 1 ∈ l) := by
    funext f; simp
   rw [h4, List.length_cons]
   have h5 : (List.range n).countP (fun f : Nat => decide ((f : Int) + 1 = a)) ≤ 1 := by rw [h2]; split <;> omega
   omega
theorem good_of {s : Scn} {n t : Nat} (ht : s.t = (t : Int)) (hc : (s.corrupt.length : Int) ≤ s.t) (h3 : 3 * t < n) : Good n t (hon s) := by
 refine ⟨?_, h3⟩
 have h := cnt_mem n s.corrupt
 have e : (fun f => !hon s f) = fun f : Nat => decide ((f : Int) + 1 ∈ s.corrupt) := by
  funext f; simp [hon]
 show (List.range n).countP (fun f => !hon s f) ≤ t
 rw [e]; omega
theorem hears_hon {s : Scn} {n : Nat} (hn : s.n = (n : Int)) (hd : ∀ x ∈ s.devs, DevP s.n x) : Hears s n (hon s) := ⟨fun x hx => hn ▸ hd x hx, .inr fun f _ h => by simpa [hon] using h⟩
theorem hears_all {s : Scn} (hd : s.devs = []) (n : Nat) : Hears s n (fun _ => true) := ⟨fun x hx => (by rw [hd] at hx; cases hx), .inl hd⟩
section
variable {N b n t : Nat} {tb : List (Nat × Box)} {s : Scn} {tp : List Nat} {a : Ph} {H : Nat → Bool}
theorem phases_agree (h : PhO N b n t tb s tp a) (hn : s.n = (n : Int)) (g : Good n t H) (hh : Hears s n H) : ∃ x, ∀ f, f < n → H f = true → vF (phases n t a (t + 1)).vs f = x :=
 Run.agree g (run_of h hn (by have := g.third; omega) hh (t + 1) (by have := g.third; omega))
theorem phases_valid (h : PhO N b n t tb s tp a) (hn : s.n = (n : Int)) (g : Good n t H) (hh : Hears s n H) {x : Nat} (hx : ∀ f, f < n → H f = true → vF a.vs f = x) : ∀ f, f < n → H f = true → vF (phases n t a (t + 1)).vs f = x :=
 Run.valid g (run_of h hn (by have := g.third; omega) hh (t + 1) (by have := g.third; omega)) hx
end
structure ScnT (s : Scn) : Prop where
 c : s.cpm = true
 d : s.dpm = true
 t : s.tpm = true
 r : ∀ x ∈ s.tapes, x.pm = true
theorem ScnT.net0 {s : Scn} (h : ScnT s) (nx i : Nat) : NetT (net0 s nx i) := ⟨h.c, h.d, h.t, h.r, fun v hv e he => by
 have : v = [] := (List.mem_replicate.1 (show v ∈ List.replicate s.n.toNat [] from hv)).2
 subst this; cases he⟩
def tbO (s : Scn) (nx : Nat) : List (Nat × Box) := tapB (fun w => tapeC w 0) (nx + 3) s.tapes
theorem ScnT.tbO {s : Scn} (h : ScnT s) (nx : Nat) : ∀ e ∈ tbO s nx, noBorL e.2.cs = true := by
 have key : ∀ (l : List RD) (n : Nat), (∀ x ∈ l, x.pm = true) → ∀ e ∈ tapB (fun w => tapeC w 0) n l, noBorL e.2.cs = true := by
  intro l
  induction l with
  | nil => intro n _ e he; cases he
  | cons w l ih =>
    intro n hl e he
    rcases List.mem_cons.1 he with rfl | he
    ·have := hl w List.mem_cons_self
     show noBorL (tapeC w 0) = true
     simp [tapeC, rV, noBorL, noBor, this]
    ·exact ih _ (fun x hx => hl x (List.mem_cons_of_mem _ hx)) e he
 exact key _ _ h.r
def nwO (s : Scn) (nx : Nat) : NetS := net0 s (nx + 1) s.tapes.length
theorem nwO_I {s : Scn} {N : Nat} (hs : ScnS s) (hN : SendN (lentS s) N) (nx : Nat) : NetI N (nx + 2) (nwO s nx) (tbO s nx) := by
 have h4 := scnS_n hs
 have hl : (s.tapes.length : Int) = s.n := hs.2.1
 exact net0_I _ (fun w => ptrsL_tapeC w 0) s (nx + 1) hs hN (scnS_pq hs) h4.2 (by omega)
theorem nwO_A (s : Scn) (nx : Nat) (c c' : Box) : Around nx (nx + 2) (nwO s nx).tp c [(nx, c), (nx + 1, c')] (nx + (3 + s.tapes.length)) := by
 have := net0_around s nx c c'
 rwa [show nx + 1 + (2 + s.tapes.length) = nx + (3 + s.tapes.length) by omega] at this
def rt (l : List Nat) : RD := ⟨true, none, 0, l⟩
theorem rd_wordsT {k : Nat} {vs : List V} (h : ShT Tryd.prog (k + 1 + 1) 30 vs) : ∃ r : RD, (r.pm = true ∧ ∀ x ∈ r.l, x < 18446744073709551616) ∧ vs = [rV r] := by
 obtain ⟨A, cap, l, h1, h2, rfl⟩ := sh_wordsT Tryd.underlying30 Tryd.underlying22 ce22 h
 exact ⟨⟨true, A, cap, l⟩, ⟨rfl, h2⟩, rfl⟩
theorem rd_intsT {k : Nat} {vs : List V} (h : ShT Tryd.prog (k + 1 + 1) 25 vs) : ∃ A cap l, vs = [.im true A cap l.length (iL l)] := by
 obtain ⟨A, cap, l, h1, h2, h3⟩ := sh_sliceT (fun x : Int => [V.int .i64 x]) (fun _ => True) Tryd.underlying25 ce3 (fun c h => by
  obtain ⟨x, _, he⟩ := sh_i64T Tryd.underlying3 h
  exact ⟨x, trivial, he⟩) h
 rw [← flat_iL] at h3
 exact ⟨A, cap, l, h3⟩
theorem rd_rowsT {k : Nat} {vs : List V} (h : ShT Tryd.prog (k + 1 + 1 + 1) 27 vs) : ∃ A cap, ∃ l : List RD, (∀ r ∈ l, r.pm = true) ∧ vs = [.im true A cap l.length (rsV l)] := by
 obtain ⟨A, cap, l, h1, h2, h3⟩ := sh_sliceT (fun x : RD => [rV x]) (fun r => r.pm = true ∧ ∀ x ∈ r.l, x < 18446744073709551616) Tryd.underlying27 ce30 (fun c h => rd_wordsT h) h
 rw [← flat_rsV] at h3
 exact ⟨A, cap, l, fun r hr => (h2 r hr).1, h3⟩
theorem rd_paramsT {k : Nat} {vs : List V} (h : ShT Tryd.prog (k + 1 + 1) 24 vs) : ∃ (p : Nat) (n t : Int), p < 18446744073709551616 ∧ vs = [.int .u64 (p : Int), .int .i64 n, .int .i64 t] := by
 unfold ShT at h
 rw [Tryd.underlying24] at h
 obtain ⟨hl, hf⟩ := h
 rw [ce24] at hl
 match vs, hl with
 | [a, b, c], _ =>
   simp [ce22, ce3] at hf
   obtain ⟨h0, h1, h2⟩ := hf
   obtain ⟨p, hp, e0⟩ := sh_u64T Tryd.underlying22 h0
   obtain ⟨n, _, e1⟩ := sh_i64T Tryd.underlying3 h1
   obtain ⟨t, _, e2⟩ := sh_i64T Tryd.underlying3 h2
   simp at e0 e1 e2
   exact ⟨p, n, t, hp, by simp [e0, e1, e2]⟩
theorem rd_devT {k : Nat} {vs : List V} (h : ShT Tryd.prog (k + 1 + 1) 45 vs) : ∃ x : Dev, x.k < 18446744073709551616 ∧ vs = devL x := by
 unfold ShT at h
 rw [Tryd.underlying45] at h
 obtain ⟨hl, hf⟩ := h
 rw [ce45] at hl
 match vs, hl with
 | [a, b, c, d, e, f, g, i], _ =>
   simp [ce22, ce3] at hf
   obtain ⟨h0, h1, h2, h3, h4, h5, h6, h7⟩ := hf
   obtain ⟨x0, _, e0⟩ := sh_i64T Tryd.underlying3 h0
   obtain ⟨x1, _, e1⟩ := sh_i64T Tryd.underlying3 h1
   obtain ⟨x2, _, e2⟩ := sh_i64T Tryd.underlying3 h2
   obtain ⟨x3, _, e3⟩ := sh_i64T Tryd.underlying3 h3
   obtain ⟨x4, _, e4⟩ := sh_i64T Tryd.underlying3 h4
   obtain ⟨x5, hk, e5⟩ := sh_u64T Tryd.underlying22 h5
   obtain ⟨x6, _, e6⟩ := sh_i64T Tryd.underlying3 h6
   obtain ⟨x7, _, e7⟩ := sh_i64T Tryd.underlying3 h7
   simp at e0 e1 e2 e3 e4 e5 e6 e7
   exact ⟨⟨x0, x1, x2, x3, x4, x5, x6, x7⟩, hk, by simp [devL, e0, e1, e2, e3, e4, e5, e6, e7]⟩
theorem rd_devsT {k : Nat} {vs : List V} (h : ShT Tryd.prog (k + 1 + 1 + 1) 26 vs) : ∃ A cap, ∃ l : List Dev, (∀ x ∈ l, x.k < 18446744073709551616) ∧ vs = [.im true A cap l.length (devsV l)] := by
 obtain ⟨A, cap, l, h1, h2, h3⟩ := sh_sliceT devL (fun x : Dev => x.k < 18446744073709551616) Tryd.underlying26 ce45 (fun c h => rd_devT h) h
 exact ⟨A, cap, l, h2, h3⟩
structure ScnB (s : Scn) : Prop where
 k : ∀ x ∈ s.devs, x.k < 18446744073709551616
 T : ScnT s
theorem rd_scnT {k : Nat} {vs : List V} (h : ShT Tryd.prog (k + 1 + 1 + 1 + 1) 29 vs) : ∃ s : Scn, ScnB s ∧ vs = scL s := by
 unfold ShT at h
 rw [Tryd.underlying29] at h
 obtain ⟨hl, hf⟩ := h
 rw [ce29] at hl
 match vs, hl with
 | [a, b, c, d, e, f], _ =>
   simp [ce24, ce25, ce26, ce27] at hf
   obtain ⟨h0, h1, h2, h3⟩ := hf
   obtain ⟨p, n, t, hp, e0⟩ := rd_paramsT h0
   obtain ⟨A1, cap1, l1, e1⟩ := rd_intsT h1
   obtain ⟨A2, cap2, l2, c2, e2⟩ := rd_devsT h2
   obtain ⟨A3, cap3, l3, c3, e3⟩ := rd_rowsT h3
   simp at e0 e1 e2 e3
   exact ⟨⟨p, n, t, true, A1, cap1, l1, true, A2, cap2, l2, true, A3, cap3, l3⟩, ⟨c2, ⟨rfl, rfl, rfl, c3⟩⟩, by simp [scL, e0, e1, e2, e3]⟩
theorem kill_ref_comm (r r' : Root) (p p' : List Nat) (a : Root) (q : List Nat) : kill r p (kill r' p' (.ref a q)) = kill r' p' (kill r p (.ref a q)) := by
 show kill r p (if hitRef r' p' a q then .dead else .ref a q) = kill r' p' (if hitRef r p a q then .dead else .ref a q)
 cases h1 : hitRef r p a q <;> cases h2 : hitRef r' p' a q <;> simp only [if_true, if_false, kill, h1, h2, Bool.false_eq_true]
theorem kill_loc_comm (r r' : Root) (p p' : List Nat) (a : Root) (q : List Nat) : kill r p (kill r' p' (.loc a q)) = kill r' p' (kill r p (.loc a q)) := by
 show kill r p (if hitLoc r' p' a q then .dead else .loc a q) = kill r' p' (if hitLoc r p a q then .dead else .loc a q)
 cases h1 : hitLoc r p a q <;> cases h2 : hitLoc r' p' a q <;> simp only [if_true, if_false, kill, h1, h2, Bool.false_eq_true]
mutual
theorem kill_comm (r r' : Root) (p p' : List Nat) : ∀ v : V, kill r p (kill r' p' v) = kill r' p' (kill r p v)
 | .ref a q => kill_ref_comm r r' p p' a q
 | .loc a q => kill_loc_comm r r' p p' a q
 | .agg cs => by simp only [kill]; rw [killL_comm r r' p p' cs]
 | .tup cs => by simp only [kill]; rw [killL_comm r r' p p' cs]
 | .fn f a b => by simp only [kill]; rw [killL_comm r r' p p' a, killL_comm r r' p p' b]
 | .int _ _ | .bool _ | .nilp | .nilf | .bptr _ _ | .ip _ _ _ | .im _ _ _ _ _ | .own _ _ _ _ | .dead => rfl
theorem killL_comm (r r' : Root) (p p' : List Nat) : ∀ l : List V, killL r p (killL r' p' l) = killL r' p' (killL r p l)
 | [] => rfl
 | v :: l => by simp only [killL]; rw [kill_comm r r' p p' v, killL_comm r r' p p' l]
end
def headsR (rs : List RD) : List (Option Nat) := rs.map fun r => r.l.head?
theorem votesL_snoc (hs : List (Option Nat)) (h : Option Nat) (x : Nat) : votesL (hs ++ [h]) x = votesL hs x + if h = some x then 1 else 0 := by
 unfold votesL
 rw [List.filter_append, List.length_append]
 by_cases e : h = some x <;> simp [e]
theorem votesL_le (hs : List (Option Nat)) (x : Nat) : votesL hs x ≤ hs.length := List.length_filter_le _ _
theorem rs_get (rs : List RD) (i : Nat) (h : i < rs.length) : (rsV rs)[i]'(by simp; exact h) = rV rs[i] := by simp [rsV]
theorem votes70 (pm : Bool) (A : Option Addr) (cap : Nat) (rs : List RD) (hl : rs.length ≤ 1000) (x : Nat) : AnsN 1101 Tryd.prog H14 70 [.im pm A cap rs.length (rsV rs), .int .u64 (x : Int)] (.int .i64 (votesL (headsR rs) x : Nat)) := by
 refine AnsN.of (fn := Tryd.f70) (t := 4) (by rfl) Tryd.func70 rfl rfl (by rfl) (by rfl) fun k hk nx => ?_
 obtain ⟨n, hn⟩ : ∃ n, rs.length = n := ⟨_, rfl⟩
 obtain ⟨cs, hcs⟩ : ∃ cs, rsV rs = cs := ⟨_, rfl⟩
 have hcl : cs.length = n := by rw [← hcs]; simp [hn]
 rw [hn, hcs]
 obtain ⟨cf, hcf⟩ : ∃ cf : Nat → Nat, cf = fun i => votesL (headsR (rs.take i)) x := ⟨_, rfl⟩
 have cfn : votesL (headsR rs) x = cf n := by rw [hcf, ← hn]; simp only [List.take_length]
 have cfl : ∀ i, cf i ≤ n := fun i => by
  rw [hcf]
  have := votesL_le (headsR (rs.take i)) x
  simp only [headsR, List.length_map, List.length_take] at this
  exact Nat.le_trans this (by omega)
 rw [cfn]
 obtain ⟨I, hI⟩ : ∃ I : Nat → St → Prop, I = fun q D => ∃ i : Nat, q = n - i ∧ i ≤ n ∧ D.s 0 = .im pm A cap n cs ∧ D.s 1 = .int .u64 (x : Int) ∧ D.s 5 = .int .i64 (cf i : Int) ∧ D.s 6 = .int .i64 (i : Int) ∧ D.m = [] ∧ D.nx = nx := ⟨_, rfl⟩
 have cf0 : cf 0 = 0 := by rw [hcf]; rfl
 simp [entryS]
 refine EvP.loop I (n := n) (by rw [hI]; exact ⟨0, by simp, by simp, by simp [cf0]⟩) (by omega) fun q D hD => ?_
 rw [hI] at hD
 obtain ⟨i, rfl, hi, d0, d1, d5, d6, dm, dx⟩ := hD
 by_cases hil : i < n
 ·have e3 := wrapi (x := (i : Int) + 1) (by omega) (by omega)
  have hci := cfl i
  have e4 := wrapi (x := (cf i : Int) + 1) (by omega) (by omega)
  have hir : i < rs.length := by omega
  have hic : i < cs.length := by omega
  obtain ⟨r, hr⟩ : ∃ r, rs[i] = r := ⟨_, rfl⟩
  have hri : cs[i] = rV r := by subst hcs; rw [rs_get rs i hir, hr]
  have hs : cf (i + 1) = cf i + if r.l.head? = some x then 1 else 0 := by
   rw [hcf]
   show votesL (headsR (rs.take (i + 1))) x = _
   rw [List.take_succ_eq_append_getElem hir, hr]
   show votesL ((rs.take i ++ [r]).map fun r => r.l.head?) x = _
   rw [List.map_append]
   exact votesL_snoc _ _ _
  obtain ⟨rp, rA, rc, rl⟩ := r
  rcases rl with _ | ⟨y, rl⟩
  ·have hs : cf (i + 1) = cf i := by rw [hs]; simp
   simp only [rV] at hri
   simp [d0, d1, d5, d6, dm, dx, hil, hic, hcl, hri, e3]
   subst hI
   exact ⟨n - (i + 1), by omega, i + 1, rfl, by omega, by simp [d0], by simp [d1], by simp [d5, hs], by simp, by simp [dm], by simp [dx]⟩
  ·simp only [rV] at hri
   by_cases hy : y = x
   ·subst hy
    have hs : cf (i + 1) = cf i + 1 := by rw [hs]; simp
    simp [d0, d1, d5, d6, dm, dx, hil, hic, hcl, hri, uL_cons, e3, e4]
    subst hI
    exact ⟨n - (i + 1), by omega, i + 1, rfl, by omega, by simp [d0], by simp [d1], by simp [hs], by simp, by simp [dm], by simp [dx]⟩
   ·have hs : cf (i + 1) = cf i := by rw [hs]; simp [hy]
    have hne : ((y : Int) == (x : Int)) = false := by simp; omega
    simp [d0, d1, d5, d6, dm, dx, hil, hic, hcl, hri, uL_cons, e3, hne]
    subst hI
    exact ⟨n - (i + 1), by omega, i + 1, rfl, by omega, by simp [d0], by simp [d1], by simp [d5, hs], by simp, by simp [dm], by simp [dx]⟩
 ·have hin : i = n := by omega
  subst hin
  simp [d0, d1, d5, d6, dm, dx]
def stepL (hs : List (Option Nat)) (m : Nat) (a h : Option Nat) : Option Nat := match h with
 | none => a
 | some y => if m ≤ votesL hs y then (match a with | none => some y | some x => if y < x then some y else some x) else a
def leastL (hs : List (Option Nat)) (m : Nat) : Option Nat := ((hs.filterMap id).filter fun x => decide (m ≤ votesL hs x)).min?
def candL (hs l : List (Option Nat)) (m : Nat) : List Nat := (l.filterMap id).filter fun x => decide (m ≤ votesL hs x)
theorem foldL_eq (hs : List (Option Nat)) (m : Nat) : ∀ l : List (Option Nat), l.foldl (stepL hs m) none = (candL hs l m).min? := by
 have key : ∀ (l pre : List (Option Nat)), l.foldl (stepL hs m) ((candL hs pre m).min?) = (candL hs (pre ++ l) m).min? := by
  intro l
  induction l with
  | nil => intro pre; simp
  | cons h l ih =>
    intro pre
    rw [List.foldl_cons]
    have e : stepL hs m ((candL hs pre m).min?) h = (candL hs (pre ++ [h]) m).min? := by
     have e1 : candL hs (pre ++ [h]) m = candL hs pre m ++ candL hs [h] m := by unfold candL; rw [List.filterMap_append, List.filter_append]
     rw [e1]
     cases h with
     | none => simp [stepL, candL]
     | some y =>
       by_cases hy : m ≤ votesL hs y
       ·have e2 : candL hs [some y] m = [y] := by simp [candL, hy]
        rw [e2]
        show (if m ≤ votesL hs y then _ else _) = _
        rw [if_pos hy]
        cases e3 : (candL hs pre m).min? with
        | none =>
          have : candL hs pre m = [] := by rwa [List.min?_eq_none_iff] at e3
          rw [this]; rfl
        | some x =>
          obtain ⟨h1, h2⟩ := List.min?_eq_some_iff.1 e3
          symm
          by_cases hyx : y < x
          ·simp only [if_pos hyx]
           rw [List.min?_eq_some_iff]
           refine ⟨by simp, fun b hb => ?_⟩
           rcases List.mem_append.1 hb with hb | hb
           ·have := h2 b hb; omega
           ·rw [List.mem_singleton] at hb; omega
          ·simp only [if_neg hyx]
           rw [List.min?_eq_some_iff]
           refine ⟨List.mem_append_left _ h1, fun b hb => ?_⟩
           rcases List.mem_append.1 hb with hb | hb
           ·exact h2 b hb
           ·rw [List.mem_singleton] at hb; omega
       ·have e2 : candL hs [some y] m = [] := by simp [candL, hy]
        rw [e2, List.append_nil]
        show (if m ≤ votesL hs y then _ else _) = _
        rw [if_neg hy]
    rw [e, ih (pre ++ [h]), List.append_assoc]; rfl
 intro l
 have := key l []
 simpa [candL] using this
theorem least69 (pm : Bool) (A : Option Addr) (cap : Nat) (rs : List RD) (hl : rs.length ≤ 1000) (m : Nat) (hm : m ≤ 1000) : AnsN 1103 Tryd.prog H14 69 [.im pm A cap rs.length (rsV rs), .int .i64 (m : Int)] (.tup [.int .u64 (((leastL (headsR rs) m).getD 0 : Nat) : Int), .bool (leastL (headsR rs) m).isSome]) := by
 refine AnsN.gen (fn := Tryd.f69) (by rfl) Tryd.func69 rfl (by rfl) (by rfl) fun k hk nx => ?_
 have c70 := fun x => callP (votes70 false A cap (rs.map lent) (by rw [List.length_map]; exact hl) x) (k := k) (by omega) (by simp [ptrsL, ptrs]) rfl
 have hlent : headsR (rs.map lent) = headsR rs := by unfold headsR; rw [List.map_map]; rfl
 simp only [hlent, List.length_map] at c70
 obtain ⟨hs, hhs⟩ : ∃ hs, headsR rs = hs := ⟨_, rfl⟩
 obtain ⟨n, hn⟩ : ∃ n, rs.length = n := ⟨_, rfl⟩
 obtain ⟨cs, hcs⟩ : ∃ cs, rsV rs = cs := ⟨_, rfl⟩
 have hfz : frzL false cs = rsV (rs.map lent) := by rw [← hcs]; simp
 have hcl : cs.length = n := by rw [← hcs]; simp [hn]
 rw [hhs, hn] at c70
 rw [hn, hcs, hhs]
 obtain ⟨af, haf⟩ : ∃ af : Nat → Option Nat, af = fun i => (hs.take i).foldl (stepL hs m) none := ⟨_, rfl⟩
 have hsl : hs.length = n := by rw [← hhs]; simp [headsR, hn]
 have afn : leastL hs m = af n := by
  rw [haf, ← hsl]
  show _ = (hs.take hs.length).foldl (stepL hs m) none
  rw [List.take_length, foldL_eq]; rfl
 rw [afn]
 have af0 : af 0 = none := by rw [haf]; rfl
 obtain ⟨I, hI⟩ : ∃ I : Nat → St → Prop, I = fun q D => ∃ i : Nat, q = n - i ∧ i ≤ n ∧ D.s 0 = .im pm A cap n cs ∧ D.s 1 = .int .i64 (m : Int) ∧ D.s 6 = .int .u64 (((af i).getD 0 : Nat) : Int) ∧ D.s 7 = .bool (af i).isSome ∧ D.s 8 = .int .i64 (i : Int) ∧ D.m = [] ∧ D.nx = nx := ⟨_, rfl⟩
 simp [entryS]
 refine EvP.loop I (n := n) (by rw [hI]; exact ⟨0, by simp, by simp, by simp [af0]⟩) (by omega) fun q D hD => ?_
 rw [hI] at hD
 obtain ⟨i, rfl, hi, d0, d1, d6, d7, d8, dm, dx⟩ := hD
 by_cases hil : i < n
 ·have e3 := wrapi (x := (i : Int) + 1) (by omega) (by omega)
  have hir : i < rs.length := by omega
  have hic : i < cs.length := by omega
  obtain ⟨r, hr⟩ : ∃ r, rs[i] = r := ⟨_, rfl⟩
  have hri : cs[i] = rV r := by subst hcs; rw [rs_get rs i hir, hr]
  have his : i < hs.length := by omega
  have hsi : hs[i] = r.l.head? := by subst hhs; simp [headsR, hr]
  have hstep : af (i + 1) = stepL hs m (af i) r.l.head? := by
   rw [haf]
   show (hs.take (i + 1)).foldl (stepL hs m) none = _
   rw [List.take_succ_eq_append_getElem his, List.foldl_append, hsi]; rfl
  obtain ⟨rp, rA, rc, rl⟩ := r
  rcases rl with _ | ⟨y, rl⟩
  ·have hstep : af (i + 1) = af i := hstep
   simp only [rV] at hri
   simp [-doCall, doCall_eq, d0, d1, d6, d7, d8, dm, dx, hil, hic, hcl, hri, e3]
   subst hI
   exact ⟨n - (i + 1), by omega, i + 1, rfl, by omega, by simp [d0], by simp [d1], by simp [d6, hstep], by simp [d7, hstep], by simp, by simp [dm], by simp [dx]⟩
  ·simp only [rV] at hri
   have c70y := c70 y
   by_cases hv : m ≤ votesL hs y
   ·cases ha : af i with
    | none =>
      have hstep : af (i + 1) = some y := by rw [hstep, ha]; show (if m ≤ votesL hs y then _ else _) = _; rw [if_pos hv]
      rw [ha] at d6 d7
      simp [-doCall, doCall_eq, d0, d1, d6, d7, d8, dm, dx, hil, hic, hcl, hri, uL_cons, e3, hfz, c70y, hv]
      subst hI
      exact ⟨n - (i + 1), by omega, i + 1, rfl, by omega, by simp [d0], by simp [d1], by simp [hstep], by simp [hstep], by simp, by simp [dm], by simp [dx]⟩
    | some x =>
      rw [ha] at d6 d7
      by_cases hyx : y < x
      ·have hstep : af (i + 1) = some y := by rw [hstep, ha]; show (if m ≤ votesL hs y then (if y < x then some y else some x) else _) = _; rw [if_pos hv, if_pos hyx]
       simp [-doCall, doCall_eq, d0, d1, d6, d7, d8, dm, dx, hil, hic, hcl, hri, uL_cons, e3, hfz, c70y, hv, hyx]
       subst hI
       exact ⟨n - (i + 1), by omega, i + 1, rfl, by omega, by simp [d0], by simp [d1], by simp [hstep], by simp [hstep], by simp, by simp [dm], by simp [dx]⟩
      ·have hstep : af (i + 1) = some x := by rw [hstep, ha]; show (if m ≤ votesL hs y then (if y < x then some y else some x) else _) = _; rw [if_pos hv, if_neg hyx]
       simp [-doCall, doCall_eq, d0, d1, d6, d7, d8, dm, dx, hil, hic, hcl, hri, uL_cons, e3, hfz, c70y, hv, hyx]
       subst hI
       exact ⟨n - (i + 1), by omega, i + 1, rfl, by omega, by simp [d0], by simp [d1], by simp [d6, hstep], by simp [d7, hstep], by simp, by simp [dm], by simp [dx]⟩
   ·have hstep : af (i + 1) = af i := by rw [hstep]; show (if m ≤ votesL hs y then _ else _) = _; rw [if_neg hv]
    simp [-doCall, doCall_eq, d0, d1, d6, d7, d8, dm, dx, hil, hic, hcl, hri, uL_cons, e3, hfz, c70y, hv]
    subst hI
    exact ⟨n - (i + 1), by omega, i + 1, rfl, by omega, by simp [d0], by simp [d1], by simp [d6, hstep], by simp [d7, hstep], by simp, by simp [dm], by simp [dx]⟩
 ·have hin : i = n := by omega
  subst hin
  simp [d0, d1, d6, d7, d8, dm, dx]
theorem ptrsL_ownR (ls : List (List Nat)) : ptrsL (ls.map ownR) = [] := by
 induction ls with
 | nil => rfl
 | cons l ls ih =>
   show ptrs (ownR l) ++ ptrsL (ls.map ownR) = []
   rw [ih]; simp [ownR, ptrs, nil_uL]
theorem ptrsL_repR (r : RD) (n : Nat) : ptrsL (List.replicate n (rV r)) = [] := by
 induction n with
 | zero => rfl
 | succ n ih =>
   rw [List.replicate_succ]
   show ptrs (rV r) ++ ptrsL (List.replicate n (rV r)) = []
   rw [ih]; simp [rV, ptrs, nil_uL]
theorem ptrsL_eachR (n : Nat) (rs : List RD) : ptrsL (rs.map fun r => eachRow n r n) = [] := by
 induction rs with
 | nil => rfl
 | cons r rs ih =>
   show ptrs (eachRow n r n) ++ ptrsL (rs.map fun r => eachRow n r n) = []
   rw [ih]; simp [eachRow, ptrs, ptrsL_repR]
theorem each68 (pm : Bool) (A : Option Addr) (cap : Nat) (vs : List Nat) (hl : vs.length ≤ 1000) : AnsN 1101 Tryd.prog H14 68 [.im pm A cap vs.length (uL vs)] (.own .nil 0 vs.length ((one1 vs).map ownR)) := by
 refine AnsN.gen (fn := Tryd.f68) (by rfl) Tryd.func68 rfl (by rfl) (by rw [ptrs]; exact ptrsL_ownR _) fun k hk nx => ?_
 obtain ⟨n, hn⟩ : ∃ n, vs.length = n := ⟨_, rfl⟩
 rw [hn]
 obtain ⟨I, hI⟩ : ∃ I : Nat → St → Prop, I = fun q D => ∃ (i : Nat) (L : List V), q = n - i ∧ i ≤ n ∧ L = ((one1 vs).take i).map ownR ∧ D.s 0 = .im pm A cap n (uL vs) ∧ D.s 3 = .own .nil 0 i L ∧ D.s 4 = .int .i64 (i : Int) ∧ D.m = [] ∧ D.nx = nx := ⟨_, rfl⟩
 simp [entryS]
 refine EvP.loop I (n := n) (by rw [hI]; exact ⟨0, [], by simp, by simp, rfl, by simp⟩) (by omega) fun q D hD => ?_
 rw [hI] at hD
 obtain ⟨i, L, rfl, hi, hL, d0, d3, d4, dm, dx⟩ := hD
 have h1l : (one1 vs).length = n := by rw [one1_length, hn]
 have hLl : L.length = i := by rw [hL, List.length_map, List.length_take, h1l]; omega
 by_cases hil : i < n
 ·have e3 := wrapi (x := (i : Int) + 1) (by omega) (by omega)
  have hiv : i < vs.length := by omega
  have hu : (uL vs)[i]'(by simp [uL]; omega) = .int .u64 ((vs[i] : Nat) : Int) := by simp [uL]
  obtain ⟨y, hy⟩ : ∃ y, vs[i] = y := ⟨_, rfl⟩
  rw [hy] at hu
  have f1 : (i + 1) * 24 ≤ 140737488355328 := by omega
  have f2 : i ≤ 140737488355327 := by omega
  have hnext : ((one1 vs).take (i + 1)).map ownR = L ++ [.own .nil 0 1 [.int .u64 (y : Int)]] := by
   rw [List.take_succ_eq_append_getElem (by rw [h1l]; exact hil), List.map_append, ← hL]
   simp [one1, ownR, uL, hy]
  simp [d0, d3, d4, dm, dx, hil, hn, hu, hLl, f1, f2, e3]
  subst hI
  exact ⟨n - (i + 1), by omega, i + 1, _, rfl, by omega, hnext.symm, by simp [d0], by simp, by simp, by simp [dm], by simp [dx]⟩
 ·have hin : i = n := by omega
  subst hin
  rw [← h1l, List.take_length] at hL
  simp [d0, d3, d4, dm, dx, hL]
theorem alike67 (pm : Bool) (A : Option Addr) (cap : Nat) (rs : List RD) (hl : rs.length ≤ 1000) : AnsN 1101 Tryd.prog H14 67 [.im pm A cap rs.length (rsV rs)] (.own .nil 0 rs.length (rs.map fun r => eachRow rs.length r rs.length)) := by
 refine AnsN.gen (fn := Tryd.f67) (by rfl) Tryd.func67 rfl (by rfl) (by rw [ptrs]; exact ptrsL_eachR _ _) fun k hk nx => ?_
 obtain ⟨n, hn⟩ : ∃ n, rs.length = n := ⟨_, rfl⟩
 obtain ⟨cs, hcs⟩ : ∃ cs, rsV rs = cs := ⟨_, rfl⟩
 have hcl : cs.length = n := by rw [← hcs]; simp [hn]
 rw [hn, hcs]
 obtain ⟨I, hI⟩ : ∃ I : Nat → St → Prop, I = fun q D => ∃ (i : Nat) (L : List V), q = n - i ∧ i ≤ n ∧ L = (rs.take i).map (fun r => eachRow n r n) ∧ D.s 0 = .im pm A cap n cs ∧ D.s 3 = .own .nil 0 i L ∧ D.s 4 = .int .i64 (i : Int) ∧ D.m = [] ∧ D.nx = nx := ⟨_, rfl⟩
 simp [entryS]
 refine EvP.loop I (n := n) (by rw [hI]; exact ⟨0, [], by simp, by simp, rfl, by simp⟩) (by omega) fun q D hD => ?_
 rw [hI] at hD
 obtain ⟨i, L, rfl, hi, hL, d0, d3, d4, dm, dx⟩ := hD
 have hLl : L.length = i := by rw [hL, List.length_map, List.length_take, hn]; omega
 by_cases hil : i < n
 ·have e3 := wrapi (x := (i : Int) + 1) (by omega) (by omega)
  have hir : i < rs.length := by omega
  have hic : i < cs.length := by omega
  obtain ⟨r, hr⟩ : ∃ r, rs[i] = r := ⟨_, rfl⟩
  have hri : cs[i] = rV r := by subst hcs; rw [rs_get rs i hir, hr]
  have f1 : (i + 1) * 24 ≤ 140737488355328 := by omega
  have f2 : i ≤ 140737488355327 := by omega
  have hnext : (rs.take (i + 1)).map (fun r => eachRow n r n) = L ++ [eachRow n r n] := by
   rw [List.take_succ_eq_append_getElem hir, List.map_append, ← hL]
   simp [hr]
  obtain ⟨J, hJ⟩ : ∃ J : Nat → St → Prop, J = fun q D => ∃ (j : Nat) (R : List V), q = n - j ∧ j ≤ n ∧ R = List.replicate j (rV r) ∧ D.s 0 = .im pm A cap n cs ∧ D.s 3 = .own .nil 0 i L ∧ D.s 4 = .int .i64 (i : Int) ∧ D.s 5 = .own .nil 0 j R ∧ D.s 6 = .int .i64 (j : Int) ∧ D.m = [] ∧ D.nx = nx := ⟨_, rfl⟩
  simp [d0, d3, d4, dm, dx, hil]
  refine EvP.loop J (n := n) (by rw [hJ]; exact ⟨0, [], by simp, by simp, rfl, by simp [d0, d3, d4]⟩) (by omega) fun q D hD => ?_
  rw [hJ] at hD
  obtain ⟨j, R, rfl, hj, hR, d0, d3, d4, d5, d6, dm, dx⟩ := hD
  have hRl : R.length = j := by rw [hR, List.length_replicate]
  by_cases hjl : j < n
  ·have e4 := wrapi (x := (j : Int) + 1) (by omega) (by omega)
   have g1 : (j + 1) * 24 ≤ 140737488355328 := by omega
   have g2 : j ≤ 140737488355327 := by omega
   have hnx : List.replicate (j + 1) (rV r) = R ++ [rV r] := by rw [List.replicate_succ', hR]
   simp only [rV] at hri
   simp [d0, d3, d4, d5, d6, dm, dx, hil, hjl, hic, hcl, hri, hRl, g1, g2, e4]
   subst hJ
   exact ⟨n - (j + 1), by omega, j + 1, _, rfl, by omega, hnx.symm, by simp [d0], by simp [d3], by simp [d4], by simp [rV], by simp, by simp [dm], by simp [dx]⟩
  ·have hje : j = n := by omega
   subst hje
   simp [d0, d3, d4, d5, d6, dm, dx, hLl, f1, f2, e3]
   subst hI
   exact ⟨j - (i + 1), by omega, i + 1, _, rfl, by omega, hnext.symm, by simp [d0], by simp [eachRow, hR], by simp, by simp [dm], by simp [dx]⟩
 ·have hin : i = n := by omega
  subst hin
  rw [← hn, List.take_length, hn] at hL
  simp [d0, d3, d4, dm, dx, hL]
structure NetQ (N b : Nat) (tb : List (Nat × Box)) (s : Scn) (tp : List Nat) (σ : NetS) : Prop where
 I : NetI N b σ tb
 s : σ.scn = s
 tp : σ.tp = tp
def rsent (σ : NetS) (n : Nat) (L : List (List Nat)) : NetS := sentS lnW (saidE σ n L) n σ
section
variable {N b n t : Nat} {tb : List (Nat × Box)} {s : Scn} {tp : List Nat} {σ : NetS}
theorem NetQ.sent (h : NetQ N b tb s tp σ) (hn : s.n = (n : Int)) (L : List (List Nat)) : NetQ N b tb s tp (rsent σ n L) ∧ (rsent σ n L).round = σ.round + 1 := by
 obtain ⟨h1, h2, h3, h4⟩ := like_sentS lnW (saidE σ n L) n σ
 exact ⟨⟨h.I.sent _ _ (by rw [h.s, hn]), h1.trans h.s, h2.trans h.tp⟩, h4⟩
theorem NetQ.said (h : NetQ N b tb s tp σ) (hn : s.n = (n : Int)) {L : List (List Nat)} (hL : L.length = n) (hok : LsOk s.p L) : MsOk s.p n (saidE σ n L) := by
 have := h.I.said_ok (n := n) (out := eachL n L) (eachL_ok hL (by rw [h.s]; exact hok))
 rwa [h.s] at this
end
section
variable (n t k : Nat) (a : Ph)
def rfA : List (List (List Nat)) := saidE a.σ n (one1 a.vs)
def rf1 : NetS := rsent a.σ n (one1 a.vs)
def rfB : List (List (List Nat)) := saidE (rf1 n a) n (prL n t (rfA n a))
def rf2 : NetS := rsent (rf1 n a) n (prL n t (rfA n a))
def rfV : List Nat := vaL n t (rfB n t a) a.vs
def rfC : List (List (List Nat)) := saidE (rf2 n t a) n (kiL n k (vF (rfV n t a) k))
def rf3 : NetS := rsent (rf2 n t a) n (kiL n k (vF (rfV n t a) k))
def rfL (w : Nat) : Bool := (leastS n (hS (rfB n t a) w) (t + 1)).isSome && decide (n - t ≤ votes n (hS (rfB n t a) w) (val2 n t (vF a.vs) (hS (rfB n t a)) w))
def rfO (w : Nat) : Nat := if rfL n t a w then val2 n t (vF a.vs) (hS (rfB n t a)) w else (hS (rfC n t k a) w k).headD 0
def phaseR : Ph := ⟨rf3 n t k a, (List.range n).map (rfO n t k a)⟩
end
structure PhQ (N b n t : Nat) (tb : List (Nat × Box)) (s : Scn) (tp : List Nat) (a : Ph) : Prop where
 o : NetQ N b tb s tp a.σ
 l : a.vs.length = n
 v : ∀ x ∈ a.vs, x < s.p
structure PhG (N b n t k : Nat) (tb : List (Nat × Box)) (s : Scn) (tp : List Nat) (a : Ph) : Prop where
 p0 : 0 < s.p
 L1 : LsOk s.p (one1 a.vs)
 A : MsOk s.p n (rfA n a)
 o1 : NetQ N b tb s tp (rf1 n a)
 r1 : (rf1 n a).round = a.σ.round + 1
 L2 : LsOk s.p (prL n t (rfA n a))
 B : MsOk s.p n (rfB n t a)
 o2 : NetQ N b tb s tp (rf2 n t a)
 r2 : (rf2 n t a).round = a.σ.round + 2
 L3 : LsOk s.p (kiL n k (vF (rfV n t a) k))
 C : MsOk s.p n (rfC n t k a)
 o3 : NetQ N b tb s tp (rf3 n t k a)
 r3 : (rf3 n t k a).round = a.σ.round + 3
 O : ∀ w, rfO n t k a w < s.p
section
variable {N b n t : Nat} {tb : List (Nat × Box)} {s : Scn} {tp : List Nat} {a : Ph}
theorem PhQ.facts (h : PhQ N b n t tb s tp a) (hn : s.n = (n : Int)) (htn : t < n) (k : Nat) : PhG N b n t k tb s tp a := by
 have p0 : 0 < s.p := by have := h.o.I.p0; rwa [h.o.s] at this
 have L1 := one1_ok h.v
 have A := h.o.said hn (L := one1 a.vs) (by simp [h.l]) L1
 obtain ⟨o1, r1⟩ := h.o.sent hn (one1 a.vs)
 have L2 := prL_ok (t := t) p0 htn (sOk_of A)
 have B := o1.said hn (by simp) L2
 obtain ⟨o2, r2⟩ := o1.sent hn (prL n t (rfA n a))
 have V : ∀ x ∈ rfV n t a, x < s.p := fun x hx => by
  obtain ⟨w, _, rfl⟩ := List.mem_map.1 hx
  exact val2_lt p0 (sOk_of B) (vF_lt p0 h.v) w
 have L3 := kiL_ok (n := n) (k := k) (vF_lt p0 V k)
 have C := o2.said hn (by simp) L3
 obtain ⟨o3, r3⟩ := o2.sent hn (kiL n k (vF (rfV n t a) k))
 have q2 : (rf2 n t a).round = a.σ.round + 2 := by
  have e1 : (rf1 n a).round = a.σ.round + 1 := r1
  have e2 : (rf2 n t a).round = (rf1 n a).round + 1 := r2
  omega
 have q3 : (rf3 n t k a).round = a.σ.round + 3 := by
  have e3 : (rf3 n t k a).round = (rf2 n t a).round + 1 := r3
  omega
 refine ⟨p0, L1, A, o1, r1, L2, B, o2, q2, L3, C, o3, q3, fun w => ?_⟩
 unfold rfO
 split
 ·exact val2_lt p0 (sOk_of B) (vF_lt p0 h.v) w
 ·cases e : hS (rfC n t k a) w k with
  | nil => exact p0
  | cons y l =>
    have hy : y ∈ hS (rfC n t k a) w k := by rw [e]; exact List.mem_cons_self
    exact hS_ok p0 (sOk_of C) w k y hy
theorem PhQ.phase (h : PhQ N b n t tb s tp a) (hn : s.n = (n : Int)) (htn : t < n) (k : Nat) : PhQ N b n t tb s tp (phaseR n t k a) ∧ (phaseR n t k a).σ.round = a.σ.round + 3 := by
 have f := h.facts hn htn k
 exact ⟨⟨f.o3, by show ((List.range n).map _).length = n; rw [List.length_map, List.length_range], fun x hx => by
  obtain ⟨w, _, rfl⟩ := List.mem_map.1 hx
  exact f.O w⟩, f.r3⟩
end
theorem leastL_eq (S : List (List (List Nat))) (w n m : Nat) : leastL ((colS S w n).map List.head?) m = leastS n (hS S w) m := by
 unfold leastL leastS
 have h1 : ((colS S w n).map List.head?).filterMap id = (List.range n).filterMap fun f => (hS S w f).head? := by
  rw [colS_heads, List.filterMap_map]; rfl
 rw [h1]
 congr 1
 refine List.filter_congr fun x _ => ?_
 rw [votesL_eq]
theorem headsR_rz (ls : List (List Nat)) : headsR (ls.map rz) = ls.map List.head? := by unfold headsR; rw [List.map_map]; rfl
theorem least_call {S : List (List (List Nat))} {n w m k : Nat} (h13 : n ≤ 13) (hm : m ≤ 1000) (hk : 1103 ≤ k) (bb : Bool) (D : St) (dst : Option Nat) :
 doCallB H14 (evCall Tryd.prog H14 k) 69 false [.im false none 0 n (frzL false (frzL bb ((colS S w n).map cpV))), .int .i64 (m : Int)] D dst = some (D.lay dst (.tup [.int .u64 (((leastS n (hS S w) m).getD 0 : Nat) : Int), .bool (leastS n (hS S w) m).isSome])) := by
 have hl : ((colS S w n).map rz).length = n := by rw [List.length_map, colS_length]
 have h := callP (least69 false none 0 ((colS S w n).map rz) (by rw [hl]; omega) m hm) (k := k) hk (by simp [ptrsL, ptrs]) rfl D dst
 rw [hl, headsR_rz, leastL_eq] at h
 rw [frz_cpV]
 exact h
theorem votes_call {S : List (List (List Nat))} {n w x k : Nat} (h13 : n ≤ 13) (hk : 1101 ≤ k) (bb : Bool) (D : St) (dst : Option Nat) :
 doCallB H14 (evCall Tryd.prog H14 k) 70 false [.im false none 0 n (frzL false (frzL bb ((colS S w n).map cpV))), .int .u64 (x : Int)] D dst = some (D.lay dst (.int .i64 (votes n (hS S w) x : Nat))) := by
 have hl : ((colS S w n).map rz).length = n := by rw [List.length_map, colS_length]
 have h := callP (votes70 false none 0 ((colS S w n).map rz) (by rw [hl]; omega) x) (k := k) hk (by simp [ptrsL, ptrs]) rfl D dst
 rw [hl, headsR_rz, votesL_eq] at h
 rw [frz_cpV]
 exact h
def eaV (n : Nat) (L : List (List Nat)) : List V := (L.map rz).map fun r => eachRow n r n
theorem alike_call {L : List (List Nat)} {n k : Nat} (hL : L.length = n) (h13 : n ≤ 13) (hk : 1101 ≤ k) (bb : Bool) (D : St) (dst : Option Nat) :
 doCallB H14 (evCall Tryd.prog H14 k) 67 false [.im false none 0 n (frzL false (frzL bb (L.map ownR)))] D dst = some (D.lay dst (.own .nil 0 n (eaV n L))) := by
 have hl : (L.map rz).length = n := by rw [List.length_map, hL]
 have h := callP (alike67 false none 0 (L.map rz) (by rw [hl]; omega)) (k := k) hk (by simp [ptrsL, ptrs, ptrsL_rsV]) rfl D dst
 rw [hl] at h
 rw [frz_ownR]
 exact h
theorem frz_each {n : Nat} {rs : List RD} (hl : rs.length = n) (b : Bool) : frzL false (frzL b (rs.map fun r => eachRow n r n)) = msV (eachM n rs) := by
 have h := eachC_full hl b
 unfold eachC at h
 rwa [Nat.sub_self, List.replicate_zero, List.append_nil, ← hl, List.take_length, hl] at h
section
variable {N b g nx n k : Nat} {σ : NetS} {tb O1 O2 : List (Nat × Box)} {bx : Box}
theorem call59 (I : NetI N b σ tb) (hr : σ.round < 1000) (hn : σ.scn.n = (n : Int)) {L : List (List Nat)} (hL : L.length = n) (hok : LsOk σ.scn.p L) (hO : O1 ++ O2 = [(nx, bx)]) (h : ∀ e ∈ (b, (⟨g, netC σ⟩ : Box)) :: tb, e.1 < nx) (hk : max N 100 + 1 ≤ k) (bb : Bool) (s : Nat → V) (dst : Option Nat) :
 doCallB H14 (evCall Tryd.prog H14 k) 59 false [.bptr b 0, .im false none 0 n (frzL false (frzL bb (eaV n L)))] ⟨s, O1 ++ ((b, ⟨g, netC σ⟩) :: tb) ++ O2, nx + 1⟩ dst = some ((St.mk (fun i => killB (b :: σ.tp) (nx + 1) (s i)) ([(nx, bx)] ++ ((b, ⟨g, netC (rsent σ n L)⟩) :: tb)) (nx + 1)).lay dst (inV (saidE σ n L) n)) := by
 have hRl : (L.map rz).length = n := by rw [List.length_map, hL]
 have hML : (eachM n (L.map rz)).length = n := by simp [eachM, hL]
 have hmo : MsOk σ.scn.p n (mls (eachM n (L.map rz))) := by rw [mls_each, rz_l]; exact eachL_ok hL hok
 have e := I.send44 (g := g) hr false none 0 (eachM n (L.map rz)) (by rw [hML, hn]) (by rw [hML]; exact hmo)
 rw [hML, mls_each, rz_l] at e
 have hm : ∀ t ∈ b :: σ.tp, t < nx := fun t ht => by
  rcases List.mem_cons.1 ht with rfl | ht
  ·exact h _ List.mem_cons_self
  ·obtain ⟨e, he, rfl⟩ := List.mem_map.1 (I.hT.ids.mem_iff.2 ht)
   exact h e (List.mem_cons_of_mem _ he)
 have hd : ∀ e ∈ O1 ++ O2, e.1 ∉ b :: σ.tp := fun e he hc => by
  rw [hO, List.mem_singleton] at he
  subst he
  exact Nat.lt_irrefl _ (hm _ hc)
 have c := netCall (σ' := rsent σ n L) (O1 := O1) (O2 := O2) (k := k) I.hT I.hl hd (like_sentS _ _ _ _).2.1 e hk (by simp [ptrsL, ptrs]) rfl (nx := nx + 1) (fun e he => Nat.lt_succ_of_lt (h e he)) s dst
 rw [hO] at c
 unfold eaV
 rw [frz_each hRl]
 exact c
end
theorem rounds26r (b g : Nat) (σ : NetS) (tb : List (Nat × Box)) (hT : TB b σ.tp tb) : AnsM 1 Tryd.prog H14 26 [.bptr b 0] ((b, ⟨g, netC σ⟩) :: tb) (.int .i64 σ.round) ((b, ⟨g, netC σ⟩) :: tb) := by
 refine AnsM.gen (fn := Tryd.f26) (by rfl) Tryd.func26 rfl (by rfl) (fun nx h c hc => ?_) fun k hk nx h => ?_
 ·exact net_ptrs hT h (by simpa [ptrs] using hc)
 obtain ⟨hb, hfl⟩ := net_filt h
 simp [entryS, hb, hfl]
theorem scen51 (b g : Nat) (σ : NetS) (tb : List (Nat × Box)) (hT : TB b σ.tp tb) : AnsM 1 Tryd.prog H14 51 [.bptr b 0] ((b, ⟨g, netC σ⟩) :: tb) (scV σ.scn) ((b, ⟨g, netC σ⟩) :: tb) := by
 refine AnsM.gen (fn := Tryd.f51) (by rfl) Tryd.func51 rfl (by rfl) (fun nx h c hc => ?_) fun k hk nx h => ?_
 ·exact net_ptrs hT h (by simpa [scV, scL, ptrs] using hc)
 obtain ⟨hb, hfl⟩ := net_filt h
 have hb2 : b ≠ nx := by omega
 have ht : ∀ e ∈ tb, e.1 < nx := fun e he => h e (List.mem_cons_of_mem _ he)
 have hgl : ∀ c, getBox (tb ++ [(nx, c)]) nx = some c := fun c => getBox_last ht
 have hsl : ∀ c c', setBox (tb ++ [(nx, c)]) nx c' = tb ++ [(nx, c')] := fun c c' => setBox_last ht
 simp [entryS, hb, hfl, scV, scL, netC, hb2, hgl, hsl]
theorem uL_get2 {vs : List Nat} {i : Nat} (h : i < vs.length) : (uL vs)[i]'(by simp [uL]; exact h) = .int .u64 (vF vs i : Int) := by
 have h1 := List.getElem?_eq_getElem (l := uL vs) (i := i) (by simp [uL]; exact h)
 rw [uL_vF h] at h1
 exact (Option.some.inj h1).symm
theorem resize1 (l : List Nat) : resizeS l 1 = [l.headD 0] := by
 cases l <;> simp [resizeS]
theorem range_snoc {α : Type} (f : Nat → α) (i : Nat) : (List.range (i + 1)).map f = (List.range i).map f ++ [f i] := by rw [List.range_succ, List.map_append]; rfl
theorem map_len {α : Type} (f : Nat → α) (i : Nat) : ((List.range i).map f).length = i := by rw [List.length_map, List.length_range]
theorem phase52 {N b g : Nat} {σ : NetS} {tb : List (Nat × Box)} (I : NetI N b σ tb) (pm : Bool) (A : Option Addr) (cap : Nat) (vs : List Nat) (n t kk : Nat) (hl : vs.length = n) (hn : σ.scn.n = (n : Int)) (ht : σ.scn.t = (t : Int)) (htn : t < n) (hkk : kk < n) (hvs : ∀ x ∈ vs, x < σ.scn.p) (hr : σ.round + 3 < 1000) :
 AnsM (max N 1200 + 3) Tryd.prog H14 52 [.bptr b 0, .int .i64 ((kk : Int) + 1), .im pm A cap n (uL vs)] ((b, ⟨g, netC σ⟩) :: tb) (.own .nil 0 n (uL (phaseR n t kk ⟨σ, vs⟩).vs)) ((b, ⟨g, netC (phaseR n t kk ⟨σ, vs⟩).σ⟩) :: tb) := by
 have h13 : n ≤ 13 := by have := I.h13; omega
 have hP0 : PhQ N b n t tb σ.scn σ.tp ⟨σ, vs⟩ := ⟨⟨I, rfl, rfl⟩, hl, hvs⟩
 obtain ⟨hP3, hPr⟩ := hP0.phase hn htn kk
 have F := hP0.facts hn htn kk
 obtain ⟨a, ha⟩ : ∃ a : Ph, (⟨σ, vs⟩ : Ph) = a := ⟨_, rfl⟩
 have haσ : a.σ = σ := by rw [← ha]
 have hav : a.vs = vs := by rw [← ha]
 rw [ha] at hP3 F ⊢
 refine AnsM.gen (fn := Tryd.f52) (by rfl) Tryd.func52 rfl (by rfl) (fun nx h c hc => ?_) fun k hk nx h => ?_
 ·simp only [ptrs, nil_uL, List.nil_append] at hc
  exact net_ptrs (σ := (phaseR n t kk a).σ) hP3.o.I.hT (fun e he => by
   rcases List.mem_cons.1 he with rfl | he
   ·exact h (b, ⟨g, netC σ⟩) List.mem_cons_self
   ·exact h _ (List.mem_cons_of_mem _ he)) hc
 obtain ⟨hb, hfl⟩ := net_filt h
 have c51 := fun s dst => netCall0 (s := s) (dst := dst) (g := g) I.hT I.hl rfl (scen51 b g σ tb I.hT) (k := k) (by omega) (by simp [ptrsL, ptrs]) rfl h
 obtain ⟨M, hM⟩ : ∃ M, (b, (⟨g, netC σ⟩ : Box)) :: tb = M := ⟨_, rfl⟩
 rw [hM] at c51 ⊢
 have b1 : (n : Int) ≤ 140737488355328 := by omega
 have b2 : (n : Int) * 24 ≤ 140737488355328 := by omega
 have b5 : n ≤ 140737488355328 := by omega
 have hz : ¬ (n = 0 ∧ 0 < n) := by omega
 have hn0 : ¬ n = 0 := by omega
 simp only [scV, scL, hn, ht] at c51
 have hMl : ∀ e ∈ M, e.1 ≠ nx := by
  rw [← hM]; intro e he
  have := h e he
  omega
 have hg1 : ∀ c, getBox (M ++ [(nx, c)]) nx = some c := fun c => by rw [getBox_skip hMl]; simp [getBox]
 have hs1 : ∀ c c', setBox (M ++ [(nx, c)]) nx c' = M ++ [(nx, c')] := fun c c' => by rw [setBox_skip hMl]; simp [setBox]
 have hlA : (one1 a.vs).length = n := by rw [one1_length, hav, hl]
 have c68 := callP (each68 false A cap vs (by omega)) (k := k) (by omega) (by simp [ptrsL, ptrs, nil_uL]) rfl
 have hav1 : one1 vs = one1 a.vs := by rw [hav]
 rw [hl, hav1] at c68
 have c67 := fun L hL bb => alike_call (L := L) (n := n) (k := k) hL h13 (by omega) bb
 obtain ⟨bx, hbx⟩ : ∃ bx : Box, (⟨0, [V.int .u64 (σ.scn.p : Int), V.int .i64 (n : Int), V.int .i64 (t : Int)]⟩ : Box) = bx := ⟨_, rfl⟩
 have hbc : bx.cs = [V.int .u64 (σ.scn.p : Int), V.int .i64 (n : Int), V.int .i64 (t : Int)] := by rw [← hbx]
 have hnet : ∀ τ : NetS, ∀ e ∈ (b, (⟨g, netC τ⟩ : Box)) :: tb, e.1 < nx := fun τ e he => by
  rcases List.mem_cons.1 he with rfl | he
  ·exact hb
  ·exact h _ (List.mem_cons_of_mem _ he)
 have hget : ∀ (τ : NetS), getBox ([(nx, bx)] ++ ((b, (⟨g, netC τ⟩ : Box)) :: tb)) nx = some bx := fun τ => by simp [getBox]
 have hfil : ∀ (τ : NetS), ([(nx, bx)] ++ ((b, (⟨g, netC τ⟩ : Box)) :: tb)).filter (fun e => decide (e.1 < nx)) = (b, ⟨g, netC τ⟩) :: tb := fun τ => by
  rw [List.filter_append, filt_lt (hnet τ)]; simp
 have c59a : ∀ (bb : Bool) (s : Nat → V) (dst : Option Nat), _ := fun bb s dst => call59 (g := g) (k := k) (nx := nx) (bx := bx) (O1 := []) (O2 := [(nx, bx)]) (L := one1 a.vs) I (by omega) hn hlA F.L1 rfl (hnet σ) (by omega) bb s dst
 simp only [List.nil_append] at c59a
 rw [hM] at c59a
 have eA : saidE σ n (one1 a.vs) = rfA n a := by rw [← haσ]; rfl
 have e1 : rsent σ n (one1 a.vs) = rf1 n a := by rw [← haσ]; rfl
 rw [eA, e1] at c59a
 obtain ⟨M1, hM1⟩ : ∃ M1, [(nx, bx)] ++ ((b, (⟨g, netC (rf1 n a)⟩ : Box)) :: tb) = M1 := ⟨_, rfl⟩
 have gb1 := hget (rf1 n a)
 rw [hM1] at c59a gb1
 have c67a := c67 (one1 a.vs) hlA
 simp only [inV] at c59a
 rw [← hbx] at c59a
 simp [-reach, -doCall, doCall_eq, entryS, c51, hg1, hs1, c68, c67a, c59a]
 have hmt : IntKind.i64.wrap ((n : Int) - (t : Int)) = ((n - t : Nat) : Int) := by
  rw [show (n : Int) - (t : Int) = ((n - t : Nat) : Int) by omega]
  exact wrap_nat (by omega) (by omega)
 have hw33 : IntKind.i64.wrap ((t : Int) + 1) = ((t + 1 : Nat) : Int) := wrap_succ (q := t) (by omega)
 have hwk : IntKind.i64.wrap (kk : Int) = (kk : Int) := wrapi (by omega) (by omega)
 obtain ⟨Bs, hBs⟩ : ∃ Bs : St → Prop, Bs = fun D => D.s 0 = .bptr b 0 ∧ D.s 1 = .int .i64 ((kk : Int) + 1) ∧ D.s 2 = .im pm A cap n (uL vs) ∧ D.s 7 = .bptr nx 0 ∧ D.m = M1 ∧ D.nx = nx + 1 := ⟨_, rfl⟩
 obtain ⟨J, hJ⟩ : ∃ J : Nat → St → Prop, J = fun q D => ∃ (i : Nat) (L RS : List V), q = n - i ∧ i ≤ n ∧ L = ((List.range i).map (prop1 n t (hS (rfA n a)))).map ownR ∧ RS.length = n ∧ (∀ w, i ≤ w → w < n → RS[w]? = some (.own .nil 0 n ((colS (rfA n a) w n).map cpV))) ∧ Bs D ∧ D.s 8 = .own .nil 0 n RS ∧ D.s 9 = .own .nil 0 i L ∧ D.s 10 = .int .i64 (i : Int) := ⟨_, rfl⟩
 refine EvP.loop J (n := n) (by rw [hJ]; exact ⟨0, [], rowsC (outL (rfA n a) n n), by simp, by simp, rfl, by simp, fun w _ hw => by rw [rowsC_get (outL_get _ _ _ _ hw), if_pos hw, colS_length], by simp [hBs], by simp, by simp, by simp⟩) (by omega) fun q D hD => ?_
 rw [hJ] at hD
 obtain ⟨i, L, RS, rfl, hi, hL, hRl, hR, hB, d8, d9, d10⟩ := hD
 rw [hBs] at hB
 obtain ⟨d0, d1, d2, d7, dm, dx⟩ := hB
 have hLl : L.length = i := by rw [hL, List.length_map, map_len]
 by_cases hil : i < n
 ·have e4 := wrap_succ (q := i) (by omega)
  have hiR : i < RS.length := by omega
  have hRi := hR i (Nat.le_refl i) hil
  have hRe : RS[i] = .own .nil 0 n ((colS (rfA n a) i n).map cpV) := by
   have := List.getElem?_eq_getElem hiR
   rw [hRi] at this
   exact (Option.some.inj this).symm
  have p69 : ∀ bb, ptrsL (frzL false (frzL bb ((colS (rfA n a) i n).map cpV))) = [] := fun bb => by rw [frz_cpV]; exact ptrsL_rsV _
  have c69 := fun bb D dst => least_call (S := rfA n a) (w := i) (m := n - t) (k := k) h13 (by omega) (by omega) bb D dst
  have f1 : (i + 1) * 24 ≤ 140737488355328 := by omega
  have f2 : i ≤ 140737488355327 := by omega
  have hnext : ((List.range (i + 1)).map (prop1 n t (hS (rfA n a)))).map ownR = L ++ [ownR (prop1 n t (hS (rfA n a)) i)] := by rw [range_snoc, List.map_append, ← hL]; rfl
  have hp1 : prop1 n t (hS (rfA n a)) i = match leastS n (hS (rfA n a) i) (n - t) with | some x => [x] | none => [] := rfl
  cases hls : leastS n (hS (rfA n a) i) (n - t) with
  | none =>
    rw [hls] at c69 hp1
    simp only [Option.getD_none, Option.isSome_none] at c69
    have hp1 : prop1 n t (hS (rfA n a)) i = [] := hp1
    simp [-reach, -doCall, doCall_eq, d0, d1, d2, d7, d8, d9, d10, dm, dx, gb1, hbc, hil, hRi, hRe, hiR, hRl, hmt, p69, c69, e4, hLl, f1, f2]
    subst hJ
    exact ⟨n - (i + 1), by omega, i + 1, _, RS.set i (V.im (noBorL ((colS (rfA n a) i n).map cpV)) none 0 n (frzL (noBorL ((colS (rfA n a) i n).map cpV)) ((colS (rfA n a) i n).map cpV))), rfl, by omega, hnext.symm, by simp [hRl], fun w hw hwn => by rw [List.getElem?_set_ne (by omega)]; exact hR w (by omega) hwn, by simp [hBs, d0, d1, d2, d7, dm], by simp, by simp [hp1, ownR]; rfl, by simp⟩
  | some x =>
    rw [hls] at c69 hp1
    simp only [Option.getD_some, Option.isSome_some] at c69
    have hp1 : prop1 n t (hS (rfA n a)) i = [x] := hp1
    simp [-reach, -doCall, doCall_eq, d0, d1, d2, d7, d8, d9, d10, dm, dx, gb1, hbc, hil, hRi, hRe, hiR, hRl, hmt, p69, c69, e4, hLl, f1, f2]
    subst hJ
    exact ⟨n - (i + 1), by omega, i + 1, _, RS.set i (V.im (noBorL ((colS (rfA n a) i n).map cpV)) none 0 n (frzL (noBorL ((colS (rfA n a) i n).map cpV)) ((colS (rfA n a) i n).map cpV))), rfl, by omega, hnext.symm, by simp [hRl], fun w hw hwn => by rw [List.getElem?_set_ne (by omega)]; exact hR w (by omega) hwn, by simp [hBs, d0, d1, d2, d7, dm], by simp, by simp [hp1, ownR, uL], by simp⟩
 ·have hin : i = n := by omega
  rw [hin] at hL
  have hL2 : L = (prL n t (rfA n a)).map ownR := hL
  rw [hin] at d9 d10
  rw [hL2] at d9
  have c67b := c67 (prL n t (rfA n a)) (by simp)
  have c59b := fun (bb : Bool) (s : Nat → V) (dst : Option Nat) => call59 (g := g) (k := k) (nx := nx) (bx := bx) (O1 := [(nx, bx)]) (O2 := []) (L := prL n t (rfA n a)) F.o1.I (by rw [F.r1, haσ]; omega) (by rw [F.o1.s, hn]) (by simp) (by rw [F.o1.s]; exact F.L2) rfl (hnet (rf1 n a)) (by omega) bb s dst
  have e2 : saidE (rf1 n a) n (prL n t (rfA n a)) = rfB n t a := rfl
  have e3 : rsent (rf1 n a) n (prL n t (rfA n a)) = rf2 n t a := rfl
  simp only [e2, e3, List.append_nil, inV] at c59b
  obtain ⟨M2, hM2⟩ : ∃ M2, [(nx, bx)] ++ ((b, (⟨g, netC (rf2 n t a)⟩ : Box)) :: tb) = M2 := ⟨_, rfl⟩
  have gb2 := hget (rf2 n t a)
  rw [hM1, hM2] at c59b
  rw [hM2] at gb2
  simp [-reach, -doCall, doCall_eq, d0, d1, d2, d7, d8, d9, d10, dm, dx, gb1, hbc, c67b, c59b]
  obtain ⟨Bs2, hBs2⟩ : ∃ Bs : St → Prop, Bs = fun D => D.s 0 = .bptr b 0 ∧ D.s 1 = .int .i64 ((kk : Int) + 1) ∧ D.s 2 = .im pm A cap n (uL vs) ∧ D.s 7 = .bptr nx 0 ∧ D.m = M2 ∧ D.nx = nx + 1 := ⟨_, rfl⟩
  obtain ⟨J2, hJ2⟩ : ∃ J : Nat → St → Prop, J = fun q D => ∃ (i : Nat) (NL : List Nat) (LK : List Bool) (RS : List V), q = n - i ∧ i ≤ n ∧ NL = (List.range i).map (val2 n t (vF a.vs) (hS (rfB n t a))) ∧ LK = (List.range i).map (rfL n t a) ∧ RS.length = n ∧ (∀ w, i ≤ w → w < n → RS[w]? = some (.own .nil 0 n ((colS (rfB n t a) w n).map cpV))) ∧ Bs2 D ∧ D.s 8 = .own .nil 0 n RS ∧ D.s 13 = .own .nil 0 i (uL NL) ∧ D.s 14 = .own .nil 0 i (LK.map .bool) ∧ D.s 15 = .int .i64 (i : Int) := ⟨_, rfl⟩
  have unl : uL [] = [] := rfl
  refine EvP.loop J2 (n := n) (by rw [hJ2]; exact ⟨0, [], [], rowsC (outL (rfB n t a) n n), by simp, by simp, rfl, rfl, by simp, fun w _ hw => by rw [rowsC_get (outL_get _ _ _ _ hw), if_pos hw, colS_length], by simp [hBs2, d0, d1, d2, d7], by simp, by simp [unl], by simp, by simp⟩) (by omega) fun q D hD => ?_
  rw [hJ2] at hD
  obtain ⟨i, NL, LK, RS, rfl, hi, hNL, hLK, hRl, hR, hB, d8, d13, d14, d15⟩ := hD
  rw [hBs2] at hB
  obtain ⟨d0, d1, d2, d7, dm, dx⟩ := hB
  have hNl : NL.length = i := by rw [hNL, map_len]
  have hKl : LK.length = i := by rw [hLK, map_len]
  by_cases hil : i < n
  ·have e4 := wrap_succ (q := i) (by omega)
   have hiR : i < RS.length := by omega
   have hRi := hR i (Nat.le_refl i) hil
   have hRe : RS[i] = .own .nil 0 n ((colS (rfB n t a) i n).map cpV) := by
    have := List.getElem?_eq_getElem hiR
    rw [hRi] at this
    exact (Option.some.inj this).symm
   have p69 : ∀ bb, ptrsL (frzL false (frzL bb ((colS (rfB n t a) i n).map cpV))) = [] := fun bb => by rw [frz_cpV]; exact ptrsL_rsV _
   have c69 := fun bb D dst => least_call (S := rfB n t a) (w := i) (m := t + 1) (k := k) h13 (by omega) (by omega) bb D dst
   have c70 := fun x bb D dst => votes_call (S := rfB n t a) (w := i) (x := x) (k := k) h13 (by omega) bb D dst
   have f1 : (i + 1) * 8 ≤ 140737488355328 := by omega
   have f3 : i + 1 ≤ 140737488355328 := by omega
   have f2 : i ≤ 140737488355327 := by omega
   have hv2 : val2 n t (vF a.vs) (hS (rfB n t a)) i = match leastS n (hS (rfB n t a) i) (t + 1) with | some x => x | none => vF a.vs i := rfl
   have hlk : rfL n t a i = ((leastS n (hS (rfB n t a) i) (t + 1)).isSome && decide (n - t ≤ votes n (hS (rfB n t a) i) (val2 n t (vF a.vs) (hS (rfB n t a)) i))) := rfl
   have hnN : (List.range (i + 1)).map (val2 n t (vF a.vs) (hS (rfB n t a))) = NL ++ [val2 n t (vF a.vs) (hS (rfB n t a)) i] := by rw [range_snoc, hNL]
   have hnK : (List.range (i + 1)).map (rfL n t a) = LK ++ [rfL n t a i] := by rw [range_snoc, hLK]
   have hiv : i < vs.length := by omega
   have huv := uL_get2 hiv
   simp only [Int.natCast_succ] at c69
   cases hls : leastS n (hS (rfB n t a) i) (t + 1) with
   | none =>
     rw [hls] at c69 hv2 hlk
     simp only [Option.getD_none, Option.isSome_none] at c69
     have hv2 : val2 n t (vF a.vs) (hS (rfB n t a)) i = vF a.vs i := hv2
     have hlk : rfL n t a i = false := hlk
     replace hv2 : val2 n t (vF a.vs) (hS (rfB n t a)) i = vF vs i := hv2.trans (by rw [hav])
     simp [-reach, -doCall, doCall_eq, d0, d1, d2, d7, d8, d13, d14, d15, dm, dx, gb2, hbc, hil, hRi, hRe, hiR, hRl, hw33, p69, c69, e4, hNl, hKl, f1, f2, f3, huv, hl]
     subst hJ2
     exact ⟨n - (i + 1), by omega, i + 1, _, _, RS.set i (V.im (noBorL ((colS (rfB n t a) i n).map cpV)) none 0 n (frzL (noBorL ((colS (rfB n t a) i n).map cpV)) ((colS (rfB n t a) i n).map cpV))), rfl, by omega, hnN.symm, hnK.symm, by simp [hRl], fun w hw hwn => by rw [List.getElem?_set_ne (by omega)]; exact hR w (by omega) hwn, by simp [hBs2, d0, d1, d2, d7, dm], by simp, by simp [hv2, uL], by simp [hlk], by simp⟩
   | some x =>
     rw [hls] at c69 hv2 hlk
     simp only [Option.getD_some, Option.isSome_some] at c69
     have hv2 : val2 n t (vF a.vs) (hS (rfB n t a)) i = x := hv2
     rw [hv2] at hlk
     have c70 := c70 x
     have hge : decide (n - t ≤ votes n (hS (rfB n t a) i) x) = decide (((n - t : Nat) : Int) ≤ ((votes n (hS (rfB n t a) i) x : Nat) : Int)) := by simp
     have hlk : rfL n t a i = decide (n - t ≤ votes n (hS (rfB n t a) i) x) := hlk
     simp [-reach, -doCall, doCall_eq, d0, d1, d2, d7, d8, d13, d14, d15, dm, dx, gb2, hbc, hil, hRi, hRe, hiR, hRl, hw33, hmt, p69, c69, c70, e4, hNl, hKl, f1, f2, f3]
     subst hJ2
     exact ⟨n - (i + 1), by omega, i + 1, _, _, RS.set i (V.im (noBorL ((colS (rfB n t a) i n).map cpV)) none 0 n (frzL (noBorL ((colS (rfB n t a) i n).map cpV)) ((colS (rfB n t a) i n).map cpV))), rfl, by omega, hnN.symm, hnK.symm, by simp [hRl], fun w hw hwn => by rw [List.getElem?_set_ne (by omega)]; exact hR w (by omega) hwn, by simp [hBs2, d0, d1, d2, d7, dm], by simp, by simp [hv2, uL], by simp [hlk], by simp⟩
  ·have hin : i = n := by omega
   rw [hin] at hNL hLK d13 d14 d15
   have hNL2 : NL = rfV n t a := hNL
   have hNn : NL.length = n := by rw [hNL, map_len]
   have hkN : kk < NL.length := by omega
   have hkU : kk < (uL NL).length := by simp [uL]; omega
   have hVk : (uL NL)[kk]? = some (.int .u64 (vF NL kk : Int)) := uL_vF hkN
   have hVe := uL_get2 hkN
   obtain ⟨x, hx⟩ : ∃ x, vF NL kk = x := ⟨_, rfl⟩
   have hx2 : vF (rfV n t a) kk = x := by rw [← hNL2]; exact hx
   rw [hx] at hVk hVe
   have L3 := F.L3
   rw [hx2] at L3
   have hki : (List.replicate n (V.own .nil 0 0 [])).set kk (.own .nil 0 1 [.int .u64 (x : Int)]) = (kiL n kk x).map ownR := ki_set hkk x
   have c67c := c67 (kiL n kk x) (by simp)
   have c59c := fun (bb : Bool) (s : Nat → V) (dst : Option Nat) => call59 (g := g) (k := k) (nx := nx) (bx := bx) (O1 := [(nx, bx)]) (O2 := []) (L := kiL n kk x) F.o2.I (by rw [F.r2, haσ]; omega) (by rw [F.o2.s, hn]) (by simp) (by rw [F.o2.s]; exact L3) rfl (hnet (rf2 n t a)) (by omega) bb s dst
   have e4 : saidE (rf2 n t a) n (kiL n kk x) = rfC n t kk a := by rw [← hx2]; rfl
   have e5 : rsent (rf2 n t a) n (kiL n kk x) = rf3 n t kk a := by rw [← hx2]; rfl
   simp only [e4, e5, List.append_nil, inV] at c59c
   obtain ⟨M3, hM3⟩ : ∃ M3, [(nx, bx)] ++ ((b, (⟨g, netC (rf3 n t kk a)⟩ : Box)) :: tb) = M3 := ⟨_, rfl⟩
   have gb3 := hget (rf3 n t kk a)
   have gf3 := hfil (rf3 n t kk a)
   rw [hM2, hM3] at c59c
   rw [hM3] at gb3 gf3
   have hnNat : (n : Int) = ((n : Nat) : Int) := rfl
   simp [-reach, -doCall, doCall_eq, d0, d1, d2, d7, d8, d13, d14, d15, dm, dx, gb2, hbc, hz, b1, b2, b5, rep_rep, hwk, hkN, hkU, hVk, hVe, hNn, hkk, hki, c67c, c59c]
   obtain ⟨Bs3, hBs3⟩ : ∃ Bs : St → Prop, Bs = fun D => D.s 0 = .bptr b 0 ∧ D.s 1 = .int .i64 ((kk : Int) + 1) ∧ D.s 7 = .bptr nx 0 ∧ D.s 13 = .own .nil 0 n (uL NL) ∧ D.s 14 = .own .nil 0 n (LK.map .bool) ∧ D.m = M3 ∧ D.nx = nx + 1 := ⟨_, rfl⟩
   obtain ⟨J3, hJ3⟩ : ∃ J : Nat → St → Prop, J = fun q D => ∃ (i : Nat) (OL : List Nat) (RS : List V), q = n - i ∧ i ≤ n ∧ OL = (List.range i).map (rfO n t kk a) ∧ RS.length = n ∧ (∀ w, i ≤ w → w < n → RS[w]? = some (.own .nil 0 n ((colS (rfC n t kk a) w n).map cpV))) ∧ Bs3 D ∧ D.s 8 = .own .nil 0 n RS ∧ D.s 19 = .own .nil 0 i (uL OL) ∧ D.s 20 = .int .i64 (i : Int) := ⟨_, rfl⟩
   refine EvP.loop J3 (n := n) (by rw [hJ3]; exact ⟨0, [], rowsC (outL (rfC n t kk a) n n), by simp, by simp, rfl, by simp, fun w _ hw => by rw [rowsC_get (outL_get _ _ _ _ hw), if_pos hw, colS_length], by simp [hBs3, d0, d1, d7, d13, d14], by simp, by simp [unl], by simp⟩) (by omega) fun q D hD => ?_
   rw [hJ3] at hD
   obtain ⟨i, OL, RS, rfl, hi, hOL, hRl, hR, hB, d8, d19, d20⟩ := hD
   rw [hBs3] at hB
   obtain ⟨d0, d1, d7, d13, d14, dm, dx⟩ := hB
   have hOl : OL.length = i := by rw [hOL, map_len]
   by_cases hil : i < n
   ·have e6 := wrap_succ (q := i) (by omega)
    have f1 : (i + 1) * 8 ≤ 140737488355328 := by omega
    have f2 : i ≤ 140737488355327 := by omega
    have hnO : (List.range (i + 1)).map (rfO n t kk a) = OL ++ [rfO n t kk a i] := by rw [range_snoc, hOL]
    have hiN : i < NL.length := by omega
    have hiU : i < (uL NL).length := by simp [uL]; omega
    have hNi : (uL NL)[i]? = some (.int .u64 (vF NL i : Int)) := uL_vF hiN
    have hNe := uL_get2 hiN
    have hNv : vF NL i = val2 n t (vF a.vs) (hS (rfB n t a)) i := by rw [hNL]; exact vF_map _ hil
    rw [hNv] at hNi hNe
    obtain ⟨BS, hBS⟩ : ∃ BS, LK.map V.bool = BS := ⟨_, rfl⟩
    rw [hBS] at d14
    have hKn : LK.length = n := by rw [hLK, map_len]
    have hBl : BS.length = n := by rw [← hBS, List.length_map, hKn]
    have hiB : i < BS.length := by omega
    have hBi : BS[i]? = some (.bool (rfL n t a i)) := by
     rw [← hBS, hLK, List.getElem?_map, List.getElem?_map, List.getElem?_range hil]; rfl
    have hBe : BS[i] = .bool (rfL n t a i) := by
     have := List.getElem?_eq_getElem hiB
     rw [hBi] at this
     exact (Option.some.inj this).symm
    have hiR : i < RS.length := by omega
    obtain ⟨rc, hrc⟩ : ∃ rc, (colS (rfC n t kk a) i n).map cpV = rc := ⟨_, rfl⟩
    have hRi : RS[i]? = some (.own .nil 0 n rc) := by rw [hR i (Nat.le_refl i) hil, hrc]
    have hRe : RS[i] = .own .nil 0 n rc := by
     have := List.getElem?_eq_getElem hiR
     rw [hRi] at this
     exact (Option.some.inj this).symm
    have hrl : rc.length = n := by rw [← hrc, List.length_map, colS_length]
    have hjr : kk < rc.length := by omega
    obtain ⟨l, hle⟩ : ∃ l, hS (rfC n t kk a) i kk = l := ⟨_, rfl⟩
    have hrj : rc[kk]? = some (cpV l) := by
     rw [← hrc, List.getElem?_map]; unfold colS; rw [List.getElem?_map, List.getElem?_range hkk, ← hle]; rfl
    have hre : rc[kk] = cpV l := by
     have := List.getElem?_eq_getElem hjr
     rw [hrj] at this
     exact (Option.some.inj this).symm
    have hou : rfO n t kk a i = if rfL n t a i = true then val2 n t (vF a.vs) (hS (rfB n t a)) i else l.headD 0 := by
     unfold rfO; rw [hle]
    have c37 := callP (resize25 false none 0 l 1 (by omega)) (k := k) (by omega) (by simp [ptrsL, ptrs, nil_uL]) rfl
    rw [resize1] at c37
    have i1 : ((1 : Nat) : Int) = 1 := rfl
    rw [i1] at c37
    cases hlk : rfL n t a i with
    | true =>
      rw [hlk, if_pos rfl] at hou
      rw [hlk] at hBi hBe
      simp [-reach, -doCall, doCall_eq, d0, d1, d7, d8, d13, d14, d19, d20, dm, dx, gb3, hbc, hil, hiB, hBl, hBi, hBe, hiN, hiU, hNn, hNi, hNe, hOl, f1, f2, e6]
      subst hJ3
      exact ⟨n - (i + 1), by omega, i + 1, _, RS, rfl, by omega, hnO.symm, hRl, fun w hw hwn => hR w (by omega) hwn, by simp [hBs3, d0, d1, d7, d13, d14, dm, hBS], by simp [d8], by simp [hou, uL], by simp⟩
    | false =>
      rw [hlk, if_neg (by simp)] at hou
      rw [hlk] at hBi hBe
      rcases l with _ | ⟨y, l⟩
      ·simp only [cpV_nil] at hrj hre
       have hou : rfO n t kk a i = 0 := hou
       have z0 : uL [] = [] := rfl
       simp only [List.headD_nil, z0, List.length_nil] at c37
       have z1 : uL [0] = [.int .u64 0] := rfl
       rw [z1] at c37
       simp [-reach, -doCall, doCall_eq, d0, d1, d7, d8, d13, d14, d19, d20, dm, dx, gb3, hbc, hil, hiB, hBl, hBi, hBe, hwk, hRi, hRe, hiR, hRl, hrj, hre, hjr, hrl, hkk, c37, hOl, f1, f2, e6]
       subst hJ3
       exact ⟨n - (i + 1), by omega, i + 1, _, RS.set i (.own .nil 0 n (rc.set kk (.im true none 0 0 []))), rfl, by omega, hnO.symm, by simp [hRl], fun w hw hwn => by rw [List.getElem?_set_ne (by omega)]; exact hR w (by omega) hwn, by simp [hBs3, d0, d1, d7, d13, d14, dm, hBS], by simp, by simp [hou, uL], by simp⟩
      ·simp only [cpV_cons] at hrj hre
       have hou : rfO n t kk a i = y := hou
       have z1 : uL [y] = [.int .u64 (y : Int)] := rfl
       simp only [List.headD_cons, z1, uL_cons, List.length_cons] at c37
       simp [-reach, -doCall, doCall_eq, d0, d1, d7, d8, d13, d14, d19, d20, dm, dx, gb3, hbc, hil, hiB, hBl, hBi, hBe, hwk, hRi, hRe, hiR, hRl, hrj, hre, hjr, hrl, hkk, c37, hOl, f1, f2, e6]
       subst hJ3
       exact ⟨n - (i + 1), by omega, i + 1, _, RS, rfl, by omega, hnO.symm, hRl, fun w hw hwn => hR w (by omega) hwn, by simp [hBs3, d0, d1, d7, d13, d14, dm, hBS], by simp [d8], by simp [hou, uL], by simp⟩
   ·have hin : i = n := by omega
    rw [hin] at hOL d19 d20
    have hO2 : OL = (phaseR n t kk a).vs := hOL
    simp [-reach, -doCall, doCall_eq, d0, d1, d7, d8, d13, d14, d19, d20, dm, dx, gb3, hbc]
    exact ⟨by rw [hO2], gf3⟩
end Go.Abs
end
