/- Joined: AbsPD AbsPE AbsPF AbsPG AbsPT AbsPH AbsPR AbsPS AbsPU. -/
import Derived.Test.YtbkhamjlfadfoaaDoorAbs10
import Derived.Test.YtbkhamjlfadfoaaDoorAbs145
import Derived.Test.YtbkhamjlfadfoaaDoorAbs147
set_option linter.all false
set_option linter.unusedVariables false
noncomputable section
namespace Go.Abs
open Go Go.Proofs
set_option maxRecDepth 100000
def hon (s : Scn) (f : Nat) : Bool := decide (((f : Int) + 1) ∉ s.corrupt)
theorem eachL_at {n : Nat} {L : List (List Nat)} {f w : Nat} (hw : w < n) : at2 (eachL n L) f w = L[f]? := by
  unfold at2 eachL
  rw [List.getElem?_map]
  cases L[f]? with
  | none => rfl
  | some l => simp [hw]
structure Hears (s : Scn) (n : Nat) (H : Nat → Bool) : Prop where
  d : ∀ x ∈ s.devs, DevP (n : Int) x
  h : s.devs = [] ∨ ∀ f, f < n → H f = true → ((f : Int) + 1) ∉ s.corrupt
theorem hS_said {s : Scn} {σ : NetS} (hs : σ.scn = s) {n : Nat} {H : Nat → Bool} (hh : Hears s n H) {L : List (List Nat)} {w f : Nat} (hw : w < n) (hf : f < n) (hH : H f = true) (l : List Nat) (hl : L[f]? = some l) : hS (saidE σ n L) w f = l := by
  unfold hS saidE netSaid
  rw [sw_at2, hs]
  rcases hh.h with h0 | h1
  · rw [h0]
    show (at2 (eachL n L) f w).getD [] = l
    rw [eachL_at hw, hl]; rfl
  · rw [msg_honest hh.d hw (.inl (h1 f hf hH)), eachL_at hw, hl]; rfl
theorem one1_get {vs : List Nat} {n f : Nat} (h : vs.length = n) (hf : f < n) : (one1 vs)[f]? = some [vF vs f] := by
  have : f < vs.length := by omega
  unfold one1 vF
  rw [List.getElem?_map, List.getElem?_eq_getElem this]; rfl
theorem vF_map {n f : Nat} (g : Nat → Nat) (hf : f < n) : vF ((List.range n).map g) f = g f := by
  unfold vF
  rw [List.getElem?_map, List.getElem?_range hf]; rfl
section
variable {N b n t : Nat} {tb : List (Nat × Box)} {s : Scn} {tp : List Nat} {a : Ph} {H : Nat → Bool}
theorem run_of (h : PhO N b n t tb s tp a) (hn : s.n = (n : Int)) (htn : t < n) (hh : Hears s n H) (K : Nat) (hK : K ≤ n) :
    Run n t H K (fun k f => vF (phases n t a k).vs f) (fun k => hS (phA n (phases n t a k))) (fun k => hS (phB n t (phases n t a k))) (fun k => hS (phC n t k (phases n t a k))) := by
  refine ⟨fun k hk w f hw hf hH => ?_, fun k hk w f hw hf hH => ?_, fun k hk w f hw hf hH => ?_, fun k hk w hw => ?_⟩
  · obtain ⟨hP, _⟩ := h.phases hn htn k
    exact hS_said hP.o.s hh hw hf hH _ (one1_get hP.l hf)
  · obtain ⟨hP, _⟩ := h.phases hn htn k
    have F := hP.facts hn htn k
    exact hS_said F.o1.s hh hw hf hH _ (by unfold prL; rw [List.getElem?_map, List.getElem?_range hf]; rfl)
  · obtain ⟨hP, _⟩ := h.phases hn htn k
    have F := hP.facts hn htn k
    refine hS_said F.o2.s hh hw hf hH _ ?_
    unfold kiL phV vaL
    rw [List.getElem?_map, List.getElem?_range hf, vF_map _ (show k < n by omega)]
    rfl
  · exact vF_map _ hw
end
theorem cnt_one (a : Int) : ∀ n : Nat, (List.range n).countP (fun f : Nat => decide ((f : Int) + 1 = a)) = if 1 ≤ a ∧ a ≤ (n : Int) then 1 else 0
  | 0 => by
    have : ¬ (1 ≤ a ∧ a ≤ ((0 : Nat) : Int)) := by omega
    rw [if_neg this]; rfl
  | n + 1 => by
    rw [List.range_succ, List.countP_append, cnt_one a n]
    by_cases h : (n : Int) + 1 = a
    · have h1 : ¬ (1 ≤ a ∧ a ≤ (n : Int)) := by omega
      have h2 : 1 ≤ a ∧ a ≤ ((n + 1 : Nat) : Int) := by omega
      rw [if_neg h1, if_pos h2]; simp [h]
    · by_cases h1 : 1 ≤ a ∧ a ≤ (n : Int)
      · have h2 : 1 ≤ a ∧ a ≤ ((n + 1 : Nat) : Int) := by omega
        rw [if_pos h1, if_pos h2]; simp [h]
      · have h2 : ¬ (1 ≤ a ∧ a ≤ ((n + 1 : Nat) : Int)) := by omega
        rw [if_neg h1, if_neg h2]; simp [h]
theorem cnt_or {q r : Nat → Bool} (l : List Nat) : l.countP (fun f => q f || r f) ≤ l.countP q + l.countP r := by
  induction l with
  | nil => simp
  | cons a l ih =>
    simp only [List.countP_cons]
    cases q a <;> cases r a <;> simp <;> omega
theorem cnt_mem (n : Nat) : ∀ l : List Int, (List.range n).countP (fun f : Nat => decide ((f : Int) + 1 ∈ l)) ≤ l.length
  | [] => by simp
  | a :: l => by
    have h1 := cnt_or (q := fun f => decide ((f : Int) + 1 = a)) (r := fun f => decide ((f : Int) + 1 ∈ l)) (List.range n)
    have h2 := cnt_one a n
    have h3 := cnt_mem n l
    have h4 : (fun f : Nat => decide ((f : Int) + 1 ∈ a :: l)) = fun f : Nat => decide ((f : Int) + 1 = a) || decide ((f : Int) + 1 ∈ l) := by
      funext f; simp
    rw [h4, List.length_cons]
    have h5 : (List.range n).countP (fun f : Nat => decide ((f : Int) + 1 = a)) ≤ 1 := by rw [h2]; split <;> omega
    omega
theorem good_of {s : Scn} {n t : Nat} (ht : s.t = (t : Int)) (hc : (s.corrupt.length : Int) ≤ s.t) (h3 : 3 * t < n) : Good n t (hon s) := by
  refine ⟨?_, h3⟩
  have h := cnt_mem n s.corrupt
  have e : (fun f => !hon s f) = fun f : Nat => decide ((f : Int) + 1 ∈ s.corrupt) := by
    funext f; simp [hon]
  show (List.range n).countP (fun f => !hon s f) ≤ t
  rw [e]; omega
theorem hears_hon {s : Scn} {n : Nat} (hn : s.n = (n : Int)) (hd : ∀ x ∈ s.devs, DevP s.n x) : Hears s n (hon s) := ⟨fun x hx => hn ▸ hd x hx, .inr fun f _ h => by simpa [hon] using h⟩
theorem hears_all {s : Scn} (hd : s.devs = []) (n : Nat) : Hears s n (fun _ => true) := ⟨fun x hx => (by rw [hd] at hx; cases hx), .inl hd⟩
section
variable {N b n t : Nat} {tb : List (Nat × Box)} {s : Scn} {tp : List Nat} {a : Ph} {H : Nat → Bool}
theorem phases_agree (h : PhO N b n t tb s tp a) (hn : s.n = (n : Int)) (g : Good n t H) (hh : Hears s n H) : ∃ x, ∀ f, f < n → H f = true → vF (phases n t a (t + 1)).vs f = x :=
  Run.agree g (run_of h hn (by have := g.third; omega) hh (t + 1) (by have := g.third; omega))
theorem phases_valid (h : PhO N b n t tb s tp a) (hn : s.n = (n : Int)) (g : Good n t H) (hh : Hears s n H) {x : Nat} (hx : ∀ f, f < n → H f = true → vF a.vs f = x) : ∀ f, f < n → H f = true → vF (phases n t a (t + 1)).vs f = x :=
  Run.valid g (run_of h hn (by have := g.third; omega) hh (t + 1) (by have := g.third; omega)) hx
end
structure LikeV (σ τ : NetS) (q : Dev → Bool) : Prop where
  p : τ.scn.p = σ.scn.p
  c : τ.scn.corrupt = σ.scn.corrupt
  r : τ.round = σ.round
  d : τ.scn.devs = σ.scn.devs.filter q
theorem LikeV.sent {σ τ : NetS} {q : Dev → Bool} (h : LikeV σ τ q) (n : Nat) (L M : List (List Nat)) : LikeV (sentE σ n L) (sentE τ n M) q := by
  obtain ⟨a1, _, _, a4⟩ := like_sentS cpW (saidE σ n L) n σ
  obtain ⟨b1, _, _, b4⟩ := like_sentS cpW (saidE τ n M) n τ
  refine ⟨?_, ?_, ?_, ?_⟩
  · exact (congrArg (·.p) b1).trans (h.p.trans (congrArg (·.p) a1).symm)
  · exact (congrArg (·.corrupt) b1).trans (h.c.trans (congrArg (·.corrupt) a1).symm)
  · exact b4.trans ((congrArg (· + 1) h.r).trans a4.symm)
  · exact (congrArg (·.devs) b1).trans (h.d.trans (congrArg (fun s : Scn => s.devs.filter q) a1).symm)
end Go.Abs
end
set_option linter.unusedVariables false
noncomputable section
namespace Go.Abs
open Go Go.Proofs
set_option maxRecDepth 100000
structure ScnT (s : Scn) : Prop where
  c : s.cpm = true
  d : s.dpm = true
  t : s.tpm = true
  r : ∀ x ∈ s.tapes, x.pm = true
theorem ScnT.net0 {s : Scn} (h : ScnT s) (nx i : Nat) : NetT (net0 s nx i) := ⟨h.c, h.d, h.t, h.r, fun v hv e he => by
  have : v = [] := (List.mem_replicate.1 (show v ∈ List.replicate s.n.toNat [] from hv)).2
  subst this; cases he⟩
def tbO (s : Scn) (nx : Nat) : List (Nat × Box) := tapB (fun w => tapeC w 0) (nx + 3) s.tapes
theorem ScnT.tbO {s : Scn} (h : ScnT s) (nx : Nat) : ∀ e ∈ tbO s nx, noBorL e.2.cs = true := by
  have key : ∀ (l : List RD) (n : Nat), (∀ x ∈ l, x.pm = true) → ∀ e ∈ tapB (fun w => tapeC w 0) n l, noBorL e.2.cs = true := by
    intro l
    induction l with
    | nil => intro n _ e he; cases he
    | cons w l ih =>
      intro n hl e he
      rcases List.mem_cons.1 he with rfl | he
      · have := hl w List.mem_cons_self
        show noBorL (tapeC w 0) = true
        simp [tapeC, rV, noBorL, noBor, this]
      · exact ih _ (fun x hx => hl x (List.mem_cons_of_mem _ hx)) e he
  exact key _ _ h.r
def nwO (s : Scn) (nx : Nat) : NetS := net0 s (nx + 1) s.tapes.length
theorem nwO_I {s : Scn} {N : Nat} (hs : ScnS s) (hN : SendN (lentS s) N) (nx : Nat) : NetI N (nx + 2) (nwO s nx) (tbO s nx) := by
  have h4 := scnS_n hs
  have hl : (s.tapes.length : Int) = s.n := hs.2.1
  exact net0_I _ (fun w => ptrsL_tapeC w 0) s (nx + 1) hs hN (scnS_pq hs) h4.2 (by omega)
def pkO (s : Scn) (nx n t : Nat) (vs : List Nat) : Ph := phases n t ⟨nwO s nx, vs⟩ (t + 1)
def agM (s : Scn) (nx : Nat) (σ : NetS) : List (Nat × Box) := [(nx, ⟨0, scL s⟩), (nx + 1, ⟨0, scL s⟩)] ++ (nx + 2, ⟨0, netC σ⟩) :: tbO s nx
theorem nwO_Ph {s : Scn} {N n t : Nat} (hs : ScnS s) (hT : ScnT s) (hN : SendN (lentS s) N) (nx : Nat) {vs : List Nat} (hl : vs.length = n) (hv : ∀ x ∈ vs, x < s.p) : PhO N (nx + 2) n t (tbO s nx) s (nwO s nx).tp ⟨nwO s nx, vs⟩ := ⟨⟨nwO_I hs hN nx, hT.net0 _ _, rfl, rfl⟩, hl, hv⟩
theorem nwO_A (s : Scn) (nx : Nat) (c c' : Box) : Around nx (nx + 2) (nwO s nx).tp c [(nx, c), (nx + 1, c')] (nx + (3 + s.tapes.length)) := by
  have := net0_around s nx c c'
  rwa [show nx + 1 + (2 + s.tapes.length) = nx + (3 + s.tapes.length) by omega] at this
set_option maxHeartbeats 8000000 in
theorem agreed18 (s : Scn) (hT : ScnT s) (hs : ScnS s) (hd : s.devs.length ≤ 1000) (hr : ∀ r ∈ s.tapes, r.l.length ≤ 1000) {N n t : Nat} (hN : SendN (lentS s) N) (hn : s.n = (n : Int)) (ht : s.t = (t : Int)) (h3 : 3 * t < n) (pm : Bool) (A : Option Addr) (cap : Nat) (vs : List Nat) (hl : vs.length = n) (hv : ∀ x ∈ vs, x < s.p) :
    AnsB (max (max N 100 + 3) 1111 + 1) Tryd.prog H14 18 [scV s, .im pm A cap n (uL vs)] (fun nx => .tup [.own .nil 0 n (uL (pkO s nx n t vs).vs), .bptr (nx + 2) 0, .bool true]) (fun nx => agM s nx (pkO s nx n t vs).σ) (3 + s.tapes.length) := by
  have h13 := scnS_n hs
  have hnl : (s.tapes.length : Int) = s.n := hs.2.1
  refine AnsB.gen (fn := Tryd.f18) (by rfl) Tryd.func18 rfl (by rfl) (fun nx => ⟨nx + 2, by simp [ptrs, ptrsL, nil_uL], by omega⟩) fun k hk nx => ?_
  have hP := nwO_Ph (t := t) hs hT hN nx hl hv
  obtain ⟨hP1, hPr⟩ := hP.phases hn (by omega) (t + 1)
  have AO := nwO_A s nx ⟨0, scL s⟩ ⟨0, scL s⟩
  have c13 := fun st dst => call13 s st [(nx, ⟨0, scL s⟩)] (nx + 1) dst hd (by omega) hr hs hT.r (k := k) (by omega)
  rw [netM_at] at c13
  have e0 : net0 s (nx + 1) s.tapes.length = nwO s nx := rfl
  have e1 : tapB (fun w => tapeC w 0) (nx + 1 + 2) s.tapes = tbO s nx := rfl
  have e2 : nx + 1 + (2 + s.tapes.length) = nx + (3 + s.tapes.length) := by omega
  have e3 : nx + 1 + 1 = nx + 2 := rfl
  rw [e0, e1, e2, e3] at c13
  have a22 := fun pm A cap => agree22 (g := 0) hP.o.I hP.o.T (hT.tbO nx) pm A cap vs n t hl hn ht (by omega) hv (by show (0 : Int) + 3 * (t + 1) < 1000; omega)
  have c22 := fun pm A cap st dst => AO.call hP.o.I.hT hP.o.I.hl hP1.o.tp (a22 pm A cap) (k := k) (by omega) (by simp [ptrsL, ptrs, nil_uL]) rfl st dst
  obtain ⟨o, ho⟩ : ∃ o, phases n t ⟨nwO s nx, vs⟩ (t + 1) = o := ⟨_, rfl⟩
  have ho' : pkO s nx n t vs = o := ho
  rw [ho] at c22 hP1
  rw [ho']
  obtain ⟨M0, hM0⟩ : ∃ M, [(nx, (⟨0, scL s⟩ : Box)), (nx + 1, ⟨0, scL s⟩)] ++ (nx + 2, ⟨0, netC (nwO s nx)⟩) :: tbO s nx = M := ⟨_, rfl⟩
  obtain ⟨M1, hM1⟩ : ∃ M, [(nx, (⟨0, scL s⟩ : Box)), (nx + 1, ⟨0, scL s⟩)] ++ (nx + 2, ⟨0, netC o.σ⟩) :: tbO s nx = M := ⟨_, rfl⟩
  have gM1 : getBox M1 nx = some ⟨0, scL s⟩ := by rw [← hM1]; exact AO.get
  have hM1' : agM s nx o.σ = M1 := hM1
  have hM0' : [(nx, (⟨0, scL s⟩ : Box))] ++ (nx + 1, ⟨0, scL s⟩) :: (nx + 2, ⟨0, netC (nwO s nx)⟩) :: tbO s nx = M0 := hM0
  rw [hM0, hM1] at c22
  rw [hM0'] at c13
  rw [hM1']
  have t1 := hT.c
  have t2 := hT.d
  have t3 := hT.t
  have vl : o.vs.length = n := hP1.l
  simp only [scV, scL, t1, t2, t3, hn, ht] at c13 gM1
  have nb := noBorL_rs hT.r
  simp [-reach, -doCall, doCall_eq, entryS, scV, scL, t1, t2, t3, hn, ht, c13, c22, gM1, vl, noBorL_iL, noBorL_devs, nb]
end Go.Abs
end
set_option linter.unusedVariables false
noncomputable section
namespace Go.Abs
open Go Go.Proofs
set_option maxRecDepth 100000
structure Ask where
  s : Scn
  pm : Bool
  A : Option Addr
  cap : Nat
  ws : List Nat
def lentA (z : Ask) : Ask := { z with s := lentS z.s, pm := false }
def MayS (z : Ask) : Prop := FairS z.s 40 20 ∧ (z.ws.length : Int) = z.s.n ∧ z.ws.length ≤ 13 ∧ ∀ x ∈ z.ws, x < z.s.p
theorem MayS.lent {z : Ask} : MayS (lentA z) ↔ MayS z := by
  unfold MayS
  show FairS (lentS z.s) 40 20 ∧ _ ↔ _
  rw [FairS.lent]
  rfl
end Go.Abs
end
set_option linter.unusedVariables false
noncomputable section
namespace Go.Abs
open Go Go.Proofs
set_option maxRecDepth 100000
def rt (l : List Nat) : RD := ⟨true, none, 0, l⟩
end Go.Abs
end
set_option linter.unusedVariables false
noncomputable section
namespace Go.Abs
open Go Go.Proofs
set_option maxRecDepth 100000
theorem rd_wordsT {k : Nat} {vs : List V} (h : ShT Tryd.prog (k + 1 + 1) 30 vs) : ∃ r : RD, (r.pm = true ∧ ∀ x ∈ r.l, x < 18446744073709551616) ∧ vs = [rV r] := by
  obtain ⟨A, cap, l, h1, h2, rfl⟩ := sh_wordsT Tryd.underlying30 Tryd.underlying22 ce22 h
  exact ⟨⟨true, A, cap, l⟩, ⟨rfl, h2⟩, rfl⟩
theorem rd_intsT {k : Nat} {vs : List V} (h : ShT Tryd.prog (k + 1 + 1) 25 vs) : ∃ A cap l, vs = [.im true A cap l.length (iL l)] := by
  obtain ⟨A, cap, l, h1, h2, h3⟩ := sh_sliceT (fun x : Int => [V.int .i64 x]) (fun _ => True) Tryd.underlying25 ce3 (fun c h => by
    obtain ⟨x, _, he⟩ := sh_i64T Tryd.underlying3 h
    exact ⟨x, trivial, he⟩) h
  rw [← flat_iL] at h3
  exact ⟨A, cap, l, h3⟩
theorem rd_rowsT {k : Nat} {vs : List V} (h : ShT Tryd.prog (k + 1 + 1 + 1) 27 vs) : ∃ A cap, ∃ l : List RD, (∀ r ∈ l, r.pm = true) ∧ vs = [.im true A cap l.length (rsV l)] := by
  obtain ⟨A, cap, l, h1, h2, h3⟩ := sh_sliceT (fun x : RD => [rV x]) (fun r => r.pm = true ∧ ∀ x ∈ r.l, x < 18446744073709551616) Tryd.underlying27 ce30 (fun c h => rd_wordsT h) h
  rw [← flat_rsV] at h3
  exact ⟨A, cap, l, fun r hr => (h2 r hr).1, h3⟩
theorem rd_paramsT {k : Nat} {vs : List V} (h : ShT Tryd.prog (k + 1 + 1) 24 vs) : ∃ (p : Nat) (n t : Int), p < 18446744073709551616 ∧ vs = [.int .u64 (p : Int), .int .i64 n, .int .i64 t] := by
  unfold ShT at h
  rw [Tryd.underlying24] at h
  obtain ⟨hl, hf⟩ := h
  rw [ce24] at hl
  match vs, hl with
  | [a, b, c], _ =>
    simp [ce22, ce3] at hf
    obtain ⟨h0, h1, h2⟩ := hf
    obtain ⟨p, hp, e0⟩ := sh_u64T Tryd.underlying22 h0
    obtain ⟨n, _, e1⟩ := sh_i64T Tryd.underlying3 h1
    obtain ⟨t, _, e2⟩ := sh_i64T Tryd.underlying3 h2
    simp at e0 e1 e2
    exact ⟨p, n, t, hp, by simp [e0, e1, e2]⟩
theorem rd_devT {k : Nat} {vs : List V} (h : ShT Tryd.prog (k + 1 + 1) 45 vs) : ∃ x : Dev, x.k < 18446744073709551616 ∧ vs = devL x := by
  unfold ShT at h
  rw [Tryd.underlying45] at h
  obtain ⟨hl, hf⟩ := h
  rw [ce45] at hl
  match vs, hl with
  | [a, b, c, d, e, f, g, i], _ =>
    simp [ce22, ce3] at hf
    obtain ⟨h0, h1, h2, h3, h4, h5, h6, h7⟩ := hf
    obtain ⟨x0, _, e0⟩ := sh_i64T Tryd.underlying3 h0
    obtain ⟨x1, _, e1⟩ := sh_i64T Tryd.underlying3 h1
    obtain ⟨x2, _, e2⟩ := sh_i64T Tryd.underlying3 h2
    obtain ⟨x3, _, e3⟩ := sh_i64T Tryd.underlying3 h3
    obtain ⟨x4, _, e4⟩ := sh_i64T Tryd.underlying3 h4
    obtain ⟨x5, hk, e5⟩ := sh_u64T Tryd.underlying22 h5
    obtain ⟨x6, _, e6⟩ := sh_i64T Tryd.underlying3 h6
    obtain ⟨x7, _, e7⟩ := sh_i64T Tryd.underlying3 h7
    simp at e0 e1 e2 e3 e4 e5 e6 e7
    exact ⟨⟨x0, x1, x2, x3, x4, x5, x6, x7⟩, hk, by simp [devL, e0, e1, e2, e3, e4, e5, e6, e7]⟩
theorem rd_devsT {k : Nat} {vs : List V} (h : ShT Tryd.prog (k + 1 + 1 + 1) 26 vs) : ∃ A cap, ∃ l : List Dev, (∀ x ∈ l, x.k < 18446744073709551616) ∧ vs = [.im true A cap l.length (devsV l)] := by
  obtain ⟨A, cap, l, h1, h2, h3⟩ := sh_sliceT devL (fun x : Dev => x.k < 18446744073709551616) Tryd.underlying26 ce45 (fun c h => rd_devT h) h
  exact ⟨A, cap, l, h2, h3⟩
structure ScnB (s : Scn) : Prop where
  k : ∀ x ∈ s.devs, x.k < 18446744073709551616
  T : ScnT s
theorem rd_scnT {k : Nat} {vs : List V} (h : ShT Tryd.prog (k + 1 + 1 + 1 + 1) 29 vs) : ∃ s : Scn, ScnB s ∧ vs = scL s := by
  unfold ShT at h
  rw [Tryd.underlying29] at h
  obtain ⟨hl, hf⟩ := h
  rw [ce29] at hl
  match vs, hl with
  | [a, b, c, d, e, f], _ =>
    simp [ce24, ce25, ce26, ce27] at hf
    obtain ⟨h0, h1, h2, h3⟩ := hf
    obtain ⟨p, n, t, hp, e0⟩ := rd_paramsT h0
    obtain ⟨A1, cap1, l1, e1⟩ := rd_intsT h1
    obtain ⟨A2, cap2, l2, c2, e2⟩ := rd_devsT h2
    obtain ⟨A3, cap3, l3, c3, e3⟩ := rd_rowsT h3
    simp at e0 e1 e2 e3
    exact ⟨⟨p, n, t, true, A1, cap1, l1, true, A2, cap2, l2, true, A3, cap3, l3⟩, ⟨c2, ⟨rfl, rfl, rfl, c3⟩⟩, by simp [scL, e0, e1, e2, e3]⟩
end Go.Abs
end
set_option linter.unusedVariables false
noncomputable section
namespace Go.Abs
open Go Go.Proofs
set_option maxRecDepth 100000
theorem agM_lt {s : Scn} {a : Nat} {σ : NetS} (htp : σ.tp = (nwO s a).tp) : ∀ e ∈ agM s a σ, a ≤ e.1 ∧ e.1 < a + (3 + s.tapes.length) := fun e he => by
  unfold agM at he
  rw [List.cons_append, List.cons_append, List.nil_append] at he
  rcases List.mem_cons.1 he with rfl | he
  · exact ⟨Nat.le_refl _, by show a < _; omega⟩
  rcases List.mem_cons.1 he with rfl | he
  · exact ⟨by show a ≤ a + 1; omega, by show a + 1 < _; omega⟩
  rcases List.mem_cons.1 he with rfl | he
  · exact ⟨by show a ≤ a + 2; omega, by show a + 2 < _; omega⟩
  · have h1 := tapB_ge _ _ _ e he
    have h2 := tapB_lt _ _ _ e he
    exact ⟨by omega, by omega⟩
structure AskOk (z : Ask) (n t N : Nat) : Prop where
  T : ScnT z.s
  s : ScnS z.s
  d : z.s.devs.length ≤ 1000
  c : z.s.corrupt.length ≤ 1000
  r : ∀ r ∈ z.s.tapes, r.l.length ≤ 1000
  hN : SendN (lentS z.s) N
  hn : z.s.n = (n : Int)
  ht : z.s.t = (t : Int)
  h3 : 3 * t < n
  h13 : n ≤ 13
  l : z.ws.length = n
  w : ∀ x ∈ z.ws, x < z.s.p
theorem AskOk.good {z : Ask} {n t N : Nat} (h : AskOk z n t N) : Good n t (hon z.s) := good_of h.ht h.s.1.2.1 h.h3
theorem AskOk.hears {z : Ask} {n t N : Nat} (h : AskOk z n t N) : Hears z.s n (hon z.s) := hears_hon h.hn fun x hx => (h.s.2.2.1 x hx).P
theorem AskOk.ph {z : Ask} {n t N : Nat} (h : AskOk z n t N) (a : Nat) {vs : List Nat} (hl : vs.length = n) (hv : ∀ x ∈ vs, x < z.s.p) : PhO N (a + 2) n t (tbO z.s a) z.s (nwO z.s a).tp ⟨nwO z.s a, vs⟩ := nwO_Ph h.s h.T h.hN a hl hv
theorem AskOk.a18 {z : Ask} {n t N : Nat} (h : AskOk z n t N) (pm : Bool) (A : Option Addr) (cap : Nat) (vs : List Nat) (hl : vs.length = n) (hv : ∀ x ∈ vs, x < z.s.p) : AnsB (max (max N 100 + 3) 1111 + 1) Tryd.prog H14 18 [scV z.s, .im pm A cap n (uL vs)] (fun nx => .tup [.own .nil 0 n (uL (pkO z.s nx n t vs).vs), .bptr (nx + 2) 0, .bool true]) (fun nx => agM z.s nx (pkO z.s nx n t vs).σ) (3 + z.s.tapes.length) :=
  agreed18 z.s h.T h.s h.d h.r h.hN h.hn h.ht h.h3 pm A cap vs hl hv
theorem AskOk.call {z : Ask} {n t N k : Nat} (h : AskOk z n t N) (hk : max (max N 100 + 3) 1111 + 1 ≤ k) (pm : Bool) (A : Option Addr) (cap : Nat) (vs : List Nat) (hl : vs.length = n) (hv : ∀ x ∈ vs, x < z.s.p) (st : Nat → V) (m : List (Nat × Box)) (nx : Nat) (dst : Option Nat) :
    doCallB H14 (evCall Tryd.prog H14 k) 18 false [scV z.s, .im pm A cap n (uL vs)] ⟨st, m, nx⟩ dst = some ((St.mk (fun i => killB [] nx (st i)) (m ++ agM z.s nx (pkO z.s nx n t vs).σ) (nx + (3 + z.s.tapes.length))).lay dst (.tup [.own .nil 0 n (uL (pkO z.s nx n t vs).vs), .bptr (nx + 2) 0, .bool true])) := by
  have hP := (h.ph (t := t) nx hl hv).phases h.hn (by have := h.h3; omega) (t + 1)
  refine callNew (H := H14) (by simp [scV, scL, ptrsL, ptrs, nil_uL]) rfl (by omega) (h.a18 pm A cap vs hl hv k hk nx) (fun e he => (agM_lt ?_ e he).1) dst
  exact hP.1.o.tp
theorem kill_ref_comm (r r' : Root) (p p' : List Nat) (a : Root) (q : List Nat) : kill r p (kill r' p' (.ref a q)) = kill r' p' (kill r p (.ref a q)) := by
  show kill r p (if hitRef r' p' a q then .dead else .ref a q) = kill r' p' (if hitRef r p a q then .dead else .ref a q)
  cases h1 : hitRef r p a q <;> cases h2 : hitRef r' p' a q <;> simp only [if_true, if_false, kill, h1, h2, Bool.false_eq_true]
theorem kill_loc_comm (r r' : Root) (p p' : List Nat) (a : Root) (q : List Nat) : kill r p (kill r' p' (.loc a q)) = kill r' p' (kill r p (.loc a q)) := by
  show kill r p (if hitLoc r' p' a q then .dead else .loc a q) = kill r' p' (if hitLoc r p a q then .dead else .loc a q)
  cases h1 : hitLoc r p a q <;> cases h2 : hitLoc r' p' a q <;> simp only [if_true, if_false, kill, h1, h2, Bool.false_eq_true]
mutual
theorem kill_comm (r r' : Root) (p p' : List Nat) : ∀ v : V, kill r p (kill r' p' v) = kill r' p' (kill r p v)
  | .ref a q => kill_ref_comm r r' p p' a q
  | .loc a q => kill_loc_comm r r' p p' a q
  | .agg cs => by simp only [kill]; rw [killL_comm r r' p p' cs]
  | .tup cs => by simp only [kill]; rw [killL_comm r r' p p' cs]
  | .fn f a b => by simp only [kill]; rw [killL_comm r r' p p' a, killL_comm r r' p p' b]
  | .int _ _ | .bool _ | .nilp | .nilf | .bptr _ _ | .ip _ _ _ | .im _ _ _ _ _ | .own _ _ _ _ | .dead => rfl
theorem killL_comm (r r' : Root) (p p' : List Nat) : ∀ l : List V, killL r p (killL r' p' l) = killL r' p' (killL r p l)
  | [] => rfl
  | v :: l => by simp only [killL]; rw [kill_comm r r' p p' v, killL_comm r r' p p' l]
end
end Go.Abs
end
set_option linter.unusedVariables false
noncomputable section
namespace Go.Abs
open Go Go.Proofs
set_option maxRecDepth 100000
theorem rs_get (rs : List RD) (i : Nat) (h : i < rs.length) : (rsV rs)[i]'(by simp; exact h) = rV rs[i] := by simp [rsV]
theorem ptrsL_ownR (ls : List (List Nat)) : ptrsL (ls.map ownR) = [] := by
  induction ls with
  | nil => rfl
  | cons l ls ih =>
    show ptrs (ownR l) ++ ptrsL (ls.map ownR) = []
    rw [ih]; simp [ownR, ptrs, nil_uL]
end Go.Abs
end
set_option linter.unusedVariables false
noncomputable section
namespace Go.Abs
open Go Go.Proofs
set_option maxRecDepth 100000
structure NetQ (N b : Nat) (tb : List (Nat × Box)) (s : Scn) (tp : List Nat) (σ : NetS) : Prop where
  I : NetI N b σ tb
  s : σ.scn = s
  tp : σ.tp = tp
def rsent (σ : NetS) (n : Nat) (L : List (List Nat)) : NetS := sentS lnW (saidE σ n L) n σ
section
variable {N b n t : Nat} {tb : List (Nat × Box)} {s : Scn} {tp : List Nat} {σ : NetS}
theorem NetQ.sent (h : NetQ N b tb s tp σ) (hn : s.n = (n : Int)) (L : List (List Nat)) : NetQ N b tb s tp (rsent σ n L) ∧ (rsent σ n L).round = σ.round + 1 := by
  obtain ⟨h1, h2, h3, h4⟩ := like_sentS lnW (saidE σ n L) n σ
  exact ⟨⟨h.I.sent _ _ (by rw [h.s, hn]), h1.trans h.s, h2.trans h.tp⟩, h4⟩
theorem NetQ.said (h : NetQ N b tb s tp σ) (hn : s.n = (n : Int)) {L : List (List Nat)} (hL : L.length = n) (hok : LsOk s.p L) : MsOk s.p n (saidE σ n L) := by
  have := h.I.said_ok (n := n) (out := eachL n L) (eachL_ok hL (by rw [h.s]; exact hok))
  rwa [h.s] at this
end
section
variable (n t k : Nat) (a : Ph)
def rfA : List (List (List Nat)) := saidE a.σ n (one1 a.vs)
def rf1 : NetS := rsent a.σ n (one1 a.vs)
def rfB : List (List (List Nat)) := saidE (rf1 n a) n (prL n t (rfA n a))
def rf2 : NetS := rsent (rf1 n a) n (prL n t (rfA n a))
def rfV : List Nat := vaL n t (rfB n t a) a.vs
def rfC : List (List (List Nat)) := saidE (rf2 n t a) n (kiL n k (vF (rfV n t a) k))
def rf3 : NetS := rsent (rf2 n t a) n (kiL n k (vF (rfV n t a) k))
def rfL (w : Nat) : Bool := (leastS n (hS (rfB n t a) w) (t + 1)).isSome && decide (n - t ≤ votes n (hS (rfB n t a) w) (val2 n t (vF a.vs) (hS (rfB n t a)) w))
def rfO (w : Nat) : Nat := if rfL n t a w then val2 n t (vF a.vs) (hS (rfB n t a)) w else (hS (rfC n t k a) w k).headD 0
def phaseR : Ph := ⟨rf3 n t k a, (List.range n).map (rfO n t k a)⟩
end
structure PhQ (N b n t : Nat) (tb : List (Nat × Box)) (s : Scn) (tp : List Nat) (a : Ph) : Prop where
  o : NetQ N b tb s tp a.σ
  l : a.vs.length = n
  v : ∀ x ∈ a.vs, x < s.p
structure PhG (N b n t k : Nat) (tb : List (Nat × Box)) (s : Scn) (tp : List Nat) (a : Ph) : Prop where
  p0 : 0 < s.p
  L1 : LsOk s.p (one1 a.vs)
  A : MsOk s.p n (rfA n a)
  o1 : NetQ N b tb s tp (rf1 n a)
  r1 : (rf1 n a).round = a.σ.round + 1
  L2 : LsOk s.p (prL n t (rfA n a))
  B : MsOk s.p n (rfB n t a)
  o2 : NetQ N b tb s tp (rf2 n t a)
  r2 : (rf2 n t a).round = a.σ.round + 2
  L3 : LsOk s.p (kiL n k (vF (rfV n t a) k))
  C : MsOk s.p n (rfC n t k a)
  o3 : NetQ N b tb s tp (rf3 n t k a)
  r3 : (rf3 n t k a).round = a.σ.round + 3
  O : ∀ w, rfO n t k a w < s.p
section
variable {N b n t : Nat} {tb : List (Nat × Box)} {s : Scn} {tp : List Nat} {a : Ph}
theorem PhQ.facts (h : PhQ N b n t tb s tp a) (hn : s.n = (n : Int)) (htn : t < n) (k : Nat) : PhG N b n t k tb s tp a := by
  have p0 : 0 < s.p := by have := h.o.I.p0; rwa [h.o.s] at this
  have L1 := one1_ok h.v
  have A := h.o.said hn (L := one1 a.vs) (by simp [h.l]) L1
  obtain ⟨o1, r1⟩ := h.o.sent hn (one1 a.vs)
  have L2 := prL_ok (t := t) p0 htn (sOk_of A)
  have B := o1.said hn (by simp) L2
  obtain ⟨o2, r2⟩ := o1.sent hn (prL n t (rfA n a))
  have V : ∀ x ∈ rfV n t a, x < s.p := fun x hx => by
    obtain ⟨w, _, rfl⟩ := List.mem_map.1 hx
    exact val2_lt p0 (sOk_of B) (vF_lt p0 h.v) w
  have L3 := kiL_ok (n := n) (k := k) (vF_lt p0 V k)
  have C := o2.said hn (by simp) L3
  obtain ⟨o3, r3⟩ := o2.sent hn (kiL n k (vF (rfV n t a) k))
  have q2 : (rf2 n t a).round = a.σ.round + 2 := by
    have e1 : (rf1 n a).round = a.σ.round + 1 := r1
    have e2 : (rf2 n t a).round = (rf1 n a).round + 1 := r2
    omega
  have q3 : (rf3 n t k a).round = a.σ.round + 3 := by
    have e3 : (rf3 n t k a).round = (rf2 n t a).round + 1 := r3
    omega
  refine ⟨p0, L1, A, o1, r1, L2, B, o2, q2, L3, C, o3, q3, fun w => ?_⟩
  unfold rfO
  split
  · exact val2_lt p0 (sOk_of B) (vF_lt p0 h.v) w
  · cases e : hS (rfC n t k a) w k with
    | nil => exact p0
    | cons y l =>
      have hy : y ∈ hS (rfC n t k a) w k := by rw [e]; exact List.mem_cons_self
      exact hS_ok p0 (sOk_of C) w k y hy
theorem PhQ.phase (h : PhQ N b n t tb s tp a) (hn : s.n = (n : Int)) (htn : t < n) (k : Nat) : PhQ N b n t tb s tp (phaseR n t k a) ∧ (phaseR n t k a).σ.round = a.σ.round + 3 := by
  have f := h.facts hn htn k
  exact ⟨⟨f.o3, by show ((List.range n).map _).length = n; rw [List.length_map, List.length_range], fun x hx => by
    obtain ⟨w, _, rfl⟩ := List.mem_map.1 hx
    exact f.O w⟩, f.r3⟩
end
section
variable {N b g nx n k : Nat} {σ : NetS} {tb O1 O2 : List (Nat × Box)} {bx : Box}
end
end Go.Abs
end
set_option linter.unusedVariables false
noncomputable section
namespace Go.Abs
open Go Go.Proofs
set_option maxRecDepth 100000
theorem uL_get2 {vs : List Nat} {i : Nat} (h : i < vs.length) : (uL vs)[i]'(by simp [uL]; exact h) = .int .u64 (vF vs i : Int) := by
  have h1 := List.getElem?_eq_getElem (l := uL vs) (i := i) (by simp [uL]; exact h)
  rw [uL_vF h] at h1
  exact (Option.some.inj h1).symm
theorem range_snoc {α : Type} (f : Nat → α) (i : Nat) : (List.range (i + 1)).map f = (List.range i).map f ++ [f i] := by rw [List.range_succ, List.map_append]; rfl
theorem map_len {α : Type} (f : Nat → α) (i : Nat) : ((List.range i).map f).length = i := by rw [List.length_map, List.length_range]
end Go.Abs
end
