/- Joined: AbsPD AbsPE AbsPF AbsPG AbsPT AbsPH. -/
import Derived.Test.YtbkhamjlfadfoaaDoorAbs10
import Derived.Test.YtbkhamjlfadfoaaDoorAbs25
import Derived.Test.YtbkhamjlfadfoaaDoorAbs27
set_option linter.all false
set_option linter.unusedVariables false
noncomputable section
namespace Go.Abs
open Go Go.Proofs
set_option maxRecDepth 100000
def hon (s : Scn) (f : Nat) : Bool := decide (((f : Int) + 1) ∉ s.corrupt)
theorem eachL_at {n : Nat} {L : List (List Nat)} {f w : Nat} (hw : w < n) : at2 (eachL n L) f w = L[f]? := by
  unfold at2 eachL
  rw [List.getElem?_map]
  cases L[f]? with
  | none => rfl
  | some l => simp [hw]
structure Hears (s : Scn) (n : Nat) (H : Nat → Bool) : Prop where
  d : ∀ x ∈ s.devs, DevP (n : Int) x
  h : s.devs = [] ∨ ∀ f, f < n → H f = true → ((f : Int) + 1) ∉ s.corrupt
theorem hS_said {s : Scn} {σ : NetS} (hs : σ.scn = s) {n : Nat} {H : Nat → Bool} (hh : Hears s n H) {L : List (List Nat)} {w f : Nat} (hw : w < n) (hf : f < n) (hH : H f = true) (l : List Nat) (hl : L[f]? = some l) : hS (saidE σ n L) w f = l := by
  unfold hS saidE netSaid
  rw [sw_at2, hs]
  rcases hh.h with h0 | h1
  · rw [h0]
    show (at2 (eachL n L) f w).getD [] = l
    rw [eachL_at hw, hl]; rfl
  · rw [msg_honest hh.d hw (.inl (h1 f hf hH)), eachL_at hw, hl]; rfl
theorem one1_get {vs : List Nat} {n f : Nat} (h : vs.length = n) (hf : f < n) : (one1 vs)[f]? = some [vF vs f] := by
  have : f < vs.length := by omega
  unfold one1 vF
  rw [List.getElem?_map, List.getElem?_eq_getElem this]; rfl
theorem vF_map {n f : Nat} (g : Nat → Nat) (hf : f < n) : vF ((List.range n).map g) f = g f := by
  unfold vF
  rw [List.getElem?_map, List.getElem?_range hf]; rfl
section
variable {N b n t : Nat} {tb : List (Nat × Box)} {s : Scn} {tp : List Nat} {a : Ph} {H : Nat → Bool}
theorem run_of (h : PhO N b n t tb s tp a) (hn : s.n = (n : Int)) (htn : t < n) (hh : Hears s n H) (K : Nat) (hK : K ≤ n) :
    Run n t H K (fun k f => vF (phases n t a k).vs f) (fun k => hS (phA n (phases n t a k))) (fun k => hS (phB n t (phases n t a k))) (fun k => hS (phC n t k (phases n t a k))) := by
  refine ⟨fun k hk w f hw hf hH => ?_, fun k hk w f hw hf hH => ?_, fun k hk w f hw hf hH => ?_, fun k hk w hw => ?_⟩
  · obtain ⟨hP, _⟩ := h.phases hn htn k
    exact hS_said hP.o.s hh hw hf hH _ (one1_get hP.l hf)
  · obtain ⟨hP, _⟩ := h.phases hn htn k
    have F := hP.facts hn htn k
    exact hS_said F.o1.s hh hw hf hH _ (by unfold prL; rw [List.getElem?_map, List.getElem?_range hf]; rfl)
  · obtain ⟨hP, _⟩ := h.phases hn htn k
    have F := hP.facts hn htn k
    refine hS_said F.o2.s hh hw hf hH _ ?_
    unfold kiL phV vaL
    rw [List.getElem?_map, List.getElem?_range hf, vF_map _ (show k < n by omega)]
    rfl
  · exact vF_map _ hw
end
theorem cnt_one (a : Int) : ∀ n : Nat, (List.range n).countP (fun f : Nat => decide ((f : Int) + 1 = a)) = if 1 ≤ a ∧ a ≤ (n : Int) then 1 else 0
  | 0 => by
    have : ¬ (1 ≤ a ∧ a ≤ ((0 : Nat) : Int)) := by omega
    rw [if_neg this]; rfl
  | n + 1 => by
    rw [List.range_succ, List.countP_append, cnt_one a n]
    by_cases h : (n : Int) + 1 = a
    · have h1 : ¬ (1 ≤ a ∧ a ≤ (n : Int)) := by omega
      have h2 : 1 ≤ a ∧ a ≤ ((n + 1 : Nat) : Int) := by omega
      rw [if_neg h1, if_pos h2]; simp [h]
    · by_cases h1 : 1 ≤ a ∧ a ≤ (n : Int)
      · have h2 : 1 ≤ a ∧ a ≤ ((n + 1 : Nat) : Int) := by omega
        rw [if_pos h1, if_pos h2]; simp [h]
      · have h2 : ¬ (1 ≤ a ∧ a ≤ ((n + 1 : Nat) : Int)) := by omega
        rw [if_neg h1, if_neg h2]; simp [h]
theorem cnt_or {q r : Nat → Bool} (l : List Nat) : l.countP (fun f => q f || r f) ≤ l.countP q + l.countP r := by
  induction l with
  | nil => simp
  | cons a l ih =>
    simp only [List.countP_cons]
    cases q a <;> cases r a <;> simp <;> omega
theorem cnt_mem (n : Nat) : ∀ l : List Int, (List.range n).countP (fun f : Nat => decide ((f : Int) + 1 ∈ l)) ≤ l.length
  | [] => by simp
  | a :: l => by
    have h1 := cnt_or (q := fun f => decide ((f : Int) + 1 = a)) (r := fun f => decide ((f : Int) + 1 ∈ l)) (List.range n)
    have h2 := cnt_one a n
    have h3 := cnt_mem n l
    have h4 : (fun f : Nat => decide ((f : Int) + 1 ∈ a :: l)) = fun f : Nat => decide ((f : Int) + 1 = a) || decide ((f : Int) + 1 ∈ l) := by
      funext f; simp
    rw [h4, List.length_cons]
    have h5 : (List.range n).countP (fun f : Nat => decide ((f : Int) + 1 = a)) ≤ 1 := by rw [h2]; split <;> omega
    omega
theorem good_of {s : Scn} {n t : Nat} (ht : s.t = (t : Int)) (hc : (s.corrupt.length : Int) ≤ s.t) (h3 : 3 * t < n) : Good n t (hon s) := by
  refine ⟨?_, h3⟩
  have h := cnt_mem n s.corrupt
  have e : (fun f => !hon s f) = fun f : Nat => decide ((f : Int) + 1 ∈ s.corrupt) := by
    funext f; simp [hon]
  show (List.range n).countP (fun f => !hon s f) ≤ t
  rw [e]; omega
theorem hears_hon {s : Scn} {n : Nat} (hn : s.n = (n : Int)) (hd : ∀ x ∈ s.devs, DevP s.n x) : Hears s n (hon s) := ⟨fun x hx => hn ▸ hd x hx, .inr fun f _ h => by simpa [hon] using h⟩
theorem hears_all {s : Scn} (hd : s.devs = []) (n : Nat) : Hears s n (fun _ => true) := ⟨fun x hx => (by rw [hd] at hx; cases hx), .inl hd⟩
section
variable {N b n t : Nat} {tb : List (Nat × Box)} {s : Scn} {tp : List Nat} {a : Ph} {H : Nat → Bool}
theorem phases_agree (h : PhO N b n t tb s tp a) (hn : s.n = (n : Int)) (g : Good n t H) (hh : Hears s n H) : ∃ x, ∀ f, f < n → H f = true → vF (phases n t a (t + 1)).vs f = x :=
  Run.agree g (run_of h hn (by have := g.third; omega) hh (t + 1) (by have := g.third; omega))
theorem phases_valid (h : PhO N b n t tb s tp a) (hn : s.n = (n : Int)) (g : Good n t H) (hh : Hears s n H) {x : Nat} (hx : ∀ f, f < n → H f = true → vF a.vs f = x) : ∀ f, f < n → H f = true → vF (phases n t a (t + 1)).vs f = x :=
  Run.valid g (run_of h hn (by have := g.third; omega) hh (t + 1) (by have := g.third; omega)) hx
theorem phases_quorum (h : PhO N b n t tb s tp a) (hn : s.n = (n : Int)) (h3 : 3 * t < n) (hd : s.devs = []) {x : Nat} (hx : n - t ≤ cnt n (fun f => decide (vF a.vs f = x))) : ∀ f, f < n → vF (phases n t a (t + 1)).vs f = x := by
  have g : Good n t (fun _ => true) := ⟨by
    have : cnt n (fun f => !true) = 0 := List.countP_eq_zero.2 fun f _ => by simp
    show cnt n (fun f => !true) ≤ t
    omega, h3⟩
  have r := run_of h hn (by omega) (hears_all hd n) (t + 1) (by omega)
  have h1 : ∀ f, f < n → vF (phases n t a 1).vs f = x := fun f hf => (r.nxt 0 (by omega) f hf).trans (quorum_one h3 (r.s1 0 (by omega)) (r.s2 0 (by omega)) hx f hf)
  intro f hf
  have := Run.persist g r (k := 1) (x := x) (fun f hf _ => h1 f hf) t (by omega) f hf rfl
  rwa [show 1 + t = t + 1 by omega] at this
end
def livePK (t : Nat) (x : Dev) : Bool := decide (x.round < 3 * ((t : Int) + 1) ∧ (x.round % 3 ≠ 2 ∨ x.from_ = x.round / 3 + 1))
structure LikeV (σ τ : NetS) (q : Dev → Bool) : Prop where
  p : τ.scn.p = σ.scn.p
  c : τ.scn.corrupt = σ.scn.corrupt
  r : τ.round = σ.round
  d : τ.scn.devs = σ.scn.devs.filter q
theorem LikeV.sent {σ τ : NetS} {q : Dev → Bool} (h : LikeV σ τ q) (n : Nat) (L M : List (List Nat)) : LikeV (sentE σ n L) (sentE τ n M) q := by
  obtain ⟨a1, _, _, a4⟩ := like_sentS cpW (saidE σ n L) n σ
  obtain ⟨b1, _, _, b4⟩ := like_sentS cpW (saidE τ n M) n τ
  refine ⟨?_, ?_, ?_, ?_⟩
  · exact (congrArg (·.p) b1).trans (h.p.trans (congrArg (·.p) a1).symm)
  · exact (congrArg (·.corrupt) b1).trans (h.c.trans (congrArg (·.corrupt) a1).symm)
  · exact b4.trans ((congrArg (· + 1) h.r).trans a4.symm)
  · exact (congrArg (·.devs) b1).trans (h.d.trans (congrArg (fun s : Scn => s.devs.filter q) a1).symm)
theorem hS_like {σ τ : NetS} {q : Dev → Bool} (h : LikeV σ τ q) {n : Nat} {L : List (List Nat)} {w f : Nat} (hw : w < n) (hq : ∀ x ∈ σ.scn.devs, q x = false → ¬ (x.round = σ.round ∧ (x.from_ - 1).toNat = f)) : hS (saidE τ n L) w f = hS (saidE σ n L) w f := by
  unfold hS saidE netSaid
  rw [sw_at2, sw_at2, msg_cell hw, msg_cell hw, h.p, h.c, h.r, h.d]
  have e : ∀ u : List Nat, (σ.scn.devs.filter q).foldl (cellM σ.scn.p σ.scn.corrupt σ.round (eachL n L) f w) u = σ.scn.devs.foldl (cellM σ.scn.p σ.scn.corrupt σ.round (eachL n L) f w) u := fun u => (foldl_filter_id fun x hx hqx b => by
    unfold cellM
    rw [if_neg]
    rintro ⟨h1, _, h3, _⟩
    exact hq x hx hqx ⟨h1, h3⟩).symm
  simp only [e]
theorem ouL_congr {n t k : Nat} {S2 S3 T2 T3 : List (List (List Nat))} {vs : List Nat} (h2 : ∀ w, w < n → ∀ f, f < n → hS T2 w f = hS S2 w f) (h3 : ∀ w, w < n → hS T3 w k = hS S3 w k) : ouL n t k T2 T3 vs = ouL n t k S2 S3 vs := by
  unfold ouL
  refine List.map_congr_left fun w hw => ?_
  have hw := List.mem_range.1 hw
  unfold out3 lock2 val2
  rw [leastS_congr (h2 w hw), leastS_congr (h2 w hw), h3 w hw]
theorem prL_congr {n t : Nat} {S T : List (List (List Nat))} (h : ∀ w, w < n → ∀ f, f < n → hS T w f = hS S w f) : prL n t T = prL n t S := by
  unfold prL
  refine List.map_congr_left fun w hw => ?_
  have hw := List.mem_range.1 hw
  unfold prop1
  rw [leastS_congr (h w hw)]
theorem vaL_congr {n t : Nat} {S T : List (List (List Nat))} {vs : List Nat} (h : ∀ w, w < n → ∀ f, f < n → hS T w f = hS S w f) : vaL n t T vs = vaL n t S vs := by
  unfold vaL
  refine List.map_congr_left fun w hw => ?_
  have hw := List.mem_range.1 hw
  unfold val2
  rw [leastS_congr (h w hw)]
theorem phase_like {σ τ : NetS} {q : Dev → Bool} {n t k : Nat} {vs : List Nat} (h : LikeV σ τ q) (hr : σ.round = 3 * (k : Int))
    (hq : ∀ x ∈ σ.scn.devs, q x = false → x.round ≠ 3 * (k : Int) ∧ x.round ≠ 3 * (k : Int) + 1 ∧ ¬ (x.round = 3 * (k : Int) + 2 ∧ (x.from_ - 1).toNat = k)) :
    LikeV (phase n t k ⟨σ, vs⟩).σ (phase n t k ⟨τ, vs⟩).σ q ∧ (phase n t k ⟨τ, vs⟩).vs = (phase n t k ⟨σ, vs⟩).vs := by
  have s1 : (phσ1 n ⟨σ, vs⟩).round = σ.round + 1 := (like_sentS _ _ _ _).2.2.2
  have d1 : (phσ1 n ⟨σ, vs⟩).scn.devs = σ.scn.devs := congrArg (·.devs) (like_sentS _ _ _ _).1
  have hA : ∀ w, w < n → ∀ f, f < n → hS (phA n ⟨τ, vs⟩) w f = hS (phA n ⟨σ, vs⟩) w f := fun w hw f hf => hS_like h hw fun x hx hqx hc => (hq x hx hqx).1 (by rw [hc.1, hr])
  have eB : prL n t (phA n ⟨τ, vs⟩) = prL n t (phA n ⟨σ, vs⟩) := prL_congr hA
  have h1 : LikeV (phσ1 n ⟨σ, vs⟩) (phσ1 n ⟨τ, vs⟩) q := h.sent n _ _
  have hB : ∀ w, w < n → ∀ f, f < n → hS (phB n t ⟨τ, vs⟩) w f = hS (phB n t ⟨σ, vs⟩) w f := fun w hw f hf => by
    unfold phB
    rw [eB]
    exact hS_like h1 hw fun x hx hqx hc => (hq x (d1 ▸ hx) hqx).2.1 (by rw [hc.1, s1, hr])
  have h2 : LikeV (phσ2 n t ⟨σ, vs⟩) (phσ2 n t ⟨τ, vs⟩) q := h1.sent n _ _
  have s2 : (phσ2 n t ⟨σ, vs⟩).round = (phσ1 n ⟨σ, vs⟩).round + 1 := (like_sentS _ _ _ _).2.2.2
  have d2 : (phσ2 n t ⟨σ, vs⟩).scn.devs = (phσ1 n ⟨σ, vs⟩).scn.devs := congrArg (·.devs) (like_sentS _ _ _ _).1
  have eV : phV n t ⟨τ, vs⟩ = phV n t ⟨σ, vs⟩ := vaL_congr hB
  have hC : ∀ w, w < n → hS (phC n t k ⟨τ, vs⟩) w k = hS (phC n t k ⟨σ, vs⟩) w k := fun w hw => by
    unfold phC
    rw [eV]
    exact hS_like h2 hw fun x hx hqx hc => (hq x (d1 ▸ d2 ▸ hx) hqx).2.2 ⟨by rw [hc.1, s2, s1, hr]; omega, hc.2⟩
  exact ⟨h2.sent n _ _, ouL_congr hB hC⟩
theorem phases_like {σ τ : NetS} {q : Dev → Bool} {n t : Nat} {vs : List Nat} (h : LikeV σ τ q) (hr : σ.round = 0) (K : Nat)
    (hq : ∀ x ∈ σ.scn.devs, q x = false → ∀ k, k < K → x.round ≠ 3 * (k : Int) ∧ x.round ≠ 3 * (k : Int) + 1 ∧ ¬ (x.round = 3 * (k : Int) + 2 ∧ (x.from_ - 1).toNat = k)) :
    ∀ k, k ≤ K → LikeV (phases n t ⟨σ, vs⟩ k).σ (phases n t ⟨τ, vs⟩ k).σ q ∧ (phases n t ⟨τ, vs⟩ k).vs = (phases n t ⟨σ, vs⟩ k).vs ∧ (phases n t ⟨σ, vs⟩ k).σ.round = 3 * (k : Int) ∧ (phases n t ⟨σ, vs⟩ k).σ.scn = σ.scn
  | 0, _ => ⟨h, rfl, by simp [phases, hr], rfl⟩
  | k + 1, hk => by
    obtain ⟨i1, i2, i3, i4⟩ := phases_like h hr K hq k (by omega)
    obtain ⟨σ', hσ⟩ : ∃ x, (phases n t ⟨σ, vs⟩ k).σ = x := ⟨_, rfl⟩
    obtain ⟨τ', hτ⟩ : ∃ x, (phases n t ⟨τ, vs⟩ k).σ = x := ⟨_, rfl⟩
    obtain ⟨us, hu⟩ : ∃ x, (phases n t ⟨σ, vs⟩ k).vs = x := ⟨_, rfl⟩
    have e1 : phases n t ⟨σ, vs⟩ k = ⟨σ', us⟩ := by rw [← hσ, ← hu]
    have e2 : phases n t ⟨τ, vs⟩ k = ⟨τ', us⟩ := by rw [← hτ, ← hu, ← i2]
    show LikeV (phase n t k (phases n t ⟨σ, vs⟩ k)).σ (phase n t k (phases n t ⟨τ, vs⟩ k)).σ q ∧ (phase n t k (phases n t ⟨τ, vs⟩ k)).vs = (phase n t k (phases n t ⟨σ, vs⟩ k)).vs ∧ (phase n t k (phases n t ⟨σ, vs⟩ k)).σ.round = _ ∧ (phase n t k (phases n t ⟨σ, vs⟩ k)).σ.scn = _
    rw [e1, e2] at i1
    rw [e1] at i3 i4
    rw [e1, e2]
    obtain ⟨j1, j2⟩ := phase_like (n := n) (t := t) (k := k) (vs := us) i1 i3 fun x hx hqx => hq x (by rw [← i4]; exact hx) hqx k (by omega)
    have r1 := (like_sentS cpW (phA n ⟨σ', us⟩) n σ')
    have r2 := (like_sentS cpW (phB n t ⟨σ', us⟩) n (phσ1 n ⟨σ', us⟩))
    have r3 := (like_sentS cpW (phC n t k ⟨σ', us⟩) n (phσ2 n t ⟨σ', us⟩))
    refine ⟨j1, j2, ?_, ?_⟩
    · have e : (phase n t k ⟨σ', us⟩).σ.round = σ'.round + 1 + 1 + 1 := by
        refine r3.2.2.2.trans ?_
        refine congrArg (· + 1) (r2.2.2.2.trans ?_)
        exact congrArg (· + 1) r1.2.2.2
      rw [e]; have : σ'.round = 3 * (k : Int) := i3
      rw [this]; push_cast; omega
    · exact r3.1.trans (r2.1.trans (r1.1.trans i4))
theorem phases_ignore {σ τ : NetS} {n t : Nat} {vs : List Nat} (h : LikeV σ τ (livePK t)) (hr : σ.round = 0) (hd : ∀ x ∈ σ.scn.devs, 1 ≤ x.from_) : (phases n t ⟨τ, vs⟩ (t + 1)).vs = (phases n t ⟨σ, vs⟩ (t + 1)).vs := by
  refine (phases_like h hr (t + 1) (fun x hx hqx k hk => ?_) (t + 1) (Nat.le_refl _)).2.1
  have h1 := hd x hx
  have hn : ¬ (x.round < 3 * ((t : Int) + 1) ∧ (x.round % 3 ≠ 2 ∨ x.from_ = x.round / 3 + 1)) := by simpa [livePK] using hqx
  refine ⟨fun e => hn ⟨by omega, .inl (by omega)⟩, fun e => hn ⟨by omega, .inl (by omega)⟩, fun e => hn ⟨by omega, .inr (by omega)⟩⟩
end Go.Abs
end
set_option linter.unusedVariables false
noncomputable section
namespace Go.Abs
open Go Go.Proofs
set_option maxRecDepth 100000
structure ScnT (s : Scn) : Prop where
  c : s.cpm = true
  d : s.dpm = true
  t : s.tpm = true
  r : ∀ x ∈ s.tapes, x.pm = true
theorem ScnT.net0 {s : Scn} (h : ScnT s) (nx i : Nat) : NetT (net0 s nx i) := ⟨h.c, h.d, h.t, h.r, fun v hv e he => by
  have : v = [] := (List.mem_replicate.1 (show v ∈ List.replicate s.n.toNat [] from hv)).2
  subst this; cases he⟩
def tbO (s : Scn) (nx : Nat) : List (Nat × Box) := tapB (fun w => tapeC w 0) (nx + 3) s.tapes
theorem ScnT.tbO {s : Scn} (h : ScnT s) (nx : Nat) : ∀ e ∈ tbO s nx, noBorL e.2.cs = true := by
  have key : ∀ (l : List RD) (n : Nat), (∀ x ∈ l, x.pm = true) → ∀ e ∈ tapB (fun w => tapeC w 0) n l, noBorL e.2.cs = true := by
    intro l
    induction l with
    | nil => intro n _ e he; cases he
    | cons w l ih =>
      intro n hl e he
      rcases List.mem_cons.1 he with rfl | he
      · have := hl w List.mem_cons_self
        show noBorL (tapeC w 0) = true
        simp [tapeC, rV, noBorL, noBor, this]
      · exact ih _ (fun x hx => hl x (List.mem_cons_of_mem _ hx)) e he
  exact key _ _ h.r
def nwO (s : Scn) (nx : Nat) : NetS := net0 s (nx + 1) s.tapes.length
theorem nwO_I {s : Scn} {N : Nat} (hs : ScnS s) (hN : SendN (lentS s) N) (nx : Nat) : NetI N (nx + 2) (nwO s nx) (tbO s nx) := by
  have h4 := scnS_n hs
  have hl : (s.tapes.length : Int) = s.n := hs.2.1
  exact net0_I _ (fun w => ptrsL_tapeC w 0) s (nx + 1) hs hN (scnS_pq hs) h4.2 (by omega)
def pkO (s : Scn) (nx n t : Nat) (vs : List Nat) : Ph := phases n t ⟨nwO s nx, vs⟩ (t + 1)
def agM (s : Scn) (nx : Nat) (σ : NetS) : List (Nat × Box) := [(nx, ⟨0, scL s⟩), (nx + 1, ⟨0, scL s⟩)] ++ (nx + 2, ⟨0, netC σ⟩) :: tbO s nx
theorem nwO_Ph {s : Scn} {N n t : Nat} (hs : ScnS s) (hT : ScnT s) (hN : SendN (lentS s) N) (nx : Nat) {vs : List Nat} (hl : vs.length = n) (hv : ∀ x ∈ vs, x < s.p) : PhO N (nx + 2) n t (tbO s nx) s (nwO s nx).tp ⟨nwO s nx, vs⟩ := ⟨⟨nwO_I hs hN nx, hT.net0 _ _, rfl, rfl⟩, hl, hv⟩
theorem nwO_A (s : Scn) (nx : Nat) (c c' : Box) : Around nx (nx + 2) (nwO s nx).tp c [(nx, c), (nx + 1, c')] (nx + (3 + s.tapes.length)) := by
  have := net0_around s nx c c'
  rwa [show nx + 1 + (2 + s.tapes.length) = nx + (3 + s.tapes.length) by omega] at this
set_option maxHeartbeats 8000000 in
theorem agreed18 (s : Scn) (hT : ScnT s) (hs : ScnS s) (hd : s.devs.length ≤ 1000) (hr : ∀ r ∈ s.tapes, r.l.length ≤ 1000) {N n t : Nat} (hN : SendN (lentS s) N) (hn : s.n = (n : Int)) (ht : s.t = (t : Int)) (h3 : 3 * t < n) (pm : Bool) (A : Option Addr) (cap : Nat) (vs : List Nat) (hl : vs.length = n) (hv : ∀ x ∈ vs, x < s.p) :
    AnsB (max (max N 100 + 3) 1111 + 1) Tryd.prog H14 18 [scV s, .im pm A cap n (uL vs)] (fun nx => .tup [.own .nil 0 n (uL (pkO s nx n t vs).vs), .bptr (nx + 2) 0, .bool true]) (fun nx => agM s nx (pkO s nx n t vs).σ) (3 + s.tapes.length) := by
  have h13 := scnS_n hs
  have hnl : (s.tapes.length : Int) = s.n := hs.2.1
  refine AnsB.gen (fn := Tryd.f18) (by rfl) Tryd.func18 rfl (by rfl) (fun nx => ⟨nx + 2, by simp [ptrs, ptrsL, nil_uL], by omega⟩) fun k hk nx => ?_
  have hP := nwO_Ph (t := t) hs hT hN nx hl hv
  obtain ⟨hP1, hPr⟩ := hP.phases hn (by omega) (t + 1)
  have AO := nwO_A s nx ⟨0, scL s⟩ ⟨0, scL s⟩
  have c13 := fun st dst => call13 s st [(nx, ⟨0, scL s⟩)] (nx + 1) dst hd (by omega) hr hs hT.r (k := k) (by omega)
  rw [netM_at] at c13
  have e0 : net0 s (nx + 1) s.tapes.length = nwO s nx := rfl
  have e1 : tapB (fun w => tapeC w 0) (nx + 1 + 2) s.tapes = tbO s nx := rfl
  have e2 : nx + 1 + (2 + s.tapes.length) = nx + (3 + s.tapes.length) := by omega
  have e3 : nx + 1 + 1 = nx + 2 := rfl
  rw [e0, e1, e2, e3] at c13
  have a22 := fun pm A cap => agree22 (g := 0) hP.o.I hP.o.T (hT.tbO nx) pm A cap vs n t hl hn ht (by omega) hv (by show (0 : Int) + 3 * (t + 1) < 1000; omega)
  have c22 := fun pm A cap st dst => AO.call hP.o.I.hT hP.o.I.hl hP1.o.tp (a22 pm A cap) (k := k) (by omega) (by simp [ptrsL, ptrs, nil_uL]) rfl st dst
  obtain ⟨o, ho⟩ : ∃ o, phases n t ⟨nwO s nx, vs⟩ (t + 1) = o := ⟨_, rfl⟩
  have ho' : pkO s nx n t vs = o := ho
  rw [ho] at c22 hP1
  rw [ho']
  obtain ⟨M0, hM0⟩ : ∃ M, [(nx, (⟨0, scL s⟩ : Box)), (nx + 1, ⟨0, scL s⟩)] ++ (nx + 2, ⟨0, netC (nwO s nx)⟩) :: tbO s nx = M := ⟨_, rfl⟩
  obtain ⟨M1, hM1⟩ : ∃ M, [(nx, (⟨0, scL s⟩ : Box)), (nx + 1, ⟨0, scL s⟩)] ++ (nx + 2, ⟨0, netC o.σ⟩) :: tbO s nx = M := ⟨_, rfl⟩
  have gM1 : getBox M1 nx = some ⟨0, scL s⟩ := by rw [← hM1]; exact AO.get
  have hM1' : agM s nx o.σ = M1 := hM1
  have hM0' : [(nx, (⟨0, scL s⟩ : Box))] ++ (nx + 1, ⟨0, scL s⟩) :: (nx + 2, ⟨0, netC (nwO s nx)⟩) :: tbO s nx = M0 := hM0
  rw [hM0, hM1] at c22
  rw [hM0'] at c13
  rw [hM1']
  have t1 := hT.c
  have t2 := hT.d
  have t3 := hT.t
  have vl : o.vs.length = n := hP1.l
  simp only [scV, scL, t1, t2, t3, hn, ht] at c13 gM1
  have nb := noBorL_rs hT.r
  simp [-reach, -doCall, doCall_eq, entryS, scV, scL, t1, t2, t3, hn, ht, c13, c22, gM1, vl, noBorL_iL, noBorL_devs, nb]
end Go.Abs
end
set_option linter.unusedVariables false
noncomputable section
namespace Go.Abs
open Go Go.Proofs
set_option maxRecDepth 100000
structure Ask where
  s : Scn
  pm : Bool
  A : Option Addr
  cap : Nat
  ws : List Nat
def askL (z : Ask) : List V := scL z.s ++ [.im z.pm z.A z.cap z.ws.length (uL z.ws)]
def askV (z : Ask) : V := .agg (askL z)
def lentA (z : Ask) : Ask := { z with s := lentS z.s, pm := false }
def MayS (z : Ask) : Prop := FairS z.s 40 20 ∧ (z.ws.length : Int) = z.s.n ∧ z.ws.length ≤ 13 ∧ ∀ x ∈ z.ws, x < z.s.p
theorem MayS.lent {z : Ask} : MayS (lentA z) ↔ MayS z := by
  unfold MayS
  show FairS (lentS z.s) 40 20 ∧ _ ↔ _
  rw [FairS.lent]
  rfl
open Classical in
set_option maxHeartbeats 4000000 in
theorem may16 (z : Ask) : AnsN 1114 Tryd.prog H14 16 [askV z] (.bool (decide (MayS z))) := by
  refine AnsN.of (fn := Tryd.f16) (t := 2) (by rfl) Tryd.func16 rfl rfl (by rfl) (by rfl) fun k hk nx => ?_
  have c43 := callP (fair30 (lentS z.s) 40 20 (by omega) (by omega)) (k := k) (by omega) (by rw [show ([scV (lentS z.s), .int .i64 ((40 : Nat) : Int), .int .i64 ((20 : Nat) : Int)] : List V) = scV (lentS z.s) :: [.int .i64 ((40 : Nat) : Int), .int .i64 ((20 : Nat) : Int)] from rfl]; simp [scV, scL, ptrsL, ptrs, lentS]) rfl
  have c44 := callP (below21 z.s.p false none 0 [⟨false, z.A, z.cap, z.ws⟩] 13 (by simp) (by omega)) (k := k) (by omega) (by simp [ptrsL, ptrs, rsV, rV, nil_uL]) rfl
  simp only [scV, scL, lentS, List.length_map] at c43
  simp only [rsV, List.map_cons, List.map_nil, rV, List.length_cons, List.length_nil] at c44
  have n13 : ((13 : Nat) : Int) = 13 := rfl
  have n40 : ((40 : Nat) : Int) = 40 := rfl
  have n20 : ((20 : Nat) : Int) = 20 := rfl
  rw [n13] at c44
  rw [n40, n20] at c43
  by_cases h1 : FairS z.s 40 20
  · have e1 : decide (FairS (lentS z.s) 40 20) = true := by simp [FairS.lent, h1]
    simp only [lentS] at e1
    rw [e1] at c43
    by_cases h2 : (z.ws.length : Int) = z.s.n
    · have e2 : ((z.ws.length : Int) == z.s.n) = true := by simp [h2]
      have e3 : decide (∀ r ∈ [(⟨false, z.A, z.cap, z.ws⟩ : RD)], r.l.length ≤ 13 ∧ ∀ x ∈ r.l, x < z.s.p) = decide (MayS z) := decide_eq_decide.2 (by
        unfold MayS
        simp [h1, h2])
      rw [e3] at c44
      simp [-doCall, doCall_eq, entryS, askV, askL, scL, c43, c44, e2]
    · have e2 : ((z.ws.length : Int) == z.s.n) = false := by simp [h2]
      have e3 : decide (MayS z) = false := decide_eq_false fun h => h2 h.2.1
      simp [-doCall, doCall_eq, entryS, askV, askL, scL, c43, e2, e3]
  · have e1 : decide (FairS (lentS z.s) 40 20) = false := by simp [FairS.lent, h1]
    simp only [lentS] at e1
    rw [e1] at c43
    have e3 : decide (MayS z) = false := decide_eq_false fun h => h1 h.1
    simp [-doCall, doCall_eq, entryS, askV, askL, scL, c43, e3]
theorem one19 (s : Scn) (hc : s.corrupt.length ≤ 1000) {n : Nat} (hn : s.n = (n : Int)) (h13 : n ≤ 13) (pm : Bool) (A : Option Addr) (cap : Nat) (vs : List Nat) (hl : vs.length = n) (x : Nat) (hx : ∀ f, f < n → hon s f = true → vF vs f = x) (he : ∃ f, f < n ∧ hon s f = true) :
    AnsN 1103 Tryd.prog H14 19 [scV s, .im pm A cap n (uL vs)] (.tup [.int .u64 (x : Int), .bool true]) := by
  refine AnsN.gen (fn := Tryd.f19) (by rfl) Tryd.func19 rfl (by rfl) (by rfl) fun k hk nx => ?_
  have c20 := fun v => callP (honest19 (lentS s) hc v) (k := k) (by omega) (by simp [scV, scL, ptrsL, ptrs, lentS]) rfl
  have hcc : (lentS s).corrupt = s.corrupt := rfl
  simp only [hcc] at c20
  simp only [scV, scL, lentS, List.length_map, hn] at c20
  obtain ⟨I, hI⟩ : ∃ I : Nat → St → Prop, I = fun q D => ∃ i : Nat, q = n - i ∧ i ≤ n ∧ D.s 1 = .im pm A cap n (uL vs) ∧ D.s 2 = .bptr nx 0 ∧ D.s 6 = .int .u64 (if (∃ f, f < i ∧ hon s f = true) then (x : Int) else 0) ∧ D.s 7 = .bool (decide (∃ f, f < i ∧ hon s f = true)) ∧ D.s 8 = .int .i64 ((i : Int) + 1) ∧ D.m = [(nx, ⟨0, scL s⟩)] ∧ D.nx = nx + 1 := ⟨_, rfl⟩
  have h0 : ¬ ∃ f, f < 0 ∧ hon s f = true := fun ⟨f, hf, _⟩ => by omega
  simp [entryS, scV, scL]
  refine EvP.loop I (n := n) (by rw [hI]; exact ⟨0, by simp [scL]⟩) (by omega) fun q D hD => ?_
  rw [hI] at hD
  obtain ⟨i, rfl, hi, d1, d2, d6, d7, d8, dm, dx⟩ := hD
  by_cases hil : i < n
  · have e3 := wrapi (x := (i : Int) + 1 + 1) (by omega) (by omega)
    have e4 := wrapi (x := (i : Int)) (by omega) (by omega)
    have e5 : (i : Int) + 1 - 1 = (i : Int) := by omega
    have g1 : (i : Int) + 1 ≤ s.n := by omega
    have g2 : (i : Int) + 1 ≤ (n : Int) := by omega
    have hiv : i < vs.length := by omega
    have huv : (uL vs)[i]? = some (.int .u64 (vF vs i : Int)) := uL_vF hiv
    by_cases hh : hon s i = true
    · have hm : decide ((i : Int) + 1 ∉ s.corrupt) = true := hh
      have c := c20 ((i : Int) + 1)
      rw [hm] at c
      have hvx := hx i hil hh
      rw [hvx] at huv
      have hu2 : (uL vs)[i]'(by simp [uL]; omega) = .int .u64 (x : Int) := by
        have := List.getElem?_eq_getElem (l := uL vs) (i := i) (by simp [uL]; omega)
        rw [huv] at this
        exact (Option.some.inj this).symm
      have hE : ∃ f, f < i + 1 ∧ hon s f = true := ⟨i, by omega, hh⟩
      by_cases hp : ∃ f, f < i ∧ hon s f = true
      · rw [if_pos hp] at d6
        rw [decide_eq_true hp] at d7
        simp [-doCall, doCall_eq, d1, d2, d6, d7, d8, dm, dx, scL, hil, hn, g1, g2, hl, e3, e4, e5, c, huv, hu2, bne]
        subst hI
        exact ⟨n - (i + 1), by omega, i + 1, rfl, by omega, by simp [d1], by simp [d2], by rw [if_pos hE]; simp, by rw [decide_eq_true hE]; simp, by simp [e3], by first | rfl | simp [dm, scL, hn], by first | rfl | simp [dx]⟩
      · rw [if_neg hp] at d6
        rw [decide_eq_false hp] at d7
        simp [-doCall, doCall_eq, d1, d2, d6, d7, d8, dm, dx, scL, hil, hn, g1, g2, hl, e3, e4, e5, c, huv, hu2]
        subst hI
        exact ⟨n - (i + 1), by omega, i + 1, rfl, by omega, by simp [d1], by simp [d2], by rw [if_pos hE]; simp, by rw [decide_eq_true hE]; simp, by simp [e3], by first | rfl | simp [dm, scL, hn], by first | rfl | simp [dx]⟩
    · have hm : decide ((i : Int) + 1 ∉ s.corrupt) = false := by
        have : hon s i = false := by simpa using hh
        exact this
      have c := c20 ((i : Int) + 1)
      rw [hm] at c
      have hE : (∃ f, f < i + 1 ∧ hon s f = true) ↔ ∃ f, f < i ∧ hon s f = true := ⟨fun ⟨f, h1, h2⟩ => ⟨f, by
        by_cases hfi : f = i
        · subst hfi; exact absurd h2 hh
        · omega, h2⟩, fun ⟨f, h1, h2⟩ => ⟨f, by omega, h2⟩⟩
      simp [-doCall, doCall_eq, d1, d2, d6, d7, d8, dm, dx, scL, hil, hn, g1, g2, hl, e3, e4, e5, c]
      subst hI
      exact ⟨n - (i + 1), by omega, i + 1, rfl, by omega, by simp [d1], by simp [d2], by simp [d6, hE], by simp [d7, hE], by simp [e3], by first | rfl | simp [dm, scL, hn], by first | rfl | simp [dx]⟩
  · have hin : i = n := by omega
    have hE : ∃ f, f < i ∧ hon s f = true := by rw [hin]; exact he
    rw [if_pos hE] at d6
    rw [decide_eq_true hE] at d7
    subst hin
    have g1 : ¬ ((i : Int) + 1 ≤ (i : Int)) := by omega
    simp [-doCall, doCall_eq, d1, d2, d6, d7, d8, dm, dx, scL, hn, g1]
end Go.Abs
end
set_option linter.unusedVariables false
noncomputable section
namespace Go.Abs
open Go Go.Proofs
set_option maxRecDepth 100000
theorem four45 (pm : Bool) (A : Option Addr) (cap : Nat) (l : List Dev) : AnsN 1 Tryd.prog H14 45 [.im pm A cap l.length (devsV l)] (.agg [.int .u64 31, .int .i64 4, .int .i64 1, .own .nil 0 1 [.int .i64 2], .im pm A cap l.length (devsV l), .own .nil 0 4 [.own .nil 0 0 [], .own .nil 0 0 [], .own .nil 0 0 [], .own .nil 0 0 []]]) := by
  refine AnsN.gen (fn := Tryd.f45) (by rfl) Tryd.func45 rfl (by rfl) (by simp [ptrs, ptrsL]) fun k hk nx => ?_
  simp [-doCall, doCall_eq, entryS]
def exD : List Dev := [⟨0, 2, 0, 0, 1, 9, 1, 0⟩, ⟨5, 2, 3, 0, 4, 0, 1, 0⟩]
def rt (l : List Nat) : RD := ⟨true, none, 0, l⟩
def exS4 : Scn := ⟨31, 4, 1, true, none, 0, [2], true, none, 0, exD, true, none, 0, [rt [], rt [], rt [], rt []]⟩
theorem exS4_ok : ScnS exS4 := by
  refine ⟨⟨by decide, by decide, fun i hi => ?_⟩, by decide, ?_, by decide⟩
  · intro x hx
    have h0 : i = 0 := by simp [exS4] at hi; omega
    subst h0
    have : x = 2 := by simpa [exS4] using hx.symm
    subst this
    exact ⟨by decide, by decide, fun y h => by omega⟩
  · intro x hx
    have h : x = ⟨0, 2, 0, 0, 1, 9, 1, 0⟩ ∨ x = ⟨5, 2, 3, 0, 4, 0, 1, 0⟩ := by simpa [exS4, exD] using hx
    rcases h with rfl | rfl <;> decide
theorem exS4_T : ScnT exS4 := ⟨rfl, rfl, rfl, fun x hx => by
  have : x = rt [] := by simpa [exS4] using hx
  subst this; rfl⟩
theorem good4 : Good 4 1 (hon exS4) := good_of (s := exS4) rfl (by decide) (by decide)
set_option maxHeartbeats 4000000 in
theorem awake17 : ∃ N, AnsN N Tryd.prog H14 17 [] (.bool true) := by
  obtain ⟨N, hN⟩ := new_ex exS4 exS4_ok (by decide) (by decide) (by decide) (fun x hx => by
    have h : x = ⟨0, 2, 0, 0, 1, 9, 1, 0⟩ ∨ x = ⟨5, 2, 3, 0, 4, 0, 1, 0⟩ := by simpa [exS4, exD] using hx
    rcases h with rfl | rfl <;> decide)
  refine ⟨max (max (max N 100 + 3) 1111 + 1) 100 + 2, ?_⟩
  refine AnsN.of (fn := Tryd.f17) (t := 0) (by rfl) Tryd.func17 rfl rfl (by rfl) (by rfl) fun k hk nx => ?_
  have hv5 : ∀ x ∈ [5, 5, 5, 5], x < exS4.p := by decide
  have c45 := callP (four45 true none 0 exD) (k := k) (by omega) (by simp [exD, devsV, devL, ptrsL, ptrs]) rfl
  have a18 := agreed18 exS4 exS4_T exS4_ok (by decide) (by decide) hN (n := 4) (t := 1) rfl rfl (by decide) false none 0 [5, 5, 5, 5] rfl hv5 k (by omega) nx
  have hP := nwO_Ph (t := 1) (n := 4) exS4_ok exS4_T hN nx rfl hv5
  obtain ⟨hP1, hPr⟩ := hP.phases rfl (by decide) 2
  have hval := phases_valid hP rfl good4 (hears_hon (s := exS4) (n := 4) rfl fun x hx => (exS4_ok.2.2.1 x hx).P) (x := 5) (fun f hf _ => by
    have : f = 0 ∨ f = 1 ∨ f = 2 ∨ f = 3 := by omega
    rcases this with rfl | rfl | rfl | rfl <;> rfl)
  obtain ⟨o, ho⟩ : ∃ o, phases 4 1 ⟨nwO exS4 nx, [5, 5, 5, 5]⟩ 2 = o := ⟨_, rfl⟩
  have ho' : pkO exS4 nx 4 1 [5, 5, 5, 5] = o := ho
  rw [ho] at hP1 hPr
  rw [show (1 : Nat) + 1 = 2 from rfl, ho] at hval
  simp only [ho'] at a18
  have v0 := hval 0 (by decide) (by decide)
  have v2 := hval 2 (by decide) (by decide)
  have v3 := hval 3 (by decide) (by decide)
  have hl4 : o.vs.length = 4 := hP1.l
  obtain ⟨a, b, c, d, hvs⟩ : ∃ a b c d, o.vs = [a, b, c, d] := by
    match h : o.vs, hl4 with
    | [a, b, c, d], _ => exact ⟨a, b, c, d, rfl⟩
  rw [hvs] at v0 v2 v3 a18
  have q0 : a = 5 := v0
  have q2 : c = 5 := v2
  have q3 : d = 5 := v3
  subst q0 q2 q3
  have hrd : o.σ.round = 6 := hPr
  have AO := nwO_A exS4 nx ⟨0, scL exS4⟩ ⟨0, scL exS4⟩
  rw [← hP1.o.tp] at AO
  have c21 := fun st dst => AO.call hP1.o.I.hT hP1.o.I.hl rfl (rounds26 (nx + 2) 0 o.σ (tbO exS4 nx) hP1.o.I.hT) (k := k) (by omega) (by simp [ptrsL, ptrs]) rfl st dst
  have hlt := AO.mem hP1.o.I.hT
  have hM0 : agM exS4 nx o.σ = [(nx, ⟨0, scL exS4⟩), (nx + 1, ⟨0, scL exS4⟩)] ++ (nx + 2, ⟨0, netC o.σ⟩) :: tbO exS4 nx := rfl
  obtain ⟨M, hM⟩ : ∃ M, [(nx, (⟨0, scL exS4⟩ : Box)), (nx + 1, ⟨0, scL exS4⟩)] ++ (nx + 2, ⟨0, netC o.σ⟩) :: tbO exS4 nx = M := ⟨_, rfl⟩
  rw [hM] at hM0 c21 hlt
  rw [hM0] at a18
  rw [hrd] at c21
  have w4 : uL [5, b, 5, 5] = [.int .u64 5, .int .u64 (b : Int), .int .u64 5, .int .u64 5] := rfl
  have w5 : uL [5, 5, 5, 5] = [.int .u64 5, .int .u64 5, .int .u64 5, .int .u64 5] := rfl
  have e1 : scV exS4 = .agg [.int .u64 31, .int .i64 4, .int .i64 1, .im true none 0 1 [.int .i64 2], .im true none 0 2 (devsV exD), .im true none 0 4 [.im true none 0 0 [], .im true none 0 0 [], .im true none 0 0 [], .im true none 0 0 []]] := rfl
  have dv : devsV exD = [.int .i64 0, .int .i64 2, .int .i64 0, .int .i64 0, .int .i64 1, .int .u64 9, .int .i64 1, .int .i64 0, .int .i64 5, .int .i64 2, .int .i64 3, .int .i64 0, .int .i64 4, .int .u64 0, .int .i64 1, .int .i64 0] := rfl
  have dl : exD.length = 2 := rfl
  rw [w4, w5, e1, dv] at a18
  rw [dv, dl] at c45
  have c18 := fun st dst => callNew (s := st) (m := []) (H := H14) (by simp [ptrsL, ptrs]) rfl (by omega) a18 (fun e he => (hlt e he).1) dst
  simp only [List.nil_append] at c18
  simp [-reach, -doCall, doCall_eq, entryS, c45, c18, c21]
  exact fun a b h => (hlt (a, b) h).1
end Go.Abs
end
set_option linter.unusedVariables false
noncomputable section
namespace Go.Abs
open Go Go.Proofs
set_option maxRecDepth 100000
theorem rd_wordsT {k : Nat} {vs : List V} (h : ShT Tryd.prog (k + 1 + 1) 30 vs) : ∃ r : RD, (r.pm = true ∧ ∀ x ∈ r.l, x < 18446744073709551616) ∧ vs = [rV r] := by
  obtain ⟨A, cap, l, h1, h2, rfl⟩ := sh_wordsT Tryd.underlying30 Tryd.underlying22 ce22 h
  exact ⟨⟨true, A, cap, l⟩, ⟨rfl, h2⟩, rfl⟩
theorem rd_intsT {k : Nat} {vs : List V} (h : ShT Tryd.prog (k + 1 + 1) 25 vs) : ∃ A cap l, vs = [.im true A cap l.length (iL l)] := by
  obtain ⟨A, cap, l, h1, h2, h3⟩ := sh_sliceT (fun x : Int => [V.int .i64 x]) (fun _ => True) Tryd.underlying25 ce3 (fun c h => by
    obtain ⟨x, _, he⟩ := sh_i64T Tryd.underlying3 h
    exact ⟨x, trivial, he⟩) h
  rw [← flat_iL] at h3
  exact ⟨A, cap, l, h3⟩
theorem rd_rowsT {k : Nat} {vs : List V} (h : ShT Tryd.prog (k + 1 + 1 + 1) 27 vs) : ∃ A cap, ∃ l : List RD, (∀ r ∈ l, r.pm = true) ∧ vs = [.im true A cap l.length (rsV l)] := by
  obtain ⟨A, cap, l, h1, h2, h3⟩ := sh_sliceT (fun x : RD => [rV x]) (fun r => r.pm = true ∧ ∀ x ∈ r.l, x < 18446744073709551616) Tryd.underlying27 ce30 (fun c h => rd_wordsT h) h
  rw [← flat_rsV] at h3
  exact ⟨A, cap, l, fun r hr => (h2 r hr).1, h3⟩
theorem rd_paramsT {k : Nat} {vs : List V} (h : ShT Tryd.prog (k + 1 + 1) 24 vs) : ∃ (p : Nat) (n t : Int), p < 18446744073709551616 ∧ vs = [.int .u64 (p : Int), .int .i64 n, .int .i64 t] := by
  unfold ShT at h
  rw [Tryd.underlying24] at h
  obtain ⟨hl, hf⟩ := h
  rw [ce24] at hl
  match vs, hl with
  | [a, b, c], _ =>
    simp [ce22, ce3] at hf
    obtain ⟨h0, h1, h2⟩ := hf
    obtain ⟨p, hp, e0⟩ := sh_u64T Tryd.underlying22 h0
    obtain ⟨n, _, e1⟩ := sh_i64T Tryd.underlying3 h1
    obtain ⟨t, _, e2⟩ := sh_i64T Tryd.underlying3 h2
    simp at e0 e1 e2
    exact ⟨p, n, t, hp, by simp [e0, e1, e2]⟩
theorem rd_devT {k : Nat} {vs : List V} (h : ShT Tryd.prog (k + 1 + 1) 45 vs) : ∃ x : Dev, x.k < 18446744073709551616 ∧ vs = devL x := by
  unfold ShT at h
  rw [Tryd.underlying45] at h
  obtain ⟨hl, hf⟩ := h
  rw [ce45] at hl
  match vs, hl with
  | [a, b, c, d, e, f, g, i], _ =>
    simp [ce22, ce3] at hf
    obtain ⟨h0, h1, h2, h3, h4, h5, h6, h7⟩ := hf
    obtain ⟨x0, _, e0⟩ := sh_i64T Tryd.underlying3 h0
    obtain ⟨x1, _, e1⟩ := sh_i64T Tryd.underlying3 h1
    obtain ⟨x2, _, e2⟩ := sh_i64T Tryd.underlying3 h2
    obtain ⟨x3, _, e3⟩ := sh_i64T Tryd.underlying3 h3
    obtain ⟨x4, _, e4⟩ := sh_i64T Tryd.underlying3 h4
    obtain ⟨x5, hk, e5⟩ := sh_u64T Tryd.underlying22 h5
    obtain ⟨x6, _, e6⟩ := sh_i64T Tryd.underlying3 h6
    obtain ⟨x7, _, e7⟩ := sh_i64T Tryd.underlying3 h7
    simp at e0 e1 e2 e3 e4 e5 e6 e7
    exact ⟨⟨x0, x1, x2, x3, x4, x5, x6, x7⟩, hk, by simp [devL, e0, e1, e2, e3, e4, e5, e6, e7]⟩
theorem rd_devsT {k : Nat} {vs : List V} (h : ShT Tryd.prog (k + 1 + 1 + 1) 26 vs) : ∃ A cap, ∃ l : List Dev, (∀ x ∈ l, x.k < 18446744073709551616) ∧ vs = [.im true A cap l.length (devsV l)] := by
  obtain ⟨A, cap, l, h1, h2, h3⟩ := sh_sliceT devL (fun x : Dev => x.k < 18446744073709551616) Tryd.underlying26 ce45 (fun c h => rd_devT h) h
  exact ⟨A, cap, l, h2, h3⟩
structure ScnB (s : Scn) : Prop where
  k : ∀ x ∈ s.devs, x.k < 18446744073709551616
  T : ScnT s
theorem rd_scnT {k : Nat} {vs : List V} (h : ShT Tryd.prog (k + 1 + 1 + 1 + 1) 29 vs) : ∃ s : Scn, ScnB s ∧ vs = scL s := by
  unfold ShT at h
  rw [Tryd.underlying29] at h
  obtain ⟨hl, hf⟩ := h
  rw [ce29] at hl
  match vs, hl with
  | [a, b, c, d, e, f], _ =>
    simp [ce24, ce25, ce26, ce27] at hf
    obtain ⟨h0, h1, h2, h3⟩ := hf
    obtain ⟨p, n, t, hp, e0⟩ := rd_paramsT h0
    obtain ⟨A1, cap1, l1, e1⟩ := rd_intsT h1
    obtain ⟨A2, cap2, l2, c2, e2⟩ := rd_devsT h2
    obtain ⟨A3, cap3, l3, c3, e3⟩ := rd_rowsT h3
    simp at e0 e1 e2 e3
    exact ⟨⟨p, n, t, true, A1, cap1, l1, true, A2, cap2, l2, true, A3, cap3, l3⟩, ⟨c2, ⟨rfl, rfl, rfl, c3⟩⟩, by simp [scL, e0, e1, e2, e3]⟩
theorem arg_askT {m : Nat} {x : V} (h : ArgShT Tryd.prog (m + 1 + 1 + 1 + 1 + 1) 32 x) : ∃ z : Ask, ScnB z.s ∧ z.pm = true ∧ x = askV z := by
  unfold ArgShT at h
  rw [Tryd.underlying32] at h
  obtain ⟨vs, rfl, h⟩ := h
  unfold ShT at h
  rw [Tryd.underlying32] at h
  obtain ⟨hl, hf⟩ := h
  rw [ce32] at hl
  match vs, hl with
  | [a, b, c, d, e, f, g], _ =>
    simp [ce29, ce30] at hf
    obtain ⟨h0, h1⟩ := hf
    obtain ⟨s, hs, e0⟩ := rd_scnT h0
    obtain ⟨r, ⟨hr, _⟩, e1⟩ := rd_wordsT h1
    refine ⟨⟨s, r.pm, r.A, r.cap, r.l⟩, hs, hr, ?_⟩
    show V.agg _ = V.agg (scL s ++ [rV r])
    rw [← e0, ← e1]; rfl
end Go.Abs
end
set_option linter.unusedVariables false
noncomputable section
namespace Go.Abs
open Go Go.Proofs
set_option maxRecDepth 100000
theorem agM_lt {s : Scn} {a : Nat} {σ : NetS} (htp : σ.tp = (nwO s a).tp) : ∀ e ∈ agM s a σ, a ≤ e.1 ∧ e.1 < a + (3 + s.tapes.length) := fun e he => by
  unfold agM at he
  rw [List.cons_append, List.cons_append, List.nil_append] at he
  rcases List.mem_cons.1 he with rfl | he
  · exact ⟨Nat.le_refl _, by show a < _; omega⟩
  rcases List.mem_cons.1 he with rfl | he
  · exact ⟨by show a ≤ a + 1; omega, by show a + 1 < _; omega⟩
  rcases List.mem_cons.1 he with rfl | he
  · exact ⟨by show a ≤ a + 2; omega, by show a + 2 < _; omega⟩
  · have h1 := tapB_ge _ _ _ e he
    have h2 := tapB_lt _ _ _ e he
    exact ⟨by omega, by omega⟩
structure AskOk (z : Ask) (n t N : Nat) : Prop where
  T : ScnT z.s
  s : ScnS z.s
  d : z.s.devs.length ≤ 1000
  c : z.s.corrupt.length ≤ 1000
  r : ∀ r ∈ z.s.tapes, r.l.length ≤ 1000
  hN : SendN (lentS z.s) N
  hn : z.s.n = (n : Int)
  ht : z.s.t = (t : Int)
  h3 : 3 * t < n
  h13 : n ≤ 13
  l : z.ws.length = n
  w : ∀ x ∈ z.ws, x < z.s.p
theorem askOk_ex {z : Ask} (hB : ScnB z.s) (hm : MayS z) : ∃ n t N, AskOk z n t N := by
  obtain ⟨⟨f1, f2, f3, f4, hs⟩, h2, h3, h4⟩ := hm
  have hr : ∀ r ∈ z.s.tapes, r.l.length ≤ 1000 := fun r h => by have := f4 r h; omega
  obtain ⟨N, hN⟩ := new_ex z.s hs (by omega) (by omega) hr hB.k
  have hv := hs.1.1
  have ht : 1 ≤ z.s.t ∧ 3 * z.s.t < z.s.n := ⟨hv.2.2.2.2.1, hv.2.2.2.2.2.2⟩
  exact ⟨z.ws.length, z.s.t.toNat, N, hB.T, hs, by omega, by omega, hr, hN, h2.symm, by omega, by omega, h3, rfl, h4⟩
theorem AskOk.good {z : Ask} {n t N : Nat} (h : AskOk z n t N) : Good n t (hon z.s) := good_of h.ht h.s.1.2.1 h.h3
theorem AskOk.hears {z : Ask} {n t N : Nat} (h : AskOk z n t N) : Hears z.s n (hon z.s) := hears_hon h.hn fun x hx => (h.s.2.2.1 x hx).P
theorem AskOk.ph {z : Ask} {n t N : Nat} (h : AskOk z n t N) (a : Nat) {vs : List Nat} (hl : vs.length = n) (hv : ∀ x ∈ vs, x < z.s.p) : PhO N (a + 2) n t (tbO z.s a) z.s (nwO z.s a).tp ⟨nwO z.s a, vs⟩ := nwO_Ph h.s h.T h.hN a hl hv
theorem AskOk.a18 {z : Ask} {n t N : Nat} (h : AskOk z n t N) (pm : Bool) (A : Option Addr) (cap : Nat) (vs : List Nat) (hl : vs.length = n) (hv : ∀ x ∈ vs, x < z.s.p) : AnsB (max (max N 100 + 3) 1111 + 1) Tryd.prog H14 18 [scV z.s, .im pm A cap n (uL vs)] (fun nx => .tup [.own .nil 0 n (uL (pkO z.s nx n t vs).vs), .bptr (nx + 2) 0, .bool true]) (fun nx => agM z.s nx (pkO z.s nx n t vs).σ) (3 + z.s.tapes.length) :=
  agreed18 z.s h.T h.s h.d h.r h.hN h.hn h.ht h.h3 pm A cap vs hl hv
theorem AskOk.call {z : Ask} {n t N k : Nat} (h : AskOk z n t N) (hk : max (max N 100 + 3) 1111 + 1 ≤ k) (pm : Bool) (A : Option Addr) (cap : Nat) (vs : List Nat) (hl : vs.length = n) (hv : ∀ x ∈ vs, x < z.s.p) (st : Nat → V) (m : List (Nat × Box)) (nx : Nat) (dst : Option Nat) :
    doCallB H14 (evCall Tryd.prog H14 k) 18 false [scV z.s, .im pm A cap n (uL vs)] ⟨st, m, nx⟩ dst = some ((St.mk (fun i => killB [] nx (st i)) (m ++ agM z.s nx (pkO z.s nx n t vs).σ) (nx + (3 + z.s.tapes.length))).lay dst (.tup [.own .nil 0 n (uL (pkO z.s nx n t vs).vs), .bptr (nx + 2) 0, .bool true])) := by
  have hP := (h.ph (t := t) nx hl hv).phases h.hn (by have := h.h3; omega) (t + 1)
  refine callNew (H := H14) (by simp [scV, scL, ptrsL, ptrs, nil_uL]) rfl (by omega) (h.a18 pm A cap vs hl hv k hk nx) (fun e he => (agM_lt ?_ e he).1) dst
  exact hP.1.o.tp
theorem kill_ref_comm (r r' : Root) (p p' : List Nat) (a : Root) (q : List Nat) : kill r p (kill r' p' (.ref a q)) = kill r' p' (kill r p (.ref a q)) := by
  show kill r p (if hitRef r' p' a q then .dead else .ref a q) = kill r' p' (if hitRef r p a q then .dead else .ref a q)
  cases h1 : hitRef r p a q <;> cases h2 : hitRef r' p' a q <;> simp only [if_true, if_false, kill, h1, h2, Bool.false_eq_true]
theorem kill_loc_comm (r r' : Root) (p p' : List Nat) (a : Root) (q : List Nat) : kill r p (kill r' p' (.loc a q)) = kill r' p' (kill r p (.loc a q)) := by
  show kill r p (if hitLoc r' p' a q then .dead else .loc a q) = kill r' p' (if hitLoc r p a q then .dead else .loc a q)
  cases h1 : hitLoc r p a q <;> cases h2 : hitLoc r' p' a q <;> simp only [if_true, if_false, kill, h1, h2, Bool.false_eq_true]
mutual
theorem kill_comm (r r' : Root) (p p' : List Nat) : ∀ v : V, kill r p (kill r' p' v) = kill r' p' (kill r p v)
  | .ref a q => kill_ref_comm r r' p p' a q
  | .loc a q => kill_loc_comm r r' p p' a q
  | .agg cs => by simp only [kill]; rw [killL_comm r r' p p' cs]
  | .tup cs => by simp only [kill]; rw [killL_comm r r' p p' cs]
  | .fn f a b => by simp only [kill]; rw [killL_comm r r' p p' a, killL_comm r r' p p' b]
  | .int _ _ | .bool _ | .nilp | .nilf | .bptr _ _ | .ip _ _ _ | .im _ _ _ _ _ | .own _ _ _ _ | .dead => rfl
theorem killL_comm (r r' : Root) (p p' : List Nat) : ∀ l : List V, killL r p (killL r' p' l) = killL r' p' (killL r p l)
  | [] => rfl
  | v :: l => by simp only [killL]; rw [kill_comm r r' p p' v, killL_comm r r' p p' l]
end
def dvA (z : Ask) (l : List Dev) (cap : Nat) : Ask := { z with s := { z.s with devs := l, dpm := true, dA := none, dcap := cap } }
theorem dvA_B {z : Ask} {l : List Dev} {cap : Nat} (h : ScnB z.s) (hl : ∀ x ∈ l, x ∈ z.s.devs) : ScnB (dvA z l cap).s := ⟨fun x hx => h.k x (hl x hx), h.T.c, rfl, h.T.t, h.T.r⟩
theorem dvA_may {z : Ask} {l : List Dev} {cap : Nat} (h : MayS z) (hl : ∀ x ∈ l, x ∈ z.s.devs) (hn : l.length ≤ z.s.devs.length) : MayS (dvA z l cap) := by
  obtain ⟨⟨f1, f2, f3, f4, hs⟩, h2, h3, h4⟩ := h
  exact ⟨⟨Nat.le_trans hn f1, f2, f3, f4, hs.1, hs.2.1, fun x hx => hs.2.2.1 x (hl x hx), hs.2.2.2⟩, h2, h3, h4⟩
theorem dvA_ok {z : Ask} {l : List Dev} {cap n t N : Nat} (hB : ScnB z.s) (hm : MayS z) (o : AskOk z n t N) (hl : ∀ x ∈ l, x ∈ z.s.devs) (hn : l.length ≤ z.s.devs.length) : ∃ N0, AskOk (dvA z l cap) n t N0 := by
  obtain ⟨n', t', N0, h⟩ := askOk_ex (dvA_B (cap := cap) hB hl) (dvA_may (cap := cap) hm hl hn)
  have e1 : n' = n := by
    have h1 : z.ws.length = n' := h.l
    have h2 : z.ws.length = n := o.l
    omega
  have e2 : t' = t := by
    have h1 : z.s.t = (t' : Int) := h.ht
    have h2 : z.s.t = (t : Int) := o.ht
    omega
  subst e1 e2
  exact ⟨N0, h⟩
def setW (z : Ask) (ws : List Nat) (x f : Nat) : Nat := if hon z.s f then x else vF ws f
theorem uL_get {vs : List Nat} {i : Nat} (h : i < vs.length) : (uL vs)[i]'(by simp [uL]; exact h) = .int .u64 (vF vs i : Int) := by
  have h1 := List.getElem?_eq_getElem (l := uL vs) (i := i) (by simp [uL]; exact h)
  rw [uL_vF h] at h1
  exact (Option.some.inj h1).symm
end Go.Abs
end
