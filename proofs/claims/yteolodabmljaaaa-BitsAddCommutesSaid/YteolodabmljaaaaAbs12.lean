/- Joined: AbsRP AbsRA AbsWB AbsRB. -/
import Derived.Test.YteolodabmljaaaaAbs11
import Derived.Test.YteolodabmljaaaaRows
set_option linter.all false
/- The seat of privitylaw02: hints, contracts. -/
set_option linter.unusedVariables false
noncomputable section
namespace Go.Abs
open Go Go.Proofs

/-- A list of words, as cells. -/
def wd (x : Nat) : V := .int .u64 (x : Int)
def wordsOf : List V → Option (List Nat)
  | [] => some []
  | .int .u64 k :: l => if 0 ≤ k then (match wordsOf l with | some ys => some (k.toNat :: ys) | none => none) else none
  | _ => none
def im1 (g : List Nat → Option V) : List V → Option V
  | [.im _ _ _ n cs] => match wordsOf cs with | some l => if l.length = n ∧ n ≤ 1000 then g l else none | none => none
  | _ => none
def im2 (g : List Nat → List Nat → Option V) : List V → Option V
  | [.im _ _ _ n cs, .im _ _ _ m ds] => match wordsOf cs, wordsOf ds with | some l, some k => if l.length = n ∧ n ≤ 1000 ∧ k.length = m ∧ m ≤ 1000 then g l k else none | _, _ => none
  | _ => none
def tuV (l : List Nat) : V := if l.length ≤ 60 ∧ ∀ x ∈ l, x ≤ 1 then .tup [.int .u64 ((numL (down l l.length) : Nat) : Int), .int .i64 0] else .tup [.int .u64 0, .int .i64 7]
def len64X : List V → Option V
  | [.int .u64 x] => if 0 ≤ x ∧ x ≤ 18446744073709551615 then some (.int .i64 (Lib.bitLen x.toNat)) else none
  | _ => none
def X02 (f : Nat) (xs : List V) : Option V :=
  if f = 16 then im1 (fun l => some (tuV l)) xs else
  if f = 19 then im2 (fun a b => some (.own .nil 0 (addSpec a b).length ((addSpec a b).map wd))) xs else
  if f = 22 then im2 (fun a b => some (.own .nil 0 a.length ((subSpec a b).map wd))) xs else
  if f = 24 then im2 (fun a b => some (.int .u64 ((lessL (upto (fun j => (a[j]?.getD 0, b[j]?.getD 0)) (max a.length b.length)) : Nat) : Int))) xs else
  if f = 25 then im2 (fun a b => some (.int .u64 ((eqL (upto (fun j => (a[j]?.getD 0, b[j]?.getD 0)) (max a.length b.length)) : Nat) : Int))) xs else
  if f = 30 then len64X xs else none
def plan02 (f id : Nat) : Option (List Nat) :=
  if f = 29 ∧ id = 10 then some [0, 1, 2, 3, 4, 5, 6, 7, 10, 8, 9, 11, 12] else none
def H02 : Hint := { tree := fun _ _ => none, q := fun _ _ _ => false, G := fun _ => none, sg := fun _ => [], fz := fun _ _ _ => false, live := fun _ _ => none, fr := fun _ => false, X := X02, plan := plan02, mc := fun _ _ => [], good := fun f => !([16, 19, 22, 24, 25, 30, 31, 33, 35, 36, 37].contains f) }

theorem wordsOf_sm : ∀ {l l' : List V}, SmL l l' → wordsOf l' = wordsOf l := by
  intro l l' h
  induction l generalizing l' with
  | nil => cases h; rfl
  | cons x l ih =>
    cases h with
    | cons h1 h2 =>
      have e := ih h2
      cases h1 with
      | int =>
        rename_i k n
        cases k <;> first | rfl | simp only [wordsOf, e]
      | _ => rfl
theorem OptR.refl' (o : Option V) : OptR Sm o o := by
  cases o with
  | none => exact .none
  | some v => exact .some (Sm.refl v)
theorem im1_sm {g : List Nat → Option V} {l l' : List V} (h : SmL l l') : OptR Sm (im1 g l) (im1 g l') := by
  cases h with
  | nil => exact OptR.refl' _
  | cons h1 h2 =>
    cases h2 with
    | cons h3 h4 => cases h1 <;> exact .none
    | nil =>
      cases h1 with
      | im hc => simp only [im1, wordsOf_sm hc]; exact OptR.refl' _
      | _ => exact .none
theorem im2_sm {g : List Nat → List Nat → Option V} {l l' : List V} (h : SmL l l') : OptR Sm (im2 g l) (im2 g l') := by
  cases h with
  | nil => exact OptR.refl' _
  | cons h1 h2 =>
    cases h2 with
    | nil => cases h1 <;> exact .none
    | cons h3 h4 =>
      cases h4 with
      | cons h5 h6 => cases h1 <;> cases h3 <;> exact .none
      | nil =>
        cases h1 with
        | im hc =>
          cases h3 with
          | im hd => simp only [im2, wordsOf_sm hc, wordsOf_sm hd]; exact OptR.refl' _
          | _ => exact .none
        | _ => cases h3 <;> exact .none
theorem len64X_sm {l l' : List V} (h : SmL l l') : OptR Sm (len64X l) (len64X l') := by
  cases h with
  | nil => exact OptR.refl' _
  | cons h1 h2 =>
    cases h2 with
    | nil =>
      cases h1 with
      | int => exact OptR.refl' _
      | _ => exact .none
    | cons h3 h4 =>
      cases h1 with
      | int => rename_i k n; cases k <;> exact .none
      | _ => exact .none
theorem X02_sm : XSm H02 := by
  intro f xs xs' h
  show OptR Sm (X02 f xs) (X02 f xs')
  unfold X02
  repeat' split
  · exact im1_sm h
  · exact im2_sm h
  · exact im2_sm h
  · exact im2_sm h
  · exact im2_sm h
  · exact len64X_sm h
  · exact .none

/-! ### the program, looked at once -/
theorem mixed02 : Try.prog.follows .mixedOrders = true := by kernel_rfl
theorem prog02 : progB Try.prog H02 = true := by kernel_rfl
end Go.Abs
end
/- The seat of privitylaw02: contracts. -/
set_option linter.unusedVariables false
noncomputable section
namespace Go.Abs
open Go Go.Proofs Go.RowKit

section
variable {E : Env} {ex : List V} {w w' : World} {nx : Nat}

/-- What a slice's cells read as. -/
theorem wordsOf_get : ∀ {cs : List V} {l : List Nat}, wordsOf cs = some l → cs.length = l.length ∧ ∀ j (h : j < l.length), cs[j]? = some (wd l[j])
  | [], l, h => by
    simp only [wordsOf, Option.some.injEq] at h; subst h
    exact ⟨rfl, fun j h => by cases h⟩
  | x :: cs, l, h => by
    have key : ∀ k, wordsOf (.int .u64 k :: cs) = some l → (V.int .u64 k :: cs).length = l.length ∧ ∀ j (h : j < l.length), (V.int .u64 k :: cs)[j]? = some (wd l[j]) := by
      intro k h
      unfold wordsOf at h
      split at h
      case isFalse => cases h
      rename_i hk
      cases hw : wordsOf cs with
      | none => simp [hw] at h
      | some ys =>
        simp only [hw, Option.some.injEq] at h
        subst h
        obtain ⟨h1, h2⟩ := wordsOf_get hw
        refine ⟨by simp [h1], fun j hj => ?_⟩
        cases j with
        | zero => simp [wd]; omega
        | succ j => simpa using h2 j (by simpa using hj)
    cases x with
    | int ik k => cases ik with
      | u64 => exact key k h
      | _ => cases h
    | _ => cases h
theorem words_of {K : Nat → Prop} {pm : Bool} {A : Option Addr} {cap n : Nat} {cs : List V} {l : List Nat} (h : wordsOf cs = some l) (hn : l.length = n) (hat : AtOk E w nx K (.i pm A cap n cs)) : Words w.heap.size w (.slice A n cap) l := by
  obtain ⟨h1, h2⟩ := wordsOf_get h
  obtain ⟨_, h3⟩ := hat
  by_cases hl : l = []
  · subst hl
    simp only [List.length_nil] at hn
    subst hn
    exact .inl ⟨A, cap, rfl, rfl⟩
  · cases A with
    | none =>
      obtain ⟨e1, e2⟩ := h3
      subst e2
      exact absurd (List.eq_nil_of_length_eq_zero (by rw [← h1]; rfl)) hl
    | some a =>
      obtain ⟨_, h4, _⟩ := h3
      have cell : ∀ j (hj : j < l.length), w.cell? (a.add j) = some (.int .u64 (l[j] : Int)) := by
        intro j hj
        obtain ⟨u, hu, hm⟩ := h4 j _ (h2 j hj)
        rcases hm with hm | hm
        · simp only [wd, hd, Option.some.injEq] at hm
          rw [hu, ← hm]
        · simp [wd] at hm
      have hpos : 0 < l.length := by cases l with | nil => exact absurd rfl hl | cons x l => simp
      have c0 := cell 0 hpos
      have hlt : a.block < w.heap.size := by
        have := World.block_lt_of_cell? w _ c0
        rwa [block_of_add] at this
      have hsp : a.spot = none := by
        have e0 : a.add 0 = a := by simp [Addr.add]
        rw [e0] at c0
        unfold World.cell? at c0
        split at c0
        · split at c0
          · cases c0
          · rename_i hs
            cases hs' : a.spot with
            | none => rfl
            | some v => rw [hs'] at hs; simp at hs
        · cases c0
      obtain ⟨b, off, sp⟩ := a
      simp only at hsp hlt
      subst hsp
      refine .inr ⟨b, off, cap, by rw [hn], hlt, fun j hj => ?_⟩
      have := cell j hj
      have e : (⟨b, off, none⟩ : Addr).add j = ⟨b, off + j, none⟩ := by
        unfold Addr.add
        split
        · rename_i h; subst h; rfl
        · rfl
      rw [e] at this
      rw [this, List.getElem?_eq_getElem hj]; rfl

theorem back_flat {r : V} {v : Value} (hI : Inv E 0 (emptyS [] nx) ex w) (hb : Below w.heap.size w w') (hr : ∀ D, PR E.β D r v) (ha : atoms r = []) (hf : rows r = []) : Back E [] nx ex w r [] nx v w' := by
  have hI' := hI.ext hb.size hb.block
  have hs : Seen E 0 (emptyS [] nx) ex w' r v := ⟨hr _, fun b hb => (by rw [ha] at hb; cases hb), fun e he => (by rw [hf] at he; cases he)⟩
  obtain ⟨h1, h2⟩ := hs.join hI'
  refine ⟨E, r, [], Sm.refl _, .nil, h1, hr, ?_⟩
  exact ⟨fun _ _ => rfl, rfl, rfl, Nat.le_refl _, hb.size, fun k hk => h2.keys k hk |>.imp id (fun h => Nat.le_trans hb.size h), fun k hk _ => hb.block k hk, hb.os, hb.tape, hb.output⟩

theorem Inv.ownRow' {nt : Nat} {D : St} (h : Inv E nt D ex w) (hbel : Below w.heap.size w w') {g cap n : Nat} {cs : List V} {cur : Array Value} {el : TypeId} (hg : w.heap.size ≤ g) (hw : w'.heap[g]? = some (.cells cur el (0, 0)))
    (h1 : n ≤ cap) (h2 : cap ≤ 9223372036854775807) (h4 : cs.length = n) (h5 : 0 < n ∨ cap = 0) (h6 : cur.size = cap) (h7 : ∀ (j : Nat) (x : V), cs[j]? = some x → ∃ u, cur[j]? = some u ∧ MR E.β x u) (hfl : rowsL cs = []) (hatm : atomsL cs = []) :
    Inv E nt D (.own (.blk g cap 1) 0 n cs :: ex) w' ∧ To E nt D ex w E D (.own (.blk g cap 1) 0 n cs :: ex) w' := by
  have hI : Inv E nt D ex w' := h.ext hbel.size hbel.block
  have hp : (rowsD nt D (.own (.blk g cap 1) 0 n cs :: ex)).Perm ((.blk g cap 1, 0, n, cs.map sh) :: rowsD nt D ex) := by
    refine (rowsD_ex nt D _ ex).trans ?_
    simp only [Abs.rows, hfl, List.cons_append, List.nil_append]
    exact .refl _
  have hkp : (keysD nt D (.own (.blk g cap 1) 0 n cs :: ex)).Perm (g :: keysD nt D ex) := keysOf_perm hp
  refine ⟨⟨fun e he => ?_, ?_, fun a ha => ?_, h.boxes, h.ids, fun k hk => ?_, hI.newG, h.gpb⟩, ?_⟩
  · rcases List.mem_cons.1 (hp.mem_iff.1 he) with rfl | he
    · refine ⟨h1, h2, by omega, by simpa using h4, by omega, cur, el, hw, by omega, fun j x hx => ?_⟩
      rw [List.getElem?_map, Option.map_eq_some_iff] at hx
      obtain ⟨z, hz, rfl⟩ := hx
      obtain ⟨u, hu, hm⟩ := h7 j z hz
      exact ⟨u, hu, MR_sh.2 hm⟩
    · exact hI.rows e he
  · refine hkp.nodup_iff.2 (List.nodup_cons.2 ⟨fun hk => ?_, h.nodup⟩)
    exact absurd (h.key_lt hk) (by omega)
  · have ha' : a ∈ atomsD nt D ex := by
      rcases atomsD_ex.1 ha with ha | ha
      · simp [Abs.atoms, hatm] at ha
      · exact ha
    have h0 := hI.atoms a ha'
    have hw0 := h.atoms a ha'
    have hf : ∀ {pm A cs'}, FOk E w (fun k => k ∈ keysD nt D ex) pm A cs' → FOk E w' (fun k => k ∈ keysD nt D (.own (.blk g cap 1) 0 n cs :: ex)) pm A cs' := by
      intro pm A cs' hf
      have hf2 := FOk.ext (w' := w') (fun k hk _ => hbel.block k hk) hf
      refine ⟨hf2.1, hf2.2.1, fun hc => ⟨(hf.2.2 hc).1, fun hk => ?_⟩⟩
      rcases List.mem_cons.1 (hkp.mem_iff.1 hk) with hk | hk
      · cases cs' with
        | nil => exact hc rfl
        | cons z l =>
          obtain ⟨u, hu, _⟩ := hf.2.1 0 z rfl
          have := World.block_lt_of_cell? w _ hu
          rw [block_of_add] at this
          omega
      · exact (hf.2.2 hc).2 hk
    cases a with
    | p b => exact h0
    | i pm A cap n cs' =>
      refine ⟨hw0.1, ?_⟩
      have h2 := hw0.2
      cases A with
      | none => exact h2
      | some a => exact hf h2
    | f pm A cs' => exact hf hw0
  · rcases List.mem_cons.1 (hkp.mem_iff.1 hk) with hk | hk
    · subst hk
      exact h.newG _ hg
    · exact h.keysG k hk
  · refine ⟨fun _ _ => rfl, rfl, rfl, Nat.le_refl _, hbel.size, fun k hk => ?_, fun k hk _ => hbel.block k hk, hbel.os, hbel.tape, hbel.output⟩
    rcases List.mem_cons.1 (hkp.mem_iff.1 hk) with hk | hk
    · subst hk; exact .inr hg
    · exact .inl hk
theorem rowsL_wd (l : List Nat) : rowsL (l.map wd) = [] := by induction l with | nil => rfl | cons x l ih => simp [rowsL, rows, wd, ih]
theorem atomsL_wd (l : List Nat) : atomsL (l.map wd) = [] := by induction l with | nil => rfl | cons x l ih => simp [atomsL, atoms, wd, ih]
/-- A row of words that is the call's own. -/
theorem back_own {l : List Nat} {v : Value} (hI : Inv E 0 (emptyS [] nx) ex w) (hb : Below w.heap.size w w') (ho : w'.ownsRow w.heap.size 22 1 v l.length (u64s l)) (hc : 0 < l.length ∨ ∃ A, v = .slice A 0 0) : Back E [] nx ex w (.own .nil 0 l.length (l.map wd)) [] nx v w' := by
  obtain ⟨hlen, ho⟩ := ho
  rcases ho with ⟨rfl, h0⟩ | ⟨g, cap, cur, rfl, hg, hw, h1, h2, h6, hx⟩
  · have hl : l = [] := List.eq_nil_of_length_eq_zero h0
    subst hl
    have hI' := hI.ext hb.size hb.block
    have hs : Inv E 0 (emptyS [] nx) (.own .nil 0 0 [] :: ex) w' := by
      refine hI'.join (fun e he => ?_) (fun b hb => by simp [atoms, atomsL] at hb)
      simp only [Abs.rows, rowsL, List.map_nil, List.mem_cons, List.not_mem_nil, or_false] at he
      subst he
      exact ⟨⟨rfl, rfl⟩, rfl⟩
    refine ⟨E, .own .nil 0 0 [], [], Sm.refl _, .nil, hs, fun D => by simp [PR, hd], ?_⟩
    refine ⟨fun _ _ => rfl, rfl, rfl, Nat.le_refl _, hb.size, fun k hk => .inl ?_, fun k hk _ => hb.block k hk, hb.os, hb.tape, hb.output⟩
    rw [show keysD 0 (emptyS [] nx) _ = keysOf (rowsD 0 (emptyS [] nx) _) from rfl, (keysOf_perm (rowsD_ex 0 (emptyS [] nx) _ ex)).mem_iff, keysOf_append] at hk
    rcases List.mem_append.1 hk with hk | hk
    · simp [Abs.rows, rowsL, keysOf, keyOf] at hk
    · exact hk
  · have h7 : ∀ (j : Nat) (x : V), (l.map wd)[j]? = some x → ∃ u, cur[j]? = some u ∧ MR E.β x u := by
      intro j x hx'
      rw [List.getElem?_map, Option.map_eq_some_iff] at hx'
      obtain ⟨y, hy, rfl⟩ := hx'
      refine ⟨.int .u64 (y : Int), ?_, .inl rfl⟩
      have hj : j < l.length := (List.getElem?_eq_some_iff.1 hy).1
      have e : (cur.toList.take (l.length * 1))[j]? = some (.int .u64 (y : Int)) := by
        rw [hx]; simp [u64s, hy]
      rw [List.getElem?_take, if_pos (by omega)] at e
      simpa using e
    obtain ⟨q1, q2⟩ := Inv.ownRow' (cap := cap) (n := l.length) (cs := l.map wd) hI hb hg hw h1 (by unfold maxLen at h2; omega) (by simp) (by
      rcases hc with hc | ⟨A, hc⟩
      · exact .inl hc
      · exact .inr (by simp only [Value.slice.injEq] at hc; exact hc.2.2)) (by omega) h7 (rowsL_wd l) (atomsL_wd l)
    exact ⟨E, _, [], .own (SmL.refl _), .nil, q1, fun D => by simp [PR, hd], q2⟩

/-- A contract by the kit's walk: the same at every bound. -/
theorem fgood {f : Nat} {fn : Func} {c : Code} {us : List Value} {R : Value → World → Prop} {R0 : Ending → World → Prop} (hf : Try.prog.funcs[f]? = some fn) (hb : fn.body = some c) (hn : (fn.name == "runtime.NumGoroutine") = false)
    (h : CallsIn Fence.wide 10 Try.prog f us.toArray w R0) (hR : ∀ e w', R0 e w' → ∃ v, e = .returned v ∧ R v w') : FGood Try.prog f us w R := by
  refine .inl ⟨enter_run hf hb hn, (callsIn_wide.1 h).mono fun e w' he => ?_⟩
  obtain ⟨v, rfl, h⟩ := hR e w' he
  exact h
theorem im1_spec {g : List Nat → Option V} {xs : List V} {r : V} (h : im1 g xs = some r) : ∃ pm A cap n cs l, xs = [.im pm A cap n cs] ∧ wordsOf cs = some l ∧ l.length = n ∧ n ≤ 1000 ∧ g l = some r := by
  unfold im1 at h
  split at h
  case h_2 => cases h
  split at h
  case h_2 => cases h
  split at h
  case isFalse => cases h
  rename_i hc
  exact ⟨_, _, _, _, _, _, rfl, ‹_›, hc.1, hc.2, h⟩
theorem im2_spec {g : List Nat → List Nat → Option V} {xs : List V} {r : V} (h : im2 g xs = some r) : ∃ pm A cap n cs l pm2 A2 cap2 n2 cs2 l2, xs = [.im pm A cap n cs, .im pm2 A2 cap2 n2 cs2] ∧ wordsOf cs = some l ∧ l.length = n ∧ n ≤ 1000 ∧ wordsOf cs2 = some l2 ∧ l2.length = n2 ∧ n2 ≤ 1000 ∧ g l l2 = some r := by
  unfold im2 at h
  split at h
  case h_2 => cases h
  split at h
  case h_2 => cases h
  split at h
  case isFalse => cases h
  rename_i e1 e2 hc
  exact ⟨_, _, _, _, _, _, _, _, _, _, _, _, rfl, e1, hc.1, hc.2.1, e2, hc.2.2.1, hc.2.2.2, h⟩
/-- Both slices' words. -/
theorem two_words {g : List Nat → List Nat → Option V} {xs : List V} {r : V} {us : List Value} (h : im2 g xs = some r) (hu : ∀ D, PRL E.β D xs us) (hat : ∀ b ∈ atomsL xs, AtOk E w nx (fun k => k ∈ keysD 0 (emptyS [] nx) ex) b) :
    ∃ sa sb l l2, us = [sa, sb] ∧ Words w.heap.size w sa l ∧ Words w.heap.size w sb l2 ∧ l.length ≤ 1000 ∧ l2.length ≤ 1000 ∧ g l l2 = some r := by
  obtain ⟨pm, A, cap, n, cs, l, pm2, A2, cap2, n2, cs2, l2, rfl, h1, h2, h3, h4, h5, h6, h7⟩ := im2_spec h
  obtain ⟨u1, us1, rfl, e1, u2, us2, rfl, e2, e3⟩ := hu (emptyS [] nx)
  have e1 : u1 = .slice A n cap := e1
  have e2 : u2 = .slice A2 n2 cap2 := e2
  have e3 : us2 = [] := e3
  subst e1 e2 e3
  exact ⟨_, _, l, l2, rfl, words_of h1 h2 (hat (.i pm A cap n cs) (by simp [atomsL, atoms])), words_of h4 h5 (hat (.i pm2 A2 cap2 n2 cs2) (by simp [atomsL, atoms])), by omega, by omega, h7⟩
theorem len30 {xs : List V} {r : V} {us : List Value} (hX : len64X xs = some r) (hI : Inv E 0 (emptyS [] nx) ex w) (hu : ∀ D, PRL E.β D xs us) : FGood Try.prog 30 us w (Back E [] nx ex w r [] nx) := by
  unfold len64X at hX
  split at hX
  case h_2 => cases hX
  split at hX
  case isFalse => cases hX
  rename_i x hc
  cases hX
  obtain ⟨u1, us1, rfl, e1, e2⟩ := hu (emptyS [] nx)
  have e1 : u1 = .int .u64 x := e1
  have e2 : us1 = [] := e2
  subst e1 e2
  refine fgood Try.func30 rfl (by decide +kernel) (callsIn_wide.2 (Len30 x w hc.1 hc.2)) ?_
  rintro e w' ⟨rfl, rfl⟩
  exact ⟨_, rfl, back_flat hI (Below.refl _ _) (fun D => rfl) rfl rfl⟩
theorem tu16 {xs : List V} {r : V} {us : List Value} (hX : im1 (fun l => some (tuV l)) xs = some r) (hI : Inv E 0 (emptyS [] nx) ex w) (hu : ∀ D, PRL E.β D xs us) (hat : ∀ b ∈ atomsL xs, AtOk E w nx (fun k => k ∈ keysD 0 (emptyS [] nx) ex) b) : FGood Try.prog 16 us w (Back E [] nx ex w r [] nx) := by
  obtain ⟨pm, A, cap, n, cs, l, rfl, h1, h2, h3, h4⟩ := im1_spec hX
  obtain ⟨u1, us1, rfl, e1, e2⟩ := hu (emptyS [] nx)
  have e1 : u1 = .slice A n cap := e1
  have e2 : us1 = [] := e2
  subst e1 e2
  have hw : Words w.heap.size w (.slice A n cap) l := words_of h1 h2 (hat (.i pm A cap n cs) (by simp [atomsL, atoms]))
  refine fgood Try.func16 rfl (by decide +kernel) (ToUint16_in Fence.wide 10 trivial trivial trivial rfl (by omega) _ l (by omega) w hw) ?_
  rintro e w' ⟨rfl, hB⟩
  simp only [Option.some.injEq] at h4
  subst h4
  refine ⟨_, rfl, back_flat hI hB (fun D => ?_) ?_ ?_⟩
  · unfold tuV tuSpec
    split
    · exact ⟨[_, _], rfl, _, _, rfl, rfl, _, _, rfl, rfl, rfl⟩
    · exact ⟨[_, _], rfl, _, _, rfl, rfl, _, _, rfl, rfl, rfl⟩
  · unfold tuV; split <;> rfl
  · unfold tuV; split <;> rfl
theorem less24 {xs : List V} {r : V} {us : List Value} (hX : im2 (fun a b => some (.int .u64 ((lessL (upto (fun j => (a[j]?.getD 0, b[j]?.getD 0)) (max a.length b.length)) : Nat) : Int))) xs = some r) (hI : Inv E 0 (emptyS [] nx) ex w) (hu : ∀ D, PRL E.β D xs us) (hat : ∀ b ∈ atomsL xs, AtOk E w nx (fun k => k ∈ keysD 0 (emptyS [] nx) ex) b) : FGood Try.prog 24 us w (Back E [] nx ex w r [] nx) := by
  obtain ⟨sa, sb, l, l2, rfl, h1, h2, h3, h4, h5⟩ := two_words hX hu hat
  refine fgood Try.func24 rfl (by decide +kernel) (Less24_in Fence.wide 10 trivial trivial trivial trivial rfl (by omega) _ _ l l2 h3 h4 w h1 h2) ?_
  rintro e w' ⟨rfl, hB⟩
  simp only [Option.some.injEq] at h5
  subst h5
  exact ⟨_, rfl, back_flat hI hB (fun D => rfl) rfl rfl⟩
theorem equal25 {xs : List V} {r : V} {us : List Value} (hX : im2 (fun a b => some (.int .u64 ((eqL (upto (fun j => (a[j]?.getD 0, b[j]?.getD 0)) (max a.length b.length)) : Nat) : Int))) xs = some r) (hI : Inv E 0 (emptyS [] nx) ex w) (hu : ∀ D, PRL E.β D xs us) (hat : ∀ b ∈ atomsL xs, AtOk E w nx (fun k => k ∈ keysD 0 (emptyS [] nx) ex) b) : FGood Try.prog 25 us w (Back E [] nx ex w r [] nx) := by
  obtain ⟨sa, sb, l, l2, rfl, h1, h2, h3, h4, h5⟩ := two_words hX hu hat
  refine fgood Try.func25 rfl (by decide +kernel) (Equal25_in Fence.wide 10 trivial trivial trivial trivial rfl (by omega) _ _ l l2 h3 h4 w h1 h2) ?_
  rintro e w' ⟨rfl, hB⟩
  simp only [Option.some.injEq] at h5
  subst h5
  exact ⟨_, rfl, back_flat hI hB (fun D => rfl) rfl rfl⟩
theorem add19 {xs : List V} {r : V} {us : List Value} (hX : im2 (fun a b => some (.own .nil 0 (addSpec a b).length ((addSpec a b).map wd))) xs = some r) (hI : Inv E 0 (emptyS [] nx) ex w) (hu : ∀ D, PRL E.β D xs us) (hat : ∀ b ∈ atomsL xs, AtOk E w nx (fun k => k ∈ keysD 0 (emptyS [] nx) ex) b) : FGood Try.prog 19 us w (Back E [] nx ex w r [] nx) := by
  obtain ⟨sa, sb, l, l2, rfl, h1, h2, h3, h4, h5⟩ := two_words hX hu hat
  refine fgood Try.func19 rfl (by decide +kernel) (Add19_in Fence.wide 10 trivial trivial trivial trivial rfl (by omega) _ _ l l2 h3 h4 w h1 h2) ?_
  rintro e w' ⟨v, rfl, ho, hB⟩
  simp only [Option.some.injEq] at h5
  subst h5
  exact ⟨_, rfl, back_own hI hB ho (.inl (by simp [addSpec]))⟩
theorem subSpec_length (a b : List Nat) : (subSpec a b).length = a.length := by
  unfold subSpec
  split
  · simp
  · rw [subL_length]; exact upto_length _ _
theorem sub22 {xs : List V} {r : V} {us : List Value} (hX : im2 (fun a b => some (.own .nil 0 a.length ((subSpec a b).map wd))) xs = some r) (hI : Inv E 0 (emptyS [] nx) ex w) (hu : ∀ D, PRL E.β D xs us) (hat : ∀ b ∈ atomsL xs, AtOk E w nx (fun k => k ∈ keysD 0 (emptyS [] nx) ex) b) : FGood Try.prog 22 us w (Back E [] nx ex w r [] nx) := by
  obtain ⟨sa, sb, l, l2, rfl, h1, h2, h3, h4, h5⟩ := two_words hX hu hat
  refine fgood Try.func22 rfl (by decide +kernel) (Sub22_in Fence.wide 10 trivial trivial trivial trivial trivial rfl (by omega) _ _ l l2 h3 h4 w h1 h2) ?_
  rintro e w' ⟨g, rfl, ho, hB⟩
  simp only [Option.some.injEq] at h5
  subst h5
  refine ⟨_, rfl, ?_⟩
  rw [← subSpec_length l l2] at ho ⊢
  refine back_own hI hB ho ?_
  rcases Nat.eq_zero_or_pos (subSpec l l2).length with h0 | h0
  · right; rw [h0]; exact ⟨_, rfl⟩
  · exact .inl h0
end
theorem CX02 : CalleeOk Try.prog H02 (CX H02) := by
  intro f xs m nx r m2 nx2 h E ex w us hI hu hflat hat hG
  unfold CX at h
  split at h
  case h_2 => cases h
  split at h
  case h_2 => cases h
  rename_i r' hx
  cases h
  have hx : X02 f xs = some r := hx
  unfold X02 at hx
  split at hx
  · rename_i hf; subst hf; exact tu16 hx hI hu hat
  split at hx
  · rename_i hf; subst hf; exact add19 hx hI hu hat
  split at hx
  · rename_i hf; subst hf; exact sub22 hx hI hu hat
  split at hx
  · rename_i hf; subst hf; exact less24 hx hI hu hat
  split at hx
  · rename_i hf; subst hf; exact equal25 hx hI hu hat
  split at hx
  · rename_i hf; subst hf; exact len30 hx hI hu
  · cases hx
end Go.Abs
end
/- Bit vectors: what the contracts' lists are worth; no program in sight. -/
set_option linter.unusedVariables false
namespace Go.Bits
open Go.Proofs

/-- The w lowest bits of a number. -/
def bitsOf (n w : Nat) : List Nat := (List.range w).map fun i => n / 2 ^ i % 2
@[simp] theorem bitsOf_length (n w : Nat) : (bitsOf n w).length = w := by simp [bitsOf]
theorem bitsOf_bit (n w : Nat) : Bit (bitsOf n w) := fun x hx => by
  obtain ⟨i, _, rfl⟩ := List.mem_map.1 hx; omega
theorem bitsOf_num (n w : Nat) : num (bitsOf n w) = n % 2 ^ w := by
  rw [← up_bits n w, num, bitsOf_length]
  refine up_congr fun j hj => ?_
  simp [at_, bitsOf, hj]
theorem eq_bitsOf {l : List Nat} {n w : Nat} (hb : Bit l) (hl : l.length = w) (hn : num l = n) : l = bitsOf n w := by
  have hlt := num_lt hb
  refine num_inj hb (bitsOf_bit _ _) (by simp [hl]) ?_
  rw [bitsOf_num, Nat.mod_eq_of_lt (by rw [← hl]; omega), hn]
theorem bitsOf_succ (n w : Nat) : bitsOf n (w + 1) = bitsOf n w ++ [n / 2 ^ w % 2] := by simp [bitsOf, List.range_succ]

variable {f : Nat → Nat × Nat}
def Bits2 (f : Nat → Nat × Nat) : Prop := ∀ j, (f j).1 ≤ 1 ∧ (f j).2 ≤ 1
theorem addL_ok (hf : Bits2 f) : ∀ k, Bit (addL (upto f k)).1 ∧ (addL (upto f k)).1.length = k ∧ (addL (upto f k)).2 ≤ 1 ∧ num (addL (upto f k)).1 + (addL (upto f k)).2 * 2 ^ k = up (fun j => (f j).1) k + up (fun j => (f j).2) k
  | 0 => ⟨Bit.nil, rfl, by simp [upto, addL], by simp [upto, addL, num, up]⟩
  | k + 1 => by
    obtain ⟨h1, h2, h3, h4⟩ := addL_ok hf k
    have h5 := hf k
    rw [upto_succ, addL_snoc]
    have hs : addS (addL (upto f k)).2 (f k) = (f k).1 + (f k).2 + (addL (upto f k)).2 := by unfold addS M64; omega
    refine ⟨h1.snoc (by omega), by simp [h2], by simp only; omega, ?_⟩
    simp only
    rw [num_snoc, h2, up, up]
    exact add_round (o := 0) h4 hs
theorem subS_ok {c : Nat} {p : Nat × Nat} (h1 : p.1 ≤ 1) (h2 : p.2 ≤ 1) (h3 : c ≤ 1) : subS c p / 9223372036854775808 ≤ 1 ∧ subS c p % 2 + p.2 + c = p.1 + 2 * (subS c p / 9223372036854775808) := by
  obtain ⟨x, y⟩ := p
  simp only at h1 h2
  rcases (by omega : x = 0 ∨ x = 1) with rfl | rfl <;> rcases (by omega : y = 0 ∨ y = 1) with rfl | rfl <;> rcases (by omega : c = 0 ∨ c = 1) with rfl | rfl <;> decide
theorem subL_ok (hf : Bits2 f) : ∀ k, Bit (subL (upto f k)).1 ∧ (subL (upto f k)).1.length = k ∧ (subL (upto f k)).2 ≤ 1 ∧ num (subL (upto f k)).1 + up (fun j => (f j).2) k = up (fun j => (f j).1) k + (subL (upto f k)).2 * 2 ^ k
  | 0 => ⟨Bit.nil, rfl, by simp [upto, subL], by simp [upto, subL, num, up]⟩
  | k + 1 => by
    obtain ⟨h1, h2, h3, h4⟩ := subL_ok hf k
    have h5 := hf k
    rw [upto_succ, subL_snoc]
    obtain ⟨h6, h7⟩ := subS_ok h5.1 h5.2 h3
    refine ⟨h1.snoc (by omega), by simp [h2], h6, ?_⟩
    simp only
    rw [num_snoc, h2, up, up]
    exact sub_round h4 h7
theorem lessL_ok (hf : Bits2 f) : ∀ k, lessL (upto f k) = if up (fun j => (f j).1) k < up (fun j => (f j).2) k then 1 else 0
  | 0 => by simp [upto, lessL, up]
  | k + 1 => by
    have ih := lessL_ok hf k
    have h5 := hf k
    have a1 := up_lt (f := fun j => (f j).1) (fun j => (hf j).1) k
    have a2 := up_lt (f := fun j => (f j).2) (fun j => (hf j).2) k
    rw [upto_succ, lessL_snoc, up, up]
    by_cases h : (f k).1 = (f k).2
    · rw [if_pos h, ih, h]; simp
    · rw [if_neg h]
      rcases (by omega : ((f k).1 = 0 ∧ (f k).2 = 1) ∨ ((f k).1 = 1 ∧ (f k).2 = 0)) with ⟨e1, e2⟩ | ⟨e1, e2⟩
      · rw [e1, e2, if_pos (by omega)]
      · rw [e1, e2, if_neg (by omega)]
theorem eqL_ok (hf : Bits2 f) (k : Nat) : eqL (upto f k) = if up (fun j => (f j).1) k = up (fun j => (f j).2) k then 1 else 0 := by
  unfold eqL
  by_cases h : up (fun j => (f j).1) k = up (fun j => (f j).2) k
  · rw [if_pos h, if_pos]
    intro p hp
    unfold upto at hp
    obtain ⟨j, hj, rfl⟩ := List.mem_map.1 hp
    exact up_inj (fun j => (hf j).1) (fun j => (hf j).2) h j (List.mem_range.1 hj)
  · rw [if_neg h, if_neg]
    intro hall
    exact h (up_congr fun j hj => hall (f j) (by unfold upto; exact List.mem_map.2 ⟨j, List.mem_range.2 hj, rfl⟩))
theorem bits2_pairs {a b : List Nat} (ha : Bit a) (hb : Bit b) : Bits2 fun j => (a[j]?.getD 0, b[j]?.getD 0) := fun j => ⟨ha.at_ j, hb.at_ j⟩
theorem up_l {l : List Nat} {m : Nat} (h : l.length ≤ m) : up (fun j => l[j]?.getD 0) m = num l := up_num h
theorem addSpec_eq {a b : List Nat} (ha : Bit a) (hb : Bit b) : addSpec a b = bitsOf (num a + num b) (max a.length b.length + 1) := by
  obtain ⟨h1, h2, h3, h4⟩ := addL_ok (bits2_pairs ha hb) (max a.length b.length)
  simp only at h4
  rw [up_l (Nat.le_max_left _ _), up_l (Nat.le_max_right _ _)] at h4
  refine eq_bitsOf (h1.snoc h3) (by rw [addSpec, List.length_append, h2]; rfl) ?_
  rw [addSpec, num_snoc, h2, h4]
theorem lessSpec_eq {a b : List Nat} (ha : Bit a) (hb : Bit b) : lessL (upto (fun j => (a[j]?.getD 0, b[j]?.getD 0)) (max a.length b.length)) = if num a < num b then 1 else 0 := by
  rw [lessL_ok (bits2_pairs ha hb)]
  simp only
  rw [up_l (Nat.le_max_left _ _), up_l (Nat.le_max_right _ _)]
theorem eqSpec_eq {a b : List Nat} (ha : Bit a) (hb : Bit b) : eqL (upto (fun j => (a[j]?.getD 0, b[j]?.getD 0)) (max a.length b.length)) = if num a = num b then 1 else 0 := by
  rw [eqL_ok (bits2_pairs ha hb)]
  simp only
  rw [up_l (Nat.le_max_left _ _), up_l (Nat.le_max_right _ _)]
theorem num_zeros (n : Nat) : num (List.replicate n 0) = 0 := up_zero fun j hj => by
  unfold at_
  rw [List.getElem?_replicate]
  split <;> rfl
theorem bit_zeros (n : Nat) : Bit (List.replicate n 0) := fun x hx => by rw [(List.mem_replicate.1 hx).2]; omega
theorem subSpec_eq {a b : List Nat} (ha : Bit a) (hb : Bit b) : subSpec a b = bitsOf (num a - num b) a.length := by
  unfold subSpec pairs
  rw [lessSpec_eq ha hb]
  by_cases h : num a < num b
  · rw [if_pos h, if_pos rfl]
    exact eq_bitsOf (bit_zeros _) (by simp) (by rw [num_zeros]; omega)
  · rw [if_neg h, if_neg (by omega)]
    obtain ⟨h1, h2, h3, h4⟩ := subL_ok (bits2_pairs ha hb) a.length
    simp only at h4
    rw [up_l (Nat.le_refl _)] at h4
    refine eq_bitsOf h1 h2 ?_
    have hlt := num_lt h1
    rw [h2] at hlt
    have hal := num_lt ha
    have hbn : up (fun j => b[j]?.getD 0) a.length = num b := by
      have hle : b.length ≤ max a.length b.length := Nat.le_max_right _ _
      rcases Nat.le_total b.length a.length with hl | hl
      · exact up_l hl
      · have e : num b = up (fun j => b[j]?.getD 0) b.length := (up_l (Nat.le_refl _)).symm
        obtain ⟨k, hk⟩ : ∃ k, b.length = a.length + k := ⟨b.length - a.length, by omega⟩
        rw [hk, up_add] at e
        rcases Nat.eq_zero_or_pos (up (fun q => b[a.length + q]?.getD 0) k) with h0 | h0
        · rw [h0] at e; simp at e; exact e.symm
        · have : 2 ^ a.length * 1 ≤ 2 ^ a.length * up (fun q => b[a.length + q]?.getD 0) k := Nat.mul_le_mul_left _ h0
          omega
    rw [hbn] at h4
    generalize (subL (upto (fun j => (a[j]?.getD 0, b[j]?.getD 0)) a.length)).2 = c at h3 h4
    generalize num (subL (upto (fun j => (a[j]?.getD 0, b[j]?.getD 0)) a.length)).1 = v at h4 hlt ⊢
    rcases (by omega : c = 0 ∨ c = 1) with rfl | rfl
    · omega
    · omega
theorem foldl_down : ∀ (l : List Nat) (k c : Nat), k ≤ l.length → (down l k).foldl (fun n p => 2 * n + p.2) c = c * 2 ^ k + up (fun j => l[l.length - k + j]?.getD 0) k
  | l, 0, c, _ => by simp [down, up]
  | l, k + 1, c, h => by
    rw [down_succ, List.foldl_append, foldl_down l k c (by omega)]
    simp only [List.foldl_cons, List.foldl_nil]
    have e : up (fun j => l[l.length - (k + 1) + j]?.getD 0) (1 + k) = _ := up_add 1 k
    rw [Nat.add_comm 1 k] at e
    rw [e]
    have e2 : (fun q => l[l.length - (k + 1) + (1 + q)]?.getD 0) = fun j => l[l.length - k + j]?.getD 0 := by
      funext q
      have : l.length - (k + 1) + (1 + q) = l.length - k + q := by omega
      rw [this]
    rw [e2]
    have e3 : l.length - 1 - k = l.length - (k + 1) := by omega
    simp only [up, Nat.pow_zero, Nat.mul_one, Nat.add_zero, Nat.pow_one, Nat.zero_add]
    rw [e3, Nat.pow_succ, Nat.mul_add, ← Nat.mul_assoc 2 c, Nat.mul_comm 2 c, Nat.mul_assoc c 2, Nat.mul_comm 2 (2 ^ k)]
    omega
theorem numL_num (l : List Nat) : numL (down l l.length) = num l := by
  unfold numL
  rw [foldl_down l l.length 0 (Nat.le_refl _)]
  simp only [Nat.zero_mul, Nat.zero_add, Nat.sub_self]
  exact up_l (Nat.le_refl _)
end Go.Bits
/- The seat of privitylaw02: sizes; words for simp. -/
set_option linter.unusedVariables false
noncomputable section
namespace Go.Abs
open Go Go.Proofs

@[simp] theorem sz3 : sizeT Try.prog 3 = some 1 := by kernel_rfl
@[simp] theorem ag3 : aggT Try.prog 3 = some false := by kernel_rfl
@[simp] theorem by3 : bytesT Try.prog 3 = some 8 := by kernel_rfl
@[simp] theorem sz4 : sizeT Try.prog 4 = some 1 := by kernel_rfl
@[simp] theorem ag4 : aggT Try.prog 4 = some false := by kernel_rfl
@[simp] theorem by4 : bytesT Try.prog 4 = some 1 := by kernel_rfl
@[simp] theorem sz22 : sizeT Try.prog 22 = some 1 := by kernel_rfl
@[simp] theorem ag22 : aggT Try.prog 22 = some false := by kernel_rfl
@[simp] theorem by22 : bytesT Try.prog 22 = some 8 := by kernel_rfl
@[simp] theorem z22 : zeroT Try.prog 22 = some [.int .u64 0] := by kernel_rfl
@[simp] theorem sz24 : sizeT Try.prog 24 = some 1 := by kernel_rfl
@[simp] theorem ag24 : aggT Try.prog 24 = some false := by kernel_rfl
@[simp] theorem by24 : bytesT Try.prog 24 = some 24 := by kernel_rfl
@[simp] theorem sz25 : sizeT Try.prog 25 = some 1 := by kernel_rfl
@[simp] theorem ag25 : aggT Try.prog 25 = some false := by kernel_rfl
attribute [simp] Try.underlying3 Try.underlying4 Try.underlying22 Try.underlying24 Try.underlying25
attribute [simp] plan02
@[simp] theorem xNone {f : Nat} {xs : List V} (h : f ≠ 16 ∧ f ≠ 19 ∧ f ≠ 22 ∧ f ≠ 24 ∧ f ≠ 25 ∧ f ≠ 30) : X02 f xs = none := by
  unfold X02
  rw [if_neg h.1, if_neg h.2.1, if_neg h.2.2.1, if_neg h.2.2.2.1, if_neg h.2.2.2.2.1, if_neg h.2.2.2.2.2]
@[simp] theorem H02_G : H02.G = fun _ => none := rfl
@[simp] theorem H02_sg : H02.sg = fun _ => [] := rfl
@[simp] theorem H02_q : H02.q = fun _ _ _ => false := rfl
@[simp] theorem H02_fz : H02.fz = fun _ _ _ => false := rfl
@[simp] theorem H02_live : H02.live = fun _ _ => none := rfl
@[simp] theorem H02_fr : H02.fr = fun _ => false := rfl
@[simp] theorem H02_X : H02.X = X02 := rfl
@[simp] theorem H02_plan : H02.plan = plan02 := rfl
@[simp] theorem H02_mc : H02.mc = fun _ _ => [] := rfl
@[simp] theorem liveOf02 (f : Nat) (c : Code) : liveOf H02 f c = none := by unfold liveOf; split <;> rfl
@[simp] theorem draw02 {C : Callee} {f k : Nat} {ops : Array Oper} (id : Nat) (D : St) (Φ : Ex → St → Prop) : EvP Try.prog H02 C f k (.region id ops true) D Φ = optE (evDraw Try.prog H02 C ops (H02.fz f id) (muOf H02 f id ops) (planOf H02 f id ops) D) (Φ .norm) := ev_draw (fun _ _ => rfl) id D Φ
@[simp] theorem wordsOf_uL : ∀ l : List Nat, wordsOf (uL l) = some l
  | [] => rfl
  | x :: l => by
    show wordsOf (V.int .u64 (x : Int) :: uL l) = _
    unfold wordsOf
    rw [wordsOf_uL l]
    simp
theorem map_wd (l : List Nat) : l.map wd = uL l := rfl
attribute [simp] map_wd im1 im2 len64X

set_option maxHeartbeats 1000000 in
set_option maxRecDepth 100000 in
/-- bit(b, i) -/
theorem bit34 (pm : Bool) (A : Option Addr) (cap : Nat) (l : List Nat) (i : Nat) : AnsN 1 Try.prog H02 34 [.im pm A cap l.length (uL l), .int .i64 i] (.int .u64 ((Bits.at_ l i : Nat) : Int)) := by
  refine AnsN.of (fn := Try.f34) (t := 4) (by rfl) Try.func34 rfl rfl (by rfl) (by rfl) fun k hk nx => ?_
  by_cases h : i < l.length
  · simp [entryS, h, Bits.at_]
  · simp [entryS, h, Bits.at_]
set_option maxHeartbeats 1000000 in
set_option maxRecDepth 100000 in
/-- Width(n) -/
theorem width14 (n : Nat) (hn : n < 18446744073709551616) : AnsN 1 Try.prog H02 14 [.int .u64 (n : Int)] (.int .i64 (max (Lib.bitLen n) 1 : Nat)) := by
  refine AnsN.of (fn := Try.f14) (t := 2) (by rfl) Try.func14 rfl rfl (by rfl) (by rfl) fun k hk nx => ?_
  have h : (n : Int) ≤ 18446744073709551615 := by omega
  simp [entryS, X02, h]
  split <;> omega
end Go.Abs
end
