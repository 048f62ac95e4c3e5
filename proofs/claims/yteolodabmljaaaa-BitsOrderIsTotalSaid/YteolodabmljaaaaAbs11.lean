/- Joined: AbsRL AbsRP AbsRA AbsWA AbsWB AbsYA AbsYB AbsYC AbsRB. -/
import Derived.Test.YteolodabmljaaaaAbs10
import Derived.Shelf.Strconv.Itoa0
import Derived.WalkKit
import Derived.Test.YteolodabmljaaaaProg
import Derived.Test.YteolodabmljaaaaRows
set_option linter.all false
/- The seat of privitylaw02: bits.Len64, by the kit's walk. -/
set_option linter.unusedVariables false
set_option linter.unusedSimpArgs false
namespace Go.Proofs
open Go.Shelf

theorem tab_at (b : Int) (h0 : 0 ≤ b) (h1 : b ≤ 255) (h : b.toNat < Lib.len8tab.size) : ((Lib.len8tab[b.toNat].toNat : Nat) : Int) = ((Lib.bitLen b.toNat : Nat) : Int) := by
  rw [← Lib.len8_of b h0 h1]
  unfold Lib.len8
  rw [getElem?_pos Lib.len8tab b.toNat h]
  rfl
theorem len_fin (x i k : Int) (h : i.toNat < Lib.len8tab.size) (h0 : 0 ≤ i) (h1 : i ≤ 255) (k0 : 0 ≤ k) (k1 : k ≤ 56) (e : ((Lib.bitLen x.toNat : Nat) : Int) = k + ((Lib.bitLen i.toNat : Nat) : Int)) :
    RowKit.wrap64 (k + RowKit.wrap64 ((Lib.len8tab[i.toNat].toNat : Nat) : Int)) = ((Lib.bitLen x.toNat : Nat) : Int) := by
  have l := Lib.bitLen_le8' i h0 h1
  rw [tab_at i h0 h1 h, e]
  unfold RowKit.wrap64
  omega
theorem len_fin0 (i : Int) (h : i.toNat < Lib.len8tab.size) (h0 : 0 ≤ i) (h1 : i ≤ 255) :
    RowKit.wrap64 (RowKit.wrap64 ((Lib.len8tab[i.toNat].toNat : Nat) : Int)) = ((Lib.bitLen i.toNat : Nat) : Int) := by
  have l := Lib.bitLen_le8' i h0 h1
  rw [tab_at i h0 h1 h]
  unfold RowKit.wrap64
  omega
set_option maxHeartbeats 4000000 in
set_option maxRecDepth 100000 in
theorem Len30 (x : Int) (w : World) (h0 : 0 ≤ x) (h1 : x ≤ 18446744073709551615) :
    Calls Try.prog 30 #[.int .u64 x] w fun e w' => e = .returned (.int .i64 (Lib.bitLen x.toNat)) ∧ w' = w := by
  go_enter Try.func30, Try.ntmps30
  go_wp2
  all_goals (try (exfalso; have hs : Lib.len8tab.size = 256 := Lib.len8tab_size; omega))
  all_goals (go_ret; refine ⟨congrArg Ending.returned (congrArg (Value.int IntKind.i64) ?_), rfl⟩)
  all_goals first
    | exact len_fin x (x / 4294967296 / 65536 / 256) 56 _ (by omega) (by omega) (by omega) (by omega) (by
        have s := Lib.bitLen_shift56 x.toNat (by omega) (by omega)
        have e : (x / 4294967296 / 65536 / 256).toNat = x.toNat / 72057594037927936 := by omega
        rw [e]; omega)
    | exact len_fin x (x / 4294967296 / 65536) 48 _ (by omega) (by omega) (by omega) (by omega) (by
        have s := Lib.bitLen_shift48 x.toNat (by omega) (by omega)
        have e : (x / 4294967296 / 65536).toNat = x.toNat / 281474976710656 := by omega
        rw [e]; omega)
    | exact len_fin x (x / 4294967296 / 256) 40 _ (by omega) (by omega) (by omega) (by omega) (by
        have s := Lib.bitLen_shift40 x.toNat (by omega) (by omega)
        have e : (x / 4294967296 / 256).toNat = x.toNat / 1099511627776 := by omega
        rw [e]; omega)
    | exact len_fin x (x / 4294967296) 32 _ (by omega) (by omega) (by omega) (by omega) (by
        have s := Lib.bitLen_shift32 x.toNat (by omega) (by omega)
        have e : (x / 4294967296).toNat = x.toNat / 4294967296 := by omega
        rw [e]; omega)
    | exact len_fin x (x / 65536 / 256) 24 _ (by omega) (by omega) (by omega) (by omega) (by
        have s := Lib.bitLen_shift24 x.toNat (by omega) (by omega)
        have e : (x / 65536 / 256).toNat = x.toNat / 16777216 := by omega
        rw [e]; omega)
    | exact len_fin x (x / 65536) 16 _ (by omega) (by omega) (by omega) (by omega) (by
        have s := Lib.bitLen_shift16 x.toNat (by omega) (by omega)
        have e : (x / 65536).toNat = x.toNat / 65536 := by omega
        rw [e]; omega)
    | exact len_fin x (x / 256) 8 _ (by omega) (by omega) (by omega) (by omega) (by
        have s := Lib.bitLen_shift8 x.toNat (by omega) (by omega)
        have e : (x / 256).toNat = x.toNat / 256 := by omega
        rw [e]; omega)
    | exact len_fin0 x _ (by omega) (by omega)
end Go.Proofs
/- The seat of privitylaw02: hints, contracts. -/
set_option linter.unusedVariables false
noncomputable section
namespace Go.Abs
open Go Go.Proofs

/-- A list of words, as cells. -/
def wd (x : Nat) : V := .int .u64 (x : Int)
def wordsOf : List V → Option (List Nat)
  | [] => some []
  | .int .u64 k :: l => if 0 ≤ k then (match wordsOf l with | some ys => some (k.toNat :: ys) | none => none) else none
  | _ => none
def im1 (g : List Nat → Option V) : List V → Option V
  | [.im _ _ _ n cs] => match wordsOf cs with | some l => if l.length = n ∧ n ≤ 1000 then g l else none | none => none
  | _ => none
def im2 (g : List Nat → List Nat → Option V) : List V → Option V
  | [.im _ _ _ n cs, .im _ _ _ m ds] => match wordsOf cs, wordsOf ds with | some l, some k => if l.length = n ∧ n ≤ 1000 ∧ k.length = m ∧ m ≤ 1000 then g l k else none | _, _ => none
  | _ => none
def tuV (l : List Nat) : V := if l.length ≤ 60 ∧ ∀ x ∈ l, x ≤ 1 then .tup [.int .u64 ((numL (down l l.length) : Nat) : Int), .int .i64 0] else .tup [.int .u64 0, .int .i64 7]
def len64X : List V → Option V
  | [.int .u64 x] => if 0 ≤ x ∧ x ≤ 18446744073709551615 then some (.int .i64 (Lib.bitLen x.toNat)) else none
  | _ => none
def X02 (f : Nat) (xs : List V) : Option V :=
  if f = 16 then im1 (fun l => some (tuV l)) xs else
  if f = 19 then im2 (fun a b => some (.own .nil 0 (addSpec a b).length ((addSpec a b).map wd))) xs else
  if f = 22 then im2 (fun a b => some (.own .nil 0 a.length ((subSpec a b).map wd))) xs else
  if f = 24 then im2 (fun a b => some (.int .u64 ((lessL (upto (fun j => (a[j]?.getD 0, b[j]?.getD 0)) (max a.length b.length)) : Nat) : Int))) xs else
  if f = 25 then im2 (fun a b => some (.int .u64 ((eqL (upto (fun j => (a[j]?.getD 0, b[j]?.getD 0)) (max a.length b.length)) : Nat) : Int))) xs else
  if f = 30 then len64X xs else none
def plan02 (f id : Nat) : Option (List Nat) :=
  if f = 29 ∧ id = 10 then some [0, 1, 2, 3, 4, 5, 6, 7, 10, 8, 9, 11, 12] else none
def H02 : Hint := { tree := fun _ _ => none, q := fun _ _ _ => false, G := fun _ => none, sg := fun _ => [], fz := fun _ _ _ => false, live := fun _ _ => none, fr := fun _ => false, X := X02, plan := plan02, mc := fun _ _ => [], good := fun f => !([16, 19, 22, 24, 25, 30, 31, 33, 35, 36, 37].contains f) }

theorem wordsOf_sm : ∀ {l l' : List V}, SmL l l' → wordsOf l' = wordsOf l := by
  intro l l' h
  induction l generalizing l' with
  | nil => cases h; rfl
  | cons x l ih =>
    cases h with
    | cons h1 h2 =>
      have e := ih h2
      cases h1 with
      | int =>
        rename_i k n
        cases k <;> first | rfl | simp only [wordsOf, e]
      | _ => rfl
theorem OptR.refl' (o : Option V) : OptR Sm o o := by
  cases o with
  | none => exact .none
  | some v => exact .some (Sm.refl v)
theorem im1_sm {g : List Nat → Option V} {l l' : List V} (h : SmL l l') : OptR Sm (im1 g l) (im1 g l') := by
  cases h with
  | nil => exact OptR.refl' _
  | cons h1 h2 =>
    cases h2 with
    | cons h3 h4 => cases h1 <;> exact .none
    | nil =>
      cases h1 with
      | im hc => simp only [im1, wordsOf_sm hc]; exact OptR.refl' _
      | _ => exact .none
theorem im2_sm {g : List Nat → List Nat → Option V} {l l' : List V} (h : SmL l l') : OptR Sm (im2 g l) (im2 g l') := by
  cases h with
  | nil => exact OptR.refl' _
  | cons h1 h2 =>
    cases h2 with
    | nil => cases h1 <;> exact .none
    | cons h3 h4 =>
      cases h4 with
      | cons h5 h6 => cases h1 <;> cases h3 <;> exact .none
      | nil =>
        cases h1 with
        | im hc =>
          cases h3 with
          | im hd => simp only [im2, wordsOf_sm hc, wordsOf_sm hd]; exact OptR.refl' _
          | _ => exact .none
        | _ => cases h3 <;> exact .none
theorem len64X_sm {l l' : List V} (h : SmL l l') : OptR Sm (len64X l) (len64X l') := by
  cases h with
  | nil => exact OptR.refl' _
  | cons h1 h2 =>
    cases h2 with
    | nil =>
      cases h1 with
      | int => exact OptR.refl' _
      | _ => exact .none
    | cons h3 h4 =>
      cases h1 with
      | int => rename_i k n; cases k <;> exact .none
      | _ => exact .none
theorem X02_sm : XSm H02 := by
  intro f xs xs' h
  show OptR Sm (X02 f xs) (X02 f xs')
  unfold X02
  repeat' split
  · exact im1_sm h
  · exact im2_sm h
  · exact im2_sm h
  · exact im2_sm h
  · exact im2_sm h
  · exact len64X_sm h
  · exact .none

/-! ### the program, looked at once -/
theorem mixed02 : Try.prog.follows .mixedOrders = true := by kernel_rfl
theorem prog02 : progB Try.prog H02 = true := by kernel_rfl
end Go.Abs
end
/- The seat of privitylaw02: contracts. -/
set_option linter.unusedVariables false
noncomputable section
namespace Go.Abs
open Go Go.Proofs Go.RowKit

section
variable {E : Env} {ex : List V} {w w' : World} {nx : Nat}

/-- What a slice's cells read as. -/
theorem wordsOf_get : ∀ {cs : List V} {l : List Nat}, wordsOf cs = some l → cs.length = l.length ∧ ∀ j (h : j < l.length), cs[j]? = some (wd l[j])
  | [], l, h => by
    simp only [wordsOf, Option.some.injEq] at h; subst h
    exact ⟨rfl, fun j h => by cases h⟩
  | x :: cs, l, h => by
    have key : ∀ k, wordsOf (.int .u64 k :: cs) = some l → (V.int .u64 k :: cs).length = l.length ∧ ∀ j (h : j < l.length), (V.int .u64 k :: cs)[j]? = some (wd l[j]) := by
      intro k h
      unfold wordsOf at h
      split at h
      case isFalse => cases h
      rename_i hk
      cases hw : wordsOf cs with
      | none => simp [hw] at h
      | some ys =>
        simp only [hw, Option.some.injEq] at h
        subst h
        obtain ⟨h1, h2⟩ := wordsOf_get hw
        refine ⟨by simp [h1], fun j hj => ?_⟩
        cases j with
        | zero => simp [wd]; omega
        | succ j => simpa using h2 j (by simpa using hj)
    cases x with
    | int ik k => cases ik with
      | u64 => exact key k h
      | _ => cases h
    | _ => cases h
theorem words_of {K : Nat → Prop} {pm : Bool} {A : Option Addr} {cap n : Nat} {cs : List V} {l : List Nat} (h : wordsOf cs = some l) (hn : l.length = n) (hat : AtOk E w nx K (.i pm A cap n cs)) : Words w.heap.size w (.slice A n cap) l := by
  obtain ⟨h1, h2⟩ := wordsOf_get h
  obtain ⟨_, h3⟩ := hat
  by_cases hl : l = []
  · subst hl
    simp only [List.length_nil] at hn
    subst hn
    exact .inl ⟨A, cap, rfl, rfl⟩
  · cases A with
    | none =>
      obtain ⟨e1, e2⟩ := h3
      subst e2
      exact absurd (List.eq_nil_of_length_eq_zero (by rw [← h1]; rfl)) hl
    | some a =>
      obtain ⟨_, h4, _⟩ := h3
      have cell : ∀ j (hj : j < l.length), w.cell? (a.add j) = some (.int .u64 (l[j] : Int)) := by
        intro j hj
        obtain ⟨u, hu, hm⟩ := h4 j _ (h2 j hj)
        rcases hm with hm | hm
        · simp only [wd, hd, Option.some.injEq] at hm
          rw [hu, ← hm]
        · simp [wd] at hm
      have hpos : 0 < l.length := by cases l with | nil => exact absurd rfl hl | cons x l => simp
      have c0 := cell 0 hpos
      have hlt : a.block < w.heap.size := by
        have := World.block_lt_of_cell? w _ c0
        rwa [block_of_add] at this
      have hsp : a.spot = none := by
        have e0 : a.add 0 = a := by simp [Addr.add]
        rw [e0] at c0
        unfold World.cell? at c0
        split at c0
        · split at c0
          · cases c0
          · rename_i hs
            cases hs' : a.spot with
            | none => rfl
            | some v => rw [hs'] at hs; simp at hs
        · cases c0
      obtain ⟨b, off, sp⟩ := a
      simp only at hsp hlt
      subst hsp
      refine .inr ⟨b, off, cap, by rw [hn], hlt, fun j hj => ?_⟩
      have := cell j hj
      have e : (⟨b, off, none⟩ : Addr).add j = ⟨b, off + j, none⟩ := by
        unfold Addr.add
        split
        · rename_i h; subst h; rfl
        · rfl
      rw [e] at this
      rw [this, List.getElem?_eq_getElem hj]; rfl

theorem back_flat {r : V} {v : Value} (hI : Inv E 0 (emptyS [] nx) ex w) (hb : Below w.heap.size w w') (hr : ∀ D, PR E.β D r v) (ha : atoms r = []) (hf : rows r = []) : Back E [] nx ex w r [] nx v w' := by
  have hI' := hI.ext hb.size hb.block
  have hs : Seen E 0 (emptyS [] nx) ex w' r v := ⟨hr _, fun b hb => (by rw [ha] at hb; cases hb), fun e he => (by rw [hf] at he; cases he)⟩
  obtain ⟨h1, h2⟩ := hs.join hI'
  refine ⟨E, r, [], Sm.refl _, .nil, h1, hr, ?_⟩
  exact ⟨fun _ _ => rfl, rfl, rfl, Nat.le_refl _, hb.size, fun k hk => h2.keys k hk |>.imp id (fun h => Nat.le_trans hb.size h), fun k hk _ => hb.block k hk, hb.os, hb.tape, hb.output⟩

theorem Inv.ownRow' {nt : Nat} {D : St} (h : Inv E nt D ex w) (hbel : Below w.heap.size w w') {g cap n : Nat} {cs : List V} {cur : Array Value} {el : TypeId} (hg : w.heap.size ≤ g) (hw : w'.heap[g]? = some (.cells cur el (0, 0)))
    (h1 : n ≤ cap) (h2 : cap ≤ 9223372036854775807) (h4 : cs.length = n) (h5 : 0 < n ∨ cap = 0) (h6 : cur.size = cap) (h7 : ∀ (j : Nat) (x : V), cs[j]? = some x → ∃ u, cur[j]? = some u ∧ MR E.β x u) (hfl : rowsL cs = []) (hatm : atomsL cs = []) :
    Inv E nt D (.own (.blk g cap 1) 0 n cs :: ex) w' ∧ To E nt D ex w E D (.own (.blk g cap 1) 0 n cs :: ex) w' := by
  have hI : Inv E nt D ex w' := h.ext hbel.size hbel.block
  have hp : (rowsD nt D (.own (.blk g cap 1) 0 n cs :: ex)).Perm ((.blk g cap 1, 0, n, cs.map sh) :: rowsD nt D ex) := by
    refine (rowsD_ex nt D _ ex).trans ?_
    simp only [Abs.rows, hfl, List.cons_append, List.nil_append]
    exact .refl _
  have hkp : (keysD nt D (.own (.blk g cap 1) 0 n cs :: ex)).Perm (g :: keysD nt D ex) := keysOf_perm hp
  refine ⟨⟨fun e he => ?_, ?_, fun a ha => ?_, h.boxes, h.ids, fun k hk => ?_, hI.newG, h.gpb⟩, ?_⟩
  · rcases List.mem_cons.1 (hp.mem_iff.1 he) with rfl | he
    · refine ⟨h1, h2, by omega, by simpa using h4, by omega, cur, el, hw, by omega, fun j x hx => ?_⟩
      rw [List.getElem?_map, Option.map_eq_some_iff] at hx
      obtain ⟨z, hz, rfl⟩ := hx
      obtain ⟨u, hu, hm⟩ := h7 j z hz
      exact ⟨u, hu, MR_sh.2 hm⟩
    · exact hI.rows e he
  · refine hkp.nodup_iff.2 (List.nodup_cons.2 ⟨fun hk => ?_, h.nodup⟩)
    exact absurd (h.key_lt hk) (by omega)
  · have ha' : a ∈ atomsD nt D ex := by
      rcases atomsD_ex.1 ha with ha | ha
      · simp [Abs.atoms, hatm] at ha
      · exact ha
    have h0 := hI.atoms a ha'
    have hw0 := h.atoms a ha'
    have hf : ∀ {pm A cs'}, FOk E w (fun k => k ∈ keysD nt D ex) pm A cs' → FOk E w' (fun k => k ∈ keysD nt D (.own (.blk g cap 1) 0 n cs :: ex)) pm A cs' := by
      intro pm A cs' hf
      have hf2 := FOk.ext (w' := w') (fun k hk _ => hbel.block k hk) hf
      refine ⟨hf2.1, hf2.2.1, fun hc => ⟨(hf.2.2 hc).1, fun hk => ?_⟩⟩
      rcases List.mem_cons.1 (hkp.mem_iff.1 hk) with hk | hk
      · cases cs' with
        | nil => exact hc rfl
        | cons z l =>
          obtain ⟨u, hu, _⟩ := hf.2.1 0 z rfl
          have := World.block_lt_of_cell? w _ hu
          rw [block_of_add] at this
          omega
      · exact (hf.2.2 hc).2 hk
    cases a with
    | p b => exact h0
    | i pm A cap n cs' =>
      refine ⟨hw0.1, ?_⟩
      have h2 := hw0.2
      cases A with
      | none => exact h2
      | some a => exact hf h2
    | f pm A cs' => exact hf hw0
  · rcases List.mem_cons.1 (hkp.mem_iff.1 hk) with hk | hk
    · subst hk
      exact h.newG _ hg
    · exact h.keysG k hk
  · refine ⟨fun _ _ => rfl, rfl, rfl, Nat.le_refl _, hbel.size, fun k hk => ?_, fun k hk _ => hbel.block k hk, hbel.os, hbel.tape, hbel.output⟩
    rcases List.mem_cons.1 (hkp.mem_iff.1 hk) with hk | hk
    · subst hk; exact .inr hg
    · exact .inl hk
theorem rowsL_wd (l : List Nat) : rowsL (l.map wd) = [] := by induction l with | nil => rfl | cons x l ih => simp [rowsL, rows, wd, ih]
theorem atomsL_wd (l : List Nat) : atomsL (l.map wd) = [] := by induction l with | nil => rfl | cons x l ih => simp [atomsL, atoms, wd, ih]
/-- A row of words that is the call's own. -/
theorem back_own {l : List Nat} {v : Value} (hI : Inv E 0 (emptyS [] nx) ex w) (hb : Below w.heap.size w w') (ho : w'.ownsRow w.heap.size 22 1 v l.length (u64s l)) (hc : 0 < l.length ∨ ∃ A, v = .slice A 0 0) : Back E [] nx ex w (.own .nil 0 l.length (l.map wd)) [] nx v w' := by
  obtain ⟨hlen, ho⟩ := ho
  rcases ho with ⟨rfl, h0⟩ | ⟨g, cap, cur, rfl, hg, hw, h1, h2, h6, hx⟩
  · have hl : l = [] := List.eq_nil_of_length_eq_zero h0
    subst hl
    have hI' := hI.ext hb.size hb.block
    have hs : Inv E 0 (emptyS [] nx) (.own .nil 0 0 [] :: ex) w' := by
      refine hI'.join (fun e he => ?_) (fun b hb => by simp [atoms, atomsL] at hb)
      simp only [Abs.rows, rowsL, List.map_nil, List.mem_cons, List.not_mem_nil, or_false] at he
      subst he
      exact ⟨⟨rfl, rfl⟩, rfl⟩
    refine ⟨E, .own .nil 0 0 [], [], Sm.refl _, .nil, hs, fun D => by simp [PR, hd], ?_⟩
    refine ⟨fun _ _ => rfl, rfl, rfl, Nat.le_refl _, hb.size, fun k hk => .inl ?_, fun k hk _ => hb.block k hk, hb.os, hb.tape, hb.output⟩
    rw [show keysD 0 (emptyS [] nx) _ = keysOf (rowsD 0 (emptyS [] nx) _) from rfl, (keysOf_perm (rowsD_ex 0 (emptyS [] nx) _ ex)).mem_iff, keysOf_append] at hk
    rcases List.mem_append.1 hk with hk | hk
    · simp [Abs.rows, rowsL, keysOf, keyOf] at hk
    · exact hk
  · have h7 : ∀ (j : Nat) (x : V), (l.map wd)[j]? = some x → ∃ u, cur[j]? = some u ∧ MR E.β x u := by
      intro j x hx'
      rw [List.getElem?_map, Option.map_eq_some_iff] at hx'
      obtain ⟨y, hy, rfl⟩ := hx'
      refine ⟨.int .u64 (y : Int), ?_, .inl rfl⟩
      have hj : j < l.length := (List.getElem?_eq_some_iff.1 hy).1
      have e : (cur.toList.take (l.length * 1))[j]? = some (.int .u64 (y : Int)) := by
        rw [hx]; simp [u64s, hy]
      rw [List.getElem?_take, if_pos (by omega)] at e
      simpa using e
    obtain ⟨q1, q2⟩ := Inv.ownRow' (cap := cap) (n := l.length) (cs := l.map wd) hI hb hg hw h1 (by unfold maxLen at h2; omega) (by simp) (by
      rcases hc with hc | ⟨A, hc⟩
      · exact .inl hc
      · exact .inr (by simp only [Value.slice.injEq] at hc; exact hc.2.2)) (by omega) h7 (rowsL_wd l) (atomsL_wd l)
    exact ⟨E, _, [], .own (SmL.refl _), .nil, q1, fun D => by simp [PR, hd], q2⟩

/-- A contract by the kit's walk: the same at every bound. -/
theorem fgood {f : Nat} {fn : Func} {c : Code} {us : List Value} {R : Value → World → Prop} {R0 : Ending → World → Prop} (hf : Try.prog.funcs[f]? = some fn) (hb : fn.body = some c) (hn : (fn.name == "runtime.NumGoroutine") = false)
    (h : CallsIn Fence.wide 10 Try.prog f us.toArray w R0) (hR : ∀ e w', R0 e w' → ∃ v, e = .returned v ∧ R v w') : FGood Try.prog f us w R := by
  refine .inl ⟨enter_run hf hb hn, (callsIn_wide.1 h).mono fun e w' he => ?_⟩
  obtain ⟨v, rfl, h⟩ := hR e w' he
  exact h
theorem im1_spec {g : List Nat → Option V} {xs : List V} {r : V} (h : im1 g xs = some r) : ∃ pm A cap n cs l, xs = [.im pm A cap n cs] ∧ wordsOf cs = some l ∧ l.length = n ∧ n ≤ 1000 ∧ g l = some r := by
  unfold im1 at h
  split at h
  case h_2 => cases h
  split at h
  case h_2 => cases h
  split at h
  case isFalse => cases h
  rename_i hc
  exact ⟨_, _, _, _, _, _, rfl, ‹_›, hc.1, hc.2, h⟩
theorem im2_spec {g : List Nat → List Nat → Option V} {xs : List V} {r : V} (h : im2 g xs = some r) : ∃ pm A cap n cs l pm2 A2 cap2 n2 cs2 l2, xs = [.im pm A cap n cs, .im pm2 A2 cap2 n2 cs2] ∧ wordsOf cs = some l ∧ l.length = n ∧ n ≤ 1000 ∧ wordsOf cs2 = some l2 ∧ l2.length = n2 ∧ n2 ≤ 1000 ∧ g l l2 = some r := by
  unfold im2 at h
  split at h
  case h_2 => cases h
  split at h
  case h_2 => cases h
  split at h
  case isFalse => cases h
  rename_i e1 e2 hc
  exact ⟨_, _, _, _, _, _, _, _, _, _, _, _, rfl, e1, hc.1, hc.2.1, e2, hc.2.2.1, hc.2.2.2, h⟩
/-- Both slices' words. -/
theorem two_words {g : List Nat → List Nat → Option V} {xs : List V} {r : V} {us : List Value} (h : im2 g xs = some r) (hu : ∀ D, PRL E.β D xs us) (hat : ∀ b ∈ atomsL xs, AtOk E w nx (fun k => k ∈ keysD 0 (emptyS [] nx) ex) b) :
    ∃ sa sb l l2, us = [sa, sb] ∧ Words w.heap.size w sa l ∧ Words w.heap.size w sb l2 ∧ l.length ≤ 1000 ∧ l2.length ≤ 1000 ∧ g l l2 = some r := by
  obtain ⟨pm, A, cap, n, cs, l, pm2, A2, cap2, n2, cs2, l2, rfl, h1, h2, h3, h4, h5, h6, h7⟩ := im2_spec h
  obtain ⟨u1, us1, rfl, e1, u2, us2, rfl, e2, e3⟩ := hu (emptyS [] nx)
  have e1 : u1 = .slice A n cap := e1
  have e2 : u2 = .slice A2 n2 cap2 := e2
  have e3 : us2 = [] := e3
  subst e1 e2 e3
  exact ⟨_, _, l, l2, rfl, words_of h1 h2 (hat (.i pm A cap n cs) (by simp [atomsL, atoms])), words_of h4 h5 (hat (.i pm2 A2 cap2 n2 cs2) (by simp [atomsL, atoms])), by omega, by omega, h7⟩
theorem len30 {xs : List V} {r : V} {us : List Value} (hX : len64X xs = some r) (hI : Inv E 0 (emptyS [] nx) ex w) (hu : ∀ D, PRL E.β D xs us) : FGood Try.prog 30 us w (Back E [] nx ex w r [] nx) := by
  unfold len64X at hX
  split at hX
  case h_2 => cases hX
  split at hX
  case isFalse => cases hX
  rename_i x hc
  cases hX
  obtain ⟨u1, us1, rfl, e1, e2⟩ := hu (emptyS [] nx)
  have e1 : u1 = .int .u64 x := e1
  have e2 : us1 = [] := e2
  subst e1 e2
  refine fgood Try.func30 rfl (by decide +kernel) (callsIn_wide.2 (Len30 x w hc.1 hc.2)) ?_
  rintro e w' ⟨rfl, rfl⟩
  exact ⟨_, rfl, back_flat hI (Below.refl _ _) (fun D => rfl) rfl rfl⟩
theorem tu16 {xs : List V} {r : V} {us : List Value} (hX : im1 (fun l => some (tuV l)) xs = some r) (hI : Inv E 0 (emptyS [] nx) ex w) (hu : ∀ D, PRL E.β D xs us) (hat : ∀ b ∈ atomsL xs, AtOk E w nx (fun k => k ∈ keysD 0 (emptyS [] nx) ex) b) : FGood Try.prog 16 us w (Back E [] nx ex w r [] nx) := by
  obtain ⟨pm, A, cap, n, cs, l, rfl, h1, h2, h3, h4⟩ := im1_spec hX
  obtain ⟨u1, us1, rfl, e1, e2⟩ := hu (emptyS [] nx)
  have e1 : u1 = .slice A n cap := e1
  have e2 : us1 = [] := e2
  subst e1 e2
  have hw : Words w.heap.size w (.slice A n cap) l := words_of h1 h2 (hat (.i pm A cap n cs) (by simp [atomsL, atoms]))
  refine fgood Try.func16 rfl (by decide +kernel) (ToUint16_in Fence.wide 10 trivial trivial trivial rfl (by omega) _ l (by omega) w hw) ?_
  rintro e w' ⟨rfl, hB⟩
  simp only [Option.some.injEq] at h4
  subst h4
  refine ⟨_, rfl, back_flat hI hB (fun D => ?_) ?_ ?_⟩
  · unfold tuV tuSpec
    split
    · exact ⟨[_, _], rfl, _, _, rfl, rfl, _, _, rfl, rfl, rfl⟩
    · exact ⟨[_, _], rfl, _, _, rfl, rfl, _, _, rfl, rfl, rfl⟩
  · unfold tuV; split <;> rfl
  · unfold tuV; split <;> rfl
theorem less24 {xs : List V} {r : V} {us : List Value} (hX : im2 (fun a b => some (.int .u64 ((lessL (upto (fun j => (a[j]?.getD 0, b[j]?.getD 0)) (max a.length b.length)) : Nat) : Int))) xs = some r) (hI : Inv E 0 (emptyS [] nx) ex w) (hu : ∀ D, PRL E.β D xs us) (hat : ∀ b ∈ atomsL xs, AtOk E w nx (fun k => k ∈ keysD 0 (emptyS [] nx) ex) b) : FGood Try.prog 24 us w (Back E [] nx ex w r [] nx) := by
  obtain ⟨sa, sb, l, l2, rfl, h1, h2, h3, h4, h5⟩ := two_words hX hu hat
  refine fgood Try.func24 rfl (by decide +kernel) (Less24_in Fence.wide 10 trivial trivial trivial trivial rfl (by omega) _ _ l l2 h3 h4 w h1 h2) ?_
  rintro e w' ⟨rfl, hB⟩
  simp only [Option.some.injEq] at h5
  subst h5
  exact ⟨_, rfl, back_flat hI hB (fun D => rfl) rfl rfl⟩
theorem equal25 {xs : List V} {r : V} {us : List Value} (hX : im2 (fun a b => some (.int .u64 ((eqL (upto (fun j => (a[j]?.getD 0, b[j]?.getD 0)) (max a.length b.length)) : Nat) : Int))) xs = some r) (hI : Inv E 0 (emptyS [] nx) ex w) (hu : ∀ D, PRL E.β D xs us) (hat : ∀ b ∈ atomsL xs, AtOk E w nx (fun k => k ∈ keysD 0 (emptyS [] nx) ex) b) : FGood Try.prog 25 us w (Back E [] nx ex w r [] nx) := by
  obtain ⟨sa, sb, l, l2, rfl, h1, h2, h3, h4, h5⟩ := two_words hX hu hat
  refine fgood Try.func25 rfl (by decide +kernel) (Equal25_in Fence.wide 10 trivial trivial trivial trivial rfl (by omega) _ _ l l2 h3 h4 w h1 h2) ?_
  rintro e w' ⟨rfl, hB⟩
  simp only [Option.some.injEq] at h5
  subst h5
  exact ⟨_, rfl, back_flat hI hB (fun D => rfl) rfl rfl⟩
theorem add19 {xs : List V} {r : V} {us : List Value} (hX : im2 (fun a b => some (.own .nil 0 (addSpec a b).length ((addSpec a b).map wd))) xs = some r) (hI : Inv E 0 (emptyS [] nx) ex w) (hu : ∀ D, PRL E.β D xs us) (hat : ∀ b ∈ atomsL xs, AtOk E w nx (fun k => k ∈ keysD 0 (emptyS [] nx) ex) b) : FGood Try.prog 19 us w (Back E [] nx ex w r [] nx) := by
  obtain ⟨sa, sb, l, l2, rfl, h1, h2, h3, h4, h5⟩ := two_words hX hu hat
  refine fgood Try.func19 rfl (by decide +kernel) (Add19_in Fence.wide 10 trivial trivial trivial trivial rfl (by omega) _ _ l l2 h3 h4 w h1 h2) ?_
  rintro e w' ⟨v, rfl, ho, hB⟩
  simp only [Option.some.injEq] at h5
  subst h5
  exact ⟨_, rfl, back_own hI hB ho (.inl (by simp [addSpec]))⟩
theorem subSpec_length (a b : List Nat) : (subSpec a b).length = a.length := by
  unfold subSpec
  split
  · simp
  · rw [subL_length]; exact upto_length _ _
theorem sub22 {xs : List V} {r : V} {us : List Value} (hX : im2 (fun a b => some (.own .nil 0 a.length ((subSpec a b).map wd))) xs = some r) (hI : Inv E 0 (emptyS [] nx) ex w) (hu : ∀ D, PRL E.β D xs us) (hat : ∀ b ∈ atomsL xs, AtOk E w nx (fun k => k ∈ keysD 0 (emptyS [] nx) ex) b) : FGood Try.prog 22 us w (Back E [] nx ex w r [] nx) := by
  obtain ⟨sa, sb, l, l2, rfl, h1, h2, h3, h4, h5⟩ := two_words hX hu hat
  refine fgood Try.func22 rfl (by decide +kernel) (Sub22_in Fence.wide 10 trivial trivial trivial trivial trivial rfl (by omega) _ _ l l2 h3 h4 w h1 h2) ?_
  rintro e w' ⟨g, rfl, ho, hB⟩
  simp only [Option.some.injEq] at h5
  subst h5
  refine ⟨_, rfl, ?_⟩
  rw [← subSpec_length l l2] at ho ⊢
  refine back_own hI hB ho ?_
  rcases Nat.eq_zero_or_pos (subSpec l l2).length with h0 | h0
  · right; rw [h0]; exact ⟨_, rfl⟩
  · exact .inl h0
end
theorem CX02 : CalleeOk Try.prog H02 (CX H02) := by
  intro f xs m nx r m2 nx2 h E ex w us hI hu hflat hat hG
  unfold CX at h
  split at h
  case h_2 => cases h
  split at h
  case h_2 => cases h
  rename_i r' hx
  cases h
  have hx : X02 f xs = some r := hx
  unfold X02 at hx
  split at hx
  · rename_i hf; subst hf; exact tu16 hx hI hu hat
  split at hx
  · rename_i hf; subst hf; exact add19 hx hI hu hat
  split at hx
  · rename_i hf; subst hf; exact sub22 hx hI hu hat
  split at hx
  · rename_i hf; subst hf; exact less24 hx hI hu hat
  split at hx
  · rename_i hf; subst hf; exact equal25 hx hI hu hat
  split at hx
  · rename_i hf; subst hf; exact len30 hx hI hu
  · cases hx
end Go.Abs
end
/- Bit vectors: plain laws; no program in sight. -/
set_option linter.unusedVariables false
namespace Go.Bits

/-- The bit at an index, or 0 past the end. -/
def at_ (l : List Nat) (i : Nat) : Nat := l[i]?.getD 0
def Bit (l : List Nat) : Prop := ∀ x ∈ l, x ≤ 1
theorem Bit.at_ {l : List Nat} (h : Bit l) (i : Nat) : at_ l i ≤ 1 := by
  unfold Go.Bits.at_
  cases hi : l[i]? with
  | none => simp
  | some x => exact h x (List.mem_of_getElem? hi)
/-- The value of the lowest i bits. -/
def up (f : Nat → Nat) : Nat → Nat
  | 0 => 0
  | i + 1 => up f i + f i * 2 ^ i
theorem up_congr {f g : Nat → Nat} : ∀ {i : Nat}, (∀ j, j < i → f j = g j) → up f i = up g i
  | 0, _ => rfl
  | i + 1, h => by rw [up, up, up_congr fun j hj => h j (by omega), h i (by omega)]
theorem up_lt {f : Nat → Nat} (h : ∀ j, f j ≤ 1) : ∀ i, up f i < 2 ^ i
  | 0 => by simp [up]
  | i + 1 => by
    have h1 := up_lt h i
    have h2 : f i * 2 ^ i ≤ 1 * 2 ^ i := Nat.mul_le_mul_right _ (h i)
    rw [up, Nat.pow_succ]; omega
theorem up_zero {f : Nat → Nat} : ∀ {i : Nat}, (∀ j, j < i → f j = 0) → up f i = 0
  | 0, _ => rfl
  | i + 1, h => by rw [up, up_zero fun j hj => h j (by omega), h i (by omega)]; simp
theorem up_add {f : Nat → Nat} (i : Nat) : ∀ j, up f (i + j) = up f i + 2 ^ i * up (fun q => f (i + q)) j
  | 0 => by simp [up]
  | j + 1 => by
    rw [← Nat.add_assoc, up, up_add i j, up, Nat.pow_add, Nat.mul_add, Nat.add_assoc]
    congr 2
    rw [Nat.mul_left_comm]
/-- A bit vector's value. -/
def num (l : List Nat) : Nat := up (at_ l) l.length
theorem num_lt {l : List Nat} (h : Bit l) : num l < 2 ^ l.length := up_lt h.at_ _
theorem at_ge {l : List Nat} {i : Nat} (h : l.length ≤ i) : at_ l i = 0 := by unfold at_; rw [List.getElem?_eq_none h]; rfl
theorem up_num {l : List Nat} {m : Nat} (h : l.length ≤ m) : up (at_ l) m = num l := by
  obtain ⟨k, rfl⟩ : ∃ k, m = l.length + k := ⟨m - l.length, by omega⟩
  rw [up_add, up_zero (i := k) (fun j _ => at_ge (by omega))]; simp [num]
/-- Two functions of bits with the same value have the same bits. -/
theorem up_inj {f g : Nat → Nat} (hf : ∀ j, f j ≤ 1) (hg : ∀ j, g j ≤ 1) : ∀ {i : Nat}, up f i = up g i → ∀ j, j < i → f j = g j
  | 0, _, j, hj => by omega
  | i + 1, h, j, hj => by
    rw [up, up] at h
    have h1 := up_lt hf i
    have h2 := up_lt hg i
    have q1 := hf i
    have q2 := hg i
    have e : f i = g i := by
      rcases Nat.lt_or_ge (f i) (g i) with hlt | hge
      · have a : f i = 0 := by omega
        have b : g i = 1 := by omega
        rw [a, b] at h; omega
      · rcases Nat.lt_or_ge (g i) (f i) with hlt | hge2
        · have a : g i = 0 := by omega
          have b : f i = 1 := by omega
          rw [a, b] at h; omega
        · omega
    rw [e] at h
    by_cases hji : j = i
    · subst hji; exact e
    · exact up_inj hf hg (Nat.add_right_cancel h) j (by omega)
theorem num_inj {a b : List Nat} (ha : Bit a) (hb : Bit b) (hl : a.length = b.length) (h : num a = num b) : a = b := by
  refine List.ext_getElem hl fun i h1 h2 => ?_
  have := up_inj ha.at_ hb.at_ (i := a.length) (by rw [num, num, ← hl] at h; exact h) i h1
  simpa [at_, h1, h2] using this
theorem at_snoc_lt {l : List Nat} {x i : Nat} (h : i < l.length) : at_ (l ++ [x]) i = at_ l i := by unfold at_; rw [List.getElem?_append_left h]
theorem at_snoc {l : List Nat} {x : Nat} : at_ (l ++ [x]) l.length = x := by unfold at_; simp
theorem num_snoc (l : List Nat) (x : Nat) : num (l ++ [x]) = num l + x * 2 ^ l.length := by
  have : (l ++ [x]).length = l.length + 1 := by simp
  rw [num, this, up, at_snoc, up_congr (g := at_ l) fun j hj => at_snoc_lt hj]; rfl
theorem Bit.snoc {l : List Nat} {x : Nat} (h : Bit l) (hx : x ≤ 1) : Bit (l ++ [x]) := fun y hy => by
  rcases List.mem_append.1 hy with hy | hy
  · exact h y hy
  · have : y = x := by simpa using hy
    omega
theorem Bit.nil : Bit [] := fun y hy => by cases hy
/-- Width: as many bits as are needed, and one for 0. -/
def IsWidth (n w : Nat) : Prop := 1 ≤ w ∧ n < 2 ^ w ∧ (w = 1 ∨ 2 ^ (w - 1) ≤ n)
theorem IsWidth.unique {n v w : Nat} (h1 : IsWidth n v) (h2 : IsWidth n w) : v = w := by
  have key : ∀ {v w : Nat}, IsWidth n v → IsWidth n w → ¬ v < w := by
    intro v w h1 h2 hlt
    rcases h2.2.2 with h | h
    · have := h1.1; omega
    · have : 2 ^ v ≤ 2 ^ (w - 1) := Nat.pow_le_pow_right (by omega) (by omega)
      have := h1.2.1
      omega
  have := key h1 h2
  have := key h2 h1
  omega
theorem IsWidth.le_iff {n v w : Nat} (h : IsWidth n v) (hw : 1 ≤ w) : v ≤ w ↔ n < 2 ^ w := by
  constructor
  · intro hv
    exact Nat.lt_of_lt_of_le h.2.1 (Nat.pow_le_pow_right (by omega) hv)
  · intro hn
    rcases h.2.2 with h1 | h1
    · omega
    · rcases Nat.lt_or_ge w v with hlt | hge
      · have : 2 ^ w ≤ 2 ^ (v - 1) := Nat.pow_le_pow_right (by omega) (by omega)
        omega
      · exact hge
/-- The bits of a number. -/
theorem up_bits (n : Nat) : ∀ w, up (fun i => n / 2 ^ i % 2) w = n % 2 ^ w
  | 0 => by simp [up, Nat.mod_one]
  | w + 1 => by
    rw [up, up_bits n w, Nat.pow_succ, Nat.mod_mul, Nat.mul_comm (n / 2 ^ w % 2)]
/-- One round of an adder. -/
theorem add_round {A B o c x y v s : Nat} {i : Nat} (h : v + c * 2 ^ i = A + B) (hs : s = x + y + c) : (v + s % 2 * 2 ^ i) + s / 2 * 2 ^ (i + 1) = (A + x * 2 ^ i) + (B + y * 2 ^ i) := by
  have hdm : s % 2 + s / 2 * 2 = x + y + c := by omega
  rw [Nat.pow_succ]
  have e : s % 2 * 2 ^ i + s / 2 * (2 ^ i * 2) = x * 2 ^ i + y * 2 ^ i + c * 2 ^ i := by
    rw [Nat.mul_comm (2 ^ i) 2, ← Nat.mul_assoc, ← Nat.add_mul, hdm, Nat.add_mul, Nat.add_mul]
  omega
/-- One round of a subtractor: d is the difference's bit, c' the new borrow. -/
theorem sub_round {A B v c x y d c' : Nat} {i : Nat} (h : v + B = A + c * 2 ^ i) (hd : d + y + c = x + 2 * c') : (v + d * 2 ^ i) + (B + y * 2 ^ i) = (A + x * 2 ^ i) + c' * 2 ^ (i + 1) := by
  rw [Nat.pow_succ]
  have e : d * 2 ^ i + y * 2 ^ i + c * 2 ^ i = x * 2 ^ i + c' * (2 ^ i * 2) := by
    rw [← Nat.add_mul, ← Nat.add_mul, hd, Nat.add_mul, Nat.mul_comm 2 c', Nat.mul_assoc, Nat.mul_comm 2]
  omega
end Go.Bits
/- Bit vectors: what the contracts' lists are worth; no program in sight. -/
set_option linter.unusedVariables false
namespace Go.Bits
open Go.Proofs

/-- The w lowest bits of a number. -/
def bitsOf (n w : Nat) : List Nat := (List.range w).map fun i => n / 2 ^ i % 2
@[simp] theorem bitsOf_length (n w : Nat) : (bitsOf n w).length = w := by simp [bitsOf]
theorem bitsOf_bit (n w : Nat) : Bit (bitsOf n w) := fun x hx => by
  obtain ⟨i, _, rfl⟩ := List.mem_map.1 hx; omega
theorem bitsOf_num (n w : Nat) : num (bitsOf n w) = n % 2 ^ w := by
  rw [← up_bits n w, num, bitsOf_length]
  refine up_congr fun j hj => ?_
  simp [at_, bitsOf, hj]
theorem eq_bitsOf {l : List Nat} {n w : Nat} (hb : Bit l) (hl : l.length = w) (hn : num l = n) : l = bitsOf n w := by
  have hlt := num_lt hb
  refine num_inj hb (bitsOf_bit _ _) (by simp [hl]) ?_
  rw [bitsOf_num, Nat.mod_eq_of_lt (by rw [← hl]; omega), hn]
theorem bitsOf_succ (n w : Nat) : bitsOf n (w + 1) = bitsOf n w ++ [n / 2 ^ w % 2] := by simp [bitsOf, List.range_succ]

variable {f : Nat → Nat × Nat}
def Bits2 (f : Nat → Nat × Nat) : Prop := ∀ j, (f j).1 ≤ 1 ∧ (f j).2 ≤ 1
theorem addL_ok (hf : Bits2 f) : ∀ k, Bit (addL (upto f k)).1 ∧ (addL (upto f k)).1.length = k ∧ (addL (upto f k)).2 ≤ 1 ∧ num (addL (upto f k)).1 + (addL (upto f k)).2 * 2 ^ k = up (fun j => (f j).1) k + up (fun j => (f j).2) k
  | 0 => ⟨Bit.nil, rfl, by simp [upto, addL], by simp [upto, addL, num, up]⟩
  | k + 1 => by
    obtain ⟨h1, h2, h3, h4⟩ := addL_ok hf k
    have h5 := hf k
    rw [upto_succ, addL_snoc]
    have hs : addS (addL (upto f k)).2 (f k) = (f k).1 + (f k).2 + (addL (upto f k)).2 := by unfold addS M64; omega
    refine ⟨h1.snoc (by omega), by simp [h2], by simp only; omega, ?_⟩
    simp only
    rw [num_snoc, h2, up, up]
    exact add_round (o := 0) h4 hs
theorem subS_ok {c : Nat} {p : Nat × Nat} (h1 : p.1 ≤ 1) (h2 : p.2 ≤ 1) (h3 : c ≤ 1) : subS c p / 9223372036854775808 ≤ 1 ∧ subS c p % 2 + p.2 + c = p.1 + 2 * (subS c p / 9223372036854775808) := by
  obtain ⟨x, y⟩ := p
  simp only at h1 h2
  rcases (by omega : x = 0 ∨ x = 1) with rfl | rfl <;> rcases (by omega : y = 0 ∨ y = 1) with rfl | rfl <;> rcases (by omega : c = 0 ∨ c = 1) with rfl | rfl <;> decide
theorem subL_ok (hf : Bits2 f) : ∀ k, Bit (subL (upto f k)).1 ∧ (subL (upto f k)).1.length = k ∧ (subL (upto f k)).2 ≤ 1 ∧ num (subL (upto f k)).1 + up (fun j => (f j).2) k = up (fun j => (f j).1) k + (subL (upto f k)).2 * 2 ^ k
  | 0 => ⟨Bit.nil, rfl, by simp [upto, subL], by simp [upto, subL, num, up]⟩
  | k + 1 => by
    obtain ⟨h1, h2, h3, h4⟩ := subL_ok hf k
    have h5 := hf k
    rw [upto_succ, subL_snoc]
    obtain ⟨h6, h7⟩ := subS_ok h5.1 h5.2 h3
    refine ⟨h1.snoc (by omega), by simp [h2], h6, ?_⟩
    simp only
    rw [num_snoc, h2, up, up]
    exact sub_round h4 h7
theorem lessL_ok (hf : Bits2 f) : ∀ k, lessL (upto f k) = if up (fun j => (f j).1) k < up (fun j => (f j).2) k then 1 else 0
  | 0 => by simp [upto, lessL, up]
  | k + 1 => by
    have ih := lessL_ok hf k
    have h5 := hf k
    have a1 := up_lt (f := fun j => (f j).1) (fun j => (hf j).1) k
    have a2 := up_lt (f := fun j => (f j).2) (fun j => (hf j).2) k
    rw [upto_succ, lessL_snoc, up, up]
    by_cases h : (f k).1 = (f k).2
    · rw [if_pos h, ih, h]; simp
    · rw [if_neg h]
      rcases (by omega : ((f k).1 = 0 ∧ (f k).2 = 1) ∨ ((f k).1 = 1 ∧ (f k).2 = 0)) with ⟨e1, e2⟩ | ⟨e1, e2⟩
      · rw [e1, e2, if_pos (by omega)]
      · rw [e1, e2, if_neg (by omega)]
theorem eqL_ok (hf : Bits2 f) (k : Nat) : eqL (upto f k) = if up (fun j => (f j).1) k = up (fun j => (f j).2) k then 1 else 0 := by
  unfold eqL
  by_cases h : up (fun j => (f j).1) k = up (fun j => (f j).2) k
  · rw [if_pos h, if_pos]
    intro p hp
    unfold upto at hp
    obtain ⟨j, hj, rfl⟩ := List.mem_map.1 hp
    exact up_inj (fun j => (hf j).1) (fun j => (hf j).2) h j (List.mem_range.1 hj)
  · rw [if_neg h, if_neg]
    intro hall
    exact h (up_congr fun j hj => hall (f j) (by unfold upto; exact List.mem_map.2 ⟨j, List.mem_range.2 hj, rfl⟩))
theorem bits2_pairs {a b : List Nat} (ha : Bit a) (hb : Bit b) : Bits2 fun j => (a[j]?.getD 0, b[j]?.getD 0) := fun j => ⟨ha.at_ j, hb.at_ j⟩
theorem up_l {l : List Nat} {m : Nat} (h : l.length ≤ m) : up (fun j => l[j]?.getD 0) m = num l := up_num h
theorem addSpec_eq {a b : List Nat} (ha : Bit a) (hb : Bit b) : addSpec a b = bitsOf (num a + num b) (max a.length b.length + 1) := by
  obtain ⟨h1, h2, h3, h4⟩ := addL_ok (bits2_pairs ha hb) (max a.length b.length)
  simp only at h4
  rw [up_l (Nat.le_max_left _ _), up_l (Nat.le_max_right _ _)] at h4
  refine eq_bitsOf (h1.snoc h3) (by rw [addSpec, List.length_append, h2]; rfl) ?_
  rw [addSpec, num_snoc, h2, h4]
theorem lessSpec_eq {a b : List Nat} (ha : Bit a) (hb : Bit b) : lessL (upto (fun j => (a[j]?.getD 0, b[j]?.getD 0)) (max a.length b.length)) = if num a < num b then 1 else 0 := by
  rw [lessL_ok (bits2_pairs ha hb)]
  simp only
  rw [up_l (Nat.le_max_left _ _), up_l (Nat.le_max_right _ _)]
theorem eqSpec_eq {a b : List Nat} (ha : Bit a) (hb : Bit b) : eqL (upto (fun j => (a[j]?.getD 0, b[j]?.getD 0)) (max a.length b.length)) = if num a = num b then 1 else 0 := by
  rw [eqL_ok (bits2_pairs ha hb)]
  simp only
  rw [up_l (Nat.le_max_left _ _), up_l (Nat.le_max_right _ _)]
theorem num_zeros (n : Nat) : num (List.replicate n 0) = 0 := up_zero fun j hj => by
  unfold at_
  rw [List.getElem?_replicate]
  split <;> rfl
theorem bit_zeros (n : Nat) : Bit (List.replicate n 0) := fun x hx => by rw [(List.mem_replicate.1 hx).2]; omega
theorem subSpec_eq {a b : List Nat} (ha : Bit a) (hb : Bit b) : subSpec a b = bitsOf (num a - num b) a.length := by
  unfold subSpec pairs
  rw [lessSpec_eq ha hb]
  by_cases h : num a < num b
  · rw [if_pos h, if_pos rfl]
    exact eq_bitsOf (bit_zeros _) (by simp) (by rw [num_zeros]; omega)
  · rw [if_neg h, if_neg (by omega)]
    obtain ⟨h1, h2, h3, h4⟩ := subL_ok (bits2_pairs ha hb) a.length
    simp only at h4
    rw [up_l (Nat.le_refl _)] at h4
    refine eq_bitsOf h1 h2 ?_
    have hlt := num_lt h1
    rw [h2] at hlt
    have hal := num_lt ha
    have hbn : up (fun j => b[j]?.getD 0) a.length = num b := by
      have hle : b.length ≤ max a.length b.length := Nat.le_max_right _ _
      rcases Nat.le_total b.length a.length with hl | hl
      · exact up_l hl
      · have e : num b = up (fun j => b[j]?.getD 0) b.length := (up_l (Nat.le_refl _)).symm
        obtain ⟨k, hk⟩ : ∃ k, b.length = a.length + k := ⟨b.length - a.length, by omega⟩
        rw [hk, up_add] at e
        rcases Nat.eq_zero_or_pos (up (fun q => b[a.length + q]?.getD 0) k) with h0 | h0
        · rw [h0] at e; simp at e; exact e.symm
        · have : 2 ^ a.length * 1 ≤ 2 ^ a.length * up (fun q => b[a.length + q]?.getD 0) k := Nat.mul_le_mul_left _ h0
          omega
    rw [hbn] at h4
    generalize (subL (upto (fun j => (a[j]?.getD 0, b[j]?.getD 0)) a.length)).2 = c at h3 h4
    generalize num (subL (upto (fun j => (a[j]?.getD 0, b[j]?.getD 0)) a.length)).1 = v at h4 hlt ⊢
    rcases (by omega : c = 0 ∨ c = 1) with rfl | rfl
    · omega
    · omega
theorem foldl_down : ∀ (l : List Nat) (k c : Nat), k ≤ l.length → (down l k).foldl (fun n p => 2 * n + p.2) c = c * 2 ^ k + up (fun j => l[l.length - k + j]?.getD 0) k
  | l, 0, c, _ => by simp [down, up]
  | l, k + 1, c, h => by
    rw [down_succ, List.foldl_append, foldl_down l k c (by omega)]
    simp only [List.foldl_cons, List.foldl_nil]
    have e : up (fun j => l[l.length - (k + 1) + j]?.getD 0) (1 + k) = _ := up_add 1 k
    rw [Nat.add_comm 1 k] at e
    rw [e]
    have e2 : (fun q => l[l.length - (k + 1) + (1 + q)]?.getD 0) = fun j => l[l.length - k + j]?.getD 0 := by
      funext q
      have : l.length - (k + 1) + (1 + q) = l.length - k + q := by omega
      rw [this]
    rw [e2]
    have e3 : l.length - 1 - k = l.length - (k + 1) := by omega
    simp only [up, Nat.pow_zero, Nat.mul_one, Nat.add_zero, Nat.pow_one, Nat.zero_add]
    rw [e3, Nat.pow_succ, Nat.mul_add, ← Nat.mul_assoc 2 c, Nat.mul_comm 2 c, Nat.mul_assoc c 2, Nat.mul_comm 2 (2 ^ k)]
    omega
theorem numL_num (l : List Nat) : numL (down l l.length) = num l := by
  unfold numL
  rw [foldl_down l l.length 0 (Nat.le_refl _)]
  simp only [Nat.zero_mul, Nat.zero_add, Nat.sub_self]
  exact up_l (Nat.le_refl _)
end Go.Bits
/- Reckoning with the evaluator: more rules; answers with a named bound. -/
set_option linter.unusedVariables false
noncomputable section
namespace Go.Abs
open Go

section
variable {P : Program} {H : Hint} {C : Callee} {f k : Nat}
/-- A function answers, from a number of rounds on. -/
def AnsN (N : Nat) (P : Program) (H : Hint) (f : Nat) (xs : List V) (r : V) : Prop := ∀ n, N ≤ n → ∀ nx, evCall P H n f xs [] nx = some (r, [], nx)
theorem AnsN.le {N M : Nat} {xs : List V} {r : V} (h : AnsN N P H f xs r) (hm : N ≤ M) : AnsN M P H f xs r := fun n hn => h n (by omega)
theorem AnsN.gen {N : Nat} {fn : Func} {c : Code} {xs : List V} {r : V} (hg : H.good f = true) (hf : P.funcs[f]? = some fn) (hb : fn.body = some c) (hfr : H.fr f = false) (hr : ptrs r = [])
    (h : ∀ k, N ≤ k → ∀ nx, EvP P H (evCall P H k) f k c (entryS xs [] nx) (fun e D => (e = .norm ∨ e = .ret) ∧ optE (evRes P D fn.results.toList) fun q => packRes q.1 = r ∧ ∀ b ∈ q.2.m, nx ≤ b.1)) : AnsN (N + 1) P H f xs r := by
  intro n hn nx
  obtain ⟨k, rfl⟩ : ∃ k, n = k + 1 := ⟨n - 1, by omega⟩
  obtain ⟨e, D, h1, h2, hq⟩ := h k (by omega) nx
  obtain ⟨⟨rs, D1⟩, hres', hrs, h4⟩ := optE_elim hq
  simp only at hrs h4
  unfold evCall
  simp only [hg, hf, hb]
  have h1' : evCode P H (evCall P H k) f k c { s := fun i => match xs[i]? with | some v => v | none => .dead, m := [], nx := nx } = some (e, D) := h1
  have hfil : D1.m.filter (fun e => decide (e.1 < nx)) = [] := by
    rw [List.filter_eq_nil_iff]
    intro b hb
    have := h4 b hb
    simp; omega
  rw [if_neg (by simp)]
  generalize hq : evCode P H (evCall P H k) f k c _ = q
  have : q = some (e, D) := by rw [← hq]; exact h1'
  subst this
  simp only [if_pos h2, hres', hfr, Bool.false_and, Bool.false_eq_true, if_false, hfil, hrs, hr, List.flatMap_nil, List.append_nil, List.any_nil]
theorem AnsN.of {N : Nat} {fn : Func} {c : Code} {xs : List V} {r : V} {t : Nat} (hg : H.good f = true) (hf : P.funcs[f]? = some fn) (hb : fn.body = some c) (hres : fn.results = #[.tmp t]) (hfr : H.fr f = false) (hr : plainV r = true)
    (h : ∀ k, N ≤ k → ∀ nx, EvP P H (evCall P H k) f k c (entryS xs [] nx) (fun e D => (e = .norm ∨ e = .ret) ∧ D.s t = r ∧ ∀ b ∈ D.m, nx ≤ b.1)) : AnsN (N + 1) P H f xs r := by
  refine AnsN.gen hg hf hb hfr ?_ fun k hk nx => ?_
  · cases r <;> simp only [plainV] at hr <;> first | rfl | (cases hr; done) | simpa [ptrs] using hr
  · obtain ⟨e, D, h1, h2, h3, h4⟩ := h k hk nx
    obtain ⟨⟨D1, q1, q2, q3⟩, q4⟩ := plain_settle h3 hr
    refine ⟨e, D, h1, h2, ?_⟩
    rw [hres]
    simp only [evRes, q1, optE_some, packRes, true_and]
    rw [q2]
    exact h4
theorem EvP.seqG {D : St} {a b : Code} {Φ : Ex → St → Prop} (K : St → Prop) (h1 : EvP P H C f k a D (thenE K Φ)) (h2 : ∀ D1, K D1 → EvP P H C f k b D1 Φ) : EvP P H C f k (.seq a b) D Φ :=
  EvP.seq (h1.mono fun e D1 h => by
    cases e with
    | norm => exact h2 D1 h
    | ret => exact h
    | exit i => exact h)

/-! ### as equations -/
def EvK (P : Program) (H : Hint) (C : Callee) (f k : Nat) (c : Code) (Φ : Ex → St → Prop) (D : St) : Prop := EvP P H C f k c D Φ
theorem EvK_app (c : Code) (Φ : Ex → St → Prop) (D : St) : EvK P H C f k c Φ D = EvP P H C f k c D Φ := rfl
def condE (x : Option V) (A B : Prop) : Prop := match x with | some (.bool t) => if t then A else B | _ => False
theorem condE_b (t : Bool) (A B : Prop) : condE (some (.bool t)) A B = if t then A else B := rfl
def isN (o : Option Pl) : Prop := o = none
theorem ev_skip (D : St) (Φ : Ex → St → Prop) : EvP P H C f k .skip D Φ = Φ .norm D := propext ⟨fun ⟨e, D', h, h2⟩ => by cases h; exact h2, EvP.skip⟩
theorem ev_ret (D : St) (Φ : Ex → St → Prop) : EvP P H C f k .ret D Φ = Φ .ret D := propext ⟨fun ⟨e, D', h, h2⟩ => by cases h; exact h2, EvP.ret⟩
theorem ev_exit (i : Nat) (D : St) (Φ : Ex → St → Prop) : EvP P H C f k (.exit i) D Φ = Φ (.exit i) D := propext ⟨fun ⟨e, D', h, h2⟩ => by cases h; exact h2, EvP.exit⟩
theorem ev_seq (a b : Code) (D : St) (Φ : Ex → St → Prop) : EvP P H C f k (.seq a b) D Φ = EvP P H C f k a D (thenE (EvK P H C f k b Φ) Φ) := propext ⟨fun ⟨e, D', h, h2⟩ => by
  unfold evCode at h
  cases ha : evCode P H C f k a D with
  | none => rw [ha] at h; cases h
  | some q =>
    obtain ⟨e1, D1⟩ := q
    rw [ha] at h
    refine ⟨e1, D1, ha, ?_⟩
    cases e1 with
    | norm => exact ⟨e, D', h, h2⟩
    | ret => cases h; exact h2
    | exit i => cases h; exact h2, fun h => EvP.seq h⟩
theorem ev_region (id : Nat) (ops : Array Oper) (D : St) (Φ : Ex → St → Prop) : EvP P H C f k (.region id ops false) D Φ = optE (evOps P H C ops (H.fz f id) 0 ops.toList D) (Φ .norm) := by
  refine propext ⟨fun ⟨e, D', h, h2⟩ => ?_, fun h => EvP.region h⟩
  unfold evCode at h
  simp only [Bool.false_eq_true, if_false] at h
  split at h
  · rename_i hx; cases h; rw [hx]; exact h2
  · cases h
theorem ev_block (id : Nat) (c : Code) (D : St) (Φ : Ex → St → Prop) : EvP P H C f k (.block id c) D Φ = EvP P H C f k c D (blockE id Φ) := propext ⟨fun ⟨e, D', h, h2⟩ => by
  unfold evCode at h
  cases ha : evCode P H C f k c D with
  | none => rw [ha] at h; cases h
  | some q =>
    obtain ⟨e1, D1⟩ := q
    rw [ha] at h
    refine ⟨e1, D1, ha, ?_⟩
    cases e1 with
    | norm => cases h; exact h2
    | ret => cases h; exact h2
    | exit i =>
      simp only at h
      by_cases hi : i = id
      · rw [if_pos hi] at h; cases h; simpa [hi] using h2
      · rw [if_neg hi] at h; cases h; simpa [hi] using h2, fun h => EvP.block h⟩
theorem ev_cond (c : Operand) (a b : Code) (D : St) (Φ : Ex → St → Prop) : EvP P H C f k (.cond c a b) D Φ = condE (ev H D c) (EvP P H C f k a D Φ) (EvP P H C f k b D Φ) := by
  refine propext ⟨fun ⟨e, D', h, h2⟩ => ?_, fun h => ?_⟩
  · unfold evCode at h
    split at h
    · rename_i t ht
      rw [ht, condE_b]
      cases t with
      | true => exact ⟨e, D', h, h2⟩
      | false => exact ⟨e, D', h, h2⟩
    · cases h
  · unfold condE at h
    split at h
    · rename_i t ht
      cases t with
      | true => obtain ⟨e, D', h1, h2⟩ := h; exact ⟨e, D', by unfold evCode; rw [ht]; exact h1, h2⟩
      | false => obtain ⟨e, D', h1, h2⟩ := h; exact ⟨e, D', by unfold evCode; rw [ht]; exact h1, h2⟩
    · exact h.elim
end
section
variable {P : Program} {H : Hint} {C : Callee} {f k : Nat} {ops : Array Oper} {fz mu : Nat → Bool}
theorem draw_cut (l1 l2 : List Nat) (K : St → Prop) {Q : St → Prop} : ∀ {D : St}, optE (evDraw P H C ops fz mu l1 D) K → (∀ D1, K D1 → optE (evDraw P H C ops fz mu l2 D1) Q) → optE (evDraw P H C ops fz mu (l1 ++ l2) D) Q := by
  induction l1 with
  | nil => intro D h1 h2; exact h2 D h1
  | cons i l ih =>
    intro D h1 h2
    simp only [List.cons_append]
    unfold evDraw at h1 ⊢
    revert h1
    split
    · split
      · split
        · split
          · exact fun h1 => ih h1 h2
          · exact fun h1 => h1
        · exact fun h1 => h1
      · exact fun h1 => ih h1 h2
      · exact fun h1 => h1
    · exact fun h1 => h1
theorem EvP.drawCut {D : St} {id : Nat} {Φ : Ex → St → Prop} (l1 l2 : List Nat) (hl : planOf H f id ops = l1 ++ l2) (K : St → Prop) (h1 : optE (evDraw P H C ops (H.fz f id) (muOf H f id ops) l1 D) K)
    (h2 : ∀ D1, K D1 → optE (evDraw P H C ops (H.fz f id) (muOf H f id ops) l2 D1) (Φ .norm)) (ht : H.tree f id = none := by rfl) : EvP P H C f k (.region id ops true) D Φ := by
  refine EvP.draw ?_ ht
  rw [hl]
  exact draw_cut l1 l2 K h1 h2
theorem optE_mono {α : Type} {x : Option α} (K : α → Prop) {Q : α → Prop} (h1 : optE x K) (h2 : ∀ y, K y → Q y) : optE x Q := by
  cases x with
  | none => exact h1
  | some y => exact h2 y h1
theorem ev_draw (ht : ∀ f id, H.tree f id = none) (id : Nat) (D : St) (Φ : Ex → St → Prop) : EvP P H C f k (.region id ops true) D Φ = optE (evDraw P H C ops (H.fz f id) (muOf H f id ops) (planOf H f id ops) D) (Φ .norm) := by
  refine propext ⟨fun ⟨e, D', h, h2⟩ => ?_, fun h => EvP.draw h (ht _ _)⟩
  unfold evCode at h
  simp only [ht, if_true] at h
  split at h
  · rename_i hx; cases h; rw [hx]; exact h2
  · cases h
end
theorem clear_none (D : St) : clear none D = D := rfl
/-- Words, as they lie in memory. -/
def uL (l : List Nat) : List V := l.map fun (x : Nat) => V.int .u64 (x : Int)
@[simp] theorem uL_length (l : List Nat) : (uL l).length = l.length := by simp [uL]
@[simp] theorem uL_getElem (l : List Nat) (i : Nat) (h : i < (uL l).length) : (uL l)[i] = .int .u64 ((l[i]'(by simpa using h) : Nat) : Int) := by simp [uL]
theorem uL_append (a b : List Nat) : uL (a ++ b) = uL a ++ uL b := by simp [uL]
@[simp] theorem ptrsL_uL (l : List Nat) : ptrsL (uL l) = [] := by
  unfold uL; induction l with
  | nil => rfl
  | cons x l ih => simp only [List.map_cons, ptrsL, ptrs, ih, List.append_nil]
@[simp] theorem frzL_uL (pm : Bool) (l : List Nat) : frzL pm (uL l) = uL l := by
  unfold uL; induction l with
  | nil => rfl
  | cons x l ih => simp only [List.map_cons, frzL, frz, ih]
@[simp] theorem noBorL_uL (l : List Nat) : noBorL (uL l) = true := by
  unfold uL; induction l with
  | nil => rfl
  | cons x l ih => simp only [List.map_cons, noBorL, noBor, ih, Bool.and_self]
theorem wrap_nat {x : Int} (h0 : 0 ≤ x) (h : x ≤ 9223372036854775807) : IntKind.i64.wrap x = x := by
  unfold IntKind.wrap
  simp [IntKind.signed, IntKind.bits]
  omega
theorem wrap_succ {q : Nat} (h : q < 9223372036854775807) : IntKind.i64.wrap ((q : Int) + 1) = ((q + 1 : Nat) : Int) := by
  rw [wrap_nat (by omega) (by omega)]; omega
theorem wrapu {x : Int} (h0 : 0 ≤ x) (h : x < 18446744073709551616) : IntKind.u64.wrap x = x := by
  unfold IntKind.wrap
  simp [IntKind.signed, IntKind.bits]
  omega
end Go.Abs
end
/- Reckoning with the evaluator: its words for simp. -/
set_option linter.unusedVariables false
noncomputable section
namespace Go.Abs
open Go
attribute [simp] evOps evDraw evOp ev evL evI evParts settleP fillV structPlace rep ofVal ofCell ofCells wantedV settle settleL St.lay St.put noRow noRowL killAll kill killL view viewL doBuiltin appendV bring copyV lenV minmax minmaxA rs take takeF look go goSet setAt sub subL
attribute [simp] capless caplessV takeZ cpD loadV loadAt storeAt canStore target okAddr okPart partV moveV cutV capM takeC bin isSh isNil eq0 ne0 un V.scalar V.cells cellIn solid solidL frz frzL noBor noBorL ptrs ptrsL lend lendL lendArgs hasRef hasRefL lendsB doCall reach getBox setBox St.newAt St.new killB killBL othersM litB mutB quietB planOf muOf strOf packRes evRes
attribute [simp] hitRef hitLoc pre List.range List.range.loop
attribute [simp] clear_none ev_skip ev_ret ev_exit ev_seq ev_region ev_block ev_cond EvK_app condE_b
section
variable (k : IntKind) (a b : Int)
@[simp] theorem int_add : intOp .add k a b = some (.int k (k.wrap (a + b))) := rfl
@[simp] theorem int_sub : intOp .sub k a b = some (.int k (k.wrap (a - b))) := rfl
@[simp] theorem int_mul : intOp .mul k a b = some (.int k (k.wrap (a * b))) := rfl
@[simp] theorem int_eql : intOp .eql k a b = some (.bool (a == b)) := rfl
@[simp] theorem int_neq : intOp .neq k a b = some (.bool (a != b)) := rfl
@[simp] theorem int_lss : intOp .lss k a b = some (.bool (decide (a < b))) := rfl
@[simp] theorem int_leq : intOp .leq k a b = some (.bool (decide (a ≤ b))) := rfl
@[simp] theorem int_gtr : intOp .gtr k a b = some (.bool (decide (a > b))) := rfl
@[simp] theorem int_geq : intOp .geq k a b = some (.bool (decide (a ≥ b))) := rfl
end
theorem int_quo {k : IntKind} {a b : Nat} (hb : b ≠ 0) (h : k.wrap ((a / b : Nat) : Int) = ((a / b : Nat) : Int)) : intOp .quo k (a : Int) (b : Int) = some (.int k ((a / b : Nat) : Int)) := by
  have h0 : ¬ (b : Int) = 0 := by omega
  show (if (b : Int) = 0 then none else some (V.int k (k.wrap ((a : Int).tdiv b)))) = _
  rw [if_neg h0, ← Int.ofNat_tdiv, h]
theorem int_rem {k : IntKind} {a b : Nat} (hb : b ≠ 0) : intOp .rem k (a : Int) (b : Int) = some (.int k ((a % b : Nat) : Int)) := by
  have h0 : ¬ (b : Int) = 0 := by omega
  show (if (b : Int) = 0 then none else some (V.int k ((a : Int).tmod b))) = _
  rw [if_neg h0, ← Int.ofNat_tmod]
theorem int_quo2 {a : Nat} (h : a < 18446744073709551616) : intOp .quo .u64 (a : Int) 2 = some (.int .u64 ((a / 2 : Nat) : Int)) := int_quo (b := 2) (by omega) (wrapu (by omega) (by omega))
theorem int_rem2 {a : Nat} : intOp .rem .u64 (a : Int) 2 = some (.int .u64 ((a % 2 : Nat) : Int)) := int_rem (b := 2) (by omega)
theorem int_and1 {a : Nat} (h : a < 18446744073709551616) : intOp .and .u64 (a : Int) 1 = some (.int .u64 ((a % 2 : Nat) : Int)) := by
  show some (V.int .u64 (IntKind.u64.wrap ((BitVec.ofInt IntKind.u64.bits (a : Int) &&& BitVec.ofInt IntKind.u64.bits 1).toNat : Int))) = _
  have e : (BitVec.ofInt IntKind.u64.bits (a : Int) &&& BitVec.ofInt IntKind.u64.bits 1).toNat = a % 2 := by
    have hb : IntKind.u64.bits = 64 := rfl
    rw [BitVec.toNat_and]
    simp only [hb, BitVec.toNat_ofInt]
    have h1 : (((a : Int) % ((2 ^ 64 : Nat) : Int))).toNat = a := by omega
    have h2 : ((1 : Int) % ((2 ^ 64 : Nat) : Int)).toNat = 1 := by decide
    rw [h1, h2, Nat.and_one_is_mod]
  rw [e, wrapu (by omega) (by omega)]
theorem sh_shr {a i : Nat} (hi : i ≤ 64) : shOp .shr .u64 (a : Int) (i : Int) = some (.int .u64 ((a / 2 ^ i : Nat) : Int)) := by
  have h0 : ¬ (i : Int) < 0 := by omega
  show (if (i : Int) < 0 then none else some (V.int .u64 ((a : Int).fdiv (2 ^ (min (i : Int).toNat IntKind.u64.bits))))) = _
  have hb : IntKind.u64.bits = 64 := rfl
  rw [if_neg h0, hb, Int.toNat_natCast, Nat.min_eq_left hi]
  congr 2
  rw [Int.fdiv_eq_ediv_of_nonneg _ (by exact_mod_cast Nat.zero_le _)]
  norm_cast
end Go.Abs
end
/- What a law's arguments can be: trees read. -/
set_option linter.unusedVariables false
noncomputable section
namespace Go.Abs
open Go

theorem parse {α : Type} (enc : α → List V) (sz : Nat) (Q : α → Prop) : ∀ (n : Nat) (cs : List V), cs.length = n * sz → (∀ i, i < n → ∃ a, Q a ∧ (cs.drop (i * sz)).take sz = enc a) → ∃ l : List α, l.length = n ∧ cs = l.flatMap enc ∧ ∀ x ∈ l, Q x
  | 0, cs, h, _ => ⟨[], rfl, by simpa using h, by simp⟩
  | n + 1, cs, h, hh => by
    obtain ⟨a, ha, he⟩ := hh 0 (by omega)
    rw [Nat.zero_mul, List.drop_zero] at he
    obtain ⟨l, h1, h2, h3⟩ := parse enc sz Q n (cs.drop sz) (by rw [List.length_drop, h, Nat.succ_mul]; omega) fun i hi => by
      obtain ⟨b, hb, hbe⟩ := hh (i + 1) (by omega)
      refine ⟨b, hb, ?_⟩
      rw [List.drop_drop, show sz + i * sz = (i + 1) * sz by rw [Nat.succ_mul]; omega]
      exact hbe
    refine ⟨a :: l, by simp [h1], ?_, fun x hx => ?_⟩
    · rw [List.flatMap_cons, ← he, ← h2, List.take_append_drop]
    · rcases List.mem_cons.1 hx with rfl | hx
      · exact ha
      · exact h3 x hx
theorem flat_uL (l : List Nat) : uL l = l.flatMap fun (x : Nat) => [V.int .u64 (x : Int)] := by
  unfold uL; induction l with
  | nil => rfl
  | cons x l ih => rw [List.map_cons, ih]; rfl
variable {P : Program} {k : Nat} {t e : TypeId} {vs : List V}
theorem sh_u64 (hu : P.underlying t = some (.int .u64)) (h : Sh P (k + 1) t vs) : ∃ x : Nat, x < 18446744073709551616 ∧ vs = [.int .u64 (x : Int)] := by
  unfold Sh at h
  rw [hu] at h
  obtain ⟨n, rfl, hn⟩ := h
  have hn : (decide (IntKind.u64.min ≤ n) && decide (n ≤ IntKind.u64.max)) = true := hn
  simp only [Bool.and_eq_true, decide_eq_true_eq] at hn
  have e1 : IntKind.u64.min = 0 := rfl
  have e2 : IntKind.u64.max = 18446744073709551615 := rfl
  rw [e1, e2] at hn
  exact ⟨n.toNat, by omega, by rw [show ((n.toNat : Nat) : Int) = n by omega]⟩
theorem sh_i64 (hu : P.underlying t = some (.int .i64)) (h : Sh P (k + 1) t vs) : ∃ x : Int, (-9223372036854775808 ≤ x ∧ x ≤ 9223372036854775807) ∧ vs = [.int .i64 x] := by
  unfold Sh at h
  rw [hu] at h
  obtain ⟨n, rfl, hn⟩ := h
  have hn : (decide (IntKind.i64.min ≤ n) && decide (n ≤ IntKind.i64.max)) = true := hn
  simp only [Bool.and_eq_true, decide_eq_true_eq] at hn
  have e1 : IntKind.i64.min = -9223372036854775808 := rfl
  have e2 : IntKind.i64.max = 9223372036854775807 := rfl
  rw [e1, e2] at hn
  exact ⟨n, hn, rfl⟩
theorem sh_u8 (hu : P.underlying t = some (.int .u8)) (h : Sh P (k + 1) t vs) : ∃ x : Nat, x < 256 ∧ vs = [.int .u8 (x : Int)] := by
  unfold Sh at h
  rw [hu] at h
  obtain ⟨n, rfl, hn⟩ := h
  have hn : (decide (IntKind.u8.min ≤ n) && decide (n ≤ IntKind.u8.max)) = true := hn
  simp only [Bool.and_eq_true, decide_eq_true_eq] at hn
  have e1 : IntKind.u8.min = 0 := rfl
  have e2 : IntKind.u8.max = 255 := rfl
  rw [e1, e2] at hn
  exact ⟨n.toNat, by omega, by rw [show ((n.toNat : Nat) : Int) = n by omega]⟩
theorem sh_bool (hu : P.underlying t = some .bool) (h : Sh P (k + 1) t vs) : ∃ b, vs = [.bool b] := by
  unfold Sh at h
  rw [hu] at h
  exact h
/-- A slice. -/
theorem sh_slice {α : Type} {sz : Nat} (enc : α → List V) (Q : α → Prop) (hu : P.underlying t = some (.slice e)) (ce : P.cellsOf e = sz) (he : ∀ c, Sh P k e c → ∃ a, Q a ∧ c = enc a) (h : Sh P (k + 1) t vs) :
    ∃ A cap, ∃ l : List α, l.length ≤ maxLen ∧ (∀ x ∈ l, Q x) ∧ vs = [.im false A cap l.length (l.flatMap enc)] := by
  unfold Sh at h
  rw [hu] at h
  obtain ⟨A, cap, n, cs, rfl, h1, h2, h3⟩ := h
  simp only [ce] at h2 h3
  obtain ⟨l, q1, q2, q3⟩ := parse enc sz Q n cs h2 fun i hi => he _ (h3 i hi)
  subst q1 q2
  exact ⟨A, cap, l, h1, q3, rfl⟩
theorem sh_words (hu : P.underlying t = some (.slice e)) (hue : P.underlying e = some (.int .u64)) (ce : P.cellsOf e = 1) (h : Sh P (k + 1 + 1) t vs) : ∃ A cap l, l.length ≤ maxLen ∧ (∀ x ∈ l, x < 18446744073709551616) ∧ vs = [.im false A cap l.length (uL l)] := by
  obtain ⟨A, cap, l, h1, h2, h3⟩ := sh_slice (fun x : Nat => [V.int .u64 (x : Int)]) (fun x => x < 18446744073709551616) hu ce (fun c h => sh_u64 hue h) h
  rw [← flat_uL] at h3
  exact ⟨A, cap, l, h1, h2, h3⟩
/-- An argument that is no struct. -/
theorem arg_plain {m : Nat} {x : V} (ht : ∀ fs, P.underlying t ≠ some (.struct fs)) (h : ArgSh P m t x) : Sh P m t [x] := by
  unfold ArgSh at h
  split at h
  · rename_i fs hu; exact absurd hu (ht fs)
  · exact h
theorem arg_words {m : Nat} {x : V} (hu : P.underlying t = some (.slice e)) (hue : P.underlying e = some (.int .u64)) (ce : P.cellsOf e = 1) (h : ArgSh P (m + 1 + 1) t x) : ∃ A cap l, l.length ≤ maxLen ∧ (∀ x ∈ l, x < 18446744073709551616) ∧ x = .im false A cap l.length (uL l) := by
  obtain ⟨A, cap, l, h1, h2, h3⟩ := sh_words hu hue ce (arg_plain (by intro fs; rw [hu]; simp) h)
  exact ⟨A, cap, l, h1, h2, by simpa using h3⟩
theorem arg_u64 {m : Nat} {x : V} (hu : P.underlying t = some (.int .u64)) (h : ArgSh P (m + 1) t x) : ∃ n : Nat, n < 18446744073709551616 ∧ x = .int .u64 (n : Int) := by
  obtain ⟨n, h1, h2⟩ := sh_u64 hu (arg_plain (by intro fs; rw [hu]; simp) h)
  exact ⟨n, h1, by simpa using h2⟩
theorem arg_i64 {m : Nat} {x : V} (hu : P.underlying t = some (.int .i64)) (h : ArgSh P (m + 1) t x) : ∃ n : Int, (-9223372036854775808 ≤ n ∧ n ≤ 9223372036854775807) ∧ x = .int .i64 n := by
  obtain ⟨n, h1, h2⟩ := sh_i64 hu (arg_plain (by intro fs; rw [hu]; simp) h)
  exact ⟨n, h1, by simpa using h2⟩
theorem arg_u8 {m : Nat} {x : V} (hu : P.underlying t = some (.int .u8)) (h : ArgSh P (m + 1) t x) : ∃ n : Nat, n < 256 ∧ x = .int .u8 (n : Int) := by
  obtain ⟨n, h1, h2⟩ := sh_u8 hu (arg_plain (by intro fs; rw [hu]; simp) h)
  exact ⟨n, h1, by simpa using h2⟩
theorem args1 {m : Nat} {t1 : TypeId} {xs : List V} (h : ArgShL P m [t1] xs) : ∃ x, xs = [x] ∧ ArgSh P m t1 x := by
  match xs, h with
  | [x], ⟨h1, _⟩ => exact ⟨x, rfl, h1⟩
theorem args2 {m : Nat} {t1 t2 : TypeId} {xs : List V} (h : ArgShL P m [t1, t2] xs) : ∃ x y, xs = [x, y] ∧ ArgSh P m t1 x ∧ ArgSh P m t2 y := by
  match xs, h with
  | [x, y], ⟨h1, h2, _⟩ => exact ⟨x, y, rfl, h1, h2⟩
theorem args3 {m : Nat} {t1 t2 t3 : TypeId} {xs : List V} (h : ArgShL P m [t1, t2, t3] xs) : ∃ x y z, xs = [x, y, z] ∧ ArgSh P m t1 x ∧ ArgSh P m t2 y ∧ ArgSh P m t3 z := by
  match xs, h with
  | [x, y, z], ⟨h1, h2, h3, _⟩ => exact ⟨x, y, z, rfl, h1, h2, h3⟩
end Go.Abs
end
/- The seat of privitylaw02: sizes; words for simp. -/
set_option linter.unusedVariables false
noncomputable section
namespace Go.Abs
open Go Go.Proofs

@[simp] theorem sz3 : sizeT Try.prog 3 = some 1 := by kernel_rfl
@[simp] theorem ag3 : aggT Try.prog 3 = some false := by kernel_rfl
@[simp] theorem by3 : bytesT Try.prog 3 = some 8 := by kernel_rfl
@[simp] theorem sz4 : sizeT Try.prog 4 = some 1 := by kernel_rfl
@[simp] theorem ag4 : aggT Try.prog 4 = some false := by kernel_rfl
@[simp] theorem by4 : bytesT Try.prog 4 = some 1 := by kernel_rfl
@[simp] theorem sz22 : sizeT Try.prog 22 = some 1 := by kernel_rfl
@[simp] theorem ag22 : aggT Try.prog 22 = some false := by kernel_rfl
@[simp] theorem by22 : bytesT Try.prog 22 = some 8 := by kernel_rfl
@[simp] theorem z22 : zeroT Try.prog 22 = some [.int .u64 0] := by kernel_rfl
@[simp] theorem sz24 : sizeT Try.prog 24 = some 1 := by kernel_rfl
@[simp] theorem ag24 : aggT Try.prog 24 = some false := by kernel_rfl
@[simp] theorem by24 : bytesT Try.prog 24 = some 24 := by kernel_rfl
@[simp] theorem sz25 : sizeT Try.prog 25 = some 1 := by kernel_rfl
@[simp] theorem ag25 : aggT Try.prog 25 = some false := by kernel_rfl
attribute [simp] Try.underlying3 Try.underlying4 Try.underlying22 Try.underlying24 Try.underlying25
attribute [simp] plan02
@[simp] theorem xNone {f : Nat} {xs : List V} (h : f ≠ 16 ∧ f ≠ 19 ∧ f ≠ 22 ∧ f ≠ 24 ∧ f ≠ 25 ∧ f ≠ 30) : X02 f xs = none := by
  unfold X02
  rw [if_neg h.1, if_neg h.2.1, if_neg h.2.2.1, if_neg h.2.2.2.1, if_neg h.2.2.2.2.1, if_neg h.2.2.2.2.2]
@[simp] theorem H02_G : H02.G = fun _ => none := rfl
@[simp] theorem H02_sg : H02.sg = fun _ => [] := rfl
@[simp] theorem H02_q : H02.q = fun _ _ _ => false := rfl
@[simp] theorem H02_fz : H02.fz = fun _ _ _ => false := rfl
@[simp] theorem H02_live : H02.live = fun _ _ => none := rfl
@[simp] theorem H02_fr : H02.fr = fun _ => false := rfl
@[simp] theorem H02_X : H02.X = X02 := rfl
@[simp] theorem H02_plan : H02.plan = plan02 := rfl
@[simp] theorem H02_mc : H02.mc = fun _ _ => [] := rfl
@[simp] theorem liveOf02 (f : Nat) (c : Code) : liveOf H02 f c = none := by unfold liveOf; split <;> rfl
@[simp] theorem draw02 {C : Callee} {f k : Nat} {ops : Array Oper} (id : Nat) (D : St) (Φ : Ex → St → Prop) : EvP Try.prog H02 C f k (.region id ops true) D Φ = optE (evDraw Try.prog H02 C ops (H02.fz f id) (muOf H02 f id ops) (planOf H02 f id ops) D) (Φ .norm) := ev_draw (fun _ _ => rfl) id D Φ
@[simp] theorem wordsOf_uL : ∀ l : List Nat, wordsOf (uL l) = some l
  | [] => rfl
  | x :: l => by
    show wordsOf (V.int .u64 (x : Int) :: uL l) = _
    unfold wordsOf
    rw [wordsOf_uL l]
    simp
theorem map_wd (l : List Nat) : l.map wd = uL l := rfl
attribute [simp] map_wd im1 im2 len64X

set_option maxHeartbeats 1000000 in
set_option maxRecDepth 100000 in
/-- bit(b, i) -/
theorem bit34 (pm : Bool) (A : Option Addr) (cap : Nat) (l : List Nat) (i : Nat) : AnsN 1 Try.prog H02 34 [.im pm A cap l.length (uL l), .int .i64 i] (.int .u64 ((Bits.at_ l i : Nat) : Int)) := by
  refine AnsN.of (fn := Try.f34) (t := 4) (by rfl) Try.func34 rfl rfl (by rfl) (by rfl) fun k hk nx => ?_
  by_cases h : i < l.length
  · simp [entryS, h, Bits.at_]
  · simp [entryS, h, Bits.at_]
set_option maxHeartbeats 1000000 in
set_option maxRecDepth 100000 in
/-- Width(n) -/
theorem width14 (n : Nat) (hn : n < 18446744073709551616) : AnsN 1 Try.prog H02 14 [.int .u64 (n : Int)] (.int .i64 (max (Lib.bitLen n) 1 : Nat)) := by
  refine AnsN.of (fn := Try.f14) (t := 2) (by rfl) Try.func14 rfl rfl (by rfl) (by rfl) fun k hk nx => ?_
  have h : (n : Int) ≤ 18446744073709551615 := by omega
  simp [entryS, X02, h]
  split <;> omega
end Go.Abs
end
