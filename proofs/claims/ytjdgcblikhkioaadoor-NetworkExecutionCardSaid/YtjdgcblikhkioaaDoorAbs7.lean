/- Joined: AbsYB AbsYC AbsYG AbsYD AbsYH. -/
import Derived.Test.YtjdgcblikhkioaaDoorAbs6
set_option linter.all false
/- Reckoning with the evaluator: its words for simp. -/
set_option linter.unusedVariables false
noncomputable section
namespace Go.Abs
open Go
attribute [simp] evOps evDraw evOp ev evL evI evParts settleP fillV structPlace rep ofVal ofCell ofCells wantedV settle settleL St.lay St.put noRow noRowL killAll kill killL view viewL doBuiltin appendV bring copyV lenV minmax minmaxA rs take takeF look go goSet setAt sub subL
attribute [simp] capless bareV caplessV takeZ cpD loadV loadAt storeAt canStore target okAddr okPart partV moveV cutV capM takeC bin isSh isNil eq0 ne0 un V.scalar V.cells cellIn solid solidL frz frzL noBor noBorL ptrs ptrsL lend lendL lendArgs hasRef hasRefL lendsB doCall reach getBox setBox St.newAt St.new killB killBL othersM litB mutB quietB planOf muOf strOf packRes evRes
attribute [simp] hitRef hitLoc pre List.range List.range.loop
attribute [simp] clear_none ev_skip ev_ret ev_exit ev_seq ev_region ev_block ev_cond EvK_app condE_b
section
variable (k : IntKind) (a b : Int)
@[simp] theorem int_add : intOp .add k a b = some (.int k (k.wrap (a + b))) := rfl
@[simp] theorem int_sub : intOp .sub k a b = some (.int k (k.wrap (a - b))) := rfl
@[simp] theorem int_mul : intOp .mul k a b = some (.int k (k.wrap (a * b))) := rfl
@[simp] theorem int_eql : intOp .eql k a b = some (.bool (a == b)) := rfl
@[simp] theorem int_neq : intOp .neq k a b = some (.bool (a != b)) := rfl
@[simp] theorem int_lss : intOp .lss k a b = some (.bool (decide (a < b))) := rfl
@[simp] theorem int_leq : intOp .leq k a b = some (.bool (decide (a ≤ b))) := rfl
@[simp] theorem int_gtr : intOp .gtr k a b = some (.bool (decide (a > b))) := rfl
@[simp] theorem int_geq : intOp .geq k a b = some (.bool (decide (a ≥ b))) := rfl
end
theorem int_quo {k : IntKind} {a b : Nat} (hb : b ≠ 0) (h : k.wrap ((a / b : Nat) : Int) = ((a / b : Nat) : Int)) : intOp .quo k (a : Int) (b : Int) = some (.int k ((a / b : Nat) : Int)) := by
  have h0 : ¬ (b : Int) = 0 := by omega
  show (if (b : Int) = 0 then none else some (V.int k (k.wrap ((a : Int).tdiv b)))) = _
  rw [if_neg h0, ← Int.ofNat_tdiv, h]
theorem int_rem {k : IntKind} {a b : Nat} (hb : b ≠ 0) : intOp .rem k (a : Int) (b : Int) = some (.int k ((a % b : Nat) : Int)) := by
  have h0 : ¬ (b : Int) = 0 := by omega
  show (if (b : Int) = 0 then none else some (V.int k ((a : Int).tmod b))) = _
  rw [if_neg h0, ← Int.ofNat_tmod]
theorem int_quo2 {a : Nat} (h : a < 18446744073709551616) : intOp .quo .u64 (a : Int) 2 = some (.int .u64 ((a / 2 : Nat) : Int)) := int_quo (b := 2) (by omega) (wrapu (by omega) (by omega))
theorem int_rem2 {a : Nat} : intOp .rem .u64 (a : Int) 2 = some (.int .u64 ((a % 2 : Nat) : Int)) := int_rem (b := 2) (by omega)
theorem int_and1 {a : Nat} (h : a < 18446744073709551616) : intOp .and .u64 (a : Int) 1 = some (.int .u64 ((a % 2 : Nat) : Int)) := by
  show some (V.int .u64 (IntKind.u64.wrap ((BitVec.ofInt IntKind.u64.bits (a : Int) &&& BitVec.ofInt IntKind.u64.bits 1).toNat : Int))) = _
  have e : (BitVec.ofInt IntKind.u64.bits (a : Int) &&& BitVec.ofInt IntKind.u64.bits 1).toNat = a % 2 := by
    have hb : IntKind.u64.bits = 64 := rfl
    rw [BitVec.toNat_and]
    simp only [hb, BitVec.toNat_ofInt]
    have h1 : (((a : Int) % ((2 ^ 64 : Nat) : Int))).toNat = a := by omega
    have h2 : ((1 : Int) % ((2 ^ 64 : Nat) : Int)).toNat = 1 := by decide
    rw [h1, h2, Nat.and_one_is_mod]
  rw [e, wrapu (by omega) (by omega)]
theorem sh_shr {a i : Nat} (hi : i ≤ 64) : shOp .shr .u64 (a : Int) (i : Int) = some (.int .u64 ((a / 2 ^ i : Nat) : Int)) := by
  have h0 : ¬ (i : Int) < 0 := by omega
  show (if (i : Int) < 0 then none else some (V.int .u64 ((a : Int).fdiv (2 ^ (min (i : Int).toNat IntKind.u64.bits))))) = _
  have hb : IntKind.u64.bits = 64 := rfl
  rw [if_neg h0, hb, Int.toNat_natCast, Nat.min_eq_left hi]
  congr 2
  rw [Int.fdiv_eq_ediv_of_nonneg _ (by exact_mod_cast Nat.zero_le _)]
  norm_cast
end Go.Abs
end
/- What a law's arguments can be: trees read. -/
set_option linter.unusedVariables false
noncomputable section
namespace Go.Abs
open Go

theorem parse {α : Type} (enc : α → List V) (sz : Nat) (Q : α → Prop) : ∀ (n : Nat) (cs : List V), cs.length = n * sz → (∀ i, i < n → ∃ a, Q a ∧ (cs.drop (i * sz)).take sz = enc a) → ∃ l : List α, l.length = n ∧ cs = l.flatMap enc ∧ ∀ x ∈ l, Q x
  | 0, cs, h, _ => ⟨[], rfl, by simpa using h, by simp⟩
  | n + 1, cs, h, hh => by
    obtain ⟨a, ha, he⟩ := hh 0 (by omega)
    rw [Nat.zero_mul, List.drop_zero] at he
    obtain ⟨l, h1, h2, h3⟩ := parse enc sz Q n (cs.drop sz) (by rw [List.length_drop, h, Nat.succ_mul]; omega) fun i hi => by
      obtain ⟨b, hb, hbe⟩ := hh (i + 1) (by omega)
      refine ⟨b, hb, ?_⟩
      rw [List.drop_drop, show sz + i * sz = (i + 1) * sz by rw [Nat.succ_mul]; omega]
      exact hbe
    refine ⟨a :: l, by simp [h1], ?_, fun x hx => ?_⟩
    · rw [List.flatMap_cons, ← he, ← h2, List.take_append_drop]
    · rcases List.mem_cons.1 hx with rfl | hx
      · exact ha
      · exact h3 x hx
theorem flat_uL (l : List Nat) : uL l = l.flatMap fun (x : Nat) => [V.int .u64 (x : Int)] := by
  unfold uL; induction l with
  | nil => rfl
  | cons x l ih => rw [List.map_cons, ih]; rfl
variable {P : Program} {k : Nat} {t e : TypeId} {vs : List V}
theorem sh_u64 (hu : P.underlying t = some (.int .u64)) (h : Sh P (k + 1) t vs) : ∃ x : Nat, x < 18446744073709551616 ∧ vs = [.int .u64 (x : Int)] := by
  unfold Sh at h
  rw [hu] at h
  obtain ⟨n, rfl, hn⟩ := h
  have hn : (decide (IntKind.u64.min ≤ n) && decide (n ≤ IntKind.u64.max)) = true := hn
  simp only [Bool.and_eq_true, decide_eq_true_eq] at hn
  have e1 : IntKind.u64.min = 0 := rfl
  have e2 : IntKind.u64.max = 18446744073709551615 := rfl
  rw [e1, e2] at hn
  exact ⟨n.toNat, by omega, by rw [show ((n.toNat : Nat) : Int) = n by omega]⟩
theorem sh_i64 (hu : P.underlying t = some (.int .i64)) (h : Sh P (k + 1) t vs) : ∃ x : Int, (-9223372036854775808 ≤ x ∧ x ≤ 9223372036854775807) ∧ vs = [.int .i64 x] := by
  unfold Sh at h
  rw [hu] at h
  obtain ⟨n, rfl, hn⟩ := h
  have hn : (decide (IntKind.i64.min ≤ n) && decide (n ≤ IntKind.i64.max)) = true := hn
  simp only [Bool.and_eq_true, decide_eq_true_eq] at hn
  have e1 : IntKind.i64.min = -9223372036854775808 := rfl
  have e2 : IntKind.i64.max = 9223372036854775807 := rfl
  rw [e1, e2] at hn
  exact ⟨n, hn, rfl⟩
theorem sh_u8 (hu : P.underlying t = some (.int .u8)) (h : Sh P (k + 1) t vs) : ∃ x : Nat, x < 256 ∧ vs = [.int .u8 (x : Int)] := by
  unfold Sh at h
  rw [hu] at h
  obtain ⟨n, rfl, hn⟩ := h
  have hn : (decide (IntKind.u8.min ≤ n) && decide (n ≤ IntKind.u8.max)) = true := hn
  simp only [Bool.and_eq_true, decide_eq_true_eq] at hn
  have e1 : IntKind.u8.min = 0 := rfl
  have e2 : IntKind.u8.max = 255 := rfl
  rw [e1, e2] at hn
  exact ⟨n.toNat, by omega, by rw [show ((n.toNat : Nat) : Int) = n by omega]⟩
theorem sh_bool (hu : P.underlying t = some .bool) (h : Sh P (k + 1) t vs) : ∃ b, vs = [.bool b] := by
  unfold Sh at h
  rw [hu] at h
  exact h
/-- A slice. -/
theorem sh_slice {α : Type} {sz : Nat} (enc : α → List V) (Q : α → Prop) (hu : P.underlying t = some (.slice e)) (ce : P.cellsOf e = sz) (he : ∀ c, Sh P k e c → ∃ a, Q a ∧ c = enc a) (h : Sh P (k + 1) t vs) :
    ∃ A cap, ∃ l : List α, l.length ≤ maxLen ∧ (∀ x ∈ l, Q x) ∧ vs = [.im false A cap l.length (l.flatMap enc)] := by
  unfold Sh at h
  rw [hu] at h
  obtain ⟨A, cap, n, cs, rfl, h1, h2, h3⟩ := h
  simp only [ce] at h2 h3
  obtain ⟨l, q1, q2, q3⟩ := parse enc sz Q n cs h2 fun i hi => he _ (h3 i hi)
  subst q1 q2
  exact ⟨A, cap, l, h1, q3, rfl⟩
theorem sh_words (hu : P.underlying t = some (.slice e)) (hue : P.underlying e = some (.int .u64)) (ce : P.cellsOf e = 1) (h : Sh P (k + 1 + 1) t vs) : ∃ A cap l, l.length ≤ maxLen ∧ (∀ x ∈ l, x < 18446744073709551616) ∧ vs = [.im false A cap l.length (uL l)] := by
  obtain ⟨A, cap, l, h1, h2, h3⟩ := sh_slice (fun x : Nat => [V.int .u64 (x : Int)]) (fun x => x < 18446744073709551616) hu ce (fun c h => sh_u64 hue h) h
  rw [← flat_uL] at h3
  exact ⟨A, cap, l, h1, h2, h3⟩
/-- An argument that is no struct. -/
theorem arg_plain {m : Nat} {x : V} (ht : ∀ fs, P.underlying t ≠ some (.struct fs)) (h : ArgSh P m t x) (ht2 : ∀ n e, P.underlying t ≠ some (.array n e)) : Sh P m t [x] := by
  unfold ArgSh at h
  split at h
  · rename_i fs hu; exact absurd hu (ht fs)
  · rename_i n e hu; exact absurd hu (ht2 n e)
  · exact h
theorem arg_words {m : Nat} {x : V} (hu : P.underlying t = some (.slice e)) (hue : P.underlying e = some (.int .u64)) (ce : P.cellsOf e = 1) (h : ArgSh P (m + 1 + 1) t x) : ∃ A cap l, l.length ≤ maxLen ∧ (∀ x ∈ l, x < 18446744073709551616) ∧ x = .im false A cap l.length (uL l) := by
  obtain ⟨A, cap, l, h1, h2, h3⟩ := sh_words hu hue ce (arg_plain (by intro fs; rw [hu]; simp) h (by intro n e; rw [hu]; simp))
  exact ⟨A, cap, l, h1, h2, by simpa using h3⟩
theorem arg_u64 {m : Nat} {x : V} (hu : P.underlying t = some (.int .u64)) (h : ArgSh P (m + 1) t x) : ∃ n : Nat, n < 18446744073709551616 ∧ x = .int .u64 (n : Int) := by
  obtain ⟨n, h1, h2⟩ := sh_u64 hu (arg_plain (by intro fs; rw [hu]; simp) h (by intro n e; rw [hu]; simp))
  exact ⟨n, h1, by simpa using h2⟩
theorem arg_i64 {m : Nat} {x : V} (hu : P.underlying t = some (.int .i64)) (h : ArgSh P (m + 1) t x) : ∃ n : Int, (-9223372036854775808 ≤ n ∧ n ≤ 9223372036854775807) ∧ x = .int .i64 n := by
  obtain ⟨n, h1, h2⟩ := sh_i64 hu (arg_plain (by intro fs; rw [hu]; simp) h (by intro n e; rw [hu]; simp))
  exact ⟨n, h1, by simpa using h2⟩
theorem arg_u8 {m : Nat} {x : V} (hu : P.underlying t = some (.int .u8)) (h : ArgSh P (m + 1) t x) : ∃ n : Nat, n < 256 ∧ x = .int .u8 (n : Int) := by
  obtain ⟨n, h1, h2⟩ := sh_u8 hu (arg_plain (by intro fs; rw [hu]; simp) h (by intro n e; rw [hu]; simp))
  exact ⟨n, h1, by simpa using h2⟩
/-- An array of small numbers. -/
theorem arg_u8s {m n : Nat} {x : V} (hu : P.underlying t = some (.array n e)) (hue : P.underlying e = some (.int .u8)) (ce : P.cellsOf e = 1) (h : ArgSh P (m + 1 + 1) t x) : ∃ l : List Nat, l.length = n ∧ (∀ y ∈ l, y < 256) ∧ x = .agg (l.map fun (y : Nat) => V.int .u8 (y : Int)) := by
  unfold ArgSh at h
  rw [hu] at h
  obtain ⟨vs, rfl, h⟩ := h
  unfold Sh at h
  rw [hu] at h
  obtain ⟨h1, h2⟩ := h
  rw [ce, Nat.mul_one] at h1
  obtain ⟨l, l1, l2, l3⟩ := parse (fun y : Nat => [V.int .u8 (y : Int)]) 1 (fun y => y < 256) n vs (by omega) fun i hi => by
    have := h2 i hi
    rw [ce] at this
    exact sh_u8 hue this
  refine ⟨l, l1, l3, ?_⟩
  rw [l2]
  congr 1
  clear l1 l2 l3 h1 h2
  induction l with
  | nil => rfl
  | cons y l ih => rw [List.flatMap_cons, List.map_cons, ih]; rfl
theorem args1 {m : Nat} {t1 : TypeId} {xs : List V} (h : ArgShL P m [t1] xs) : ∃ x, xs = [x] ∧ ArgSh P m t1 x := by
  match xs, h with
  | [x], ⟨h1, _⟩ => exact ⟨x, rfl, h1⟩
theorem args2 {m : Nat} {t1 t2 : TypeId} {xs : List V} (h : ArgShL P m [t1, t2] xs) : ∃ x y, xs = [x, y] ∧ ArgSh P m t1 x ∧ ArgSh P m t2 y := by
  match xs, h with
  | [x, y], ⟨h1, h2, _⟩ => exact ⟨x, y, rfl, h1, h2⟩
theorem args3 {m : Nat} {t1 t2 t3 : TypeId} {xs : List V} (h : ArgShL P m [t1, t2, t3] xs) : ∃ x y z, xs = [x, y, z] ∧ ArgSh P m t1 x ∧ ArgSh P m t2 y ∧ ArgSh P m t3 z := by
  match xs, h with
  | [x, y, z], ⟨h1, h2, h3, _⟩ => exact ⟨x, y, z, rfl, h1, h2, h3⟩
end Go.Abs
end
/- Reckoning with the evaluator: a call behind its arguments. -/
set_option linter.unusedVariables false
noncomputable section
namespace Go.Abs
open Go

/-- A cut: what is known of the state, named anew. -/
theorem EvK_cut {P : Program} {H : Hint} {C : Callee} {f k : Nat} {c : Code} {Φ : Ex → St → Prop} {D : St} (K : St → Prop) (h : K D) (h2 : ∀ D1, K D1 → EvP P H C f k c D1 Φ) : EvK P H C f k c Φ D := h2 D h
/-- A call, its arguments lent. -/
def doCallB (H : Hint) (C : Callee) (f : Nat) (lb : Bool) (xs : List V) (D1 : St) (dst : Option Nat) : Option St :=
    match H.X f xs with
    | some r => if lb && !noBor r then none else some (D1.lay dst r)
    | none =>
      let ids := reach D1.m D1.m.length (ptrsL xs).eraseDups
      if lb && !ids.isEmpty then none else
      match C f xs (D1.m.filter fun e => ids.contains e.1) D1.nx with
      | some (r, m2, nx2) =>
        if lb && !(noBor r && m2.all fun e => noBorL e.2.cs) then none
        else if ids.isEmpty && nx2 == D1.nx then some (D1.lay dst r)
        else if m2.all fun e => ids.contains e.1 || decide (D1.nx ≤ e.1) then some ((St.mk (fun i => killB ids D1.nx (D1.s i)) (othersM D1.m ids ++ m2) nx2).lay dst r)
        else none
      | none => none
theorem doCall_eq (H : Hint) (C : Callee) (f : Nat) (vs : List V) (D : St) (dst : Option Nat) : doCall H C f vs D dst = match lendArgs (H.sg f) vs D with | some (xs, D1) => doCallB H C f (lendsB (H.sg f) vs) xs D1 dst | none => none := rfl
section
variable {P : Program} {H : Hint} {f k N : Nat} {xs : List V} {r : V}
theorem callP (h : AnsN N P H f xs r) (hk : N ≤ k) (hp : ptrsL xs = []) (hX : H.X f xs = none) : ∀ (D : St) (dst : Option Nat), doCallB H (evCall P H k) f false xs D dst = some (D.lay dst r) := by
  intro D dst
  have hr : reach D.m D.m.length (ptrsL xs).eraseDups = [] := by
    rw [hp]
    show reach D.m D.m.length [] = []
    cases D.m.length <;> rfl
  have hf : (D.m.filter fun e => ([] : List Nat).contains e.1) = [] := by
    rw [List.filter_eq_nil_iff]; intro e _; simp
  unfold doCallB
  rw [hX]
  simp only [hr, hf, h k hk D.nx, Bool.false_and, Bool.false_eq_true, if_false, List.isEmpty_nil, beq_self_eq_true, Bool.and_self, if_true]
theorem callP1 {s : Nat → V} {m : List (Nat × Box)} {nx : Nat} {C : Callee} (h : C f xs [] nx = some (r, [], nx)) (hp : ptrsL xs = []) (hX : H.X f xs = none) (dst : Option Nat) : doCallB H C f false xs ⟨s, m, nx⟩ dst = some (St.lay ⟨s, m, nx⟩ dst r) := by
  have hr : reach m m.length (ptrsL xs).eraseDups = [] := by
    rw [hp]
    show reach m m.length [] = []
    cases m.length <;> rfl
  have hf : (m.filter fun e => ([] : List Nat).contains e.1) = [] := by
    rw [List.filter_eq_nil_iff]; intro e _; simp
  unfold doCallB
  rw [hX]
  simp only [hr, hf, h, Bool.false_and, Bool.false_eq_true, if_false, List.isEmpty_nil, beq_self_eq_true, Bool.and_self, if_true]
theorem callX {x : V} (hX : H.X f xs = some x) : ∀ (C : Callee) (D : St) (dst : Option Nat), doCallB H C f false xs D dst = some (D.lay dst x) := by
  intro C D dst
  unfold doCallB
  rw [hX]
  rfl
/-- A call that comes to the boxes ids. -/
theorem callBox {ids : List Nat} {s : Nat → V} {m M O M2 : List (Nat × Box)} {nx nx2 : Nat} {C : Callee} (hX : H.X f xs = none) (hr : reach m m.length (ptrsL xs).eraseDups = ids) (hf : (m.filter fun e => ids.contains e.1) = M) (ho : othersM m ids = O) (hne : ids ≠ [])
    (hc : C f xs M nx = some (r, M2, nx2)) (hall : ∀ e ∈ M2, e.1 ∈ ids ∨ nx ≤ e.1) (dst : Option Nat) : doCallB H C f false xs ⟨s, m, nx⟩ dst = some ((St.mk (fun i => killB ids nx (s i)) (O ++ M2) nx2).lay dst r) := by
  have h1 : ids.isEmpty = false := by cases ids with | nil => exact absurd rfl hne | cons _ _ => rfl
  have h2 : (M2.all fun e => ids.contains e.1 || decide (nx ≤ e.1)) = true := by
    rw [List.all_eq_true]
    intro e he
    rcases hall e he with h | h
    · simp [h]
    · simp [h]
  unfold doCallB
  rw [hX]
  simp only [hr, hf, hc, h1, h2, ho, Bool.false_and, Bool.false_eq_true, if_false, if_true]
/-- A function that builds, called: its boxes come behind. -/
theorem callNew {nx d : Nat} {m M2 : List (Nat × Box)} {s : Nat → V} {C : Callee} (hp : ptrsL xs = []) (hX : H.X f xs = none) (hd : 0 < d) (hc : C f xs [] nx = some (r, M2, nx + d)) (hall : ∀ e ∈ M2, nx ≤ e.1) (dst : Option Nat) :
    doCallB H C f false xs ⟨s, m, nx⟩ dst = some ((St.mk (fun i => killB [] nx (s i)) (m ++ M2) (nx + d)).lay dst r) := by
  have hr : reach m m.length (ptrsL xs).eraseDups = [] := by
    rw [hp]
    show reach m m.length [] = []
    cases m.length <;> rfl
  have hf : (m.filter fun e => ([] : List Nat).contains e.1) = [] := by
    rw [List.filter_eq_nil_iff]; intro e _; simp
  have ho : othersM m [] = m := by
    unfold othersM
    rw [List.filter_eq_self]; intro e _; rfl
  have h2 : (M2.all fun e => ([] : List Nat).contains e.1 || decide (nx ≤ e.1)) = true := by
    rw [List.all_eq_true]
    intro e he
    simp [hall e he]
  have h3 : (nx + d == nx) = false := by simp; omega
  unfold doCallB
  rw [hX]
  simp only [hr, hf, hc, h2, h3, ho, Bool.false_and, Bool.and_false, Bool.false_eq_true, if_false, if_true]
end
end Go.Abs
end
/- A law's row, from the evaluator's answer, where a table of whole numbers is a package-level variable. -/
set_option linter.unusedVariables false
noncomputable section
namespace Go.Abs
open Go Go.ChangeShapes Go.WideShapes Go.ChangeAt Go.RowKit

theorem AtOk.env {E E' : Env} {w : World} {nx : Nat} {K : Nat → Prop} (hβ : E.β = E'.β) (hp : ∀ k, E.Gp k → E'.Gp k) (hb : ∀ k, E.Gb k → E'.Gb k) : ∀ {b : At}, AtOk E w nx K b → AtOk E' w nx K b := by
  have hf : ∀ {pm A cs}, FOk E w K pm A cs → FOk E' w K pm A cs := by
    intro pm A cs ⟨h1, h2, h3⟩
    refine ⟨h1, fun j x hx => ?_, fun hc => ⟨?_, (h3 hc).2⟩⟩
    · obtain ⟨u, hu, hm⟩ := h2 j x hx
      exact ⟨u, hu, hβ ▸ hm⟩
    · have := (h3 hc).1
      cases pm with
      | true => exact hp _ this
      | false => exact hb _ this
  intro b h
  cases b with
  | p b => exact h
  | i pm A cap n cs =>
    refine ⟨h.1, ?_⟩
    have h2 := h.2
    cases A with
    | none => exact h2
    | some a => exact hf h2
  | f pm A cs => exact hf h

def tabL (l : List Int) : List V := l.map fun x => V.int .i64 x
theorem rowsL_tabL (l : List Int) : rowsL (tabL l) = [] := by
  unfold tabL; induction l with
  | nil => rfl
  | cons x l ih => simp [rowsL, rows, ih]
theorem atomsL_tabL (l : List Int) : atomsL (tabL l) = [] := by
  unfold tabL; induction l with
  | nil => rfl
  | cons x l ih => simp [atomsL, atoms, ih]
theorem noRowL_tabL (l : List Int) : noRowL (tabL l) = true := by
  unfold tabL; induction l with
  | nil => rfl
  | cons x l ih => simp [noRowL, noRow, ih]
/-- A table of whole numbers, xs the program's start lays it. -/
def Table (W : World) (g : Nat) (l : List Int) : Prop := ∀ (j : Nat) (x : Int), l[j]? = some x → W.cell? ⟨g, j, none⟩ = some (.int .i64 x)
variable {P : Program} {H : Hint} {W : World} {K : Type} {enc : TypeId × Value → K}
def envG (w : World) (g : Nat) : Env := ⟨fun _ => 0, fun k => w.heap.size ≤ k ∨ k = g, fun _ => True⟩
theorem rootG_rows (g : Nat) (l : List Int) : rowsD 0 (emptyS [] 0) [.ip true ⟨g, 0, none⟩ (tabL l)] = [] := by
  simp [rowsD, slotRows, boxRows, rowsL, rows, emptyS, rowsL_tabL]
theorem rootG_keys (g : Nat) (l : List Int) : keysD 0 (emptyS [] 0) [.ip true ⟨g, 0, none⟩ (tabL l)] = [] := by
  unfold keysD; rw [rootG_rows]; rfl
theorem rootG_inv {g : Nat} {l : List Int} (h : Table W g l) : Inv (envG W g) 0 (emptyS [] 0) [.ip true ⟨g, 0, none⟩ (tabL l)] W := by
  refine ⟨fun e he => ?_, ?_, fun b hb => ?_, fun e he => ?_, ?_, fun k hk => ?_, fun k hk => .inl hk, fun k hk => trivial⟩
  · rw [rootG_rows] at he; cases he
  · rw [rootG_keys]; exact List.nodup_nil
  · have hb' : b = .f true ⟨g, 0, none⟩ (tabL l) := by
      simpa [atomsD, slotAtoms, boxAtoms, atomsL, atoms, emptyS, atomsL_tabL] using hb
    subst hb'
    refine ⟨noRowL_tabL l, fun j x hx => ?_, fun _ => ⟨.inr rfl, fun hk => by rw [rootG_keys] at hk; cases hk⟩⟩
    unfold tabL at hx
    rw [List.getElem?_map, Option.map_eq_some_iff] at hx
    obtain ⟨y, hy, rfl⟩ := hx
    refine ⟨.int .i64 y, ?_, .inl rfl⟩
    have e : (⟨g, 0, none⟩ : Addr).add j = ⟨g, j, none⟩ := by
      unfold Addr.add
      split
      · rename_i h; subst h; rfl
      · simp
    rw [e]; exact h j y hy
  · cases he
  · simp [emptyS]
  · rw [rootG_keys] at hk; cases hk

/-- A call from outside that answers with a truth value. -/
theorem law_callsG {f : Nat} {fn : Func} {c : Code} {xs : List V} {us : List Value} {n : Nat} {bb : Bool} {m2 : List (Nat × Box)} {nx2 : Nat} {g : Nat} {l : List Int} (hm : P.follows .mixedOrders = true) (hX : XSm H) (hP : progB P H = true) (hCX : CalleeOk P H (CX H)) (hG : ∀ g' cs, H.G g' = some cs → g' = g ∧ cs = tabL l) (hT : Table W g l)
    (hf : P.funcs[f]? = some fn) (hb : fn.body = some c) (hpr : ∀ D, PRL (fun _ => 0) D xs us) (hfl : noRowL xs = true) (hat : ∀ b ∈ atomsL xs, AtOk (rootEnv W) W 0 (fun _ => False) b)
    (hev : evCall P H n f xs [] 0 = some (.bool bb, m2, nx2)) : Calls P f us.toArray W fun e W' => e = .returned (.bool bb) ∧ Below W.heap.size W W' := by
  have hgood := evCall_ok hm hX hP hCX n f xs [] 0 _ _ _ hev (envG W g) _ W us (rootG_inv hT) hpr hfl
    (fun b hb => (AtOk.env (E := rootEnv W) (E' := envG W g) rfl (fun k hk => .inl hk) (fun k hk => hk) (hat b hb)).mono (Nat.le_refl _) (fun k hk => by rw [rootG_keys] at hk; cases hk))
    (fun g' cs h => by obtain ⟨rfl, rfl⟩ := hG g' cs h; exact List.mem_cons_self)
  rcases hgood with ⟨_, h⟩ | ⟨v, w', h, _⟩
  · refine h.mono fun e W' he => ?_
    cases e with
    | returned v =>
      obtain ⟨E', r', m2', s1, s2, hB, hpr', hT⟩ := he
      cases s1
      have : v = .bool bb := hpr' (emptyS [] 0)
      subst this
      refine ⟨rfl, hT.os, hT.tape, hT.out, hT.size, fun k hk => hT.same k hk ?_⟩
      rw [rootG_keys]; intro h; cases h
    | panicked c => exact he.elim
    | outgrown => exact he.elim
  · have hgood : H.good f = true := by
      cases n with
      | zero => cases hev
      | succ n =>
        unfold evCall at hev
        split at hev
        · cases hev
        · rename_i hg; simpa using hg
    obtain ⟨_, hn⟩ := progB_spec hP hgood hf hb
    rw [enter_run hf hb hn] at h
    cases h

/-- THE ROW's STEP, for a law. -/
theorem law_contractG {f : Nat} {fn : Func} {c : Code} {s : ChangeSpec} {apart fresh handsOn : Bool} {m : Nat} {tb : TypeId} {g : Nat} {l : List Int} (hm : P.follows .mixedOrders = true) (hX : XSm H) (hP : progB P H = true) (hCX : CalleeOk P H (CX H)) (hG : ∀ g' cs, H.G g' = some cs → g' = g ∧ cs = tabL l)
    (hf : P.funcs[f]? = some fn) (hb : fn.body = some c) (hl : laidOutB P = true) (hts : (fn.params.toList.all fun t => shB P m t && P.readableRec t && decide (t < P.types.size)) = true) (hvars : s.vars = []) (hres : fn.resultTypes = #[tb]) (htb : P.underlying tb = some .bool)
    (hs : ∀ ds : List (DataW K), ds.length = fn.params.size → s.fn K ds = { results := [.lit (.bool true)], args := ds })
    (hev : ∀ xs, ArgShL P m fn.params.toList xs → ∃ n m2 nx2, evCall P H n f xs [] 0 = some (.bool true, m2, nx2))
    (W : World) (hT : Table W g l) (base : Nat) (args : Array Value) (ds gs : List (DataW K)) (before : List MemPlace) (hval : ∀ (j : Nat) t v, fn.params[j]? = some t → args[j]? = some v → Value.okWide P W .any base t v)
    (hW : DataW.Whole enc P fn.params.toList s.vars apart W args.toList ds gs before) :
    Calls P f args W fun e W' => ∃ v, e = .returned v ∧ s.post enc P fn apart fresh handsOn false W args v W' := by
  have hW' := hW
  obtain ⟨p, q, hA, hV, hbe, hfz, hnd⟩ := hW
  rw [hvars] at hV
  obtain ⟨hgs, hq⟩ := trodVars_none hV
  rw [List.all_eq_true] at hts
  have hts1 : ∀ t ∈ fn.params.toList, shB P m t = true ∧ P.readableRec t = true ∧ t < P.types.size := fun t ht => by
    have := hts t ht
    simp only [Bool.and_eq_true, decide_eq_true_eq] at this
    exact ⟨this.1.1, this.1.2, this.2⟩
  obtain ⟨xs, a1, a2, a3, a4⟩ := args_read (fun t ht => (hts1 t ht).1) (fun j t v ht hv => hval j t v (by rw [← Array.getElem?_toList]; exact ht) (by rw [← Array.getElem?_toList]; exact hv)) hA
  obtain ⟨n, m2, nx2, h⟩ := hev xs a1
  have hcall := law_callsG (W := W) hm hX hP hCX hG hT hf hb a2 a3 a4 h
  rw [Array.toArray_toList] at hcall
  refine hcall.mono fun e W' ⟨he, hbel⟩ => ⟨.bool true, he, ?_⟩
  have hdl : ds.length = fn.params.size := by
    have key : ∀ {ts : List TypeId} {vs : List Value} {ds : List (DataW K)} {ps : List MemPlace}, DataW.TrodAll enc P W 0 (fun _ => true) true ts vs ds ps → ds.length = ts.length := by
      intro ts
      induction ts with
      | nil => intro vs ds ps h; cases vs <;> cases ds <;> simp [DataW.TrodAll] at h ⊢
      | cons t ts ih =>
        intro vs ds ps h
        obtain ⟨v, vs', d, ds', p, q, rfl, rfl, rfl, h1, h2⟩ := trodAll_cons h
        simp [ih h2]
    simpa using key hA
  have hsf := hs (ds ++ gs) (by rw [hgs, List.append_nil]; exact hdl)
  refine ⟨ds, gs, before, [], p, [], hW', ?_, ?_, ?_, hbel.frame _, fun h => by cases h⟩
  · rw [hsf, hres]
    exact trodAll_mk1 (shut_bool htb true)
  · rw [hsf, hgs, List.append_nil]
    exact trodAll_below hl hbel (fun t ht => (hts1 t ht).2) hA
  · rw [hsf, hvars]
    exact rfl
end Go.Abs
end
/- Reckoning with the evaluator: at a branch the condition alone is reckoned first. -/
set_option linter.unusedVariables false
noncomputable section
namespace Go.Abs
open Go
@[congr] theorem condE_congr {x y : Option V} (A B : Prop) (h : x = y) : condE x A B = condE y A B := by rw [h]
/-- A piece that ends as it should, cut off. -/
theorem EvP.cutN {P : Program} {H : Hint} {C : Callee} {f k : Nat} {c : Code} {D : St} {Q : Ex → St → Prop} (K : St → Prop) (h1 : EvP P H C f k c D (thenE K fun _ _ => False)) (h2 : ∀ D1, K D1 → Q .norm D1) : EvP P H C f k c D Q :=
  h1.mono fun e D1 h => by
    cases e with
    | norm => exact h2 D1 h
    | ret => exact h.elim
    | exit i => exact h.elim
end Go.Abs
end
