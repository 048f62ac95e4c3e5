/- Joined: AbsWA AbsYA AbsYB AbsYC. -/
import Derived.Test.YteolodabmljaaaaAbs8
set_option linter.all false
/- Bit vectors: plain laws; no program in sight. -/
set_option linter.unusedVariables false
namespace Go.Bits

/-- The bit at an index, or 0 past the end. -/
def at_ (l : List Nat) (i : Nat) : Nat := l[i]?.getD 0
def Bit (l : List Nat) : Prop := ∀ x ∈ l, x ≤ 1
theorem Bit.at_ {l : List Nat} (h : Bit l) (i : Nat) : at_ l i ≤ 1 := by
  unfold Go.Bits.at_
  cases hi : l[i]? with
  | none => simp
  | some x => exact h x (List.mem_of_getElem? hi)
/-- The value of the lowest i bits. -/
def up (f : Nat → Nat) : Nat → Nat
  | 0 => 0
  | i + 1 => up f i + f i * 2 ^ i
theorem up_congr {f g : Nat → Nat} : ∀ {i : Nat}, (∀ j, j < i → f j = g j) → up f i = up g i
  | 0, _ => rfl
  | i + 1, h => by rw [up, up, up_congr fun j hj => h j (by omega), h i (by omega)]
theorem up_lt {f : Nat → Nat} (h : ∀ j, f j ≤ 1) : ∀ i, up f i < 2 ^ i
  | 0 => by simp [up]
  | i + 1 => by
    have h1 := up_lt h i
    have h2 : f i * 2 ^ i ≤ 1 * 2 ^ i := Nat.mul_le_mul_right _ (h i)
    rw [up, Nat.pow_succ]; omega
theorem up_zero {f : Nat → Nat} : ∀ {i : Nat}, (∀ j, j < i → f j = 0) → up f i = 0
  | 0, _ => rfl
  | i + 1, h => by rw [up, up_zero fun j hj => h j (by omega), h i (by omega)]; simp
theorem up_add {f : Nat → Nat} (i : Nat) : ∀ j, up f (i + j) = up f i + 2 ^ i * up (fun q => f (i + q)) j
  | 0 => by simp [up]
  | j + 1 => by
    rw [← Nat.add_assoc, up, up_add i j, up, Nat.pow_add, Nat.mul_add, Nat.add_assoc]
    congr 2
    rw [Nat.mul_left_comm]
/-- A bit vector's value. -/
def num (l : List Nat) : Nat := up (at_ l) l.length
theorem num_lt {l : List Nat} (h : Bit l) : num l < 2 ^ l.length := up_lt h.at_ _
theorem at_ge {l : List Nat} {i : Nat} (h : l.length ≤ i) : at_ l i = 0 := by unfold at_; rw [List.getElem?_eq_none h]; rfl
theorem up_num {l : List Nat} {m : Nat} (h : l.length ≤ m) : up (at_ l) m = num l := by
  obtain ⟨k, rfl⟩ : ∃ k, m = l.length + k := ⟨m - l.length, by omega⟩
  rw [up_add, up_zero (i := k) (fun j _ => at_ge (by omega))]; simp [num]
/-- Two functions of bits with the same value have the same bits. -/
theorem up_inj {f g : Nat → Nat} (hf : ∀ j, f j ≤ 1) (hg : ∀ j, g j ≤ 1) : ∀ {i : Nat}, up f i = up g i → ∀ j, j < i → f j = g j
  | 0, _, j, hj => by omega
  | i + 1, h, j, hj => by
    rw [up, up] at h
    have h1 := up_lt hf i
    have h2 := up_lt hg i
    have q1 := hf i
    have q2 := hg i
    have e : f i = g i := by
      rcases Nat.lt_or_ge (f i) (g i) with hlt | hge
      · have a : f i = 0 := by omega
        have b : g i = 1 := by omega
        rw [a, b] at h; omega
      · rcases Nat.lt_or_ge (g i) (f i) with hlt | hge2
        · have a : g i = 0 := by omega
          have b : f i = 1 := by omega
          rw [a, b] at h; omega
        · omega
    rw [e] at h
    by_cases hji : j = i
    · subst hji; exact e
    · exact up_inj hf hg (Nat.add_right_cancel h) j (by omega)
theorem num_inj {a b : List Nat} (ha : Bit a) (hb : Bit b) (hl : a.length = b.length) (h : num a = num b) : a = b := by
  refine List.ext_getElem hl fun i h1 h2 => ?_
  have := up_inj ha.at_ hb.at_ (i := a.length) (by rw [num, num, ← hl] at h; exact h) i h1
  simpa [at_, h1, h2] using this
theorem at_snoc_lt {l : List Nat} {x i : Nat} (h : i < l.length) : at_ (l ++ [x]) i = at_ l i := by unfold at_; rw [List.getElem?_append_left h]
theorem at_snoc {l : List Nat} {x : Nat} : at_ (l ++ [x]) l.length = x := by unfold at_; simp
theorem num_snoc (l : List Nat) (x : Nat) : num (l ++ [x]) = num l + x * 2 ^ l.length := by
  have : (l ++ [x]).length = l.length + 1 := by simp
  rw [num, this, up, at_snoc, up_congr (g := at_ l) fun j hj => at_snoc_lt hj]; rfl
theorem Bit.snoc {l : List Nat} {x : Nat} (h : Bit l) (hx : x ≤ 1) : Bit (l ++ [x]) := fun y hy => by
  rcases List.mem_append.1 hy with hy | hy
  · exact h y hy
  · have : y = x := by simpa using hy
    omega
theorem Bit.nil : Bit [] := fun y hy => by cases hy
/-- Width: as many bits as are needed, and one for 0. -/
def IsWidth (n w : Nat) : Prop := 1 ≤ w ∧ n < 2 ^ w ∧ (w = 1 ∨ 2 ^ (w - 1) ≤ n)
theorem IsWidth.unique {n v w : Nat} (h1 : IsWidth n v) (h2 : IsWidth n w) : v = w := by
  have key : ∀ {v w : Nat}, IsWidth n v → IsWidth n w → ¬ v < w := by
    intro v w h1 h2 hlt
    rcases h2.2.2 with h | h
    · have := h1.1; omega
    · have : 2 ^ v ≤ 2 ^ (w - 1) := Nat.pow_le_pow_right (by omega) (by omega)
      have := h1.2.1
      omega
  have := key h1 h2
  have := key h2 h1
  omega
theorem IsWidth.le_iff {n v w : Nat} (h : IsWidth n v) (hw : 1 ≤ w) : v ≤ w ↔ n < 2 ^ w := by
  constructor
  · intro hv
    exact Nat.lt_of_lt_of_le h.2.1 (Nat.pow_le_pow_right (by omega) hv)
  · intro hn
    rcases h.2.2 with h1 | h1
    · omega
    · rcases Nat.lt_or_ge w v with hlt | hge
      · have : 2 ^ w ≤ 2 ^ (v - 1) := Nat.pow_le_pow_right (by omega) (by omega)
        omega
      · exact hge
/-- The bits of a number. -/
theorem up_bits (n : Nat) : ∀ w, up (fun i => n / 2 ^ i % 2) w = n % 2 ^ w
  | 0 => by simp [up, Nat.mod_one]
  | w + 1 => by
    rw [up, up_bits n w, Nat.pow_succ, Nat.mod_mul, Nat.mul_comm (n / 2 ^ w % 2)]
/-- One round of an adder. -/
theorem add_round {A B o c x y v s : Nat} {i : Nat} (h : v + c * 2 ^ i = A + B) (hs : s = x + y + c) : (v + s % 2 * 2 ^ i) + s / 2 * 2 ^ (i + 1) = (A + x * 2 ^ i) + (B + y * 2 ^ i) := by
  have hdm : s % 2 + s / 2 * 2 = x + y + c := by omega
  rw [Nat.pow_succ]
  have e : s % 2 * 2 ^ i + s / 2 * (2 ^ i * 2) = x * 2 ^ i + y * 2 ^ i + c * 2 ^ i := by
    rw [Nat.mul_comm (2 ^ i) 2, ← Nat.mul_assoc, ← Nat.add_mul, hdm, Nat.add_mul, Nat.add_mul]
  omega
/-- One round of a subtractor: d is the difference's bit, c' the new borrow. -/
theorem sub_round {A B v c x y d c' : Nat} {i : Nat} (h : v + B = A + c * 2 ^ i) (hd : d + y + c = x + 2 * c') : (v + d * 2 ^ i) + (B + y * 2 ^ i) = (A + x * 2 ^ i) + c' * 2 ^ (i + 1) := by
  rw [Nat.pow_succ]
  have e : d * 2 ^ i + y * 2 ^ i + c * 2 ^ i = x * 2 ^ i + c' * (2 ^ i * 2) := by
    rw [← Nat.add_mul, ← Nat.add_mul, hd, Nat.add_mul, Nat.mul_comm 2 c', Nat.mul_assoc, Nat.mul_comm 2]
  omega
end Go.Bits
/- Reckoning with the evaluator: more rules; answers with a named bound. -/
set_option linter.unusedVariables false
noncomputable section
namespace Go.Abs
open Go

section
variable {P : Program} {H : Hint} {C : Callee} {f k : Nat}
/-- A function answers, from a number of rounds on. -/
def AnsN (N : Nat) (P : Program) (H : Hint) (f : Nat) (xs : List V) (r : V) : Prop := ∀ n, N ≤ n → ∀ nx, evCall P H n f xs [] nx = some (r, [], nx)
theorem AnsN.le {N M : Nat} {xs : List V} {r : V} (h : AnsN N P H f xs r) (hm : N ≤ M) : AnsN M P H f xs r := fun n hn => h n (by omega)
theorem AnsN.gen {N : Nat} {fn : Func} {c : Code} {xs : List V} {r : V} (hg : H.good f = true) (hf : P.funcs[f]? = some fn) (hb : fn.body = some c) (hfr : H.fr f = false) (hr : ptrs r = [])
    (h : ∀ k, N ≤ k → ∀ nx, EvP P H (evCall P H k) f k c (entryS xs [] nx) (fun e D => (e = .norm ∨ e = .ret) ∧ optE (evRes P D fn.results.toList) fun q => packRes q.1 = r ∧ ∀ b ∈ q.2.m, nx ≤ b.1)) : AnsN (N + 1) P H f xs r := by
  intro n hn nx
  obtain ⟨k, rfl⟩ : ∃ k, n = k + 1 := ⟨n - 1, by omega⟩
  obtain ⟨e, D, h1, h2, hq⟩ := h k (by omega) nx
  obtain ⟨⟨rs, D1⟩, hres', hrs, h4⟩ := optE_elim hq
  simp only at hrs h4
  unfold evCall
  simp only [hg, hf, hb]
  have h1' : evCode P H (evCall P H k) f k c { s := fun i => match xs[i]? with | some v => v | none => .dead, m := [], nx := nx } = some (e, D) := h1
  have hfil : D1.m.filter (fun e => decide (e.1 < nx)) = [] := by
    rw [List.filter_eq_nil_iff]
    intro b hb
    have := h4 b hb
    simp; omega
  rw [if_neg (by simp)]
  generalize hq : evCode P H (evCall P H k) f k c _ = q
  have : q = some (e, D) := by rw [← hq]; exact h1'
  subst this
  simp only [if_pos h2, hres', hfr, Bool.false_and, Bool.false_eq_true, if_false, hfil, hrs, hr, List.flatMap_nil, List.append_nil, List.any_nil]
theorem AnsN.of {N : Nat} {fn : Func} {c : Code} {xs : List V} {r : V} {t : Nat} (hg : H.good f = true) (hf : P.funcs[f]? = some fn) (hb : fn.body = some c) (hres : fn.results = #[.tmp t]) (hfr : H.fr f = false) (hr : plainV r = true)
    (h : ∀ k, N ≤ k → ∀ nx, EvP P H (evCall P H k) f k c (entryS xs [] nx) (fun e D => (e = .norm ∨ e = .ret) ∧ D.s t = r ∧ ∀ b ∈ D.m, nx ≤ b.1)) : AnsN (N + 1) P H f xs r := by
  refine AnsN.gen hg hf hb hfr ?_ fun k hk nx => ?_
  · cases r <;> simp only [plainV] at hr <;> first | rfl | (cases hr; done) | simpa [ptrs] using hr
  · obtain ⟨e, D, h1, h2, h3, h4⟩ := h k hk nx
    obtain ⟨⟨D1, q1, q2, q3⟩, q4⟩ := plain_settle h3 hr
    refine ⟨e, D, h1, h2, ?_⟩
    rw [hres]
    simp only [evRes, q1, optE_some, packRes, true_and]
    rw [q2]
    exact h4
theorem EvP.seqG {D : St} {a b : Code} {Φ : Ex → St → Prop} (K : St → Prop) (h1 : EvP P H C f k a D (thenE K Φ)) (h2 : ∀ D1, K D1 → EvP P H C f k b D1 Φ) : EvP P H C f k (.seq a b) D Φ :=
  EvP.seq (h1.mono fun e D1 h => by
    cases e with
    | norm => exact h2 D1 h
    | ret => exact h
    | exit i => exact h)

/-! ### as equations -/
def EvK (P : Program) (H : Hint) (C : Callee) (f k : Nat) (c : Code) (Φ : Ex → St → Prop) (D : St) : Prop := EvP P H C f k c D Φ
theorem EvK_app (c : Code) (Φ : Ex → St → Prop) (D : St) : EvK P H C f k c Φ D = EvP P H C f k c D Φ := rfl
def condE (x : Option V) (A B : Prop) : Prop := match x with | some (.bool t) => if t then A else B | _ => False
theorem condE_b (t : Bool) (A B : Prop) : condE (some (.bool t)) A B = if t then A else B := rfl
def isN (o : Option Pl) : Prop := o = none
theorem ev_skip (D : St) (Φ : Ex → St → Prop) : EvP P H C f k .skip D Φ = Φ .norm D := propext ⟨fun ⟨e, D', h, h2⟩ => by cases h; exact h2, EvP.skip⟩
theorem ev_ret (D : St) (Φ : Ex → St → Prop) : EvP P H C f k .ret D Φ = Φ .ret D := propext ⟨fun ⟨e, D', h, h2⟩ => by cases h; exact h2, EvP.ret⟩
theorem ev_exit (i : Nat) (D : St) (Φ : Ex → St → Prop) : EvP P H C f k (.exit i) D Φ = Φ (.exit i) D := propext ⟨fun ⟨e, D', h, h2⟩ => by cases h; exact h2, EvP.exit⟩
theorem ev_seq (a b : Code) (D : St) (Φ : Ex → St → Prop) : EvP P H C f k (.seq a b) D Φ = EvP P H C f k a D (thenE (EvK P H C f k b Φ) Φ) := propext ⟨fun ⟨e, D', h, h2⟩ => by
  unfold evCode at h
  cases ha : evCode P H C f k a D with
  | none => rw [ha] at h; cases h
  | some q =>
    obtain ⟨e1, D1⟩ := q
    rw [ha] at h
    refine ⟨e1, D1, ha, ?_⟩
    cases e1 with
    | norm => exact ⟨e, D', h, h2⟩
    | ret => cases h; exact h2
    | exit i => cases h; exact h2, fun h => EvP.seq h⟩
theorem ev_region (id : Nat) (ops : Array Oper) (D : St) (Φ : Ex → St → Prop) : EvP P H C f k (.region id ops false) D Φ = optE (evOps P H C ops (H.fz f id) 0 ops.toList D) (Φ .norm) := by
  refine propext ⟨fun ⟨e, D', h, h2⟩ => ?_, fun h => EvP.region h⟩
  unfold evCode at h
  simp only [Bool.false_eq_true, if_false] at h
  split at h
  · rename_i hx; cases h; rw [hx]; exact h2
  · cases h
theorem ev_block (id : Nat) (c : Code) (D : St) (Φ : Ex → St → Prop) : EvP P H C f k (.block id c) D Φ = EvP P H C f k c D (blockE id Φ) := propext ⟨fun ⟨e, D', h, h2⟩ => by
  unfold evCode at h
  cases ha : evCode P H C f k c D with
  | none => rw [ha] at h; cases h
  | some q =>
    obtain ⟨e1, D1⟩ := q
    rw [ha] at h
    refine ⟨e1, D1, ha, ?_⟩
    cases e1 with
    | norm => cases h; exact h2
    | ret => cases h; exact h2
    | exit i =>
      simp only at h
      by_cases hi : i = id
      · rw [if_pos hi] at h; cases h; simpa [hi] using h2
      · rw [if_neg hi] at h; cases h; simpa [hi] using h2, fun h => EvP.block h⟩
theorem ev_cond (c : Operand) (a b : Code) (D : St) (Φ : Ex → St → Prop) : EvP P H C f k (.cond c a b) D Φ = condE (ev H D c) (EvP P H C f k a D Φ) (EvP P H C f k b D Φ) := by
  refine propext ⟨fun ⟨e, D', h, h2⟩ => ?_, fun h => ?_⟩
  · unfold evCode at h
    split at h
    · rename_i t ht
      rw [ht, condE_b]
      cases t with
      | true => exact ⟨e, D', h, h2⟩
      | false => exact ⟨e, D', h, h2⟩
    · cases h
  · unfold condE at h
    split at h
    · rename_i t ht
      cases t with
      | true => obtain ⟨e, D', h1, h2⟩ := h; exact ⟨e, D', by unfold evCode; rw [ht]; exact h1, h2⟩
      | false => obtain ⟨e, D', h1, h2⟩ := h; exact ⟨e, D', by unfold evCode; rw [ht]; exact h1, h2⟩
    · exact h.elim
end
section
variable {P : Program} {H : Hint} {C : Callee} {f k : Nat} {ops : Array Oper} {fz mu : Nat → Bool}
theorem draw_cut (l1 l2 : List Nat) (K : St → Prop) {Q : St → Prop} : ∀ {D : St}, optE (evDraw P H C ops fz mu l1 D) K → (∀ D1, K D1 → optE (evDraw P H C ops fz mu l2 D1) Q) → optE (evDraw P H C ops fz mu (l1 ++ l2) D) Q := by
  induction l1 with
  | nil => intro D h1 h2; exact h2 D h1
  | cons i l ih =>
    intro D h1 h2
    simp only [List.cons_append]
    unfold evDraw at h1 ⊢
    revert h1
    split
    · split
      · split
        · split
          · exact fun h1 => ih h1 h2
          · exact fun h1 => h1
        · exact fun h1 => h1
      · exact fun h1 => ih h1 h2
      · exact fun h1 => h1
    · exact fun h1 => h1
theorem EvP.drawCut {D : St} {id : Nat} {Φ : Ex → St → Prop} (l1 l2 : List Nat) (hl : planOf H f id ops = l1 ++ l2) (K : St → Prop) (h1 : optE (evDraw P H C ops (H.fz f id) (muOf H f id ops) l1 D) K)
    (h2 : ∀ D1, K D1 → optE (evDraw P H C ops (H.fz f id) (muOf H f id ops) l2 D1) (Φ .norm)) (ht : H.tree f id = none := by rfl) : EvP P H C f k (.region id ops true) D Φ := by
  refine EvP.draw ?_ ht
  rw [hl]
  exact draw_cut l1 l2 K h1 h2
theorem optE_mono {α : Type} {x : Option α} (K : α → Prop) {Q : α → Prop} (h1 : optE x K) (h2 : ∀ y, K y → Q y) : optE x Q := by
  cases x with
  | none => exact h1
  | some y => exact h2 y h1
theorem ev_draw (ht : ∀ f id, H.tree f id = none) (id : Nat) (D : St) (Φ : Ex → St → Prop) : EvP P H C f k (.region id ops true) D Φ = optE (evDraw P H C ops (H.fz f id) (muOf H f id ops) (planOf H f id ops) D) (Φ .norm) := by
  refine propext ⟨fun ⟨e, D', h, h2⟩ => ?_, fun h => EvP.draw h (ht _ _)⟩
  unfold evCode at h
  simp only [ht, if_true] at h
  split at h
  · rename_i hx; cases h; rw [hx]; exact h2
  · cases h
end
theorem clear_none (D : St) : clear none D = D := rfl
/-- Words, as they lie in memory. -/
def uL (l : List Nat) : List V := l.map fun (x : Nat) => V.int .u64 (x : Int)
@[simp] theorem uL_length (l : List Nat) : (uL l).length = l.length := by simp [uL]
@[simp] theorem uL_getElem (l : List Nat) (i : Nat) (h : i < (uL l).length) : (uL l)[i] = .int .u64 ((l[i]'(by simpa using h) : Nat) : Int) := by simp [uL]
theorem uL_append (a b : List Nat) : uL (a ++ b) = uL a ++ uL b := by simp [uL]
@[simp] theorem ptrsL_uL (l : List Nat) : ptrsL (uL l) = [] := by
  unfold uL; induction l with
  | nil => rfl
  | cons x l ih => simp only [List.map_cons, ptrsL, ptrs, ih, List.append_nil]
@[simp] theorem frzL_uL (pm : Bool) (l : List Nat) : frzL pm (uL l) = uL l := by
  unfold uL; induction l with
  | nil => rfl
  | cons x l ih => simp only [List.map_cons, frzL, frz, ih]
@[simp] theorem noBorL_uL (l : List Nat) : noBorL (uL l) = true := by
  unfold uL; induction l with
  | nil => rfl
  | cons x l ih => simp only [List.map_cons, noBorL, noBor, ih, Bool.and_self]
theorem wrap_nat {x : Int} (h0 : 0 ≤ x) (h : x ≤ 9223372036854775807) : IntKind.i64.wrap x = x := by
  unfold IntKind.wrap
  simp [IntKind.signed, IntKind.bits]
  omega
theorem wrap_succ {q : Nat} (h : q < 9223372036854775807) : IntKind.i64.wrap ((q : Int) + 1) = ((q + 1 : Nat) : Int) := by
  rw [wrap_nat (by omega) (by omega)]; omega
theorem wrapu {x : Int} (h0 : 0 ≤ x) (h : x < 18446744073709551616) : IntKind.u64.wrap x = x := by
  unfold IntKind.wrap
  simp [IntKind.signed, IntKind.bits]
  omega
end Go.Abs
end
/- Reckoning with the evaluator: its words for simp. -/
set_option linter.unusedVariables false
noncomputable section
namespace Go.Abs
open Go
attribute [simp] evOps evDraw evOp ev evL evI evParts settleP fillV structPlace rep ofVal ofCell ofCells wantedV settle settleL St.lay St.put noRow noRowL killAll kill killL view viewL doBuiltin appendV bring copyV lenV minmax minmaxA rs take takeF look go goSet setAt sub subL
attribute [simp] capless caplessV takeZ cpD loadV loadAt storeAt canStore target okAddr okPart partV moveV cutV capM takeC bin isSh isNil eq0 ne0 un V.scalar V.cells cellIn solid solidL frz frzL noBor noBorL ptrs ptrsL lend lendL lendArgs hasRef hasRefL lendsB doCall reach getBox setBox St.newAt St.new killB killBL othersM litB mutB quietB planOf muOf strOf packRes evRes
attribute [simp] hitRef hitLoc pre List.range List.range.loop
attribute [simp] clear_none ev_skip ev_ret ev_exit ev_seq ev_region ev_block ev_cond EvK_app condE_b
section
variable (k : IntKind) (a b : Int)
@[simp] theorem int_add : intOp .add k a b = some (.int k (k.wrap (a + b))) := rfl
@[simp] theorem int_sub : intOp .sub k a b = some (.int k (k.wrap (a - b))) := rfl
@[simp] theorem int_mul : intOp .mul k a b = some (.int k (k.wrap (a * b))) := rfl
@[simp] theorem int_eql : intOp .eql k a b = some (.bool (a == b)) := rfl
@[simp] theorem int_neq : intOp .neq k a b = some (.bool (a != b)) := rfl
@[simp] theorem int_lss : intOp .lss k a b = some (.bool (decide (a < b))) := rfl
@[simp] theorem int_leq : intOp .leq k a b = some (.bool (decide (a ≤ b))) := rfl
@[simp] theorem int_gtr : intOp .gtr k a b = some (.bool (decide (a > b))) := rfl
@[simp] theorem int_geq : intOp .geq k a b = some (.bool (decide (a ≥ b))) := rfl
end
theorem int_quo {k : IntKind} {a b : Nat} (hb : b ≠ 0) (h : k.wrap ((a / b : Nat) : Int) = ((a / b : Nat) : Int)) : intOp .quo k (a : Int) (b : Int) = some (.int k ((a / b : Nat) : Int)) := by
  have h0 : ¬ (b : Int) = 0 := by omega
  show (if (b : Int) = 0 then none else some (V.int k (k.wrap ((a : Int).tdiv b)))) = _
  rw [if_neg h0, ← Int.ofNat_tdiv, h]
theorem int_rem {k : IntKind} {a b : Nat} (hb : b ≠ 0) : intOp .rem k (a : Int) (b : Int) = some (.int k ((a % b : Nat) : Int)) := by
  have h0 : ¬ (b : Int) = 0 := by omega
  show (if (b : Int) = 0 then none else some (V.int k ((a : Int).tmod b))) = _
  rw [if_neg h0, ← Int.ofNat_tmod]
theorem int_quo2 {a : Nat} (h : a < 18446744073709551616) : intOp .quo .u64 (a : Int) 2 = some (.int .u64 ((a / 2 : Nat) : Int)) := int_quo (b := 2) (by omega) (wrapu (by omega) (by omega))
theorem int_rem2 {a : Nat} : intOp .rem .u64 (a : Int) 2 = some (.int .u64 ((a % 2 : Nat) : Int)) := int_rem (b := 2) (by omega)
theorem int_and1 {a : Nat} (h : a < 18446744073709551616) : intOp .and .u64 (a : Int) 1 = some (.int .u64 ((a % 2 : Nat) : Int)) := by
  show some (V.int .u64 (IntKind.u64.wrap ((BitVec.ofInt IntKind.u64.bits (a : Int) &&& BitVec.ofInt IntKind.u64.bits 1).toNat : Int))) = _
  have e : (BitVec.ofInt IntKind.u64.bits (a : Int) &&& BitVec.ofInt IntKind.u64.bits 1).toNat = a % 2 := by
    have hb : IntKind.u64.bits = 64 := rfl
    rw [BitVec.toNat_and]
    simp only [hb, BitVec.toNat_ofInt]
    have h1 : (((a : Int) % ((2 ^ 64 : Nat) : Int))).toNat = a := by omega
    have h2 : ((1 : Int) % ((2 ^ 64 : Nat) : Int)).toNat = 1 := by decide
    rw [h1, h2, Nat.and_one_is_mod]
  rw [e, wrapu (by omega) (by omega)]
theorem sh_shr {a i : Nat} (hi : i ≤ 64) : shOp .shr .u64 (a : Int) (i : Int) = some (.int .u64 ((a / 2 ^ i : Nat) : Int)) := by
  have h0 : ¬ (i : Int) < 0 := by omega
  show (if (i : Int) < 0 then none else some (V.int .u64 ((a : Int).fdiv (2 ^ (min (i : Int).toNat IntKind.u64.bits))))) = _
  have hb : IntKind.u64.bits = 64 := rfl
  rw [if_neg h0, hb, Int.toNat_natCast, Nat.min_eq_left hi]
  congr 2
  rw [Int.fdiv_eq_ediv_of_nonneg _ (by exact_mod_cast Nat.zero_le _)]
  norm_cast
end Go.Abs
end
/- What a law's arguments can be: trees read. -/
set_option linter.unusedVariables false
noncomputable section
namespace Go.Abs
open Go

theorem parse {α : Type} (enc : α → List V) (sz : Nat) (Q : α → Prop) : ∀ (n : Nat) (cs : List V), cs.length = n * sz → (∀ i, i < n → ∃ a, Q a ∧ (cs.drop (i * sz)).take sz = enc a) → ∃ l : List α, l.length = n ∧ cs = l.flatMap enc ∧ ∀ x ∈ l, Q x
  | 0, cs, h, _ => ⟨[], rfl, by simpa using h, by simp⟩
  | n + 1, cs, h, hh => by
    obtain ⟨a, ha, he⟩ := hh 0 (by omega)
    rw [Nat.zero_mul, List.drop_zero] at he
    obtain ⟨l, h1, h2, h3⟩ := parse enc sz Q n (cs.drop sz) (by rw [List.length_drop, h, Nat.succ_mul]; omega) fun i hi => by
      obtain ⟨b, hb, hbe⟩ := hh (i + 1) (by omega)
      refine ⟨b, hb, ?_⟩
      rw [List.drop_drop, show sz + i * sz = (i + 1) * sz by rw [Nat.succ_mul]; omega]
      exact hbe
    refine ⟨a :: l, by simp [h1], ?_, fun x hx => ?_⟩
    · rw [List.flatMap_cons, ← he, ← h2, List.take_append_drop]
    · rcases List.mem_cons.1 hx with rfl | hx
      · exact ha
      · exact h3 x hx
theorem flat_uL (l : List Nat) : uL l = l.flatMap fun (x : Nat) => [V.int .u64 (x : Int)] := by
  unfold uL; induction l with
  | nil => rfl
  | cons x l ih => rw [List.map_cons, ih]; rfl
variable {P : Program} {k : Nat} {t e : TypeId} {vs : List V}
theorem sh_u64 (hu : P.underlying t = some (.int .u64)) (h : Sh P (k + 1) t vs) : ∃ x : Nat, x < 18446744073709551616 ∧ vs = [.int .u64 (x : Int)] := by
  unfold Sh at h
  rw [hu] at h
  obtain ⟨n, rfl, hn⟩ := h
  have hn : (decide (IntKind.u64.min ≤ n) && decide (n ≤ IntKind.u64.max)) = true := hn
  simp only [Bool.and_eq_true, decide_eq_true_eq] at hn
  have e1 : IntKind.u64.min = 0 := rfl
  have e2 : IntKind.u64.max = 18446744073709551615 := rfl
  rw [e1, e2] at hn
  exact ⟨n.toNat, by omega, by rw [show ((n.toNat : Nat) : Int) = n by omega]⟩
theorem sh_i64 (hu : P.underlying t = some (.int .i64)) (h : Sh P (k + 1) t vs) : ∃ x : Int, (-9223372036854775808 ≤ x ∧ x ≤ 9223372036854775807) ∧ vs = [.int .i64 x] := by
  unfold Sh at h
  rw [hu] at h
  obtain ⟨n, rfl, hn⟩ := h
  have hn : (decide (IntKind.i64.min ≤ n) && decide (n ≤ IntKind.i64.max)) = true := hn
  simp only [Bool.and_eq_true, decide_eq_true_eq] at hn
  have e1 : IntKind.i64.min = -9223372036854775808 := rfl
  have e2 : IntKind.i64.max = 9223372036854775807 := rfl
  rw [e1, e2] at hn
  exact ⟨n, hn, rfl⟩
theorem sh_u8 (hu : P.underlying t = some (.int .u8)) (h : Sh P (k + 1) t vs) : ∃ x : Nat, x < 256 ∧ vs = [.int .u8 (x : Int)] := by
  unfold Sh at h
  rw [hu] at h
  obtain ⟨n, rfl, hn⟩ := h
  have hn : (decide (IntKind.u8.min ≤ n) && decide (n ≤ IntKind.u8.max)) = true := hn
  simp only [Bool.and_eq_true, decide_eq_true_eq] at hn
  have e1 : IntKind.u8.min = 0 := rfl
  have e2 : IntKind.u8.max = 255 := rfl
  rw [e1, e2] at hn
  exact ⟨n.toNat, by omega, by rw [show ((n.toNat : Nat) : Int) = n by omega]⟩
theorem sh_bool (hu : P.underlying t = some .bool) (h : Sh P (k + 1) t vs) : ∃ b, vs = [.bool b] := by
  unfold Sh at h
  rw [hu] at h
  exact h
/-- A slice. -/
theorem sh_slice {α : Type} {sz : Nat} (enc : α → List V) (Q : α → Prop) (hu : P.underlying t = some (.slice e)) (ce : P.cellsOf e = sz) (he : ∀ c, Sh P k e c → ∃ a, Q a ∧ c = enc a) (h : Sh P (k + 1) t vs) :
    ∃ A cap, ∃ l : List α, l.length ≤ maxLen ∧ (∀ x ∈ l, Q x) ∧ vs = [.im false A cap l.length (l.flatMap enc)] := by
  unfold Sh at h
  rw [hu] at h
  obtain ⟨A, cap, n, cs, rfl, h1, h2, h3⟩ := h
  simp only [ce] at h2 h3
  obtain ⟨l, q1, q2, q3⟩ := parse enc sz Q n cs h2 fun i hi => he _ (h3 i hi)
  subst q1 q2
  exact ⟨A, cap, l, h1, q3, rfl⟩
theorem sh_words (hu : P.underlying t = some (.slice e)) (hue : P.underlying e = some (.int .u64)) (ce : P.cellsOf e = 1) (h : Sh P (k + 1 + 1) t vs) : ∃ A cap l, l.length ≤ maxLen ∧ (∀ x ∈ l, x < 18446744073709551616) ∧ vs = [.im false A cap l.length (uL l)] := by
  obtain ⟨A, cap, l, h1, h2, h3⟩ := sh_slice (fun x : Nat => [V.int .u64 (x : Int)]) (fun x => x < 18446744073709551616) hu ce (fun c h => sh_u64 hue h) h
  rw [← flat_uL] at h3
  exact ⟨A, cap, l, h1, h2, h3⟩
/-- An argument that is no struct. -/
theorem arg_plain {m : Nat} {x : V} (ht : ∀ fs, P.underlying t ≠ some (.struct fs)) (h : ArgSh P m t x) : Sh P m t [x] := by
  unfold ArgSh at h
  split at h
  · rename_i fs hu; exact absurd hu (ht fs)
  · exact h
theorem arg_words {m : Nat} {x : V} (hu : P.underlying t = some (.slice e)) (hue : P.underlying e = some (.int .u64)) (ce : P.cellsOf e = 1) (h : ArgSh P (m + 1 + 1) t x) : ∃ A cap l, l.length ≤ maxLen ∧ (∀ x ∈ l, x < 18446744073709551616) ∧ x = .im false A cap l.length (uL l) := by
  obtain ⟨A, cap, l, h1, h2, h3⟩ := sh_words hu hue ce (arg_plain (by intro fs; rw [hu]; simp) h)
  exact ⟨A, cap, l, h1, h2, by simpa using h3⟩
theorem arg_u64 {m : Nat} {x : V} (hu : P.underlying t = some (.int .u64)) (h : ArgSh P (m + 1) t x) : ∃ n : Nat, n < 18446744073709551616 ∧ x = .int .u64 (n : Int) := by
  obtain ⟨n, h1, h2⟩ := sh_u64 hu (arg_plain (by intro fs; rw [hu]; simp) h)
  exact ⟨n, h1, by simpa using h2⟩
theorem arg_i64 {m : Nat} {x : V} (hu : P.underlying t = some (.int .i64)) (h : ArgSh P (m + 1) t x) : ∃ n : Int, (-9223372036854775808 ≤ n ∧ n ≤ 9223372036854775807) ∧ x = .int .i64 n := by
  obtain ⟨n, h1, h2⟩ := sh_i64 hu (arg_plain (by intro fs; rw [hu]; simp) h)
  exact ⟨n, h1, by simpa using h2⟩
theorem arg_u8 {m : Nat} {x : V} (hu : P.underlying t = some (.int .u8)) (h : ArgSh P (m + 1) t x) : ∃ n : Nat, n < 256 ∧ x = .int .u8 (n : Int) := by
  obtain ⟨n, h1, h2⟩ := sh_u8 hu (arg_plain (by intro fs; rw [hu]; simp) h)
  exact ⟨n, h1, by simpa using h2⟩
theorem args1 {m : Nat} {t1 : TypeId} {xs : List V} (h : ArgShL P m [t1] xs) : ∃ x, xs = [x] ∧ ArgSh P m t1 x := by
  match xs, h with
  | [x], ⟨h1, _⟩ => exact ⟨x, rfl, h1⟩
theorem args2 {m : Nat} {t1 t2 : TypeId} {xs : List V} (h : ArgShL P m [t1, t2] xs) : ∃ x y, xs = [x, y] ∧ ArgSh P m t1 x ∧ ArgSh P m t2 y := by
  match xs, h with
  | [x, y], ⟨h1, h2, _⟩ => exact ⟨x, y, rfl, h1, h2⟩
theorem args3 {m : Nat} {t1 t2 t3 : TypeId} {xs : List V} (h : ArgShL P m [t1, t2, t3] xs) : ∃ x y z, xs = [x, y, z] ∧ ArgSh P m t1 x ∧ ArgSh P m t2 y ∧ ArgSh P m t3 z := by
  match xs, h with
  | [x, y, z], ⟨h1, h2, h3, _⟩ => exact ⟨x, y, z, rfl, h1, h2, h3⟩
end Go.Abs
end
