/- Joined: AbsXE AbsXF AbsXG AbsXH. -/
import Derived.Test.YteolodabmljaaaaAbs9
import Derived.WalkSmall
import Derived.Deep.DeepAppendRoom
set_option linter.all false
/- The seat of privitylaw02: slices.Backward, by the kit's walk. -/
set_option linter.unusedVariables false
set_option linter.unusedSimpArgs false
namespace Go.Proofs
open Go.RowKit Go.Shelf

attribute [local go_sem] Oper.semAt_some run_store_func

/-- What lies at the blocks S keeps lying. -/
structure KpP (S : Nat → Prop) (w w' : World) : Prop where
  os : w'.os = w.os
  tape : w'.tape = w.tape
  output : w'.output = w.output
  size : w.heap.size ≤ w'.heap.size
  block : ∀ k, S k → w'.heap[k]? = w.heap[k]?
theorem KpP.refl (S : Nat → Prop) (w : World) : KpP S w w := ⟨rfl, rfl, rfl, Nat.le_refl _, fun _ _ => rfl⟩
theorem KpP.trans {S : Nat → Prop} {a b c : World} (h : KpP S a b) (k : KpP S b c) : KpP S a c :=
  ⟨k.os.trans h.os, k.tape.trans h.tape, k.output.trans h.output, Nat.le_trans h.size k.size, fun i hi => (k.block i hi).trans (h.block i hi)⟩
theorem KpP.cell {S : Nat → Prop} {w w' : World} (h : KpP S w w') {p : Addr} (hb : S p.block) : w'.cell? p = w.cell? p := by
  unfold World.cell?; rw [h.block _ hb]
theorem KpP.grown {S : Nat → Prop} {a w w' : World} {row : Option Nat} (h : KpP S a w) (hg : w.grownBy w' row) (hr : ∀ k, row = some k → ¬ S k) (hs : ∀ k, S k → k < w.heap.size) : KpP S a w' :=
  ⟨hg.os.trans h.os, hg.tape.trans h.tape, hg.output.trans h.output, Nat.le_trans h.size hg.size, fun k hk => (hg.block k (hs k hk) (fun e => hr k e.symm hk)).trans (h.block k hk)⟩
theorem KpP.setCell {S : Nat → Prop} {a w : World} (h : KpP S a w) {p : Addr} (hp : ¬ S p.block) (u : Value) : KpP S a (w.setCell p u) :=
  h.trans ⟨rfl, rfl, rfl, by simp [World.setCell], fun k hk => Below.heap_setCell _ _ _ _ (fun e => hp (e ▸ hk))⟩

def down (l : List Nat) (k : Nat) : List (Nat × Nat) := (List.range k).map fun j => (l.length - 1 - j, l[l.length - 1 - j]?.getD 0)
theorem down_succ (l : List Nat) (k : Nat) : down l (k + 1) = down l k ++ [(l.length - 1 - k, l[l.length - 1 - k]?.getD 0)] := by simp [down, List.range_succ]
theorem down_length (l : List Nat) (k : Nat) : (down l k).length = k := by simp [down]
abbrev encsB (x : Nat × Nat) : Array Value := #[.int .i64 (x.1 : Int), .int .u64 (x.2 : Int)]

set_option maxRecDepth 100000 in
set_option maxHeartbeats 2000000 in
theorem back35_in (F : Fence) (n : Nat) (h35 : F.fn 35) (hro : F.round = none) (hn : 1 ≤ n) (q n₀ B : Nat) (b off cap : Nat) (hb : b < n₀) (l : List Nat) (hl : l.length ≤ 1000) (J Jx : List (Nat × Nat) → World → Prop)
    (hY : ∀ pre x W, J pre W → pre.length < l.length → YieldAt F (n - 1) Try.prog q (encsB x) W fun e W' =>
      (e = .returned (.bool true) ∧ J (pre ++ [x]) W' ∧ KpP (fun k => k < n₀ ∨ k = B) W W') ∨ (e = .returned (.bool false) ∧ Jx (pre ++ [x]) W'))
    (W : World) (hB : W.cell? ⟨B, 0, none⟩ = some (.slice (some ⟨b, off, none⟩) l.length cap)) (hc : ∀ j, j < l.length → W.cell? ⟨b, off + j, none⟩ = some (.int .u64 ((l[j]?.getD 0 : Nat) : Int))) (h0 : J [] W) :
    CallsIn F n Try.prog 35 #[.func (.yield q) #[] #[], .pointer (some ⟨B, 0, none⟩)] W fun e W' => (∃ v, e = .returned v) ∧
      ((∃ ys, ys = down l l.length ∧ J ys W') ∨ (∃ pre, (∃ k, k ≤ l.length ∧ pre = down l k) ∧ Jx pre W')) := by
  refine callsIn_of_wp Try.func35 rfl h35 ?_ hro
  simp only [Try.ntmps35, List.size_toArray, List.length_cons, List.length_nil, Nat.reduceAdd, Nat.reduceSub, Array.replicate_succ, Array.replicate_zero, List.push_toArray, List.append_toArray, List.nil_append, List.cons_append]
  gi_wp2
  gi_loopw [3] (fun i wr => ∃ k : Nat, k ≤ l.length ∧ i = .int .i64 ((l.length : Int) - 1 - k) ∧ J (down l k) wr ∧ KpP (fun k => k < n₀ ∨ k = B) W wr)
    (fun i _ => (intOf i + 1).toNat)
  case atStart => exact ⟨0, Nat.zero_le _, by simp, h0, KpP.refl _ _⟩
  case round =>
    obtain ⟨k, hk, rfl, hJs, hnx⟩ := hrel
    have hBx := (hnx.cell (p := ⟨B, 0, none⟩) (.inr rfl)).trans hB
    by_cases hlt : k < l.length
    · have hcx := (hnx.cell (p := ⟨b, off + (l.length - 1 - k), none⟩) (.inl hb)).trans (hc (l.length - 1 - k) (by omega))
      obtain ⟨fn, tmps, assign, body, hy, hR⟩ := hY _ (l.length - 1 - k, l[l.length - 1 - k]?.getD 0) wr hJs (by rw [down_length]; exact hlt)
      dsimp only [encsB] at hy
      have hi : ((l.length : Int) - 1 - k) = ((l.length - 1 - k : Nat) : Int) := by omega
      rw [hi]
      gi_wp2
      refine hR.mono ?_
      rintro e W3 (⟨rfl, hJ3, hk3⟩ | ⟨rfl, hJx3⟩)
      · gi_wp2
        go_roundw
        case rel => exact ⟨k + 1, by omega, by congr 1; omega, by rw [down_succ]; exact hJ3, hnx.trans hk3⟩
        case measure => simp [intOf]
      · gi_wp2
        refine bodyPost_ret (results_none rfl _ _ _) rfl ?_
        exact ⟨⟨_, rfl⟩, .inr ⟨_, ⟨k + 1, by omega, (down_succ _ _).symm⟩, hJx3⟩⟩
    · obtain rfl : k = l.length := by omega
      gi_wp2
      go_end0
      exact ⟨⟨_, rfl⟩, .inl ⟨_, rfl, hJs⟩⟩
set_option maxHeartbeats 1000000 in
/-- .. at the nil slice: no round. -/
theorem back35_nil (F : Fence) (n : Nat) (h35 : F.fn 35) (hro : F.round = none) (q B : Nat) (A : Option Addr) (cap : Nat) (W : World) (J : World → Prop) (hB : W.cell? ⟨B, 0, none⟩ = some (.slice A 0 cap)) (h0 : J W) :
    CallsIn F n Try.prog 35 #[.func (.yield q) #[] #[], .pointer (some ⟨B, 0, none⟩)] W fun e W' => (∃ v, e = .returned v) ∧ J W' := by
  refine callsIn_of_wp Try.func35 rfl h35 ?_ hro
  simp only [Try.ntmps35, List.size_toArray, List.length_cons, List.length_nil, Nat.reduceAdd, Nat.reduceSub, Array.replicate_succ, Array.replicate_zero, List.push_toArray, List.append_toArray, List.nil_append, List.cons_append]
  gi_wp2
  gi_loopw [3] (fun i wr => i = .int .i64 (-1) ∧ J wr) (fun _ _ => 0)
  case atStart => exact ⟨rfl, h0⟩
  case round =>
    obtain ⟨rfl, hJs⟩ := hrel
    gi_wp2
    go_end0
    exact ⟨⟨_, rfl⟩, hJs⟩
set_option maxHeartbeats 1000000 in
/-- slices.Backward(s): the slice is boxed; the function value captures the box. -/
theorem back31_in (F : Fence) (n : Nat) (h31 : F.fn 31) (hro : F.round = none) (A : Option Addr) (al ac : Nat) (w : World) :
    CallsIn F n Try.prog 31 #[.slice A al ac] w fun e w' => e = .returned (.func (.func 35) #[] #[.pointer (some ⟨w.heap.size, 0, none⟩)]) ∧ w' = w.alloc (.cells #[.slice A al ac] 24) := by
  refine callsIn_of_wp Try.func31 rfl h31 ?_ hro
  simp only [Try.ntmps31, List.size_toArray, List.length_cons, List.length_nil, Nat.reduceAdd, Nat.reduceSub, Array.replicate_succ, Array.replicate_zero, List.push_toArray, List.append_toArray, List.nil_append, List.cons_append]
  gi_wp2
  go_ret
  exact ⟨rfl, rfl⟩
theorem back_stops (F : Fence) (n : Nat) (h35 : F.fn 35) (hro : F.round = none) (hn : 1 ≤ n) (n₀ B : Nat) (sv : Value) (l : List Nat) (hl : l.length ≤ 1000) (w : World) (hn₀ : n₀ ≤ w.heap.size) (hBs : B < w.heap.size) (hB : w.cell? ⟨B, 0, none⟩ = some sv) (hw : Words n₀ w sv l) :
    SeqStopsK F n Try.prog 35 #[.pointer (some ⟨B, 0, none⟩)] encsB (KpP fun k => k < n₀ ∨ k = B) (fun ys => ys = down l l.length) (fun pre => ∃ k, k ≤ l.length ∧ pre = down l k) l.length w := fun q J Jx W hW hJ hJx hY h0 => by
  have kp : KpP (fun k => k < n₀ ∨ k = B) w W := ⟨hW.os, hW.tape, hW.output, hW.size, fun k hk => hW.block k (by rcases hk with hk | hk <;> omega)⟩
  have hB' := (kp.cell (p := ⟨B, 0, none⟩) (.inr rfl)).trans hB
  rcases hw with ⟨A, cap, rfl, rfl⟩ | ⟨b, off, cap, rfl, hb, hc⟩
  · refine (back35_nil F n h35 hro q B A cap W (J []) hB' h0).mono ?_
    rintro e W' ⟨he, hj⟩
    exact ⟨he, .inl ⟨_, rfl, hj⟩⟩
  · exact back35_in F n h35 hro hn q n₀ B b off cap hb l hl J Jx hY W hB' (fun j hj => (kp.cell (p := ⟨b, off + j, none⟩) (.inl hb)).trans (hc j hj)) h0
end Go.Proofs
/- The seat of privitylaw02: ToUint of package bits, by the kit's walk. -/
set_option linter.unusedVariables false
set_option linter.unusedSimpArgs false
namespace Go.Proofs
open Go.RowKit Go.Shelf

attribute [local go_sem] Oper.semAt_some run_store_func

theorem cell_other {w : World} {a b : Addr} {v : Value} (h : a ≠ b) : (w.setCell a v).cell? b = w.cell? b := World.cell?_setCell_other _ _ _ _ h
/-- What the loop has when these words have come: nothing beyond 1 among them, and their number. -/
def numL (ps : List (Nat × Nat)) : Nat := ps.foldl (fun n p => 2 * n + p.2) 0
theorem numL_snoc (pre : List (Nat × Nat)) (x : Nat × Nat) : numL (pre ++ [x]) = 2 * numL pre + x.2 := by simp [numL]
theorem numL_lt : ∀ (ps : List (Nat × Nat)) (c : Nat), (∀ p ∈ ps, p.2 ≤ 1) → ps.foldl (fun n p => 2 * n + p.2) c < (c + 1) * 2 ^ ps.length
  | [], c, _ => by simp
  | x :: l, c, h => by
    have h1 := numL_lt l (2 * c + x.2) fun p hp => h p (List.mem_cons_of_mem _ hp)
    have h2 := h x List.mem_cons_self
    have h3 : (2 * c + x.2 + 1) * 2 ^ l.length ≤ ((c + 1) * 2) * 2 ^ l.length := Nat.mul_le_mul_right _ (by omega)
    rw [List.foldl_cons, List.length_cons, Nat.pow_succ, Nat.mul_comm (2 ^ l.length) 2, ← Nat.mul_assoc]
    exact Nat.lt_of_lt_of_le h1 h3
def NoBig (ps : List (Nat × Nat)) : Prop := ∀ p ∈ ps, p.2 ≤ 1
def HasBig (ps : List (Nat × Nat)) : Prop := ∃ p ∈ ps, ¬ p.2 ≤ 1
theorem NoBig.lt {ps : List (Nat × Nat)} (h : NoBig ps) : numL ps < 2 ^ ps.length := by
  have := numL_lt ps 0 h
  simpa [numL] using this
theorem NoBig.snoc {ps : List (Nat × Nat)} {x : Nat × Nat} (h : NoBig ps) (hx : x.2 ≤ 1) : NoBig (ps ++ [x]) := fun p hp => by
  rcases List.mem_append.1 hp with hp | hp
  · exact h p hp
  · have : p = x := by simpa using hp
    rw [this]; exact hx
def tuSpec (a : List Nat) : Value := if a.length ≤ 60 ∧ ∀ x ∈ a, x ≤ 1 then .tuple #[.int .u64 ((numL (down a a.length) : Nat) : Int), .int .i64 0] else .tuple #[.int .u64 0, .int .i64 7]
theorem mem_down {a : List Nat} {p : Nat × Nat} {k : Nat} (hk : k ≤ a.length) (h : p ∈ down a k) : p.2 ∈ a := by
  simp only [down, List.mem_map, List.mem_range] at h
  obtain ⟨j, hj, rfl⟩ := h
  have : a.length - 1 - j < a.length := by omega
  simp only [List.getElem?_eq_getElem this, Option.getD_some]
  exact List.getElem_mem this
theorem down_mem {a : List Nat} {x : Nat} (h : x ∈ a) : ∃ p ∈ down a a.length, p.2 = x := by
  obtain ⟨i, hi, rfl⟩ := List.getElem_of_mem h
  refine ⟨(i, a[i]), ?_, rfl⟩
  simp only [down, List.mem_map, List.mem_range]
  have e : a.length - 1 - (a.length - 1 - i) = i := by omega
  exact ⟨a.length - 1 - i, by omega, by rw [e, List.getElem?_eq_getElem hi]; rfl⟩
theorem tuSpec_no {a : List Nat} (ha : a.length ≤ 60) (h : NoBig (down a a.length)) : tuSpec a = .tuple #[.int .u64 ((numL (down a a.length) : Nat) : Int), .int .i64 0] :=
  if_pos ⟨ha, fun x hx => by obtain ⟨p, hp, rfl⟩ := down_mem hx; exact h p hp⟩
theorem tuSpec_big {a : List Nat} {k : Nat} (hk : k ≤ a.length) (h : HasBig (down a k)) : tuSpec a = .tuple #[.int .u64 0, .int .i64 7] :=
  if_neg fun ⟨_, hx⟩ => by obtain ⟨p, hp, hb⟩ := h; exact hb (hx _ (mem_down hk hp))
theorem tuSpec_long {a : List Nat} (h : ¬ a.length ≤ 60) : tuSpec a = .tuple #[.int .u64 0, .int .i64 7] := if_neg fun hx => h hx.1
theorem or_num (n x : Nat) (hn : 2 * n < 2 ^ 64) (hx : x ≤ 1) : bits BinOp.or IntKind.u64 (((n : Nat) : Int) * 2) (x : Int) = ((2 * n + x : Nat) : Int) := by
  have e : (((n : Nat) : Int) * 2) = ((2 * n : Nat) : Int) := by omega
  have e2 : 2 * n ||| x = 2 * n + x := (Nat.two_pow_add_eq_or_of_lt (i := 1) (by omega : x < 2 ^ 1) n).symm
  rw [e, bits_or_u64_nat _ _ (by omega) (by omega), e2]
set_option maxRecDepth 100000 in
set_option maxHeartbeats 2000000 in
theorem ToUint16_in (F : Fence) (n : Nat) (h16 : F.fn 16) (h31 : F.fn 31) (h35 : F.fn 35) (hro : F.round = none) (hn : 3 ≤ n) (sa : Value) (a : List Nat) (ha : a.length ≤ 1000) (w : World) (hwa : Words w.heap.size w sa a) :
    CallsIn F n Try.prog 16 #[sa] w fun e w' => e = .returned (tuSpec a) ∧ Below w.heap.size w w' := by
  have h1 : 1 ≤ n := by omega
  obtain ⟨A, ac, rfl⟩ := hwa.len
  refine callsIn_of_wp_marks Try.func16 rfl h16 ?_ hro
  simp only [Try.ntmps16, List.size_toArray, List.length_cons, List.length_nil, Nat.reduceAdd, Nat.reduceSub, Array.replicate_succ, Array.replicate_zero, List.push_toArray, List.append_toArray, List.nil_append, List.cons_append]
  by_cases hlen : a.length ≤ 60
  · have hl60 : ¬ (60 : Int) < (a.length : Int) := by omega
    gi_wp2_with (gi_at_call 31; refine (back31_in F (n - 1) h31 hro _ _ _ _).mono ?_; rintro e w' ⟨rfl, rfl⟩)
    obtain ⟨W0, hW0⟩ : ∃ W0, W0 = ((((w.alloc (.cells #[.int .u64 0] 22)).alloc (.cells #[.int .i64 0] 25)).alloc (.cells #[.int .u64 0] 22)).alloc (.cells #[.slice A a.length ac] 24)) := ⟨_, rfl⟩
    have hsz : W0.heap.size = w.heap.size + 4 := by
      rw [hW0]
      simp only [World.size_alloc]
    have hB0 : Below w.heap.size w W0 := by rw [hW0]; exact (((((Below.refl _ w).alloc (Nat.le_refl _) _).alloc (by simp only [World.size_alloc]; omega) _).alloc (by simp only [World.size_alloc]; omega) _).alloc (by simp only [World.size_alloc]; omega) _)
    have q0 : W0.cell? ⟨w.heap.size, 0, none⟩ = some (.int .u64 0) := by rw [hW0]; go_simp
    have q0f : W0.frozen? ⟨w.heap.size, 0, none⟩ = false := by rw [hW0]; go_simp
    have q1 : W0.cell? ⟨w.heap.size + 1, 0, none⟩ = some (.int .i64 0) := by rw [hW0]; go_simp
    have q1f : W0.frozen? ⟨w.heap.size + 1, 0, none⟩ = false := by rw [hW0]; go_simp
    have q2 : W0.cell? ⟨w.heap.size + 1 + 1, 0, none⟩ = some (.int .u64 0) := by rw [hW0]; go_simp
    have q2f : W0.frozen? ⟨w.heap.size + 1 + 1, 0, none⟩ = false := by rw [hW0]; go_simp
    have q3 : W0.cell? ⟨w.heap.size + 1 + 1 + 1, 0, none⟩ = some (.slice A a.length ac) := by rw [hW0]; go_simp
    rw [← hW0]
    refine wpIn_rangeFunc_ownG hro h1 (gf := 35) (lb := #[.pointer (some ⟨w.heap.size + 1 + 1 + 1, 0, none⟩)]) rfl h35 (enters_of Try.func35 (by kernel_rfl) rfl)
      (back_stops F (n - 1) h35 hro (by omega) w.heap.size (w.heap.size + 1 + 1 + 1) _ a ha W0 (by omega) (by omega) q3 (hwa.below hB0))
      KpP.trans (fun W l o o' hl h _ _ => (KpP.refl _ W).grown (grownBy_putObj' W l o') (fun k e => by cases e; omega) (fun k hk => by have := (Array.getElem?_eq_some_iff.1 h).1; omega)) (Below.refl _ _) (fun _ => rfl)
      (fun pre W => (NoBig pre ∧ W.cell? ⟨w.heap.size, 0, none⟩ = some (.int .u64 0) ∧ W.frozen? ⟨w.heap.size, 0, none⟩ = false ∧ W.cell? ⟨w.heap.size + 1, 0, none⟩ = some (.int .i64 0) ∧ W.frozen? ⟨w.heap.size + 1, 0, none⟩ = false ∧ W.cell? ⟨w.heap.size + 1 + 1, 0, none⟩ = some (.int .u64 ((numL pre : Nat) : Int)) ∧ W.frozen? ⟨w.heap.size + 1 + 1, 0, none⟩ = false) ∧ Below w.heap.size w W)
      (fun c pre W => (c = .ret ∧ HasBig pre ∧ W.cell? ⟨w.heap.size, 0, none⟩ = some (.int .u64 0) ∧ W.cell? ⟨w.heap.size + 1, 0, none⟩ = some (.int .i64 7)) ∧ Below w.heap.size w W)
      (OwnFrom.and (Own.from (fun s A B row hs hg hr => ⟨hs.1, cell_kept hs.2.1 hg hr, (frozen_kept hs.2.1 hg hr).trans hs.2.2.1, cell_kept hs.2.2.2.1 hg hr, (frozen_kept hs.2.2.2.1 hg hr).trans hs.2.2.2.2.1, cell_kept hs.2.2.2.2.2.1 hg hr, (frozen_kept hs.2.2.2.2.2.1 hg hr).trans hs.2.2.2.2.2.2⟩) _) (ownFrom_below (Nat.le_refl _) (by omega)))
      (fun c => OwnFrom.and (Own.from (fun s A B row hs hg hr => ⟨hs.1, hs.2.1, cell_kept hs.2.2.1 hg hr, cell_kept hs.2.2.2 hg hr⟩) _) (ownFrom_below (Nat.le_refl _) (by omega)))
      ⟨⟨fun p hp => (by cases hp), q0, q0f, q1, q1f, q2, q2f⟩, hB0⟩
      (fun x => { tmps := #[.slice A a.length ac, undef, .pointer (some ⟨w.heap.size, 0, none⟩), .pointer (some ⟨w.heap.size + 1, 0, none⟩), .pointer (some ⟨w.heap.size + 1 + 1, 0, none⟩), undef, .int .u64 (x.2 : Int), .slice A a.length ac, .int .i64 (a.length : Int), .bool false, .slice A a.length ac, .func (.func 35) #[] #[.pointer (some ⟨w.heap.size + 1 + 1 + 1, 0, none⟩)], .int .i64 (x.1 : Int), .int .u64 (x.2 : Int), undef, undef, undef, undef, undef, undef, undef], defers := [] }) ?assign ?body ?done ?stop
    case assign =>
      intro l x W K hK
      gi_wp2
      exact hK
    case body =>
      rintro l pre x W ⟨⟨hall, hc0, hf0, hc1, hf1, hc2, hf2⟩, hB⟩ hlt
      by_cases hx : x.2 ≤ 1
      · have hxi : ¬ (1 : Int) < (x.2 : Int) := by omega
        have hnl := hall.lt
        have hp60 : 2 ^ pre.length ≤ 2 ^ 59 := Nat.pow_le_pow_right (by omega) (by omega)
        gi_wp2
        have e : bits BinOp.or IntKind.u64 (((numL pre : Nat) : Int) * 2) (x.2 : Int) = ((numL (pre ++ [x]) : Nat) : Int) := by
          rw [numL_snoc]; exact or_num _ _ (by omega) hx
        rw [e]
        exact ⟨(KeepsOthers.setCell _ _ _).from _, (KpP.refl _ _).setCell (by dsimp only; omega) _, ⟨hall.snoc hx, (cell_other (by simp)).trans hc0, by rw [World.frozen?_setCell]; exact hf0, (cell_other (by simp)).trans hc1, by rw [World.frozen?_setCell]; exact hf1, World.cell?_setCell_same' _ _ _ (by rw [hc2]; rfl), by rw [World.frozen?_setCell]; exact hf2⟩, hB.setCell (by dsimp only; omega) _⟩
      · have hxi : (1 : Int) < (x.2 : Int) := by omega
        gi_wp2
        refine ⟨((KeepsOthers.setCell _ _ _).trans (KeepsOthers.setCell _ _ _)).from _, ⟨rfl, ⟨x, by simp, hx⟩, ?_, ?_⟩, (hB.setCell (Nat.le_refl _) _).setCell (by dsimp only; omega) _⟩
        · refine (cell_other (by simp)).trans (World.cell?_setCell_same' _ _ _ (by rw [hc0]; rfl))
        · refine World.cell?_setCell_same' _ _ _ ?_
          rw [cell_other (a := ⟨w.heap.size, 0, none⟩) (b := ⟨w.heap.size + 1, 0, none⟩) (by simp), hc1]; rfl
    case done =>
      rintro D xs W hD rfl ⟨⟨hall, hc0, hf0, hc1, hf1, hc2, hf2⟩, hB⟩ hK
      have hsp := tuSpec_no hlen hall
      generalize numL (down a a.length) = N at hc2 hsp
      clear hall
      gi_wp2
      have hK' := ((KeepsOthers.setCell W ⟨w.heap.size, 0, none⟩ (.int .u64 (N : Int))).trans (KeepsOthers.setCell _ ⟨w.heap.size + 1, 0, none⟩ (.int .i64 0))).same D _ hK rfl
      refine ⟨by simp, .inl ⟨_, _, rfl, run_takeDeferred hK', ?_⟩⟩
      have e0 : ((W.setCell ⟨w.heap.size, 0, none⟩ (.int .u64 (N : Int))).setCell ⟨w.heap.size + 1, 0, none⟩ (.int .i64 0)).cell? ⟨w.heap.size, 0, none⟩ = some (.int .u64 (N : Int)) := (cell_other (by simp)).trans (World.cell?_setCell_same' _ _ _ (by rw [hc0]; rfl))
      have e1 : ((W.setCell ⟨w.heap.size, 0, none⟩ (.int .u64 (N : Int))).setCell ⟨w.heap.size + 1, 0, none⟩ (.int .i64 0)).cell? ⟨w.heap.size + 1, 0, none⟩ = some (.int .i64 0) := World.cell?_setCell_same' _ _ _ (by rw [cell_other (a := ⟨w.heap.size, 0, none⟩) (b := ⟨w.heap.size + 1, 0, none⟩) (by simp), hc1]; rfl)
      have hc5 := cell_kept e0 (grownBy_putObj' _ D (.deferred none)) (fun r e => by cases e; exact ⟨_, hK', rfl⟩)
      have hc6 := cell_kept e1 (grownBy_putObj' _ D (.deferred none)) (fun r e => by cases e; exact ⟨_, hK', rfl⟩)
      refine ⟨.tuple #[.int .u64 (N : Int), .int .i64 0], ?_, by rw [hsp], ((hB.setCell (Nat.le_refl _) _).setCell (by dsimp only; omega) _).trans (belowK_b (w := w) (Nat.le_refl _) _ D _ _ (by omega) hK' rfl rfl)⟩
      simp [results, Try.f16, go_sem, hc5, hc6]
    case stop =>
      rintro D c pre W hD ⟨kk, hkk, rfl⟩ ⟨⟨rfl, hbig, hc0, hc1⟩, hB⟩ hK
      have hsp := tuSpec_big hkk hbig
      gi_wp2
      refine ⟨by simp, .inl ⟨_, _, rfl, run_takeDeferred hK, ?_⟩⟩
      have hc5 := cell_kept hc0 (grownBy_putObj' _ D (.deferred none)) (fun r e => by cases e; exact ⟨_, hK, rfl⟩)
      have hc6 := cell_kept hc1 (grownBy_putObj' _ D (.deferred none)) (fun r e => by cases e; exact ⟨_, hK, rfl⟩)
      refine ⟨.tuple #[.int .u64 0, .int .i64 7], ?_, by rw [hsp], hB.trans (belowK_b (w := w) (Nat.le_refl _) W D _ _ (by omega) hK rfl rfl)⟩
      simp [results, Try.f16, go_sem, hc5, hc6]
  · have hl60 : (60 : Int) < (a.length : Int) := by omega
    have hsp := tuSpec_long hlen
    gi_wp2
    refine ⟨.tuple #[.int .u64 0, .int .i64 7], ?_, by rw [hsp], ((Below.refl _ w).alloc (Nat.le_refl _) _).alloc (by simp only [World.size_alloc]; omega) _⟩
    simp [results, Try.f16, go_sem]
end Go.Proofs
/- The seat of privitylaw02: Add of package bits, by the kit's walk. -/
set_option linter.unusedVariables false
set_option linter.unusedSimpArgs false
namespace Go.Proofs
open Go.RowKit Go.Shelf

attribute [local go_sem] Oper.semAt_some run_store_func

theorem info22 : (Try.prog.info? 22).map (fun i => (i.zero, i.size, i.bytes)) = some (some (.int .u64 0), 1, 8) := by kernel_rfl
abbrev u64s (l : List Nat) : List Value := l.map fun (x : Nat) => Value.int .u64 (x : Int)
def M64 : Nat := 18446744073709551616
def addS (c : Nat) (p : Nat × Nat) : Nat := ((p.1 + p.2) % M64 + c) % M64
def addL (ps : List (Nat × Nat)) : List Nat × Nat := ps.foldl (fun s p => (s.1 ++ [addS s.2 p % 2], addS s.2 p / 2)) ([], 0)
theorem addL_snoc (pre : List (Nat × Nat)) (x : Nat × Nat) : addL (pre ++ [x]) = ((addL pre).1 ++ [addS (addL pre).2 x % 2], addS (addL pre).2 x / 2) := by simp [addL]
theorem foldSnoc_length (g : List Nat × Nat → Nat × Nat → Nat) (h : List Nat × Nat → Nat × Nat → Nat) : ∀ (ps : List (Nat × Nat)) (s : List Nat × Nat), (ps.foldl (fun s p => (s.1 ++ [g s p], h s p)) s).1.length = s.1.length + ps.length
  | [], s => rfl
  | p :: l, s => by rw [List.foldl_cons, foldSnoc_length g h l]; simp; omega
theorem addL_length (ps : List (Nat × Nat)) : (addL ps).1.length = ps.length := by
  have := foldSnoc_length (fun s p => addS s.2 p % 2) (fun s p => addS s.2 p / 2) ps ([], 0)
  simpa [addL] using this

theorem Boxed.new' (W : World) (t : TypeId) (v : Value) {k : Nat} (h : k = W.heap.size) : Boxed (W.alloc (.cells #[v] t)) k t v := h ▸ Boxed.new W t v
/-- Whatever is no cells lies as it lay behind an append; so does what lay below. -/
theorem appended_plain {W w1 : World} {n₀ : Nat} {e : TypeId} {size : Nat} {v : Value} {k : Nat} {xs : List Value} {tmp : Obj}
    (hrow : W.ownsRow n₀ e size v k xs) (hn₀ : n₀ ≤ W.heap.size) (hgrow : (W.alloc tmp).grownBy w1 v.ownBlock) : KeepsOthers W w1 ∧ Below n₀ W w1 := by
  refine ⟨(KeepsOthers.alloc W tmp).trans (KeepsOthers.of_grownBy hgrow fun j o ej hj => ?_), ((Below.refl n₀ W).alloc hn₀ tmp).grown hgrow (by simp; omega) fun j ej => ?_⟩
  · rcases (hrow.alloc tmp).2 with ⟨rfl, _⟩ | ⟨g, cap, cur, rfl, _, hgb, _⟩
    · simp [Value.ownBlock] at ej
    · obtain rfl : g = j := by simpa [Value.ownBlock] using ej
      rw [hgb] at hj; cases hj; rfl
  · rcases hrow.2 with ⟨rfl, _⟩ | ⟨g, cap, cur, rfl, hb, _, _⟩
    · simp [Value.ownBlock] at ej
    · obtain rfl : g = j := by simpa [Value.ownBlock] using ej
      exact hb
theorem ownsRow_mono {W : World} {b₁ b₂ : Nat} (h : b₁ ≤ b₂) {e : TypeId} {size : Nat} {v : Value} {k : Nat} {xs : List Value} (hr : W.ownsRow b₂ e size v k xs) : W.ownsRow b₁ e size v k xs := by
  refine ⟨hr.1, ?_⟩
  rcases hr.2 with hn | ⟨g, cap, cur, e1, hb, hr⟩
  · exact .inl hn
  · exact .inr ⟨g, cap, cur, e1, by omega, hr⟩
theorem ownsRow_low {W : World} {b C : Nat} (h : C < b) {e : TypeId} {size : Nat} {v : Value} {k : Nat} {xs : List Value} (hr : W.ownsRow b e size v k xs) : some C ≠ v.ownBlock := by
  rcases hr.2 with ⟨rfl, _⟩ | ⟨g, cap, cur, rfl, hb, _⟩
  · simp [Value.ownBlock]
  · intro e'
    have : C = g := by simpa [Value.ownBlock] using e'
    omega
theorem addS_int (c : Nat) (p : Nat × Nat) : IntKind.u64.wrap (IntKind.u64.wrap ((p.1 : Int) + (p.2 : Int)) + (c : Int)) = ((addS c p : Nat) : Int) := by
  rw [IntKind.wrap_u64, IntKind.wrap_u64]; unfold addS M64; omega
theorem addS_lt (c : Nat) (p : Nat × Nat) : addS c p < M64 := Nat.mod_lt _ (by decide)
theorem and1 (s : Nat) (h : s < M64) : bits BinOp.and IntKind.u64 (s : Int) 1 = ((s % 2 : Nat) : Int) := by
  rw [and_one_u64 _ (by omega) (by unfold M64 at h; omega)]; omega
/-- The four boxes of both, at one hand. -/
structure Boxes4 (D0 : Nat) (sa sb : Value) (m : Nat) (W : World) : Prop where
  b0 : Boxed W D0 24 sa
  b1 : Boxed W (D0 + 1) 24 sb
  b2 : Boxed W (D0 + 2) 3 (.int .i64 (m : Int))
  b3 : Boxed W (D0 + 3) 46 f36V
theorem Boxes4.kept {D0 m : Nat} {sa sb : Value} {W W' : World} {row : Option Nat} (h : Boxes4 D0 sa sb m W) (hg : W.grownBy W' row) (hr : ∀ j, j < 4 → some (D0 + j) ≠ row) : Boxes4 D0 sa sb m W' :=
  ⟨h.b0.kept hg (hr 0 (by omega)), h.b1.kept hg (hr 1 (by omega)), h.b2.kept hg (hr 2 (by omega)), h.b3.kept hg (hr 3 (by omega))⟩
theorem Boxes4.own {β : Type} (D0 : Nat) (sa sb : Value) (m : Nat) : Own (fun (_ : β) W => Boxes4 D0 sa sb m W) := by
  intro s A B row h hg hr
  refine h.kept hg fun j hj e => ?_
  obtain ⟨o, ho, hc⟩ := hr _ e.symm
  have : j = 0 ∨ j = 1 ∨ j = 2 ∨ j = 3 := by omega
  rcases this with rfl | rfl | rfl | rfl
  · rw [Nat.add_zero, show A.heap[D0]? = _ from h.b0] at ho; cases ho; cases hc
  · rw [show A.heap[D0 + 1]? = _ from h.b1] at ho; cases ho; cases hc
  · rw [show A.heap[D0 + 2]? = _ from h.b2] at ho; cases ho; cases hc
  · rw [show A.heap[D0 + 3]? = _ from h.b3] at ho; cases ho; cases hc
theorem Boxes4.not_row {D0 m : Nat} {sa sb : Value} {W : World} (h : Boxes4 D0 sa sb m W) {base size k : Nat} {v : Value} {xs : List Value} (hr : W.ownsRow base 22 size v k xs) : ∀ j, j < 4 → some (D0 + j) ≠ v.ownBlock := by
  intro j hj
  have : j = 0 ∨ j = 1 ∨ j = 2 ∨ j = 3 := by omega
  rcases this with rfl | rfl | rfl | rfl
  · exact h.b0.not_row (by decide) hr
  · exact h.b1.not_row (by decide) hr
  · exact h.b2.not_row (by decide) hr
  · exact h.b3.not_row (by decide) hr
theorem Boxes4.lt {D0 m : Nat} {sa sb : Value} {W : World} (h : Boxes4 D0 sa sb m W) : D0 + 4 ≤ W.heap.size := by
  have := h.b3.lt
  omega
theorem kpS_appended {W w1 : World} {n₀ D0 m : Nat} {sa sb : Value} {size : Nat} {v : Value} {k : Nat} {xs : List Value} {tmp : Obj} (h : Boxes4 D0 sa sb m W)
    (hrow : W.ownsRow n₀ 22 size v k xs) (hn₀ : n₀ ≤ W.heap.size) (hgrow : (W.alloc tmp).grownBy w1 v.ownBlock) : KpS n₀ D0 W w1 := by
  have hs : ∀ j, InS n₀ D0 j → j < W.heap.size := fun j hj => by
    have := h.lt
    unfold InS at hj
    omega
  refine ((KpS.refl n₀ D0 W).grown (World.grownBy_alloc W tmp none) (by simp) hs).grown hgrow (fun j ej hj => ?_) (fun j hj => by have := hs j hj; simp; omega)
  rcases hj with hj | ⟨hj1, hj2⟩
  · rcases hrow.2 with ⟨rfl, _⟩ | ⟨g, cap, cur, rfl, hb, _, _⟩
    · simp [Value.ownBlock] at ej
    · obtain rfl : g = j := by simpa [Value.ownBlock] using ej
      omega
  · obtain ⟨i, rfl⟩ : ∃ i, j = D0 + i := ⟨j - D0, by omega⟩
    exact h.not_row hrow i (by omega) ej.symm

def addSpec (a b : List Nat) : List Nat := (addL (upto (fun j => (a[j]?.getD 0, b[j]?.getD 0)) (max a.length b.length))).1 ++ [(addL (upto (fun j => (a[j]?.getD 0, b[j]?.getD 0)) (max a.length b.length))).2]

set_option maxRecDepth 100000 in
set_option maxHeartbeats 2000000 in
theorem Add19_in (F : Fence) (n : Nat) (h19 : F.fn 19) (h33 : F.fn 33) (h36 : F.fn 36) (h37 : F.fn 37) (hro : F.round = none) (hn : 3 ≤ n) (sa sb : Value) (a b : List Nat) (ha : a.length ≤ 1000) (hb : b.length ≤ 1000) (w : World) (hwa : Words w.heap.size w sa a) (hwb : Words w.heap.size w sb b) :
    CallsIn F n Try.prog 19 #[sa, sb] w fun e w' => ∃ v, e = .returned v ∧ w'.ownsRow w.heap.size 22 1 v (addSpec a b).length (u64s (addSpec a b)) ∧ Below w.heap.size w w' := by
  have h1 : 1 ≤ n := by omega
  obtain ⟨i0, hi, hz0, hz1, hz2⟩ := info_parts info22
  obtain ⟨A, ac, rfl⟩ := hwa.len
  obtain ⟨B, bc, rfl⟩ := hwb.len
  refine callsIn_of_wp_marks Try.func19 rfl h19 ?_ hro
  simp only [Try.ntmps19, List.size_toArray, List.length_cons, List.length_nil, Nat.reduceAdd, Nat.reduceSub, Array.replicate_succ, Array.replicate_zero, List.push_toArray, List.append_toArray, List.nil_append, List.cons_append]
  gi_wp2_with (gi_at_call 33; refine (both33_in F (n - 1) h33 hro _ _ _ _ _ _ _ _).mono ?_; rintro e w' ⟨rfl, rfl⟩)
  · have hm : max a.length b.length = b.length := by omega
    obtain ⟨W0, hW0⟩ : ∃ W0, W0 = ((((((w.alloc (.cells #[.slice none 0 0] 24)).alloc (.cells #[.int .u64 0] 22)).alloc (.cells #[.slice A a.length ac] 24)).alloc (.cells #[.slice B b.length bc] 24)).alloc (.cells #[.int .i64 (b.length : Int)] 3)).alloc (.cells #[.func (.func 36) #[] #[]] 46)) := ⟨_, rfl⟩
    have hsz : W0.heap.size = w.heap.size + 6 := by
      rw [hW0]
      simp only [World.size_alloc]
    have hB0 : Below w.heap.size w W0 := by rw [hW0]; exact (((((((Below.refl _ w).alloc (Nat.le_refl _) _).alloc (by simp only [World.size_alloc]; omega) _).alloc (by simp only [World.size_alloc]; omega) _).alloc (by simp only [World.size_alloc]; omega) _).alloc (by simp only [World.size_alloc]; omega) _).alloc (by simp only [World.size_alloc]; omega) _)
    have bO : Boxed W0 w.heap.size 24 (.slice none 0 0) := by rw [hW0]; exact (((((Boxed.new w _ _).alloc _).alloc _).alloc _).alloc _).alloc _
    have bC : Boxed W0 (w.heap.size + 1) 22 (.int .u64 0) := by rw [hW0]; exact ((((Boxed.new' (w.alloc (.cells #[.slice none 0 0] 24)) _ _ (by simp)).alloc _).alloc _).alloc _).alloc _
    have b4 : Boxes4 (w.heap.size + 1 + 1) (.slice A a.length ac) (.slice B b.length bc) b.length W0 := by
      rw [hW0]
      exact ⟨(((Boxed.new' ((w.alloc (.cells #[.slice none 0 0] 24)).alloc (.cells #[.int .u64 0] 22)) _ _ (by simp)).alloc _).alloc _).alloc _, ((Boxed.new' (((w.alloc (.cells #[.slice none 0 0] 24)).alloc (.cells #[.int .u64 0] 22)).alloc (.cells #[.slice A a.length ac] 24)) _ _ (by simp)).alloc _).alloc _, (Boxed.new' ((((w.alloc (.cells #[.slice none 0 0] 24)).alloc (.cells #[.int .u64 0] 22)).alloc (.cells #[.slice A a.length ac] 24)).alloc (.cells #[.slice B b.length bc] 24)) _ _ (by simp)).alloc _, Boxed.new' (((((w.alloc (.cells #[.slice none 0 0] 24)).alloc (.cells #[.int .u64 0] 22)).alloc (.cells #[.slice A a.length ac] 24)).alloc (.cells #[.slice B b.length bc] 24)).alloc (.cells #[.int .i64 (b.length : Int)] 3)) _ _ (by simp)⟩
    rw [← hW0]
    refine wpIn_rangeFunc_ownG hro h1 (gf := 37) (lb := #[.pointer (some ⟨w.heap.size + 1 + 1 + 2, 0, none⟩), .pointer (some ⟨w.heap.size + 1 + 1 + 3, 0, none⟩), .pointer (some ⟨w.heap.size + 1 + 1, 0, none⟩), .pointer (some ⟨w.heap.size + 1 + 1 + 1, 0, none⟩)]) rfl h37 (enters_of Try.func37 (by kernel_rfl) rfl)
      (both_stops F (n - 1) h37 h36 hro (by omega) w.heap.size (w.heap.size + 1 + 1) _ _ _ _ _ _ a b ha hb b.length (by omega) W0 (by unfold InS; omega) (by unfold InS; omega) (by unfold InS; omega) (by unfold InS; omega) (by omega) (by omega) b4.b2.cell b4.b3.cell b4.b0.cell b4.b1.cell (hwa.below hB0) (hwb.below hB0))
      KpS.trans (fun W l o o' hl h _ _ => (KpS.refl _ _ W).grown (grownBy_putObj' W l o') (fun k e => by cases e; unfold InS; omega) (fun k hk => by have := (Array.getElem?_eq_some_iff.1 h).1; unfold InS at hk; omega)) (Below.refl _ _) (fun _ => rfl)
      (fun pre W => ((∃ v, Boxed W w.heap.size 24 v ∧ W.ownsRow (w.heap.size + 6) 22 1 v (addL pre).1.length (u64s (addL pre).1) ∧ True) ∧ Boxed W (w.heap.size + 1) 22 (.int .u64 (((addL pre).2 : Nat) : Int)) ∧ Boxes4 (w.heap.size + 1 + 1) (.slice A a.length ac) (.slice B b.length bc) b.length W) ∧ Below w.heap.size w W)
      (fun _ _ _ => False)
      (OwnFrom.and (Own.from (fun s X Y row hs hg hr => ⟨holdsRow_own (w.heap.size + 6) w.heap.size 24 22 1 (fun pre => (addL pre).1.length) (fun pre => u64s (addL pre).1) (fun _ _ => True) s X Y row hs.1 hg hr, hs.2.1.kept hg (fun e => by obtain ⟨o, ho, hc⟩ := hr _ e.symm; rw [show X.heap[w.heap.size + 1]? = _ from hs.2.1] at ho; cases ho; cases hc), Boxes4.own _ _ _ _ s X Y row hs.2.2 hg hr⟩) _) (ownFrom_below (Nat.le_refl _) (by omega)))
      (fun _ _ _ _ _ hs _ _ => hs)
      ⟨⟨⟨_, bO, (World.ownsRow_nil W0 (w.heap.size + 6) 22 1 : _), trivial⟩, bC, b4⟩, hB0⟩
      (fun x => { tmps := #[.slice A a.length ac, .slice B b.length bc, undef, undef, .slice none 0 0, .pointer (some ⟨w.heap.size, 0, none⟩), .pointer (some ⟨w.heap.size + 1, 0, none⟩), .int .u64 (x.1 : Int), .int .u64 (x.2 : Int), undef, .slice A a.length ac, .slice B b.length bc, .slice A a.length ac, .int .i64 (a.length : Int), .slice B b.length bc, .int .i64 (b.length : Int), .int .i64 (b.length : Int), .func (.func 37) #[] #[.pointer (some ⟨w.heap.size + 1 + 1 + 2, 0, none⟩), .pointer (some ⟨w.heap.size + 1 + 1 + 3, 0, none⟩), .pointer (some ⟨w.heap.size + 1 + 1, 0, none⟩), .pointer (some ⟨w.heap.size + 1 + 1 + 1, 0, none⟩)], .int .u64 (x.1 : Int), .int .u64 (x.2 : Int), undef, undef, undef, undef, undef, undef, undef, undef, undef, undef, undef, undef, undef, undef, undef, undef], defers := [] }) ?assign ?body ?done ?stop
    case assign =>
      intro l x W K hK
      gi_wp2
      exact hK
    case body =>
      rintro l pre x W ⟨⟨⟨v, hv, hrow, -⟩, hcb, hb4⟩, hB⟩ hlt
      have hc := hv.cell
      have hcc := hcb.cell
      have hcf := hcb.frozen
      have hlen := addL_length pre
      have hsz' := hb4.lt
      gi_wp2_with (gi_at_builtin; refine wpListIn_append_own _ rfl _ _ 24 rfl (w.heap.size + 6) 22 i0 (.int .u64 0) 1 8 Try.underlying24 hi hz0 hz1 hz2 rfl (by decide) _ _ _ rfl (hrow.alloc _) ⟨W.heap.size, 0, none⟩ 1 1 [_] rfl rfl (cell_one_new _ _ _) (by simp [Value.oneCell']) (by unfold maxLen; omega) (by omega) (by simp; omega) ?_; intro v' w1 hown' hgrow _; obtain ⟨g', cap', rfl⟩ := ownsRow_succ hown'; obtain ⟨hv1, hv2, hr2, hk2, hb2⟩ := hv.appended (by decide) (ownsRow_mono (by omega) hrow) hB.size (Nat.le_refl _) (ownsRow_mono (by omega) hown') hgrow; have hc1 := hv1.cell; have hf1 := hv1.frozen; have hcb1 := (hcb.alloc _).kept hgrow (ownsRow_low (by omega) hrow); have hcb2 := hcb1.kept (grownBy_setCell' w1 w.heap.size (.slice (some ⟨g', 0, none⟩) ((addL pre).1.length + 1) cap')) (by simp); have hc2 := hcb2.cell; have hf2 := hcb2.frozen; rw [hlen] at hc2 hf2)
      have er : u64s (addL (pre ++ [x])).1 = u64s (addL pre).1 ++ [.int .u64 (bits BinOp.and IntKind.u64 (IntKind.u64.wrap (IntKind.u64.wrap ((x.1 : Int) + (x.2 : Int)) + ((addL pre).2 : Int))) 1)] := by
        rw [addL_snoc, addS_int, and1 _ (addS_lt _ _)]; simp [u64s]
      have el : (addL (pre ++ [x])).1.length = (addL pre).1.length + 1 := by rw [addL_snoc]; simp
      have ec : (((addL (pre ++ [x])).2 : Nat) : Int) = IntKind.u64.wrap (IntKind.u64.wrap ((x.1 : Int) + (x.2 : Int)) + ((addL pre).2 : Int)) / 2 := by
        rw [addL_snoc, addS_int]; simp
      rw [← hlen]
      refine ⟨(hk2.trans (KeepsOthers.setCell _ _ _)).from _, ((kpS_appended hb4 (ownsRow_mono (by omega) hrow) hB.size hgrow).setCell (by unfold InS; dsimp only; omega) _).setCell (by unfold InS; dsimp only; omega) _, ⟨⟨_, hv2.kept (grownBy_setCell' _ _ _) (by simp), ?_, trivial⟩, ?_, ?_⟩, (hB.trans hb2).setCell (by dsimp only; omega) _⟩
      · rw [er, el]
        exact (hown'.kept (grownBy_setCell' _ _ _) (.inr (ownsRow_low (by omega) hown').symm)).kept (grownBy_setCell' _ _ _) (.inr (ownsRow_low (by omega) hown').symm)
      · rw [ec]; exact hcb2.set _
      · exact ((((hb4.kept (World.grownBy_alloc W _ none) (by simp)).kept hgrow (hb4.not_row hrow)).kept (grownBy_setCell' _ _ _) (fun j _ => by simp; omega)).kept (grownBy_setCell' _ _ _) (fun j _ => by simp; omega))
    case done =>
      rintro D xs W hD rfl ⟨⟨⟨v, hv, hrow, -⟩, hcb, hb4⟩, hB⟩ hK
      have hc := hv.cell
      have hcc := hcb.cell
      have hlen := addL_length (upto (fun j => (a[j]?.getD 0, b[j]?.getD 0)) b.length)
      rw [upto_length] at hlen
      have hsz' := hb4.lt
      have hsp : addSpec a b = (addL (upto (fun j => (a[j]?.getD 0, b[j]?.getD 0)) b.length)).1 ++ [(addL (upto (fun j => (a[j]?.getD 0, b[j]?.getD 0)) b.length)).2] := by unfold addSpec; rw [hm]
      generalize addL (upto (fun j => (a[j]?.getD 0, b[j]?.getD 0)) b.length) = L at hrow hcb hcc hsp hlen
      gi_wp2_with (gi_at_builtin; refine wpListIn_append_own _ rfl _ _ 24 rfl (w.heap.size + 6) 22 i0 (.int .u64 0) 1 8 Try.underlying24 hi hz0 hz1 hz2 rfl (by decide) _ _ _ rfl (hrow.alloc _) ⟨W.heap.size, 0, none⟩ 1 1 [_] rfl rfl (cell_one_new _ _ _) (by simp [Value.oneCell']) (by unfold maxLen; omega) (by omega) (by simp; omega) ?_; intro v' w1 hown' hgrow _; obtain ⟨g', cap', rfl⟩ := ownsRow_succ hown'; obtain ⟨hk2, hb2⟩ := appended_plain (ownsRow_mono (by omega) hrow) hB.size hgrow)
      have hK' := hk2.same D _ hK rfl
      refine ⟨by simp, .inl ⟨_, _, rfl, run_takeDeferred hK', ?_⟩⟩
      refine ⟨_, results_tmp rfl _ _ _, _, rfl, ?_, (hB.trans hb2).trans (belowK_b (w := w) (Nat.le_refl _) _ D _ _ (by omega) hK' rfl rfl)⟩
      rw [hsp]
      simpa [u64s, hlen] using ownsRow_putObj (ownsRow_mono (b₁ := w.heap.size) (by omega) hown') _ hK' rfl
    case stop =>
      rintro D c pre W _ _ h _
      exact h.elim
  · have hm : max a.length b.length = a.length := by omega
    obtain ⟨W0, hW0⟩ : ∃ W0, W0 = ((((((w.alloc (.cells #[.slice none 0 0] 24)).alloc (.cells #[.int .u64 0] 22)).alloc (.cells #[.slice A a.length ac] 24)).alloc (.cells #[.slice B b.length bc] 24)).alloc (.cells #[.int .i64 (a.length : Int)] 3)).alloc (.cells #[.func (.func 36) #[] #[]] 46)) := ⟨_, rfl⟩
    have hsz : W0.heap.size = w.heap.size + 6 := by
      rw [hW0]
      simp only [World.size_alloc]
    have hB0 : Below w.heap.size w W0 := by rw [hW0]; exact (((((((Below.refl _ w).alloc (Nat.le_refl _) _).alloc (by simp only [World.size_alloc]; omega) _).alloc (by simp only [World.size_alloc]; omega) _).alloc (by simp only [World.size_alloc]; omega) _).alloc (by simp only [World.size_alloc]; omega) _).alloc (by simp only [World.size_alloc]; omega) _)
    have bO : Boxed W0 w.heap.size 24 (.slice none 0 0) := by rw [hW0]; exact (((((Boxed.new w _ _).alloc _).alloc _).alloc _).alloc _).alloc _
    have bC : Boxed W0 (w.heap.size + 1) 22 (.int .u64 0) := by rw [hW0]; exact ((((Boxed.new' (w.alloc (.cells #[.slice none 0 0] 24)) _ _ (by simp)).alloc _).alloc _).alloc _).alloc _
    have b4 : Boxes4 (w.heap.size + 1 + 1) (.slice A a.length ac) (.slice B b.length bc) a.length W0 := by
      rw [hW0]
      exact ⟨(((Boxed.new' ((w.alloc (.cells #[.slice none 0 0] 24)).alloc (.cells #[.int .u64 0] 22)) _ _ (by simp)).alloc _).alloc _).alloc _, ((Boxed.new' (((w.alloc (.cells #[.slice none 0 0] 24)).alloc (.cells #[.int .u64 0] 22)).alloc (.cells #[.slice A a.length ac] 24)) _ _ (by simp)).alloc _).alloc _, (Boxed.new' ((((w.alloc (.cells #[.slice none 0 0] 24)).alloc (.cells #[.int .u64 0] 22)).alloc (.cells #[.slice A a.length ac] 24)).alloc (.cells #[.slice B b.length bc] 24)) _ _ (by simp)).alloc _, Boxed.new' (((((w.alloc (.cells #[.slice none 0 0] 24)).alloc (.cells #[.int .u64 0] 22)).alloc (.cells #[.slice A a.length ac] 24)).alloc (.cells #[.slice B b.length bc] 24)).alloc (.cells #[.int .i64 (a.length : Int)] 3)) _ _ (by simp)⟩
    rw [← hW0]
    refine wpIn_rangeFunc_ownG hro h1 (gf := 37) (lb := #[.pointer (some ⟨w.heap.size + 1 + 1 + 2, 0, none⟩), .pointer (some ⟨w.heap.size + 1 + 1 + 3, 0, none⟩), .pointer (some ⟨w.heap.size + 1 + 1, 0, none⟩), .pointer (some ⟨w.heap.size + 1 + 1 + 1, 0, none⟩)]) rfl h37 (enters_of Try.func37 (by kernel_rfl) rfl)
      (both_stops F (n - 1) h37 h36 hro (by omega) w.heap.size (w.heap.size + 1 + 1) _ _ _ _ _ _ a b ha hb a.length (by omega) W0 (by unfold InS; omega) (by unfold InS; omega) (by unfold InS; omega) (by unfold InS; omega) (by omega) (by omega) b4.b2.cell b4.b3.cell b4.b0.cell b4.b1.cell (hwa.below hB0) (hwb.below hB0))
      KpS.trans (fun W l o o' hl h _ _ => (KpS.refl _ _ W).grown (grownBy_putObj' W l o') (fun k e => by cases e; unfold InS; omega) (fun k hk => by have := (Array.getElem?_eq_some_iff.1 h).1; unfold InS at hk; omega)) (Below.refl _ _) (fun _ => rfl)
      (fun pre W => ((∃ v, Boxed W w.heap.size 24 v ∧ W.ownsRow (w.heap.size + 6) 22 1 v (addL pre).1.length (u64s (addL pre).1) ∧ True) ∧ Boxed W (w.heap.size + 1) 22 (.int .u64 (((addL pre).2 : Nat) : Int)) ∧ Boxes4 (w.heap.size + 1 + 1) (.slice A a.length ac) (.slice B b.length bc) a.length W) ∧ Below w.heap.size w W)
      (fun _ _ _ => False)
      (OwnFrom.and (Own.from (fun s X Y row hs hg hr => ⟨holdsRow_own (w.heap.size + 6) w.heap.size 24 22 1 (fun pre => (addL pre).1.length) (fun pre => u64s (addL pre).1) (fun _ _ => True) s X Y row hs.1 hg hr, hs.2.1.kept hg (fun e => by obtain ⟨o, ho, hc⟩ := hr _ e.symm; rw [show X.heap[w.heap.size + 1]? = _ from hs.2.1] at ho; cases ho; cases hc), Boxes4.own _ _ _ _ s X Y row hs.2.2 hg hr⟩) _) (ownFrom_below (Nat.le_refl _) (by omega)))
      (fun _ _ _ _ _ hs _ _ => hs)
      ⟨⟨⟨_, bO, (World.ownsRow_nil W0 (w.heap.size + 6) 22 1 : _), trivial⟩, bC, b4⟩, hB0⟩
      (fun x => { tmps := #[.slice A a.length ac, .slice B b.length bc, undef, undef, .slice none 0 0, .pointer (some ⟨w.heap.size, 0, none⟩), .pointer (some ⟨w.heap.size + 1, 0, none⟩), .int .u64 (x.1 : Int), .int .u64 (x.2 : Int), undef, .slice A a.length ac, .slice B b.length bc, .slice A a.length ac, .int .i64 (a.length : Int), .slice B b.length bc, .int .i64 (b.length : Int), .int .i64 (a.length : Int), .func (.func 37) #[] #[.pointer (some ⟨w.heap.size + 1 + 1 + 2, 0, none⟩), .pointer (some ⟨w.heap.size + 1 + 1 + 3, 0, none⟩), .pointer (some ⟨w.heap.size + 1 + 1, 0, none⟩), .pointer (some ⟨w.heap.size + 1 + 1 + 1, 0, none⟩)], .int .u64 (x.1 : Int), .int .u64 (x.2 : Int), undef, undef, undef, undef, undef, undef, undef, undef, undef, undef, undef, undef, undef, undef, undef, undef], defers := [] }) ?assign ?body ?done ?stop
    case assign =>
      intro l x W K hK
      gi_wp2
      exact hK
    case body =>
      rintro l pre x W ⟨⟨⟨v, hv, hrow, -⟩, hcb, hb4⟩, hB⟩ hlt
      have hc := hv.cell
      have hcc := hcb.cell
      have hcf := hcb.frozen
      have hlen := addL_length pre
      have hsz' := hb4.lt
      gi_wp2_with (gi_at_builtin; refine wpListIn_append_own _ rfl _ _ 24 rfl (w.heap.size + 6) 22 i0 (.int .u64 0) 1 8 Try.underlying24 hi hz0 hz1 hz2 rfl (by decide) _ _ _ rfl (hrow.alloc _) ⟨W.heap.size, 0, none⟩ 1 1 [_] rfl rfl (cell_one_new _ _ _) (by simp [Value.oneCell']) (by unfold maxLen; omega) (by omega) (by simp; omega) ?_; intro v' w1 hown' hgrow _; obtain ⟨g', cap', rfl⟩ := ownsRow_succ hown'; obtain ⟨hv1, hv2, hr2, hk2, hb2⟩ := hv.appended (by decide) (ownsRow_mono (by omega) hrow) hB.size (Nat.le_refl _) (ownsRow_mono (by omega) hown') hgrow; have hc1 := hv1.cell; have hf1 := hv1.frozen; have hcb1 := (hcb.alloc _).kept hgrow (ownsRow_low (by omega) hrow); have hcb2 := hcb1.kept (grownBy_setCell' w1 w.heap.size (.slice (some ⟨g', 0, none⟩) ((addL pre).1.length + 1) cap')) (by simp); have hc2 := hcb2.cell; have hf2 := hcb2.frozen; rw [hlen] at hc2 hf2)
      have er : u64s (addL (pre ++ [x])).1 = u64s (addL pre).1 ++ [.int .u64 (bits BinOp.and IntKind.u64 (IntKind.u64.wrap (IntKind.u64.wrap ((x.1 : Int) + (x.2 : Int)) + ((addL pre).2 : Int))) 1)] := by
        rw [addL_snoc, addS_int, and1 _ (addS_lt _ _)]; simp [u64s]
      have el : (addL (pre ++ [x])).1.length = (addL pre).1.length + 1 := by rw [addL_snoc]; simp
      have ec : (((addL (pre ++ [x])).2 : Nat) : Int) = IntKind.u64.wrap (IntKind.u64.wrap ((x.1 : Int) + (x.2 : Int)) + ((addL pre).2 : Int)) / 2 := by
        rw [addL_snoc, addS_int]; simp
      rw [← hlen]
      refine ⟨(hk2.trans (KeepsOthers.setCell _ _ _)).from _, ((kpS_appended hb4 (ownsRow_mono (by omega) hrow) hB.size hgrow).setCell (by unfold InS; dsimp only; omega) _).setCell (by unfold InS; dsimp only; omega) _, ⟨⟨_, hv2.kept (grownBy_setCell' _ _ _) (by simp), ?_, trivial⟩, ?_, ?_⟩, (hB.trans hb2).setCell (by dsimp only; omega) _⟩
      · rw [er, el]
        exact (hown'.kept (grownBy_setCell' _ _ _) (.inr (ownsRow_low (by omega) hown').symm)).kept (grownBy_setCell' _ _ _) (.inr (ownsRow_low (by omega) hown').symm)
      · rw [ec]; exact hcb2.set _
      · exact ((((hb4.kept (World.grownBy_alloc W _ none) (by simp)).kept hgrow (hb4.not_row hrow)).kept (grownBy_setCell' _ _ _) (fun j _ => by simp; omega)).kept (grownBy_setCell' _ _ _) (fun j _ => by simp; omega))
    case done =>
      rintro D xs W hD rfl ⟨⟨⟨v, hv, hrow, -⟩, hcb, hb4⟩, hB⟩ hK
      have hc := hv.cell
      have hcc := hcb.cell
      have hlen := addL_length (upto (fun j => (a[j]?.getD 0, b[j]?.getD 0)) a.length)
      rw [upto_length] at hlen
      have hsz' := hb4.lt
      have hsp : addSpec a b = (addL (upto (fun j => (a[j]?.getD 0, b[j]?.getD 0)) a.length)).1 ++ [(addL (upto (fun j => (a[j]?.getD 0, b[j]?.getD 0)) a.length)).2] := by unfold addSpec; rw [hm]
      generalize addL (upto (fun j => (a[j]?.getD 0, b[j]?.getD 0)) a.length) = L at hrow hcb hcc hsp hlen
      gi_wp2_with (gi_at_builtin; refine wpListIn_append_own _ rfl _ _ 24 rfl (w.heap.size + 6) 22 i0 (.int .u64 0) 1 8 Try.underlying24 hi hz0 hz1 hz2 rfl (by decide) _ _ _ rfl (hrow.alloc _) ⟨W.heap.size, 0, none⟩ 1 1 [_] rfl rfl (cell_one_new _ _ _) (by simp [Value.oneCell']) (by unfold maxLen; omega) (by omega) (by simp; omega) ?_; intro v' w1 hown' hgrow _; obtain ⟨g', cap', rfl⟩ := ownsRow_succ hown'; obtain ⟨hk2, hb2⟩ := appended_plain (ownsRow_mono (by omega) hrow) hB.size hgrow)
      have hK' := hk2.same D _ hK rfl
      refine ⟨by simp, .inl ⟨_, _, rfl, run_takeDeferred hK', ?_⟩⟩
      refine ⟨_, results_tmp rfl _ _ _, _, rfl, ?_, (hB.trans hb2).trans (belowK_b (w := w) (Nat.le_refl _) _ D _ _ (by omega) hK' rfl rfl)⟩
      rw [hsp]
      simpa [u64s, hlen] using ownsRow_putObj (ownsRow_mono (b₁ := w.heap.size) (by omega) hown') _ hK' rfl
    case stop =>
      rintro D c pre W _ _ h _
      exact h.elim
end Go.Proofs
/- The seat of privitylaw02: SaturatingSub of package bits, by the kit's walk. -/
set_option linter.unusedVariables false
set_option linter.unusedSimpArgs false
namespace Go.Proofs
open Go.RowKit Go.Shelf

attribute [local go_sem] Oper.semAt_some run_store_func

theorem wpListIn_append_spare {F : Fence} {n : Nat} {P : Program} (w : World) {ops : Array Oper} {rest : List Oper} {o : Oper} {a : Act} {Q : Exit → Act → World → Prop}
    (hg : o.guard = none) (s x : Operand) (t : TypeId) (hop : o.op = Op.call { callee := Callee.builtin Builtin.append, args := #[s, x], argTypes := #[t, t] })
    (base : Nat) (e : TypeId) (i : TypeInfo) (size : Nat) (h1 : P.underlying t = some (.slice e)) (h2 : P.info? e = some i) (h4 : i.size = size)
    (g k cap : Nat) (xs : List Value) (hs : a.eval s = .slice (some ⟨g, 0, none⟩) k cap) (hown : w.ownsRow base e size (.slice (some ⟨g, 0, none⟩) k cap) k xs) (ad : Addr) (m c : Nat) (news : List Value) (hx : a.eval x = .slice (some ad) m c) (hn : news.length = m * size)
    (hc : ∀ j u, news[j]? = some u → w.cell? (ad.add j) = some u) (h1c : ∀ u ∈ news, u.oneCell' = true) (hroom : k + m ≤ cap)
    (hK : ∀ w', w'.ownsRow base e size (.slice (some ⟨g, 0, none⟩) (k + m) cap) (k + m) (xs ++ news) → w.grownBy w' (some g) → wpListIn F n P ops Q rest (a.put o.dst (.slice (some ⟨g, 0, none⟩) (k + m) cap)) w') :
    wpListIn F n P ops Q (o :: rest) a w := by
  refine wpListIn_plain hg fun K hK' => ?_
  obtain ⟨w', hrun, r1, r2⟩ := run_append_own_spare (P := P) w base t o.type e i size h1 h2 h4 g k cap xs hown ad m c news hn hc h1c hroom
  unfold Oper.wpIn
  refine ⟨?_, ?_⟩
  · simp [Oper.about, hop, resolve, Target.leads, Sem.run_pure]
  · rw [Oper.semAt_plain F _ _ (by rw [hop]; intro c hc'; cases hc')]
    simp [execOp, hop, resolve, invoke, builtin, hs, hx, hrun, Result.andThen]
    exact hK' _ _ (hK w' r1 r2)

theorem wpListIn_make {F : Fence} {n : Nat} {P : Program} (w : World) {ops : Array Oper} {rest : List Oper} {o : Oper} {a : Act} {Q : Exit → Act → World → Prop}
    (hg : o.guard = none) (l c : Operand) (t : TypeId) (hop : o.op = Op.makeSlice t l c)
    (e : TypeId) (i : TypeInfo) (z : Value) (h1 : P.underlying t = some (.slice e)) (h2 : P.info? e = some i) (h3 : i.zero = some z) (h4 : i.size = 1) (h5 : i.bytes = 8)
    (kl kc : IntKind) (L C : Int) (lN m : Nat) (hl : a.eval l = .int kl L) (hc : a.eval c = .int kc C) (hL : L = (lN : Int)) (hC : C = (m : Int)) (hlm : lN ≤ m) (b2 : m ≤ 1000000)
    (hK : wpListIn F n P ops Q rest (a.put o.dst (.slice (some ⟨w.heap.size, 0, none⟩) lN m)) (w.alloc (.cells (madeCells z.cells m) e))) :
    wpListIn F n P ops Q (o :: rest) a w := by
  refine wpListIn_plain hg fun K hK' => ?_
  subst hC
  subst hL
  have hrun := run_make (P := P) w t e i z h1 h2 h3 kl kc lN m (by omega) (by omega) (by rw [h5]; omega) (by omega)
  simp only [Int.toNat_natCast, h4, Nat.mul_one] at hrun
  unfold Oper.wpIn
  refine ⟨?_, ?_⟩
  · simp [Oper.about, hop]
  · rw [Oper.semAt_plain F _ _ (by rw [hop]; intro c hc'; cases hc')]
    simp [execOp, hop, hl, hc, hrun, Result.andThen]
    exact hK' _ _ hK

theorem Words.up {n m : Nat} {W : World} {sv : Value} {l : List Nat} (h : n ≤ m) : Words n W sv l → Words m W sv l
  | .inl e => .inl e
  | .inr ⟨b, off, cap, e, hb, hc⟩ => .inr ⟨b, off, cap, e, by omega, hc⟩

theorem madeCells_u64 : ∀ m, (madeCells #[.int .u64 0] m).toList = u64s (List.replicate m 0) := by
  intro m
  apply List.ext_getElem
  · simp [madeCells]
  · intro i h1 h2
    simp [madeCells, Nat.mod_one]


def subS (c : Nat) (p : Nat × Nat) : Nat := (((((p.1 : Int) - (p.2 : Int)) % 18446744073709551616) - (c : Int)) % 18446744073709551616).toNat
def subL (ps : List (Nat × Nat)) : List Nat × Nat := ps.foldl (fun s p => (s.1 ++ [subS s.2 p % 2], subS s.2 p / 9223372036854775808)) ([], 0)
theorem subL_snoc (pre : List (Nat × Nat)) (x : Nat × Nat) : subL (pre ++ [x]) = ((subL pre).1 ++ [subS (subL pre).2 x % 2], subS (subL pre).2 x / 9223372036854775808) := by simp [subL]
theorem subL_length (ps : List (Nat × Nat)) : (subL ps).1.length = ps.length := by
  have := foldSnoc_length (fun s p => subS s.2 p % 2) (fun s p => subS s.2 p / 9223372036854775808) ps ([], 0)
  simpa [subL] using this
theorem subS_int (c : Nat) (p : Nat × Nat) : IntKind.u64.wrap (IntKind.u64.wrap ((p.1 : Int) - (p.2 : Int)) - (c : Int)) = ((subS c p : Nat) : Int) := by
  rw [IntKind.wrap_u64, IntKind.wrap_u64]; unfold subS; omega
theorem subS_lt (c : Nat) (p : Nat × Nat) : subS c p < M64 := by unfold subS M64; omega
def pairs (a b : List Nat) (k : Nat) : List (Nat × Nat) := upto (fun j => (a[j]?.getD 0, b[j]?.getD 0)) k
def subSpec (a b : List Nat) : List Nat := if lessL (pairs a b (max a.length b.length)) = 1 then List.replicate a.length 0 else (subL (pairs a b a.length)).1

set_option maxRecDepth 100000 in
set_option maxHeartbeats 2000000 in
theorem Sub22_in (F : Fence) (n : Nat) (h22 : F.fn 22) (h24 : F.fn 24) (h33 : F.fn 33) (h36 : F.fn 36) (h37 : F.fn 37) (hro : F.round = none) (hn : 4 ≤ n) (sa sb : Value) (a b : List Nat) (ha : a.length ≤ 1000) (hb : b.length ≤ 1000) (w : World) (hwa : Words w.heap.size w sa a) (hwb : Words w.heap.size w sb b) :
    CallsIn F n Try.prog 22 #[sa, sb] w fun e w' => ∃ g, e = .returned (.slice (some ⟨g, 0, none⟩) a.length a.length) ∧ w'.ownsRow w.heap.size 22 1 (.slice (some ⟨g, 0, none⟩) a.length a.length) a.length (u64s (subSpec a b)) ∧ Below w.heap.size w w' := by
  have h1 : 1 ≤ n := by omega
  obtain ⟨i0, hi, hz0, hz1, hz2⟩ := info_parts info22
  obtain ⟨A, ac, rfl⟩ := hwa.len
  obtain ⟨B, bc, rfl⟩ := hwb.len
  refine callsIn_of_wp_marks Try.func22 rfl h22 ?_ hro
  simp only [Try.ntmps22, List.size_toArray, List.length_cons, List.length_nil, Nat.reduceAdd, Nat.reduceSub, Array.replicate_succ, Array.replicate_zero, List.push_toArray, List.append_toArray, List.nil_append, List.cons_append]
  have hal : ¬ ((a.length : Int) < 0) := by omega
  have hB1 : Below w.heap.size w ((w.alloc (.cells (madeCells #[.int .u64 0] a.length) 22)).alloc (.cells #[.slice (some ⟨w.heap.size, 0, none⟩) 0 a.length] 24)) := ((Below.refl _ w).alloc (Nat.le_refl _) _).alloc (by simp) _
  have hs1 : ((w.alloc (.cells (madeCells #[.int .u64 0] a.length) 22)).alloc (.cells #[.slice (some ⟨w.heap.size, 0, none⟩) 0 a.length] 24)).heap.size = w.heap.size + 2 := by simp
  have hwa1 : Words ((w.alloc (.cells (madeCells #[.int .u64 0] a.length) 22)).alloc (.cells #[.slice (some ⟨w.heap.size, 0, none⟩) 0 a.length] 24)).heap.size ((w.alloc (.cells (madeCells #[.int .u64 0] a.length) 22)).alloc (.cells #[.slice (some ⟨w.heap.size, 0, none⟩) 0 a.length] 24)) (.slice A a.length ac) a := (hwa.below hB1).up (by omega)
  have hwb1 : Words ((w.alloc (.cells (madeCells #[.int .u64 0] a.length) 22)).alloc (.cells #[.slice (some ⟨w.heap.size, 0, none⟩) 0 a.length] 24)).heap.size ((w.alloc (.cells (madeCells #[.int .u64 0] a.length) 22)).alloc (.cells #[.slice (some ⟨w.heap.size, 0, none⟩) 0 a.length] 24)) (.slice B b.length bc) b := (hwb.below hB1).up (by omega)
  have bO1 : Boxed ((w.alloc (.cells (madeCells #[.int .u64 0] a.length) 22)).alloc (.cells #[.slice (some ⟨w.heap.size, 0, none⟩) 0 a.length] 24)) (w.heap.size + 1) 24 (.slice (some ⟨w.heap.size, 0, none⟩) 0 a.length) := Boxed.new' _ _ _ (by simp)
  have row1 : ((w.alloc (.cells (madeCells #[.int .u64 0] a.length) 22)).alloc (.cells #[.slice (some ⟨w.heap.size, 0, none⟩) 0 a.length] 24)).ownsRow w.heap.size 22 1 (.slice (some ⟨w.heap.size, 0, none⟩) 0 a.length) 0 [] := (World.ownsRow_made w (madeCells #[.int .u64 0] a.length) a.length (Nat.le_refl _) (by unfold maxLen; omega) (by simp [madeCells])).kept (World.grownBy_alloc _ _ none) (.inr (by simp [Value.ownBlock]))
  have less := Less24_in F (n - 1) h24 h33 h36 h37 hro (by omega) _ _ a b ha hb _ hwa1 hwb1
  obtain ⟨w1, hw1⟩ : ∃ w1, w1 = ((w.alloc (.cells (madeCells #[.int .u64 0] a.length) 22)).alloc (.cells #[.slice (some ⟨w.heap.size, 0, none⟩) 0 a.length] 24)) := ⟨_, rfl⟩
  rw [← hw1] at hB1 hs1 hwa1 hwb1 bO1 row1 less
  have hsp : subSpec a b = if lessL (upto (fun j => (a[j]?.getD 0, b[j]?.getD 0)) (max a.length b.length)) = 1 then List.replicate a.length 0 else (subL (upto (fun j => (a[j]?.getD 0, b[j]?.getD 0)) a.length)).1 := rfl
  generalize lessL (upto (fun j => (a[j]?.getD 0, b[j]?.getD 0)) (max a.length b.length)) = lv at less hsp
  by_cases hlv : lv = 1
  · have hli : (lv : Int) = 1 := by omega
    gi_wp2_with (first | (gi_at_make; refine wpListIn_make _ rfl _ _ 24 rfl 22 i0 (.int .u64 0) Try.underlying24 hi hz0 hz1 hz2 .i64 .i64 _ _ 0 a.length rfl rfl rfl rfl (by omega) (by omega) ?_) | (gi_at_make; refine wpListIn_make _ rfl _ _ 24 rfl 22 i0 (.int .u64 0) Try.underlying24 hi hz0 hz1 hz2 .i64 .i64 _ _ a.length a.length rfl rfl rfl rfl (by omega) (by omega) ?_) | (gi_at_call 24; rw [show (((w.alloc (.cells (madeCells #[.int .u64 0] a.length) 22)).alloc (.cells #[.slice (some ⟨w.heap.size, 0, none⟩) 0 a.length] 24)) : World) = w1 from hw1.symm]; refine less.mono ?_; rintro e w2 ⟨rfl, hB2⟩))
    have hB12 := hB1.trans (hB2.mono (by omega))
    refine ⟨_, results_tmp rfl _ _ _, _, rfl, ?_, hB12.alloc hB12.size _⟩
    rw [hsp, if_pos hlv]
    have := World.ownsRow_lit (base := w.heap.size) (e := 22) (size := 1) w2 (madeCells #[.int .u64 0] a.length) a.length hB12.size (by unfold maxLen; omega) (by simp [madeCells])
    have e : (madeCells #[.int .u64 0] a.length).toList = u64s (List.replicate a.length 0) := madeCells_u64 _
    rw [e] at this
    exact this
  · have hli : ¬ (lv : Int) = 1 := by omega
    gi_wp2_with (first | (gi_at_make; refine wpListIn_make _ rfl _ _ 24 rfl 22 i0 (.int .u64 0) Try.underlying24 hi hz0 hz1 hz2 .i64 .i64 _ _ 0 a.length rfl rfl rfl rfl (by omega) (by omega) ?_) | (gi_at_make; refine wpListIn_make _ rfl _ _ 24 rfl 22 i0 (.int .u64 0) Try.underlying24 hi hz0 hz1 hz2 .i64 .i64 _ _ a.length a.length rfl rfl rfl rfl (by omega) (by omega) ?_) | (gi_at_call 24; rw [show (((w.alloc (.cells (madeCells #[.int .u64 0] a.length) 22)).alloc (.cells #[.slice (some ⟨w.heap.size, 0, none⟩) 0 a.length] 24)) : World) = w1 from hw1.symm]; refine less.mono ?_; rintro e w2 ⟨rfl, hB2⟩) | (gi_at_call 33; refine (both33_in F (n - 1) h33 hro _ _ _ _ _ _ _ _).mono ?_; rintro e w' ⟨rfl, rfl⟩))
    have hB12 := hB1.trans (hB2.mono (by omega))
    have hs2 : w1.heap.size ≤ w2.heap.size := hB2.size
    have bO2 : Boxed w2 (w.heap.size + 1) 24 (.slice (some ⟨w.heap.size, 0, none⟩) 0 a.length) := (hB2.block _ (by omega)).trans bO1
    have row2 : w2.ownsRow w.heap.size 22 1 (.slice (some ⟨w.heap.size, 0, none⟩) 0 a.length) 0 [] := by
      refine ⟨row1.1, ?_⟩
      rcases row1.2 with ⟨e, _⟩ | ⟨g, cap, cur, e1, hb1, hg, hr⟩
      · cases e
      · refine .inr ⟨g, cap, cur, e1, hb1, ?_, hr⟩
        have hg1 := (Array.getElem?_eq_some_iff.1 hg).1
        exact (hB2.block g hg1).trans hg
    obtain ⟨W0, hW0⟩ : ∃ W0, W0 = (((((w2.alloc (.cells #[.int .u64 0] 22)).alloc (.cells #[.slice A a.length ac] 24)).alloc (.cells #[.slice B b.length bc] 24)).alloc (.cells #[.int .i64 (a.length : Int)] 3)).alloc (.cells #[.func (.func 36) #[] #[]] 46)) := ⟨_, rfl⟩
    have hsz : W0.heap.size = w2.heap.size + 5 := by
      rw [hW0]
      simp only [World.size_alloc]
    have hB0 : Below w.heap.size w W0 := by rw [hW0]; exact ((((((hB12).alloc (by omega) _).alloc (by simp only [World.size_alloc]; omega) _).alloc (by simp only [World.size_alloc]; omega) _).alloc (by simp only [World.size_alloc]; omega) _).alloc (by simp only [World.size_alloc]; omega) _)
    have bO : Boxed W0 (w.heap.size + 1) 24 (.slice (some ⟨w.heap.size, 0, none⟩) 0 a.length) := by rw [hW0]; exact ((((bO2.alloc _).alloc _).alloc _).alloc _).alloc _
    have row : W0.ownsRow w.heap.size 22 1 (.slice (some ⟨w.heap.size, 0, none⟩) 0 a.length) 0 [] := by rw [hW0]; exact ((((row2.alloc _).alloc _).alloc _).alloc _).alloc _
    have bC : Boxed W0 w2.heap.size 22 (.int .u64 0) := by rw [hW0]; exact ((((Boxed.new w2 _ _).alloc _).alloc _).alloc _).alloc _
    have b4 : Boxes4 (w2.heap.size + 1) (.slice A a.length ac) (.slice B b.length bc) a.length W0 := by
      rw [hW0]
      exact ⟨(((Boxed.new' _ _ _ (by simp)).alloc _).alloc _).alloc _, ((Boxed.new' _ _ _ (by simp)).alloc _).alloc _, (Boxed.new' _ _ _ (by simp)).alloc _, Boxed.new' _ _ _ (by simp)⟩
    rw [← hW0]
    refine wpIn_rangeFunc_ownG hro h1 (gf := 37) (lb := #[.pointer (some ⟨w2.heap.size + 1 + 2, 0, none⟩), .pointer (some ⟨w2.heap.size + 1 + 3, 0, none⟩), .pointer (some ⟨w2.heap.size + 1, 0, none⟩), .pointer (some ⟨w2.heap.size + 1 + 1, 0, none⟩)]) rfl h37 (enters_of Try.func37 (by kernel_rfl) rfl)
      (both_stops F (n - 1) h37 h36 hro (by omega) w.heap.size (w2.heap.size + 1) _ _ _ _ _ _ a b ha hb a.length (by omega) W0 (by unfold InS; omega) (by unfold InS; omega) (by unfold InS; omega) (by unfold InS; omega) (by omega) (by omega) b4.b2.cell b4.b3.cell b4.b0.cell b4.b1.cell (hwa.below hB0) (hwb.below hB0))
      KpS.trans (fun W l o o' hl h _ _ => (KpS.refl _ _ W).grown (grownBy_putObj' W l o') (fun k e => by cases e; unfold InS; omega) (fun k hk => by have := (Array.getElem?_eq_some_iff.1 h).1; unfold InS at hk; omega)) (Below.refl _ _) (fun _ => rfl)
      (fun pre W => ((∃ v, Boxed W (w.heap.size + 1) 24 v ∧ W.ownsRow w.heap.size 22 1 v (subL pre).1.length (u64s (subL pre).1) ∧ v = .slice (some ⟨w.heap.size, 0, none⟩) (subL pre).1.length a.length) ∧ Boxed W w2.heap.size 22 (.int .u64 (((subL pre).2 : Nat) : Int)) ∧ Boxes4 (w2.heap.size + 1) (.slice A a.length ac) (.slice B b.length bc) a.length W) ∧ Below w.heap.size w W)
      (fun _ _ _ => False)
      (OwnFrom.and (Own.from (fun s X Y row hs hg hr => ⟨holdsRow_own w.heap.size (w.heap.size + 1) 24 22 1 (fun pre => (subL pre).1.length) (fun pre => u64s (subL pre).1) (fun pre v => v = .slice (some ⟨w.heap.size, 0, none⟩) (subL pre).1.length a.length) s X Y row hs.1 hg hr, hs.2.1.kept hg (fun e => by obtain ⟨o, ho, hc⟩ := hr _ e.symm; rw [show X.heap[w2.heap.size]? = _ from hs.2.1] at ho; cases ho; cases hc), Boxes4.own _ _ _ _ s X Y row hs.2.2 hg hr⟩) _) (ownFrom_below (Nat.le_refl _) (by omega)))
      (fun _ _ _ _ _ hs _ _ => hs)
      ⟨⟨⟨_, bO, row, rfl⟩, bC, b4⟩, hB0⟩
      (fun x => { tmps := #[.slice A a.length ac, .slice B b.length bc, undef, undef, .slice none 0 0, .pointer (some ⟨w.heap.size + 1, 0, none⟩), .pointer (some ⟨w2.heap.size, 0, none⟩), .int .u64 (x.1 : Int), .int .u64 (x.2 : Int), undef, .slice A a.length ac, .int .i64 (a.length : Int), .slice (some ⟨w.heap.size, 0, none⟩) 0 a.length, .slice A a.length ac, .slice B b.length bc, .int .u64 (lv : Int), .bool false, undef, undef, undef, .slice A a.length ac, .slice B b.length bc, .slice A a.length ac, .int .i64 (a.length : Int), .func (.func 37) #[] #[.pointer (some ⟨w2.heap.size + 1 + 2, 0, none⟩), .pointer (some ⟨w2.heap.size + 1 + 3, 0, none⟩), .pointer (some ⟨w2.heap.size + 1, 0, none⟩), .pointer (some ⟨w2.heap.size + 1 + 1, 0, none⟩)], .int .u64 (x.1 : Int), .int .u64 (x.2 : Int), undef, undef, undef, undef, undef, undef, undef, undef, undef, undef, undef, undef, undef], defers := [] }) ?assign ?body ?done ?stop
    case assign =>
      intro l x W K hK
      gi_wp2
      exact hK
    case body =>
      rintro l pre x W ⟨⟨⟨v, hv, hrow, rfl⟩, hcb, hb4⟩, hB⟩ hlt
      have hlen := subL_length pre
      rw [hlen] at hv hrow
      have hc := hv.cell
      have hcc := hcb.cell
      have hcf := hcb.frozen
      have hsz' := hb4.lt
      gi_wp2_with (gi_at_builtin; refine wpListIn_append_spare _ rfl _ _ 24 rfl w.heap.size 22 i0 1 Try.underlying24 hi hz1 w.heap.size _ a.length _ rfl (hrow.alloc _) ⟨W.heap.size, 0, none⟩ 1 1 [_] rfl rfl (cell_one_new _ _ _) (by simp [Value.oneCell']) (by omega) ?_; intro w1 hown' hgrow; obtain ⟨hv1, hv2, hr2, hk2, hb2⟩ := hv.appended (by decide) hrow hB.size (by omega) hown' hgrow; have hc1 := hv1.cell; have hf1 := hv1.frozen; have hcb1 := (hcb.alloc _).kept hgrow (by simp; omega); have hcb2 := hcb1.kept (grownBy_setCell' w1 (w.heap.size + 1) (.slice (some ⟨w.heap.size, 0, none⟩) (pre.length + 1) a.length)) (by simp; omega); have hc2 := hcb2.cell; have hf2 := hcb2.frozen)
      have er : u64s (subL (pre ++ [x])).1 = u64s (subL pre).1 ++ [.int .u64 (bits BinOp.and IntKind.u64 (IntKind.u64.wrap (IntKind.u64.wrap ((x.1 : Int) - (x.2 : Int)) - ((subL pre).2 : Int))) 1)] := by
        rw [subL_snoc, subS_int, and1 _ (subS_lt _ _)]; simp [u64s]
      have el : (subL (pre ++ [x])).1.length = pre.length + 1 := by rw [subL_length]; simp
      have ec : (((subL (pre ++ [x])).2 : Nat) : Int) = IntKind.u64.wrap (IntKind.u64.wrap ((x.1 : Int) - (x.2 : Int)) - ((subL pre).2 : Int)) / 9223372036854775808 := by
        rw [subL_snoc, subS_int]; simp
      refine ⟨(hk2.trans (KeepsOthers.setCell _ _ _)).from _, ((kpS_appended hb4 hrow hB.size hgrow).setCell (by unfold InS; dsimp only; omega) _).setCell (by unfold InS; dsimp only; omega) _, ⟨⟨_, hv2.kept (grownBy_setCell' _ _ _) (by simp; omega), ?_, by rw [el]⟩, ?_, ?_⟩, (hB.trans hb2).setCell (by dsimp only; omega) _⟩
      · rw [er, el]
        exact (hown'.kept (grownBy_setCell' _ _ _) (.inr (by simp [Value.ownBlock]))).kept (grownBy_setCell' _ _ _) (.inr (by simp [Value.ownBlock]; omega))
      · rw [ec]; exact hcb2.set _
      · exact ((((hb4.kept (World.grownBy_alloc W _ none) (by simp)).kept hgrow (hb4.not_row hrow)).kept (grownBy_setCell' _ _ _) (fun j _ => by simp; omega)).kept (grownBy_setCell' _ _ _) (fun j _ => by simp; omega))
    case done =>
      rintro D xs W hD rfl ⟨⟨⟨v, hv, hrow, rfl⟩, hcb, hb4⟩, hB⟩ hK
      have hlen : (subL (upto (fun j => (a[j]?.getD 0, b[j]?.getD 0)) a.length)).1.length = a.length := by rw [subL_length, upto_length]
      rw [hlen] at hv hrow
      have hc := hv.cell
      gi_wp2
      refine ⟨by simp, .inl ⟨_, _, rfl, run_takeDeferred hK, ?_⟩⟩
      refine ⟨_, results_tmp rfl _ _ _, _, rfl, ?_, hB.trans (belowK_b (w := w) (Nat.le_refl _) _ D _ _ (by omega) hK rfl rfl)⟩
      rw [hsp, if_neg hlv]
      exact ownsRow_putObj hrow _ hK rfl
    case stop =>
      rintro D c pre W _ _ h _
      exact h.elim
end Go.Proofs
