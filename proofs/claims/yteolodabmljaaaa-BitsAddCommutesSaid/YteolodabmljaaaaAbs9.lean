/- Joined: AbsXA AbsXB AbsXC AbsXD. -/
import Derived.Test.YteolodabmljaaaaAbs8
import Derived.RangeFuncNested
import Derived.RangeFuncBound
import Derived.RangeFuncCalls
import Derived.RangeFuncLeaves
import Derived.RangeFuncBox
import Derived.Shelf.Abstract
import Derived.Shelf.RegionOpen
import Derived.WalkKit
import Derived.OwnWalkIn
import Derived.TacticsInMore
import Derived.LoopNIn
import Derived.LoopIn
import Derived.Maps.AppendAt
import Derived.Test.YteolodabmljaaaaProg
set_option linter.all false
/- The seat of privitylaw02: the iterators of package bits, by the kit's walk. -/
set_option linter.unusedVariables false
set_option linter.unusedSimpArgs false
namespace Go.Proofs
open Go.RowKit Go.Shelf

attribute [local go_sem] Oper.semAt_some
theorem run_store_func (P : Program) (w : World) (a : Addr) (m : Mode) (f : Fn) (x y : Array Value) : (store a (.func f x y) m).run P w = stored P w a (.func f x y) m := run_store P w a _ m rfl
attribute [local go_sem] run_store_func

/-- THE SLICE VALUE sv HOLDS THE words l, in a block below n₀; or there are none. -/
def Words (n₀ : Nat) (W : World) (sv : Value) (l : List Nat) : Prop :=
  (∃ A cap, sv = .slice A 0 cap ∧ l = []) ∨ ∃ b off cap, sv = .slice (some ⟨b, off, none⟩) l.length cap ∧ b < n₀ ∧ ∀ j, j < l.length → W.cell? ⟨b, off + j, none⟩ = some (.int .u64 ((l[j]?.getD 0 : Nat) : Int))
theorem Words.below {n₀ : Nat} {A B : World} (h : Below n₀ A B) {sv : Value} {l : List Nat} : Words n₀ A sv l → Words n₀ B sv l
  | .inl e => .inl e
  | .inr ⟨b, off, cap, e, hb, hc⟩ => .inr ⟨b, off, cap, e, hb, fun j hj => (h.cell (p := ⟨b, off + j, none⟩) hb).trans (hc j hj)⟩

set_option maxRecDepth 100000 in
set_option maxHeartbeats 1000000 in
theorem at36_in (F : Fence) (n : Nat) (h36 : F.fn 36) (hro : F.round = none) (n₀ : Nat) (sv : Value) (l : List Nat) (hl : l.length ≤ 1000) (i : Nat) (hi : i ≤ 1000) (w : World) (hw : Words n₀ w sv l) :
    CallsIn F n Try.prog 36 #[sv, .int .i64 (i : Int)] w fun e w' => e = .returned (.int .u64 ((l[i]?.getD 0 : Nat) : Int)) ∧ w' = w := by
  rcases hw with ⟨A0, c0, rfl, rfl⟩ | ⟨b, off, cap, rfl, hb, hc⟩
  · refine callsIn_of_wp Try.func36 rfl h36 ?_ hro
    simp only [Try.ntmps36, List.size_toArray, List.length_cons, List.length_nil, Nat.reduceAdd, Nat.reduceSub, Array.replicate_succ, Array.replicate_zero, List.push_toArray, List.append_toArray, List.nil_append, List.cons_append]
    gi_wp2
    go_ret
    exact ⟨by simp, rfl⟩
  · refine callsIn_of_wp Try.func36 rfl h36 ?_ hro
    simp only [Try.ntmps36, List.size_toArray, List.length_cons, List.length_nil, Nat.reduceAdd, Nat.reduceSub, Array.replicate_succ, Array.replicate_zero, List.push_toArray, List.append_toArray, List.nil_append, List.cons_append]
    by_cases hlt : i < l.length
    · have hcx := hc i hlt
      gi_wp2
      go_ret
      exact ⟨by simp [hlt], rfl⟩
    · gi_wp2
      go_ret
      exact ⟨by simp [hlt], rfl⟩
set_option maxHeartbeats 1000000 in
/-- both(a, b, m): everything is boxed; the function value captures the boxes. -/
theorem both33_in (F : Fence) (n : Nat) (h33 : F.fn 33) (hro : F.round = none) (A B : Option Addr) (al ac bl bc : Nat) (m : Int) (w : World) :
    CallsIn F n Try.prog 33 #[.slice A al ac, .slice B bl bc, .int .i64 m] w fun e w' => e = .returned (.func (.func 37) #[] #[.pointer (some ⟨w.heap.size + 2, 0, none⟩), .pointer (some ⟨w.heap.size + 3, 0, none⟩), .pointer (some ⟨w.heap.size, 0, none⟩), .pointer (some ⟨w.heap.size + 1, 0, none⟩)])
      ∧ w' = (((w.alloc (.cells #[.slice A al ac] 24)).alloc (.cells #[.slice B bl bc] 24)).alloc (.cells #[.int .i64 m] 3)).alloc (.cells #[.func (.func 36) #[] #[]] 46) := by
  refine callsIn_of_wp Try.func33 rfl h33 ?_ hro
  simp only [Try.ntmps33, List.size_toArray, List.length_cons, List.length_nil, Nat.reduceAdd, Nat.reduceSub, Array.replicate_succ, Array.replicate_zero, List.push_toArray, List.append_toArray, List.nil_append, List.cons_append]
  gi_wp2
  go_ret
  exact ⟨rfl, rfl⟩

def upto (f : Nat → Nat × Nat) (k : Nat) : List (Nat × Nat) := (List.range k).map f
theorem upto_succ (f : Nat → Nat × Nat) (k : Nat) : upto f (k + 1) = upto f k ++ [f k] := by simp [upto, List.range_succ]
theorem upto_length (f : Nat → Nat × Nat) (k : Nat) : (upto f k).length = k := by simp [upto]
abbrev encs2 (x : Nat × Nat) : Array Value := #[.int .u64 (x.1 : Int), .int .u64 (x.2 : Int)]

/-- A region of a function. -/
def regOf : Code → Nat → Option (Array Oper)
  | .region id ops _, i => bif id == i then some ops else none
  | .seq a b, i => match regOf a i with | some o => some o | none => regOf b i
  | .cond _ a b, i => match regOf a i with | some o => some o | none => regOf b i
  | .block _ c, i => regOf c i
  | .loop c, i => regOf c i
  | _, _ => none
noncomputable def ops37 : Array Oper := match Try.f37.body with | some c => (regOf c 3).getD #[] | none => #[]
abbrev f36V : Value := .func (.func 36) #[] #[]
def act37 (l B1 B2 B3 B4 k m : Nat) (x12 x13 x15 x16 x17 x19 u20 u21 u22 : Value) : Act :=
  { tmps := #[.func (.yield l) #[] #[], .pointer (some ⟨B1, 0, none⟩), .pointer (some ⟨B2, 0, none⟩), .pointer (some ⟨B3, 0, none⟩), .pointer (some ⟨B4, 0, none⟩), undef, .int .i64 (k : Int), .int .i64 (m : Int), .int .i64 (k : Int), .bool true, .int .i64 (k : Int), .func (.yield l) #[] #[], x12, x13, .int .i64 (k : Int), x15, x16, x17, .int .i64 (k : Int), x19, u20, u21, u22], defers := [] }
set_option maxRecDepth 100000 in
set_option maxHeartbeats 2000000 in
/-- Every order of the region's loads and calls comes to the same. -/
theorem reg37 (F : Fence) (n : Nat) (h36 : F.fn 36) (hro : F.round = none) (hn : 1 ≤ n) (n₀ l B1 B2 B3 B4 k m : Nat) (hk : k ≤ 1000) (sa sb : Value) (a b : List Nat) (ha : a.length ≤ 1000) (hb : b.length ≤ 1000) (w : World) (c2 : w.cell? ⟨B2, 0, none⟩ = some (.func (.func 36) #[] #[])) (c3 : w.cell? ⟨B3, 0, none⟩ = some sa) (c4 : w.cell? ⟨B4, 0, none⟩ = some sb)
    (wa : Words n₀ w sa a) (wb : Words n₀ w sb b) (Q : Exit → Act → World → Prop) (u12 u13 u15 u16 u17 u19 u20 u21 u22 : Value)
    (h44 : wpAnyIn F n Try.prog .any ops37 Q 2 #[true, true, true, true, true, true, true, true, true, false, false] (act37 l B1 B2 B3 B4 k m f36V sa (.int .u64 ((a[k]?.getD 0 : Nat) : Int)) f36V sb (.int .u64 ((b[k]?.getD 0 : Nat) : Int)) u20 u21 u22) w) :
    wpAnyIn F n Try.prog .any ops37 Q 8 #[true, false, false, true, false, false, false, true, false, false, false] (act37 l B1 B2 B3 B4 k m u12 u13 u15 u16 u17 u19 u20 u21 u22) w := by
  have h1 : 1 ≤ n := hn
  have ca := at36_in F (n - 1) h36 hro n₀ sa a ha k (by omega) w wa
  have cb := at36_in F (n - 1) h36 hro n₀ sb b hb k (by omega) w wb
  have s1 : ∀ {K : Act → World → Prop} {x12 x13 x15 x16 x17 x19 : Value}, K (act37 l B1 B2 B3 B4 k m f36V x13 x15 x16 x17 x19 u20 u21 u22) w → wpOpIn F n Try.prog ops37 Q 1 K (act37 l B1 B2 B3 B4 k m x12 x13 x15 x16 x17 x19 u20 u21 u22) w := by
    intro K x12 x13 x15 x16 x17 x19 h
    refine wpOpIn_step (o := { dst := some 12, op := Op.load 46 (Operand.tmp 2), type := 46, pos := "bits.go:22", after := #[], guard := none }) rfl (fun K' hK => ?_)
    unfold act37
    go_simp
    exact hK _ _ h
  have s2 : ∀ {K : Act → World → Prop} {x12 x13 x15 x16 x17 x19 : Value}, K (act37 l B1 B2 B3 B4 k m x12 sa x15 x16 x17 x19 u20 u21 u22) w → wpOpIn F n Try.prog ops37 Q 2 K (act37 l B1 B2 B3 B4 k m x12 x13 x15 x16 x17 x19 u20 u21 u22) w := by
    intro K x12 x13 x15 x16 x17 x19 h
    refine wpOpIn_step (o := { dst := some 13, op := Op.load 24 (Operand.tmp 3), type := 24, pos := "bits.go:22", after := #[], guard := none }) rfl (fun K' hK => ?_)
    unfold act37
    go_simp
    exact hK _ _ h
  have s5 : ∀ {K : Act → World → Prop} {x12 x13 x15 x16 x17 x19 : Value}, K (act37 l B1 B2 B3 B4 k m x12 x13 x15 f36V x17 x19 u20 u21 u22) w → wpOpIn F n Try.prog ops37 Q 5 K (act37 l B1 B2 B3 B4 k m x12 x13 x15 x16 x17 x19 u20 u21 u22) w := by
    intro K x12 x13 x15 x16 x17 x19 h
    refine wpOpIn_step (o := { dst := some 16, op := Op.load 46 (Operand.tmp 2), type := 46, pos := "bits.go:22", after := #[], guard := none }) rfl (fun K' hK => ?_)
    unfold act37
    go_simp
    exact hK _ _ h
  have s6 : ∀ {K : Act → World → Prop} {x12 x13 x15 x16 x17 x19 : Value}, K (act37 l B1 B2 B3 B4 k m x12 x13 x15 x16 sb x19 u20 u21 u22) w → wpOpIn F n Try.prog ops37 Q 6 K (act37 l B1 B2 B3 B4 k m x12 x13 x15 x16 x17 x19 u20 u21 u22) w := by
    intro K x12 x13 x15 x16 x17 x19 h
    refine wpOpIn_step (o := { dst := some 17, op := Op.load 24 (Operand.tmp 4), type := 24, pos := "bits.go:22", after := #[], guard := none }) rfl (fun K' hK => ?_)
    unfold act37
    go_simp
    exact hK _ _ h
  have s4 : ∀ {K : Act → World → Prop} {x15 x16 x17 x19 : Value}, K (act37 l B1 B2 B3 B4 k m f36V sa (.int .u64 ((a[k]?.getD 0 : Nat) : Int)) x16 x17 x19 u20 u21 u22) w → wpOpIn F n Try.prog ops37 Q 4 K (act37 l B1 B2 B3 B4 k m f36V sa x15 x16 x17 x19 u20 u21 u22) w := by
    intro K x15 x16 x17 x19 h
    refine wpOpIn_step (o := { dst := some 15, op := Op.call { callee := Callee.value (Operand.tmp 12), args := #[Operand.tmp 13, Operand.tmp 14], argTypes := #[24, 3] }, type := 22, pos := "bits.go:22", after := #[{ on := 1, ground := Ground.data }, { on := 2, ground := Ground.data }, { on := 3, ground := Ground.data }], guard := none }) rfl (fun K' hK => ?_)
    unfold act37
    go_simp
    refine ca.mono ?_
    rintro e w' ⟨rfl, rfl⟩
    exact hK _ _ h
  have s8 : ∀ {K : Act → World → Prop} {x12 x13 x15 x19 : Value}, K (act37 l B1 B2 B3 B4 k m x12 x13 x15 f36V sb (.int .u64 ((b[k]?.getD 0 : Nat) : Int)) u20 u21 u22) w → wpOpIn F n Try.prog ops37 Q 8 K (act37 l B1 B2 B3 B4 k m x12 x13 x15 f36V sb x19 u20 u21 u22) w := by
    intro K x12 x13 x15 x19 h
    refine wpOpIn_step (o := { dst := some 19, op := Op.call { callee := Callee.value (Operand.tmp 16), args := #[Operand.tmp 17, Operand.tmp 18], argTypes := #[24, 3] }, type := 22, pos := "bits.go:22", after := #[{ on := 5, ground := Ground.data }, { on := 6, ground := Ground.data }, { on := 7, ground := Ground.data }, { on := 4, ground := Ground.chain }], guard := none }) rfl (fun K' hK => ?_)
    unfold act37
    go_simp
    refine cb.mono ?_
    rintro e w' ⟨rfl, rfl⟩
    exact hK _ _ h
  have h43 : wpAnyIn F n Try.prog .any ops37 Q 3 #[true, true, true, true, true, true, true, true, false, false, false] (act37 l B1 B2 B3 B4 k m f36V sa (.int .u64 ((a[k]?.getD 0 : Nat) : Int)) f36V sb u19 u20 u21 u22) w := by
    refine wpAnyIn_all (rs := [8]) (by kernel_rfl) (by simp) fun i hi => ?_
    simp only [List.mem_cons, List.not_mem_nil, or_false] at hi
    rcases hi with rfl
    · exact s8 h44
  have h42 : wpAnyIn F n Try.prog .any ops37 Q 4 #[true, true, true, true, true, false, true, true, false, false, false] (act37 l B1 B2 B3 B4 k m f36V sa (.int .u64 ((a[k]?.getD 0 : Nat) : Int)) u16 sb u19 u20 u21 u22) w := by
    refine wpAnyIn_all (rs := [5]) (by kernel_rfl) (by simp) fun i hi => ?_
    simp only [List.mem_cons, List.not_mem_nil, or_false] at hi
    rcases hi with rfl
    · exact s5 h43
  have h41 : wpAnyIn F n Try.prog .any ops37 Q 4 #[true, true, true, true, true, true, false, true, false, false, false] (act37 l B1 B2 B3 B4 k m f36V sa (.int .u64 ((a[k]?.getD 0 : Nat) : Int)) f36V u17 u19 u20 u21 u22) w := by
    refine wpAnyIn_all (rs := [6]) (by kernel_rfl) (by simp) fun i hi => ?_
    simp only [List.mem_cons, List.not_mem_nil, or_false] at hi
    rcases hi with rfl
    · exact s6 h43
  have h40 : wpAnyIn F n Try.prog .any ops37 Q 5 #[true, true, true, true, true, false, false, true, false, false, false] (act37 l B1 B2 B3 B4 k m f36V sa (.int .u64 ((a[k]?.getD 0 : Nat) : Int)) u16 u17 u19 u20 u21 u22) w := by
    refine wpAnyIn_all (rs := [5, 6]) (by kernel_rfl) (by simp) fun i hi => ?_
    simp only [List.mem_cons, List.not_mem_nil, or_false] at hi
    rcases hi with rfl | rfl
    · exact s5 h41
    · exact s6 h42
  have h33 : wpAnyIn F n Try.prog .any ops37 Q 4 #[true, true, true, true, false, true, true, true, false, false, false] (act37 l B1 B2 B3 B4 k m f36V sa u15 f36V sb u19 u20 u21 u22) w := by
    refine wpAnyIn_all (rs := [4]) (by kernel_rfl) (by simp) fun i hi => ?_
    simp only [List.mem_cons, List.not_mem_nil, or_false] at hi
    rcases hi with rfl
    · exact s4 h43
  have h32 : wpAnyIn F n Try.prog .any ops37 Q 5 #[true, true, true, true, false, false, true, true, false, false, false] (act37 l B1 B2 B3 B4 k m f36V sa u15 u16 sb u19 u20 u21 u22) w := by
    refine wpAnyIn_all (rs := [4, 5]) (by kernel_rfl) (by simp) fun i hi => ?_
    simp only [List.mem_cons, List.not_mem_nil, or_false] at hi
    rcases hi with rfl | rfl
    · exact s4 h42
    · exact s5 h33
  have h31 : wpAnyIn F n Try.prog .any ops37 Q 5 #[true, true, true, true, false, true, false, true, false, false, false] (act37 l B1 B2 B3 B4 k m f36V sa u15 f36V u17 u19 u20 u21 u22) w := by
    refine wpAnyIn_all (rs := [4, 6]) (by kernel_rfl) (by simp) fun i hi => ?_
    simp only [List.mem_cons, List.not_mem_nil, or_false] at hi
    rcases hi with rfl | rfl
    · exact s4 h41
    · exact s6 h33
  have h30 : wpAnyIn F n Try.prog .any ops37 Q 6 #[true, true, true, true, false, false, false, true, false, false, false] (act37 l B1 B2 B3 B4 k m f36V sa u15 u16 u17 u19 u20 u21 u22) w := by
    refine wpAnyIn_all (rs := [4, 5, 6]) (by kernel_rfl) (by simp) fun i hi => ?_
    simp only [List.mem_cons, List.not_mem_nil, or_false] at hi
    rcases hi with rfl | rfl | rfl
    · exact s4 h40
    · exact s5 h31
    · exact s6 h32
  have h23 : wpAnyIn F n Try.prog .any ops37 Q 5 #[true, false, true, true, false, true, true, true, false, false, false] (act37 l B1 B2 B3 B4 k m u12 sa u15 f36V sb u19 u20 u21 u22) w := by
    refine wpAnyIn_all (rs := [1]) (by kernel_rfl) (by simp) fun i hi => ?_
    simp only [List.mem_cons, List.not_mem_nil, or_false] at hi
    rcases hi with rfl
    · exact s1 h33
  have h22 : wpAnyIn F n Try.prog .any ops37 Q 6 #[true, false, true, true, false, false, true, true, false, false, false] (act37 l B1 B2 B3 B4 k m u12 sa u15 u16 sb u19 u20 u21 u22) w := by
    refine wpAnyIn_all (rs := [1, 5]) (by kernel_rfl) (by simp) fun i hi => ?_
    simp only [List.mem_cons, List.not_mem_nil, or_false] at hi
    rcases hi with rfl | rfl
    · exact s1 h32
    · exact s5 h23
  have h21 : wpAnyIn F n Try.prog .any ops37 Q 6 #[true, false, true, true, false, true, false, true, false, false, false] (act37 l B1 B2 B3 B4 k m u12 sa u15 f36V u17 u19 u20 u21 u22) w := by
    refine wpAnyIn_all (rs := [1, 6]) (by kernel_rfl) (by simp) fun i hi => ?_
    simp only [List.mem_cons, List.not_mem_nil, or_false] at hi
    rcases hi with rfl | rfl
    · exact s1 h31
    · exact s6 h23
  have h20 : wpAnyIn F n Try.prog .any ops37 Q 7 #[true, false, true, true, false, false, false, true, false, false, false] (act37 l B1 B2 B3 B4 k m u12 sa u15 u16 u17 u19 u20 u21 u22) w := by
    refine wpAnyIn_all (rs := [1, 5, 6]) (by kernel_rfl) (by simp) fun i hi => ?_
    simp only [List.mem_cons, List.not_mem_nil, or_false] at hi
    rcases hi with rfl | rfl | rfl
    · exact s1 h30
    · exact s5 h21
    · exact s6 h22
  have h13 : wpAnyIn F n Try.prog .any ops37 Q 5 #[true, true, false, true, false, true, true, true, false, false, false] (act37 l B1 B2 B3 B4 k m f36V u13 u15 f36V sb u19 u20 u21 u22) w := by
    refine wpAnyIn_all (rs := [2]) (by kernel_rfl) (by simp) fun i hi => ?_
    simp only [List.mem_cons, List.not_mem_nil, or_false] at hi
    rcases hi with rfl
    · exact s2 h33
  have h12 : wpAnyIn F n Try.prog .any ops37 Q 6 #[true, true, false, true, false, false, true, true, false, false, false] (act37 l B1 B2 B3 B4 k m f36V u13 u15 u16 sb u19 u20 u21 u22) w := by
    refine wpAnyIn_all (rs := [2, 5]) (by kernel_rfl) (by simp) fun i hi => ?_
    simp only [List.mem_cons, List.not_mem_nil, or_false] at hi
    rcases hi with rfl | rfl
    · exact s2 h32
    · exact s5 h13
  have h11 : wpAnyIn F n Try.prog .any ops37 Q 6 #[true, true, false, true, false, true, false, true, false, false, false] (act37 l B1 B2 B3 B4 k m f36V u13 u15 f36V u17 u19 u20 u21 u22) w := by
    refine wpAnyIn_all (rs := [2, 6]) (by kernel_rfl) (by simp) fun i hi => ?_
    simp only [List.mem_cons, List.not_mem_nil, or_false] at hi
    rcases hi with rfl | rfl
    · exact s2 h31
    · exact s6 h13
  have h10 : wpAnyIn F n Try.prog .any ops37 Q 7 #[true, true, false, true, false, false, false, true, false, false, false] (act37 l B1 B2 B3 B4 k m f36V u13 u15 u16 u17 u19 u20 u21 u22) w := by
    refine wpAnyIn_all (rs := [2, 5, 6]) (by kernel_rfl) (by simp) fun i hi => ?_
    simp only [List.mem_cons, List.not_mem_nil, or_false] at hi
    rcases hi with rfl | rfl | rfl
    · exact s2 h30
    · exact s5 h11
    · exact s6 h12
  have h03 : wpAnyIn F n Try.prog .any ops37 Q 6 #[true, false, false, true, false, true, true, true, false, false, false] (act37 l B1 B2 B3 B4 k m u12 u13 u15 f36V sb u19 u20 u21 u22) w := by
    refine wpAnyIn_all (rs := [1, 2]) (by kernel_rfl) (by simp) fun i hi => ?_
    simp only [List.mem_cons, List.not_mem_nil, or_false] at hi
    rcases hi with rfl | rfl
    · exact s1 h13
    · exact s2 h23
  have h02 : wpAnyIn F n Try.prog .any ops37 Q 7 #[true, false, false, true, false, false, true, true, false, false, false] (act37 l B1 B2 B3 B4 k m u12 u13 u15 u16 sb u19 u20 u21 u22) w := by
    refine wpAnyIn_all (rs := [1, 2, 5]) (by kernel_rfl) (by simp) fun i hi => ?_
    simp only [List.mem_cons, List.not_mem_nil, or_false] at hi
    rcases hi with rfl | rfl | rfl
    · exact s1 h12
    · exact s2 h22
    · exact s5 h03
  have h01 : wpAnyIn F n Try.prog .any ops37 Q 7 #[true, false, false, true, false, true, false, true, false, false, false] (act37 l B1 B2 B3 B4 k m u12 u13 u15 f36V u17 u19 u20 u21 u22) w := by
    refine wpAnyIn_all (rs := [1, 2, 6]) (by kernel_rfl) (by simp) fun i hi => ?_
    simp only [List.mem_cons, List.not_mem_nil, or_false] at hi
    rcases hi with rfl | rfl | rfl
    · exact s1 h11
    · exact s2 h21
    · exact s6 h03
  have h00 : wpAnyIn F n Try.prog .any ops37 Q 8 #[true, false, false, true, false, false, false, true, false, false, false] (act37 l B1 B2 B3 B4 k m u12 u13 u15 u16 u17 u19 u20 u21 u22) w := by
    refine wpAnyIn_all (rs := [1, 2, 5, 6]) (by kernel_rfl) (by simp) fun i hi => ?_
    simp only [List.mem_cons, List.not_mem_nil, or_false] at hi
    rcases hi with rfl | rfl | rfl | rfl
    · exact s1 h10
    · exact s2 h20
    · exact s5 h01
    · exact s6 h02

  exact h00
end Go.Proofs
/- The seat of privitylaw02: the iterator both. -/
set_option linter.unusedVariables false
set_option linter.unusedSimpArgs false
namespace Go.Proofs
open Go.RowKit Go.Shelf

attribute [local go_sem] Oper.semAt_some run_store_func

/-- What a loop over both reads between two rounds: what lay below n₀, and both's four boxes. -/
def InS (n₀ D0 k : Nat) : Prop := k < n₀ ∨ (D0 ≤ k ∧ k < D0 + 4)
structure KpS (n₀ D0 : Nat) (w w' : World) : Prop where
  os : w'.os = w.os
  tape : w'.tape = w.tape
  output : w'.output = w.output
  size : w.heap.size ≤ w'.heap.size
  block : ∀ k, InS n₀ D0 k → w'.heap[k]? = w.heap[k]?
theorem KpS.refl (n₀ D0 : Nat) (w : World) : KpS n₀ D0 w w := ⟨rfl, rfl, rfl, Nat.le_refl _, fun _ _ => rfl⟩
theorem KpS.trans {n₀ D0 : Nat} {a b c : World} (h : KpS n₀ D0 a b) (k : KpS n₀ D0 b c) : KpS n₀ D0 a c :=
  ⟨k.os.trans h.os, k.tape.trans h.tape, k.output.trans h.output, Nat.le_trans h.size k.size, fun i hi => (k.block i hi).trans (h.block i hi)⟩
theorem KpS.drew {n₀ D0 : Nat} {a w : World} (h : KpS n₀ D0 a w) : KpS n₀ D0 a w.drew := ⟨h.os, h.tape, h.output, h.size, h.block⟩
theorem KpS.cell {n₀ D0 : Nat} {w w' : World} (h : KpS n₀ D0 w w') {p : Addr} (hb : InS n₀ D0 p.block) : w'.cell? p = w.cell? p := by
  unfold World.cell?; rw [h.block _ hb]
theorem KpS.grown {n₀ D0 : Nat} {a w w' : World} {row : Option Nat} (h : KpS n₀ D0 a w) (hg : w.grownBy w' row) (hr : ∀ k, row = some k → ¬ InS n₀ D0 k) (hs : ∀ k, InS n₀ D0 k → k < w.heap.size) : KpS n₀ D0 a w' :=
  ⟨hg.os.trans h.os, hg.tape.trans h.tape, hg.output.trans h.output, Nat.le_trans h.size hg.size, fun k hk => (hg.block k (hs k hk) (fun e => hr k e.symm hk)).trans (h.block k hk)⟩
theorem KpS.setCell {n₀ D0 : Nat} {a w : World} (h : KpS n₀ D0 a w) {p : Addr} (hp : ¬ InS n₀ D0 p.block) (u : Value) : KpS n₀ D0 a (w.setCell p u) :=
  h.trans ⟨rfl, rfl, rfl, by simp [World.setCell], fun k hk => Below.heap_setCell _ _ _ _ (fun e => hp (e ▸ hk))⟩
theorem Words.kps {n₀ D0 : Nat} {A B : World} (h : KpS n₀ D0 A B) {sv : Value} {l : List Nat} : Words n₀ A sv l → Words n₀ B sv l
  | .inl e => .inl e
  | .inr ⟨b, off, cap, e, hb, hc⟩ => .inr ⟨b, off, cap, e, hb, fun j hj => (h.cell (p := ⟨b, off + j, none⟩) (.inl hb)).trans (hc j hj)⟩

set_option maxRecDepth 100000 in
set_option maxHeartbeats 2000000 in
/-- The function that both gives: FOR EVERY LOOP BODY THAT KEEPS WHAT LAY BELOW n₀. -/
theorem both37_in (F : Fence) (n : Nat) (h37 : F.fn 37) (h36 : F.fn 36) (hro : F.round = none) (hn : 1 ≤ n) (l n₀ D0 B1 B2 B3 B4 : Nat) (sa sb : Value) (a b : List Nat) (ha : a.length ≤ 1000) (hb : b.length ≤ 1000) (m : Nat) (hm : m ≤ 1000) (J Jx : List (Nat × Nat) → World → Prop)
    (hY : ∀ pre x W, J pre W → pre.length < m → YieldAt F (n - 1) Try.prog l (encs2 x) W fun e W' =>
      (e = .returned (.bool true) ∧ J (pre ++ [x]) W' ∧ KpS n₀ D0 W W') ∨ (e = .returned (.bool false) ∧ Jx (pre ++ [x]) W'))
    (W : World) (l1 : InS n₀ D0 B1) (l2 : InS n₀ D0 B2) (l3 : InS n₀ D0 B3) (l4 : InS n₀ D0 B4) (c1 : W.cell? ⟨B1, 0, none⟩ = some (.int .i64 (m : Int))) (c2 : W.cell? ⟨B2, 0, none⟩ = some (.func (.func 36) #[] #[])) (c3 : W.cell? ⟨B3, 0, none⟩ = some sa) (c4 : W.cell? ⟨B4, 0, none⟩ = some sb)
    (hwa : Words n₀ W sa a) (hwb : Words n₀ W sb b) (hJd : ∀ pre A, J pre A → J pre A.drew) (h0 : J [] W) :
    CallsIn F n Try.prog 37 #[.func (.yield l) #[] #[], .pointer (some ⟨B1, 0, none⟩), .pointer (some ⟨B2, 0, none⟩), .pointer (some ⟨B3, 0, none⟩), .pointer (some ⟨B4, 0, none⟩)] W fun e W' => (∃ v, e = .returned v) ∧
      ((∃ ys, ys = upto (fun j => (a[j]?.getD 0, b[j]?.getD 0)) m ∧ J ys W') ∨ (∃ pre, (∃ k, k ≤ m ∧ pre = upto (fun j => (a[j]?.getD 0, b[j]?.getD 0)) k) ∧ Jx pre W')) := by
  have h1 : 1 ≤ n := hn
  refine callsIn_of_wp Try.func37 rfl h37 ?_ hro
  simp only [Try.ntmps37, List.size_toArray, List.length_cons, List.length_nil, Nat.reduceAdd, Nat.reduceSub, Array.replicate_succ, Array.replicate_zero, List.push_toArray, List.append_toArray, List.nil_append, List.cons_append]
  gi_wp2
  gi_loopw [8] (fun i wr => ∃ k : Nat, k ≤ m ∧ i = .int .i64 k ∧ J (upto (fun j => (a[j]?.getD 0, b[j]?.getD 0)) k) wr ∧ KpS n₀ D0 W wr)
    (fun i _ => m - (intOf i).toNat)
  case atStart => exact ⟨0, Nat.zero_le _, rfl, h0, KpS.refl _ _ _⟩
  case round =>
    obtain ⟨k, hk, rfl, hJs, hnx⟩ := hrel
    have d1 := (hnx.cell (p := ⟨B1, 0, none⟩) l1).trans c1
    have d2 := (hnx.cell (p := ⟨B2, 0, none⟩) l2).trans c2
    have d3 := (hnx.cell (p := ⟨B3, 0, none⟩) l3).trans c3
    have d4 := (hnx.cell (p := ⟨B4, 0, none⟩) l4).trans c4
    have wa := hwa.kps hnx.drew
    have wb := hwb.kps hnx.drew
    by_cases hlt : k < m
    · obtain ⟨fn, tmps, assign, body, hy, hR⟩ := hY _ (a[k]?.getD 0, b[k]?.getD 0) wr.drew (hJd _ _ hJs) (by rw [upto_length]; exact hlt)
      dsimp only [encs2] at hy
      have hR2 := hR.mono (R' := fun e W' => ∃ c : Bool, e = .returned (.bool c) ∧ ((c = true ∧ J (upto (fun j => (a[j]?.getD 0, b[j]?.getD 0)) k ++ [(a[k]?.getD 0, b[k]?.getD 0)]) W' ∧ KpS n₀ D0 wr.drew W') ∨ (c = false ∧ Jx (upto (fun j => (a[j]?.getD 0, b[j]?.getD 0)) k ++ [(a[k]?.getD 0, b[k]?.getD 0)]) W'))) (by
        rintro e W' (⟨rfl, h1, h2⟩ | ⟨rfl, h1⟩)
        · exact ⟨true, rfl, .inl ⟨rfl, h1, h2⟩⟩
        · exact ⟨false, rfl, .inr ⟨rfl, h1⟩⟩)
      have hmx : Try.prog.follows .mixedOrders = true := by kernel_rfl
      have e2 : wr.drew.cell? ⟨B2, 0, none⟩ = some (.func (.func 36) #[] #[]) := by simpa using d2
      have e3 : wr.drew.cell? ⟨B3, 0, none⟩ = some sa := by simpa using d3
      have e4 : wr.drew.cell? ⟨B4, 0, none⟩ = some sb := by simpa using d4
      gi_wp2
      refine wpIn_region_any hmx ?_
      change wpAnyIn F n Try.prog .any ops37 _ 11 _ _ wr.drew
      refine wpAnyIn_take (i := 0) (v := .func (.yield l) #[] #[]) hro (oi := { dst := some 11, op := Op.move (Operand.tmp 0), type := 48, pos := "bits.go:22", after := #[], guard := none }) rfl (by kernel_rfl) (by kernel_rfl) (by kernel_rfl) (fun _ _ _ h => h) ⟨Or.inl ⟨by rfl, fun w => by go_simp⟩, fun _ => rfl⟩ ?_
      refine wpAnyIn_take (i := 3) (v := .int .i64 (k : Int)) hro (oi := { dst := some 14, op := Op.move (Operand.tmp 6), type := 3, pos := "bits.go:22", after := #[], guard := none }) rfl (by kernel_rfl) (by kernel_rfl) (by kernel_rfl) (fun _ _ _ h => h) ⟨Or.inl ⟨by rfl, fun w => by go_simp⟩, fun _ => rfl⟩ ?_
      refine wpAnyIn_take (i := 7) (v := .int .i64 (k : Int)) hro (oi := { dst := some 18, op := Op.move (Operand.tmp 6), type := 3, pos := "bits.go:22", after := #[], guard := none }) rfl (by kernel_rfl) (by kernel_rfl) (by kernel_rfl) (fun _ _ _ h => h) ⟨Or.inl ⟨by rfl, fun w => by go_simp⟩, fun _ => rfl⟩ ?_
      refine reg37 F n h36 hro hn n₀ l B1 B2 B3 B4 k m (by omega) sa sb a b ha hb wr.drew e2 e3 e4 wa wb _ _ _ _ _ _ _ _ _ _ ?_
      refine wpAnyIn_all (rs := [9]) (by kernel_rfl) (by simp) fun i hi => ?_
      obtain rfl : i = 9 := by simpa using hi
      refine wpOpIn_step (o := { dst := some 20, op := Op.call { callee := Callee.value (Operand.tmp 11), args := #[Operand.tmp 15, Operand.tmp 19], argTypes := #[22, 22] }, type := 4, pos := "bits.go:22", after := #[{ on := 0, ground := Ground.data }, { on := 4, ground := Ground.data }, { on := 8, ground := Ground.data }, { on := 8, ground := Ground.chain }], guard := none }) rfl (fun K' hK => ?_)
      unfold act37
      go_simp
      refine hR2.mono ?_
      rintro e W3 ⟨c, rfl, hc3⟩
      refine hK _ _ ?_
      refine wpAnyIn_all (rs := [10]) (by kernel_rfl) (by simp) fun i hi => ?_
      obtain rfl : i = 10 := by simpa using hi
      refine wpOpIn_step (o := { dst := some 21, op := Op.unOp UnOp.not 4 (Operand.tmp 20), type := 4, pos := "bits.go:22", after := #[{ on := 9, ground := Ground.data }], guard := none }) rfl (fun K' hK => ?_)
      go_simp
      refine hK _ _ ?_
      refine wpAnyIn_done (by kernel_rfl) ?_ _
      rcases hc3 with ⟨rfl, hJ3, hk3⟩ | ⟨rfl, hJx3⟩
      · gi_wp2
        go_roundw
        case rel => exact ⟨k + 1, by omega, by simp, by rw [upto_succ]; exact hJ3, hnx.drew.trans hk3⟩
        case measure => simp [intOf]; omega
      · gi_wp2
        refine bodyPost_ret (results_none rfl _ _ _) rfl ?_
        exact ⟨⟨_, rfl⟩, .inr ⟨_, ⟨k + 1, by omega, (upto_succ _ _).symm⟩, hJx3⟩⟩
    · obtain rfl : k = m := by omega
      gi_wp2
      go_end0
      exact ⟨⟨_, rfl⟩, .inl ⟨_, rfl, hJs⟩⟩

/-- both(a, b, m) HANDS BACK A VALUE THAT 'SeqStopsK': the bits of both, index by index, up to m. -/
theorem both_stops (F : Fence) (n : Nat) (h37 : F.fn 37) (h36 : F.fn 36) (hro : F.round = none) (hn : 1 ≤ n) (n₀ D0 B1 B2 B3 B4 : Nat) (sa sb : Value) (a b : List Nat) (ha : a.length ≤ 1000) (hb : b.length ≤ 1000) (m : Nat) (hm : m ≤ 1000) (w : World)
    (l1 : InS n₀ D0 B1) (l2 : InS n₀ D0 B2) (l3 : InS n₀ D0 B3) (l4 : InS n₀ D0 B4) (hD : n₀ ≤ D0) (hsz : w.heap.size = D0 + 4) (c1 : w.cell? ⟨B1, 0, none⟩ = some (.int .i64 (m : Int))) (c2 : w.cell? ⟨B2, 0, none⟩ = some (.func (.func 36) #[] #[])) (c3 : w.cell? ⟨B3, 0, none⟩ = some sa) (c4 : w.cell? ⟨B4, 0, none⟩ = some sb)
    (hwa : Words n₀ w sa a) (hwb : Words n₀ w sb b) :
    SeqStopsK F n Try.prog 37 #[.pointer (some ⟨B1, 0, none⟩), .pointer (some ⟨B2, 0, none⟩), .pointer (some ⟨B3, 0, none⟩), .pointer (some ⟨B4, 0, none⟩)] encs2 (KpS n₀ D0) (fun ys => ys = upto (fun j => (a[j]?.getD 0, b[j]?.getD 0)) m) (fun pre => ∃ k, k ≤ m ∧ pre = upto (fun j => (a[j]?.getD 0, b[j]?.getD 0)) k) m w := fun l J Jx W hW hJ hJx hY h0 => by
  have hin : ∀ k, InS n₀ D0 k → k < w.heap.size := fun k hk => by rcases hk with hk | hk <;> omega
  have kp : KpS n₀ D0 w W := ⟨hW.os, hW.tape, hW.output, hW.size, fun k hk => hW.block k (hin k hk)⟩
  exact both37_in F n h37 h36 hro hn l n₀ D0 B1 B2 B3 B4 sa sb a b ha hb m hm J Jx hY W l1 l2 l3 l4 ((kp.cell l1).trans c1) ((kp.cell l2).trans c2) ((kp.cell l3).trans c3) ((kp.cell l4).trans c4) (hwa.kps kp) (hwb.kps kp)
    (fun pre A hA => hJ pre A A.drew none hA ⟨rfl, rfl, rfl, Nat.le_refl _, fun _ _ _ => rfl⟩ (fun r e => by cases e)) h0
end Go.Proofs
/- The seat of privitylaw02: Less, Equal of package bits, by the kit's walk. -/
set_option linter.unusedVariables false
set_option linter.unusedSimpArgs false
namespace Go.Proofs
open Go.RowKit Go.Shelf

attribute [local go_sem] Oper.semAt_some run_store_func

def lessL (ps : List (Nat × Nat)) : Nat := ps.foldl (fun c p => if p.1 = p.2 then c else p.2) 0
theorem lessL_snoc (pre : List (Nat × Nat)) (x : Nat × Nat) : lessL (pre ++ [x]) = if x.1 = x.2 then lessL pre else x.2 := by simp [lessL]
/-- The words of a slice value, as the walk finds them. -/
theorem Words.len {n₀ : Nat} {W : World} {sv : Value} {l : List Nat} (h : Words n₀ W sv l) : ∃ A cap, sv = .slice A l.length cap := by
  rcases h with ⟨A, cap, rfl, rfl⟩ | ⟨b, off, cap, rfl, _, _⟩
  · exact ⟨A, cap, rfl⟩
  · exact ⟨_, _, rfl⟩

set_option maxRecDepth 100000 in
set_option maxHeartbeats 2000000 in
theorem Less24_in (F : Fence) (n : Nat) (h24 : F.fn 24) (h33 : F.fn 33) (h36 : F.fn 36) (h37 : F.fn 37) (hro : F.round = none) (hn : 3 ≤ n) (sa sb : Value) (a b : List Nat) (ha : a.length ≤ 1000) (hb : b.length ≤ 1000) (w : World) (hwa : Words w.heap.size w sa a) (hwb : Words w.heap.size w sb b) :
    CallsIn F n Try.prog 24 #[sa, sb] w fun e w' => e = .returned (.int .u64 ((lessL (upto (fun j => (a[j]?.getD 0, b[j]?.getD 0)) (max a.length b.length)) : Nat) : Int)) ∧ Below w.heap.size w w' := by
  have h1 : 1 ≤ n := by omega
  obtain ⟨A, ac, rfl⟩ := hwa.len
  obtain ⟨B, bc, rfl⟩ := hwb.len
  refine callsIn_of_wp_marks Try.func24 rfl h24 ?_ hro
  simp only [Try.ntmps24, List.size_toArray, List.length_cons, List.length_nil, Nat.reduceAdd, Nat.reduceSub, Array.replicate_succ, Array.replicate_zero, List.push_toArray, List.append_toArray, List.nil_append, List.cons_append]
  gi_wp2_with (gi_at_call 33; refine (both33_in F (n - 1) h33 hro _ _ _ _ _ _ _ _).mono ?_; rintro e w' ⟨rfl, rfl⟩)
  · have hm : max a.length b.length = b.length := by omega
    obtain ⟨W0, hW0⟩ : ∃ W0, W0 = (((((w.alloc (.cells #[.int .u64 0] 22)).alloc (.cells #[.slice A a.length ac] 24)).alloc (.cells #[.slice B b.length bc] 24)).alloc (.cells #[.int .i64 (b.length : Int)] 3)).alloc (.cells #[.func (.func 36) #[] #[]] 46)) := ⟨_, rfl⟩
    have hsz : W0.heap.size = w.heap.size + 5 := by
      rw [hW0]
      simp only [World.size_alloc]
    have hB0 : Below w.heap.size w W0 := by rw [hW0]; exact ((((((Below.refl _ w).alloc (Nat.le_refl _) _).alloc (by simp only [World.size_alloc]; omega) _).alloc (by simp only [World.size_alloc]; omega) _).alloc (by simp only [World.size_alloc]; omega) _).alloc (by simp only [World.size_alloc]; omega) _)
    have q0 : W0.cell? ⟨w.heap.size, 0, none⟩ = some (.int .u64 0) := by rw [hW0]; go_simp
    have q0f : W0.frozen? ⟨w.heap.size, 0, none⟩ = false := by rw [hW0]; go_simp
    have q1 : W0.cell? ⟨w.heap.size + 1 + 2, 0, none⟩ = some (.int .i64 (b.length : Int)) := by rw [hW0]; go_simp
    have q2 : W0.cell? ⟨w.heap.size + 1 + 3, 0, none⟩ = some (.func (.func 36) #[] #[]) := by rw [hW0]; go_simp
    have q3 : W0.cell? ⟨w.heap.size + 1, 0, none⟩ = some (.slice A a.length ac) := by rw [hW0]; go_simp
    have q4 : W0.cell? ⟨w.heap.size + 1 + 1, 0, none⟩ = some (.slice B b.length bc) := by rw [hW0]; go_simp
    rw [← hW0]
    refine wpIn_rangeFunc_ownG hro h1 (gf := 37) (lb := #[.pointer (some ⟨w.heap.size + 1 + 2, 0, none⟩), .pointer (some ⟨w.heap.size + 1 + 3, 0, none⟩), .pointer (some ⟨w.heap.size + 1, 0, none⟩), .pointer (some ⟨w.heap.size + 1 + 1, 0, none⟩)]) rfl h37 (enters_of Try.func37 (by kernel_rfl) rfl)
      (both_stops F (n - 1) h37 h36 hro (by omega) w.heap.size (w.heap.size + 1) _ _ _ _ _ _ a b ha hb b.length (by omega) W0 (by unfold InS; omega) (by unfold InS; omega) (by unfold InS; omega) (by unfold InS; omega) (by omega) (by omega) q1 q2 q3 q4 (hwa.below hB0) (hwb.below hB0))
      KpS.trans (fun W l o o' hl h _ _ => (KpS.refl _ _ W).grown (grownBy_putObj' W l o') (fun k e => by cases e; unfold InS; omega) (fun k hk => by have := (Array.getElem?_eq_some_iff.1 h).1; unfold InS at hk; omega)) (Below.refl _ _) (fun _ => rfl)
      (fun pre W => (W.cell? ⟨w.heap.size, 0, none⟩ = some (.int .u64 ((lessL pre : Nat) : Int)) ∧ W.frozen? ⟨w.heap.size, 0, none⟩ = false) ∧ Below w.heap.size w W)
      (fun _ _ _ => False)
      (OwnFrom.and (Own.from (fun s A B row hs hg hr => ⟨cell_kept hs.1 hg hr, (frozen_kept hs.1 hg hr).trans hs.2⟩) _) (ownFrom_below (Nat.le_refl _) (by omega)))
      (fun _ _ _ _ _ hs _ _ => hs)
      ⟨⟨q0, q0f⟩, hB0⟩
      (fun x => { tmps := #[.slice A a.length ac, .slice B b.length bc, undef, undef, .int .u64 0, .pointer (some ⟨w.heap.size, 0, none⟩), .int .u64 (x.1 : Int), .int .u64 (x.2 : Int), .slice A a.length ac, .slice B b.length bc, .slice A a.length ac, .int .i64 (a.length : Int), .slice B b.length bc, .int .i64 (b.length : Int), .int .i64 (b.length : Int), .func (.func 37) #[] #[.pointer (some ⟨w.heap.size + 1 + 2, 0, none⟩), .pointer (some ⟨w.heap.size + 1 + 3, 0, none⟩), .pointer (some ⟨w.heap.size + 1, 0, none⟩), .pointer (some ⟨w.heap.size + 1 + 1, 0, none⟩)], .int .u64 (x.1 : Int), .int .u64 (x.2 : Int), undef, undef, undef, undef, undef], defers := [] }) ?assign ?body ?done ?stop
    case assign =>
      intro l x W K hK
      gi_wp2
      exact hK
    case body =>
      rintro l pre x W ⟨⟨hc, hf⟩, hB⟩ hlt
      by_cases hx : x.1 = x.2
      · gi_wp2
        exact ⟨KeepsFrom.refl _ _, KpS.refl _ _ _, ⟨by rw [lessL_snoc, if_pos hx]; exact hc, hf⟩, hB⟩
      · gi_wp2
        exact ⟨(KeepsOthers.setCell _ _ _).from _, (KpS.refl _ _ _).setCell (by unfold InS; dsimp only; omega) _, ⟨by rw [lessL_snoc, if_neg hx]; exact World.cell?_setCell_same' _ _ _ (by rw [hc]; rfl), by rw [World.frozen?_setCell]; exact hf⟩, hB.setCell (Nat.le_refl _) _⟩
    case done =>
      rintro D xs W hD rfl ⟨⟨hc, hf⟩, hB⟩ hK
      gi_wp2
      refine ⟨by simp, .inl ⟨_, _, rfl, run_takeDeferred hK, ?_⟩⟩
      exact ⟨_, results_tmp rfl _ _ _, by rw [hm]; rfl, hB.trans (belowK_b (w := w) (Nat.le_refl _) W D _ _ (by omega) hK rfl rfl)⟩
    case stop =>
      rintro D c pre W _ _ h _
      exact h.elim
  · have hm : max a.length b.length = a.length := by omega
    obtain ⟨W0, hW0⟩ : ∃ W0, W0 = (((((w.alloc (.cells #[.int .u64 0] 22)).alloc (.cells #[.slice A a.length ac] 24)).alloc (.cells #[.slice B b.length bc] 24)).alloc (.cells #[.int .i64 (a.length : Int)] 3)).alloc (.cells #[.func (.func 36) #[] #[]] 46)) := ⟨_, rfl⟩
    have hsz : W0.heap.size = w.heap.size + 5 := by
      rw [hW0]
      simp only [World.size_alloc]
    have hB0 : Below w.heap.size w W0 := by rw [hW0]; exact ((((((Below.refl _ w).alloc (Nat.le_refl _) _).alloc (by simp only [World.size_alloc]; omega) _).alloc (by simp only [World.size_alloc]; omega) _).alloc (by simp only [World.size_alloc]; omega) _).alloc (by simp only [World.size_alloc]; omega) _)
    have q0 : W0.cell? ⟨w.heap.size, 0, none⟩ = some (.int .u64 0) := by rw [hW0]; go_simp
    have q0f : W0.frozen? ⟨w.heap.size, 0, none⟩ = false := by rw [hW0]; go_simp
    have q1 : W0.cell? ⟨w.heap.size + 1 + 2, 0, none⟩ = some (.int .i64 (a.length : Int)) := by rw [hW0]; go_simp
    have q2 : W0.cell? ⟨w.heap.size + 1 + 3, 0, none⟩ = some (.func (.func 36) #[] #[]) := by rw [hW0]; go_simp
    have q3 : W0.cell? ⟨w.heap.size + 1, 0, none⟩ = some (.slice A a.length ac) := by rw [hW0]; go_simp
    have q4 : W0.cell? ⟨w.heap.size + 1 + 1, 0, none⟩ = some (.slice B b.length bc) := by rw [hW0]; go_simp
    rw [← hW0]
    refine wpIn_rangeFunc_ownG hro h1 (gf := 37) (lb := #[.pointer (some ⟨w.heap.size + 1 + 2, 0, none⟩), .pointer (some ⟨w.heap.size + 1 + 3, 0, none⟩), .pointer (some ⟨w.heap.size + 1, 0, none⟩), .pointer (some ⟨w.heap.size + 1 + 1, 0, none⟩)]) rfl h37 (enters_of Try.func37 (by kernel_rfl) rfl)
      (both_stops F (n - 1) h37 h36 hro (by omega) w.heap.size (w.heap.size + 1) _ _ _ _ _ _ a b ha hb a.length (by omega) W0 (by unfold InS; omega) (by unfold InS; omega) (by unfold InS; omega) (by unfold InS; omega) (by omega) (by omega) q1 q2 q3 q4 (hwa.below hB0) (hwb.below hB0))
      KpS.trans (fun W l o o' hl h _ _ => (KpS.refl _ _ W).grown (grownBy_putObj' W l o') (fun k e => by cases e; unfold InS; omega) (fun k hk => by have := (Array.getElem?_eq_some_iff.1 h).1; unfold InS at hk; omega)) (Below.refl _ _) (fun _ => rfl)
      (fun pre W => (W.cell? ⟨w.heap.size, 0, none⟩ = some (.int .u64 ((lessL pre : Nat) : Int)) ∧ W.frozen? ⟨w.heap.size, 0, none⟩ = false) ∧ Below w.heap.size w W)
      (fun _ _ _ => False)
      (OwnFrom.and (Own.from (fun s A B row hs hg hr => ⟨cell_kept hs.1 hg hr, (frozen_kept hs.1 hg hr).trans hs.2⟩) _) (ownFrom_below (Nat.le_refl _) (by omega)))
      (fun _ _ _ _ _ hs _ _ => hs)
      ⟨⟨q0, q0f⟩, hB0⟩
      (fun x => { tmps := #[.slice A a.length ac, .slice B b.length bc, undef, undef, .int .u64 0, .pointer (some ⟨w.heap.size, 0, none⟩), .int .u64 (x.1 : Int), .int .u64 (x.2 : Int), .slice A a.length ac, .slice B b.length bc, .slice A a.length ac, .int .i64 (a.length : Int), .slice B b.length bc, .int .i64 (b.length : Int), .int .i64 (a.length : Int), .func (.func 37) #[] #[.pointer (some ⟨w.heap.size + 1 + 2, 0, none⟩), .pointer (some ⟨w.heap.size + 1 + 3, 0, none⟩), .pointer (some ⟨w.heap.size + 1, 0, none⟩), .pointer (some ⟨w.heap.size + 1 + 1, 0, none⟩)], .int .u64 (x.1 : Int), .int .u64 (x.2 : Int), undef, undef, undef, undef, undef], defers := [] }) ?assign ?body ?done ?stop
    case assign =>
      intro l x W K hK
      gi_wp2
      exact hK
    case body =>
      rintro l pre x W ⟨⟨hc, hf⟩, hB⟩ hlt
      by_cases hx : x.1 = x.2
      · gi_wp2
        exact ⟨KeepsFrom.refl _ _, KpS.refl _ _ _, ⟨by rw [lessL_snoc, if_pos hx]; exact hc, hf⟩, hB⟩
      · gi_wp2
        exact ⟨(KeepsOthers.setCell _ _ _).from _, (KpS.refl _ _ _).setCell (by unfold InS; dsimp only; omega) _, ⟨by rw [lessL_snoc, if_neg hx]; exact World.cell?_setCell_same' _ _ _ (by rw [hc]; rfl), by rw [World.frozen?_setCell]; exact hf⟩, hB.setCell (Nat.le_refl _) _⟩
    case done =>
      rintro D xs W hD rfl ⟨⟨hc, hf⟩, hB⟩ hK
      gi_wp2
      refine ⟨by simp, .inl ⟨_, _, rfl, run_takeDeferred hK, ?_⟩⟩
      exact ⟨_, results_tmp rfl _ _ _, by rw [hm]; rfl, hB.trans (belowK_b (w := w) (Nat.le_refl _) W D _ _ (by omega) hK rfl rfl)⟩
    case stop =>
      rintro D c pre W _ _ h _
      exact h.elim
end Go.Proofs
/- The seat of privitylaw02: Equal of package bits, by the kit's walk. -/
set_option linter.unusedVariables false
set_option linter.unusedSimpArgs false
namespace Go.Proofs
open Go.RowKit Go.Shelf

attribute [local go_sem] Oper.semAt_some run_store_func

open Classical in
noncomputable def eqL (ps : List (Nat × Nat)) : Nat := if ∀ p ∈ ps, p.1 = p.2 then 1 else 0
theorem upto_sub {f : Nat → Nat × Nat} {k m : Nat} (h : k ≤ m) {p : Nat × Nat} (hp : p ∈ upto f k) : p ∈ upto f m := by
  unfold upto at hp ⊢
  obtain ⟨j, hj, rfl⟩ := List.mem_map.1 hp
  exact List.mem_map.2 ⟨j, List.mem_range.2 (by have := List.mem_range.1 hj; omega), rfl⟩
set_option maxRecDepth 100000 in
set_option maxHeartbeats 2000000 in
theorem Equal25_in (F : Fence) (n : Nat) (h25 : F.fn 25) (h33 : F.fn 33) (h36 : F.fn 36) (h37 : F.fn 37) (hro : F.round = none) (hn : 3 ≤ n) (sa sb : Value) (a b : List Nat) (ha : a.length ≤ 1000) (hb : b.length ≤ 1000) (w : World) (hwa : Words w.heap.size w sa a) (hwb : Words w.heap.size w sb b) :
    CallsIn F n Try.prog 25 #[sa, sb] w fun e w' => e = .returned (.int .u64 ((eqL (upto (fun j => (a[j]?.getD 0, b[j]?.getD 0)) (max a.length b.length)) : Nat) : Int)) ∧ Below w.heap.size w w' := by
  have h1 : 1 ≤ n := by omega
  obtain ⟨A, ac, rfl⟩ := hwa.len
  obtain ⟨B, bc, rfl⟩ := hwb.len
  refine callsIn_of_wp_marks Try.func25 rfl h25 ?_ hro
  simp only [Try.ntmps25, List.size_toArray, List.length_cons, List.length_nil, Nat.reduceAdd, Nat.reduceSub, Array.replicate_succ, Array.replicate_zero, List.push_toArray, List.append_toArray, List.nil_append, List.cons_append]
  gi_wp2_with (gi_at_call 33; refine (both33_in F (n - 1) h33 hro _ _ _ _ _ _ _ _).mono ?_; rintro e w' ⟨rfl, rfl⟩)
  · have hm : max a.length b.length = b.length := by omega
    obtain ⟨W0, hW0⟩ : ∃ W0, W0 = (((((w.alloc (.cells #[.int .u64 0] 22)).alloc (.cells #[.slice A a.length ac] 24)).alloc (.cells #[.slice B b.length bc] 24)).alloc (.cells #[.int .i64 (b.length : Int)] 3)).alloc (.cells #[.func (.func 36) #[] #[]] 46)) := ⟨_, rfl⟩
    have hsz : W0.heap.size = w.heap.size + 5 := by
      rw [hW0]
      simp only [World.size_alloc]
    have hB0 : Below w.heap.size w W0 := by rw [hW0]; exact ((((((Below.refl _ w).alloc (Nat.le_refl _) _).alloc (by simp only [World.size_alloc]; omega) _).alloc (by simp only [World.size_alloc]; omega) _).alloc (by simp only [World.size_alloc]; omega) _).alloc (by simp only [World.size_alloc]; omega) _)
    have q0 : W0.cell? ⟨w.heap.size, 0, none⟩ = some (.int .u64 0) := by rw [hW0]; go_simp
    have q0f : W0.frozen? ⟨w.heap.size, 0, none⟩ = false := by rw [hW0]; go_simp
    have q1 : W0.cell? ⟨w.heap.size + 1 + 2, 0, none⟩ = some (.int .i64 (b.length : Int)) := by rw [hW0]; go_simp
    have q2 : W0.cell? ⟨w.heap.size + 1 + 3, 0, none⟩ = some (.func (.func 36) #[] #[]) := by rw [hW0]; go_simp
    have q3 : W0.cell? ⟨w.heap.size + 1, 0, none⟩ = some (.slice A a.length ac) := by rw [hW0]; go_simp
    have q4 : W0.cell? ⟨w.heap.size + 1 + 1, 0, none⟩ = some (.slice B b.length bc) := by rw [hW0]; go_simp
    rw [← hW0]
    refine wpIn_rangeFunc_ownG hro h1 (gf := 37) (lb := #[.pointer (some ⟨w.heap.size + 1 + 2, 0, none⟩), .pointer (some ⟨w.heap.size + 1 + 3, 0, none⟩), .pointer (some ⟨w.heap.size + 1, 0, none⟩), .pointer (some ⟨w.heap.size + 1 + 1, 0, none⟩)]) rfl h37 (enters_of Try.func37 (by kernel_rfl) rfl)
      (both_stops F (n - 1) h37 h36 hro (by omega) w.heap.size (w.heap.size + 1) _ _ _ _ _ _ a b ha hb b.length (by omega) W0 (by unfold InS; omega) (by unfold InS; omega) (by unfold InS; omega) (by unfold InS; omega) (by omega) (by omega) q1 q2 q3 q4 (hwa.below hB0) (hwb.below hB0))
      KpS.trans (fun W l o o' hl h _ _ => (KpS.refl _ _ W).grown (grownBy_putObj' W l o') (fun k e => by cases e; unfold InS; omega) (fun k hk => by have := (Array.getElem?_eq_some_iff.1 h).1; unfold InS at hk; omega)) (Below.refl _ _) (fun _ => rfl)
      (fun pre W => ((∀ p ∈ pre, p.1 = p.2) ∧ W.cell? ⟨w.heap.size, 0, none⟩ = some (.int .u64 0) ∧ W.frozen? ⟨w.heap.size, 0, none⟩ = false) ∧ Below w.heap.size w W)
      (fun c pre W => (c = .ret ∧ (∃ p ∈ pre, p.1 ≠ p.2) ∧ W.cell? ⟨w.heap.size, 0, none⟩ = some (.int .u64 0) ∧ W.frozen? ⟨w.heap.size, 0, none⟩ = false) ∧ Below w.heap.size w W)
      (OwnFrom.and (Own.from (fun s A B row hs hg hr => ⟨hs.1, cell_kept hs.2.1 hg hr, (frozen_kept hs.2.1 hg hr).trans hs.2.2⟩) _) (ownFrom_below (Nat.le_refl _) (by omega)))
      (fun c => OwnFrom.and (Own.from (fun s A B row hs hg hr => ⟨hs.1, hs.2.1, cell_kept hs.2.2.1 hg hr, (frozen_kept hs.2.2.1 hg hr).trans hs.2.2.2⟩) _) (ownFrom_below (Nat.le_refl _) (by omega)))
      ⟨⟨fun p hp => (by cases hp), q0, q0f⟩, hB0⟩
      (fun x => { tmps := #[.slice A a.length ac, .slice B b.length bc, undef, undef, .pointer (some ⟨w.heap.size, 0, none⟩), .int .u64 (x.1 : Int), .int .u64 (x.2 : Int), .slice A a.length ac, .slice B b.length bc, .slice A a.length ac, .int .i64 (a.length : Int), .slice B b.length bc, .int .i64 (b.length : Int), .int .i64 (b.length : Int), .func (.func 37) #[] #[.pointer (some ⟨w.heap.size + 1 + 2, 0, none⟩), .pointer (some ⟨w.heap.size + 1 + 3, 0, none⟩), .pointer (some ⟨w.heap.size + 1, 0, none⟩), .pointer (some ⟨w.heap.size + 1 + 1, 0, none⟩)], .int .u64 (x.1 : Int), .int .u64 (x.2 : Int), undef, undef, undef], defers := [] }) ?assign ?body ?done ?stop
    case assign =>
      intro l x W K hK
      gi_wp2
      exact hK
    case body =>
      rintro l pre x W ⟨⟨hall, hc, hf⟩, hB⟩ hlt
      by_cases hx : x.1 = x.2
      · gi_wp2
        exact ⟨KeepsFrom.refl _ _, KpS.refl _ _ _, ⟨fun p hp => by
          rcases List.mem_append.1 hp with hp | hp
          · exact hall p hp
          · have : p = x := by simpa using hp
            rw [this]; exact hx, hc, hf⟩, hB⟩
      · gi_wp2
        exact ⟨(KeepsOthers.setCell _ _ _).from _, ⟨rfl, ⟨x, by simp, hx⟩, World.cell?_setCell_same' _ _ _ (by rw [hc]; rfl), by rw [World.frozen?_setCell]; exact hf⟩, hB.setCell (Nat.le_refl _) _⟩
    case done =>
      rintro D xs W hD rfl ⟨⟨hall, hc, hf⟩, hB⟩ hK
      gi_wp2
      have hK' := (KeepsOthers.setCell W ⟨w.heap.size, 0, none⟩ (.int .u64 1)).same D _ hK rfl
      refine ⟨by simp, .inl ⟨_, _, rfl, run_takeDeferred hK', ?_⟩⟩
      have hc5 := cell_kept (World.cell?_setCell_same' W ⟨w.heap.size, 0, none⟩ (.int .u64 1) (by rw [hc]; rfl)) (grownBy_putObj' _ D (.deferred none)) (fun r e => by cases e; exact ⟨_, hK', rfl⟩)
      refine ⟨.int .u64 1, ?_, by rw [hm, eqL, if_pos hall]; rfl, (hB.setCell (Nat.le_refl _) _).trans (belowK_b (w := w) (Nat.le_refl _) _ D _ _ (by omega) hK' rfl rfl)⟩
      simp [results, Try.f25, go_sem, hc5]
    case stop =>
      rintro D c pre W hD ⟨kk, hkk, rfl⟩ ⟨⟨rfl, ⟨p, hp, hpne⟩, hc, hf⟩, hB⟩ hK
      gi_wp2
      refine ⟨by simp, .inl ⟨_, _, rfl, run_takeDeferred hK, ?_⟩⟩
      have hc5 := cell_kept hc (grownBy_putObj' _ D (.deferred none)) (fun r e => by cases e; exact ⟨_, hK, rfl⟩)
      have hnot : ¬ ∀ p ∈ upto (fun j => (a[j]?.getD 0, b[j]?.getD 0)) b.length, p.1 = p.2 := fun h => hpne (h p (upto_sub hkk hp))
      refine ⟨.int .u64 0, ?_, by rw [hm, eqL, if_neg hnot]; rfl, hB.trans (belowK_b (w := w) (Nat.le_refl _) W D _ _ (by omega) hK rfl rfl)⟩
      simp [results, Try.f25, go_sem, hc5]
  · have hm : max a.length b.length = a.length := by omega
    obtain ⟨W0, hW0⟩ : ∃ W0, W0 = (((((w.alloc (.cells #[.int .u64 0] 22)).alloc (.cells #[.slice A a.length ac] 24)).alloc (.cells #[.slice B b.length bc] 24)).alloc (.cells #[.int .i64 (a.length : Int)] 3)).alloc (.cells #[.func (.func 36) #[] #[]] 46)) := ⟨_, rfl⟩
    have hsz : W0.heap.size = w.heap.size + 5 := by
      rw [hW0]
      simp only [World.size_alloc]
    have hB0 : Below w.heap.size w W0 := by rw [hW0]; exact ((((((Below.refl _ w).alloc (Nat.le_refl _) _).alloc (by simp only [World.size_alloc]; omega) _).alloc (by simp only [World.size_alloc]; omega) _).alloc (by simp only [World.size_alloc]; omega) _).alloc (by simp only [World.size_alloc]; omega) _)
    have q0 : W0.cell? ⟨w.heap.size, 0, none⟩ = some (.int .u64 0) := by rw [hW0]; go_simp
    have q0f : W0.frozen? ⟨w.heap.size, 0, none⟩ = false := by rw [hW0]; go_simp
    have q1 : W0.cell? ⟨w.heap.size + 1 + 2, 0, none⟩ = some (.int .i64 (a.length : Int)) := by rw [hW0]; go_simp
    have q2 : W0.cell? ⟨w.heap.size + 1 + 3, 0, none⟩ = some (.func (.func 36) #[] #[]) := by rw [hW0]; go_simp
    have q3 : W0.cell? ⟨w.heap.size + 1, 0, none⟩ = some (.slice A a.length ac) := by rw [hW0]; go_simp
    have q4 : W0.cell? ⟨w.heap.size + 1 + 1, 0, none⟩ = some (.slice B b.length bc) := by rw [hW0]; go_simp
    rw [← hW0]
    refine wpIn_rangeFunc_ownG hro h1 (gf := 37) (lb := #[.pointer (some ⟨w.heap.size + 1 + 2, 0, none⟩), .pointer (some ⟨w.heap.size + 1 + 3, 0, none⟩), .pointer (some ⟨w.heap.size + 1, 0, none⟩), .pointer (some ⟨w.heap.size + 1 + 1, 0, none⟩)]) rfl h37 (enters_of Try.func37 (by kernel_rfl) rfl)
      (both_stops F (n - 1) h37 h36 hro (by omega) w.heap.size (w.heap.size + 1) _ _ _ _ _ _ a b ha hb a.length (by omega) W0 (by unfold InS; omega) (by unfold InS; omega) (by unfold InS; omega) (by unfold InS; omega) (by omega) (by omega) q1 q2 q3 q4 (hwa.below hB0) (hwb.below hB0))
      KpS.trans (fun W l o o' hl h _ _ => (KpS.refl _ _ W).grown (grownBy_putObj' W l o') (fun k e => by cases e; unfold InS; omega) (fun k hk => by have := (Array.getElem?_eq_some_iff.1 h).1; unfold InS at hk; omega)) (Below.refl _ _) (fun _ => rfl)
      (fun pre W => ((∀ p ∈ pre, p.1 = p.2) ∧ W.cell? ⟨w.heap.size, 0, none⟩ = some (.int .u64 0) ∧ W.frozen? ⟨w.heap.size, 0, none⟩ = false) ∧ Below w.heap.size w W)
      (fun c pre W => (c = .ret ∧ (∃ p ∈ pre, p.1 ≠ p.2) ∧ W.cell? ⟨w.heap.size, 0, none⟩ = some (.int .u64 0) ∧ W.frozen? ⟨w.heap.size, 0, none⟩ = false) ∧ Below w.heap.size w W)
      (OwnFrom.and (Own.from (fun s A B row hs hg hr => ⟨hs.1, cell_kept hs.2.1 hg hr, (frozen_kept hs.2.1 hg hr).trans hs.2.2⟩) _) (ownFrom_below (Nat.le_refl _) (by omega)))
      (fun c => OwnFrom.and (Own.from (fun s A B row hs hg hr => ⟨hs.1, hs.2.1, cell_kept hs.2.2.1 hg hr, (frozen_kept hs.2.2.1 hg hr).trans hs.2.2.2⟩) _) (ownFrom_below (Nat.le_refl _) (by omega)))
      ⟨⟨fun p hp => (by cases hp), q0, q0f⟩, hB0⟩
      (fun x => { tmps := #[.slice A a.length ac, .slice B b.length bc, undef, undef, .pointer (some ⟨w.heap.size, 0, none⟩), .int .u64 (x.1 : Int), .int .u64 (x.2 : Int), .slice A a.length ac, .slice B b.length bc, .slice A a.length ac, .int .i64 (a.length : Int), .slice B b.length bc, .int .i64 (b.length : Int), .int .i64 (a.length : Int), .func (.func 37) #[] #[.pointer (some ⟨w.heap.size + 1 + 2, 0, none⟩), .pointer (some ⟨w.heap.size + 1 + 3, 0, none⟩), .pointer (some ⟨w.heap.size + 1, 0, none⟩), .pointer (some ⟨w.heap.size + 1 + 1, 0, none⟩)], .int .u64 (x.1 : Int), .int .u64 (x.2 : Int), undef, undef, undef], defers := [] }) ?assign ?body ?done ?stop
    case assign =>
      intro l x W K hK
      gi_wp2
      exact hK
    case body =>
      rintro l pre x W ⟨⟨hall, hc, hf⟩, hB⟩ hlt
      by_cases hx : x.1 = x.2
      · gi_wp2
        exact ⟨KeepsFrom.refl _ _, KpS.refl _ _ _, ⟨fun p hp => by
          rcases List.mem_append.1 hp with hp | hp
          · exact hall p hp
          · have : p = x := by simpa using hp
            rw [this]; exact hx, hc, hf⟩, hB⟩
      · gi_wp2
        exact ⟨(KeepsOthers.setCell _ _ _).from _, ⟨rfl, ⟨x, by simp, hx⟩, World.cell?_setCell_same' _ _ _ (by rw [hc]; rfl), by rw [World.frozen?_setCell]; exact hf⟩, hB.setCell (Nat.le_refl _) _⟩
    case done =>
      rintro D xs W hD rfl ⟨⟨hall, hc, hf⟩, hB⟩ hK
      gi_wp2
      have hK' := (KeepsOthers.setCell W ⟨w.heap.size, 0, none⟩ (.int .u64 1)).same D _ hK rfl
      refine ⟨by simp, .inl ⟨_, _, rfl, run_takeDeferred hK', ?_⟩⟩
      have hc5 := cell_kept (World.cell?_setCell_same' W ⟨w.heap.size, 0, none⟩ (.int .u64 1) (by rw [hc]; rfl)) (grownBy_putObj' _ D (.deferred none)) (fun r e => by cases e; exact ⟨_, hK', rfl⟩)
      refine ⟨.int .u64 1, ?_, by rw [hm, eqL, if_pos hall]; rfl, (hB.setCell (Nat.le_refl _) _).trans (belowK_b (w := w) (Nat.le_refl _) _ D _ _ (by omega) hK' rfl rfl)⟩
      simp [results, Try.f25, go_sem, hc5]
    case stop =>
      rintro D c pre W hD ⟨kk, hkk, rfl⟩ ⟨⟨rfl, ⟨p, hp, hpne⟩, hc, hf⟩, hB⟩ hK
      gi_wp2
      refine ⟨by simp, .inl ⟨_, _, rfl, run_takeDeferred hK, ?_⟩⟩
      have hc5 := cell_kept hc (grownBy_putObj' _ D (.deferred none)) (fun r e => by cases e; exact ⟨_, hK, rfl⟩)
      have hnot : ¬ ∀ p ∈ upto (fun j => (a[j]?.getD 0, b[j]?.getD 0)) a.length, p.1 = p.2 := fun h => hpne (h p (upto_sub hkk hp))
      refine ⟨.int .u64 0, ?_, by rw [hm, eqL, if_neg hnot]; rfl, hB.trans (belowK_b (w := w) (Nat.le_refl _) W D _ _ (by omega) hK rfl rfl)⟩
      simp [results, Try.f25, go_sem, hc5]
end Go.Proofs
