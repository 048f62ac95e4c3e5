/- Joined: AbsPNXB AbsPNXC. -/
import Derived.Test.YtbkhamjlfadfoaaDoorAbs306
import Derived.Test.YtbkhamjlfadfoaaDoorAbs320
set_option linter.all false
set_option maxHeartbeats 16000000
noncomputable section
namespace Go.Abs
open Go Go.Proofs
theorem wrapi {x : Int} (h0 : -9223372036854775808 ≤ x) (h : x < 9223372036854775808) : IntKind.i64.wrap x = x := by
 unfold IntKind.wrap
 simp [IntKind.signed, IntKind.bits]
 omega
theorem uL_cons (a : Nat) (l : List Nat) : uL (a :: l) = .int .u64 (a : Int) :: uL l := rfl
set_option maxRecDepth 100000 in
theorem note39 (b g : Nat) (σ : NetS) (tb : List (Nat × Box)) (hT : TB b σ.tp tb) (who frm : Nat) (pm : Bool) (A : Option Addr) (cap : Nat) (l : List Nat) (hw : who < σ.views.length) (hl : l.length ≤ 1000) (hn : (σ.views[who]).length ≤ 1000000) (hfr : frm ≤ 1000) :
 AnsM 1 Tryd.prog H14 61 [.bptr b 0, .int .i64 (who : Int), .int .i64 (frm : Int), .im pm A cap l.length (uL l)] ((b, ⟨g, netC σ⟩) :: tb) (.tup []) ((b, ⟨g, netC (hearS σ who frm (cpW l))⟩) :: tb) := by
 refine AnsM.gen (fn := Tryd.f61) (by rfl) Tryd.func61 rfl (by rfl) (fun nx h c hc => ?_) fun k hk nx h => ?_
 ·have ht : ∀ e ∈ tb, e.1 < nx := fun e he => h e (List.mem_cons_of_mem _ he)
  simp only [ptrs, ptrsL, List.nil_append, List.mem_flatMap] at hc
  obtain ⟨e, he, hc⟩ := hc
  rcases List.mem_cons.1 he with rfl | he
  ·rw [ptrsL_netC, hearS_tp] at hc
   exact lt_of_fst hT.ids ht hc
  ·rw [hT.flat e he] at hc; cases hc
 have hb : b < nx := h _ List.mem_cons_self
 have ht : ∀ e ∈ tb, e.1 < nx := fun e he => h e (List.mem_cons_of_mem _ he)
 have hfl := filt_lt ht
 by_cases hwf : who = frm
 ·have hs : hearS σ who frm (cpW l) = σ := if_neg fun h => h.1 hwf
  have hne : (((who : Nat) : Int) != ((frm : Nat) : Int)) = false := by simp [hwf]
  rw [hs]
  simp [entryS, hne, hb, hfl]
 have hne : (((who : Nat) : Int) != ((frm : Nat) : Int)) = true := by simp [bne]; omega
 by_cases h0 : 0 < l.length
 ·obtain ⟨a0, l, rfl⟩ : ∃ a0 l', l = a0 :: l' := by cases l with | nil => simp at h0 | cons a l => exact ⟨a, l, rfl⟩
  have hb1 : (l.length + 1) * 8 ≤ 140737488355328 := by simp at hl; omega
  have hb2 : l.length + 1 ≤ 140737488355328 := by simp at hl; omega
  have hn1 : (σ.views[who].length + 1) * 40 ≤ 140737488355328 := by omega
  have hn2 : σ.views[who].length ≤ 140737488355327 := by omega
  have hf1 : IntKind.i64.wrap ((frm : Int) + 1) = (frm : Int) + 1 := wrapi (by omega) (by omega)
  have hm7 : (netC σ).set 7 (.own .nil 0 σ.views.length ((viewsC σ.views).set who (.own .nil 0 (σ.views[who].length + 1) (evsC σ.views[who] ++ [.int .i64 σ.round, .int .i64 ((frm : Int) + 1), .im true none 0 (l.length + 1) (.int .u64 (a0 : Int) :: uL l)])))) = netC (hearS σ who frm (cpW (a0 :: l))) := by
   have hs : hearS σ who frm (cpW (a0 :: l)) = { σ with views := σ.views.set who (σ.views[who] ++ [⟨σ.round, (frm : Int) + 1, cpW (a0 :: l)⟩]) } := by
    unfold hearS
    rw [if_pos ⟨hwf, by simp [cpW]⟩]
    simp [hw]
   rw [hs]
   refine Eq.trans ?_ (netC_set7 σ (σ.views.set who (σ.views[who] ++ [⟨σ.round, (frm : Int) + 1, cpW (a0 :: l)⟩])))
   rw [← viewsC_set]
   simp [evsC_append, evsC, evC, rV, cpW, uL_cons]
  simp [entryS, hne, hb]
  refine EvP.drawT rfl ?_
  refine optE_mono (IsSt (fun i => match ([.bptr b 0, .int .i64 (who : Int), .int .i64 (frm : Int), .im pm A cap (l.length + 1) (.int .u64 (a0 : Int) :: uL l), .dead, .dead, .dead, .dead, .int .i64 (who : Int), .int .i64 (frm : Int), .bool true, .bool true, .im pm A cap (l.length + 1) (.int .u64 (a0 : Int) :: uL l), .int .i64 ((l.length : Int) + 1), .bool true, .bool true, .bptr b 0, .bptr b 0, .bptr b 7, .ref (.box b) [7], .int .i64 (who : Int), .bptr b 0, .bptr b 0, .bptr b 7, .ref (.box b) [7], .int .i64 (who : Int), .loc (.box b) [7, who], .dead, .bptr b 0, .bptr b 0, .bptr b 6, .int .i64 σ.round, .int .i64 (frm : Int), .int .i64 ((frm : Int) + 1), .im pm A cap (l.length + 1) (.int .u64 (a0 : Int) :: uL l), .im true none 0 (l.length + 1) (.int .u64 (a0 : Int) :: uL l), .agg [.int .i64 σ.round, .int .i64 ((frm : Int) + 1), .im true none 0 (l.length + 1) (.int .u64 (a0 : Int) :: uL l)], .own .nil 0 1 [.int .i64 σ.round, .int .i64 ((frm : Int) + 1), .im true none 0 (l.length + 1) (.int .u64 (a0 : Int) :: uL l)], .dead, .loc (.box b) [7, who]] : List V)[i]? with | some v => v | none => .dead) ((b, ⟨g, netC (hearS σ who frm (cpW (a0 :: l)))⟩) :: tb) nx) (tree_all _ IsSt.sm _ _ ?_) (fun D hD => ?_)
  ·intro p hp
   simp only [paths, List.map_cons, List.map_nil, List.cons_append, List.nil_append, List.mem_cons, List.not_mem_nil, or_false] at hp
   rcases hp with rfl | rfl | rfl | rfl
   all_goals
    simp [hw, uL_cons, hb1, hb2, hn1, hn2, hf1, getBox_set, viewsC_set]
    refine ⟨fun i => ?_, ?_, rfl⟩
    ·have hi : i = 0 ∨ i = 1 ∨ i = 2 ∨ i = 3 ∨ i = 4 ∨ i = 5 ∨ i = 6 ∨ i = 7 ∨ i = 8 ∨ i = 9 ∨ i = 10 ∨ i = 11 ∨ i = 12 ∨ i = 13 ∨ i = 14 ∨ i = 15 ∨ i = 16 ∨ i = 17 ∨ i = 18 ∨ i = 19 ∨ i = 20 ∨ i = 21 ∨ i = 22 ∨ i = 23 ∨ i = 24 ∨ i = 25 ∨ i = 26 ∨ i = 27 ∨ i = 28 ∨ i = 29 ∨ i = 30 ∨ i = 31 ∨ i = 32 ∨ i = 33 ∨ i = 34 ∨ i = 35 ∨ i = 36 ∨ i = 37 ∨ i = 38 ∨ i = 39 ∨ 40 ≤ i := by omega
     rcases hi with rfl | rfl | rfl | rfl | rfl | rfl | rfl | rfl | rfl | rfl | rfl | rfl | rfl | rfl | rfl | rfl | rfl | rfl | rfl | rfl | rfl | rfl | rfl | rfl | rfl | rfl | rfl | rfl | rfl | rfl | rfl | rfl | rfl | rfl | rfl | rfl | rfl | rfl | rfl | rfl | hi
     rotate_right
     ·obtain ⟨j, rfl⟩ : ∃ j, i = j + 40 := ⟨i - 40, by omega⟩
      simp
     all_goals simp
    ·rw [← hm7]
  ·obtain ⟨d1, d2, d3⟩ := hD
   simp [d1, d2, d3]
   exact ⟨hb, fun a c hc => ht _ hc⟩
 ·have hs : hearS σ who frm (cpW l) = σ := if_neg fun h => h0 h.2
  have hl0 : l.length = 0 := by omega
  rw [hs]
  simp [entryS, hne, hb, hfl, hl0]
end Go.Abs
end
noncomputable section
namespace Go.Abs
open Go Go.Proofs
set_option maxRecDepth 100000 in
theorem hear62 (b g : Nat) (σ : NetS) (tb : List (Nat × Box)) (hT : TB b σ.tp tb) (who frm : Nat) (pm : Bool) (A : Option Addr) (cap : Nat) (l : List Nat) (hw : who < σ.views.length) (hl : l.length ≤ 1000) (hn : (σ.views[who]).length ≤ 1000000) (hfr : frm ≤ 1000) :
 AnsM 1 Tryd.prog H14 81 [.bptr b 0, .int .i64 (who : Int), .int .i64 (frm : Int), .im pm A cap l.length (uL l)] ((b, ⟨g, netC σ⟩) :: tb) (.tup []) ((b, ⟨g, netC (hearS σ who frm (⟨pm, A, cap, l⟩))⟩) :: tb) := by
 refine AnsM.gen (fn := Tryd.f81) (by rfl) Tryd.func81 rfl (by rfl) (fun nx h c hc => ?_) fun k hk nx h => ?_
 ·have ht : ∀ e ∈ tb, e.1 < nx := fun e he => h e (List.mem_cons_of_mem _ he)
  simp only [ptrs, ptrsL, List.nil_append, List.mem_flatMap] at hc
  obtain ⟨e, he, hc⟩ := hc
  rcases List.mem_cons.1 he with rfl | he
  ·rw [ptrsL_netC, hearS_tp] at hc
   exact lt_of_fst hT.ids ht hc
  ·rw [hT.flat e he] at hc; cases hc
 have hb : b < nx := h _ List.mem_cons_self
 have ht : ∀ e ∈ tb, e.1 < nx := fun e he => h e (List.mem_cons_of_mem _ he)
 have hfl := filt_lt ht
 by_cases hwf : who = frm
 ·have hs : hearS σ who frm (⟨pm, A, cap, l⟩) = σ := if_neg fun h => h.1 hwf
  have hne : (((frm : Nat) : Int) != ((who : Nat) : Int)) = false := by simp [hwf]
  rw [hs]
  simp [entryS, hne, hb, hfl]
 have hne : (((frm : Nat) : Int) != ((who : Nat) : Int)) = true := by simp [bne]; omega
 by_cases h0 : 0 < l.length
 ·obtain ⟨a0, l, rfl⟩ : ∃ a0 l', l = a0 :: l' := by cases l with | nil => simp at h0 | cons a l => exact ⟨a, l, rfl⟩
  have hb1 : (l.length + 1) * 8 ≤ 140737488355328 := by simp at hl; omega
  have hb2 : l.length + 1 ≤ 140737488355328 := by simp at hl; omega
  have hn1 : (σ.views[who].length + 1) * 40 ≤ 140737488355328 := by omega
  have hn2 : σ.views[who].length ≤ 140737488355327 := by omega
  have hf1 : IntKind.i64.wrap ((frm : Int) + 1) = (frm : Int) + 1 := wrapi (by omega) (by omega)
  have hm7 : (netC σ).set 7 (.own .nil 0 σ.views.length ((viewsC σ.views).set who (.own .nil 0 (σ.views[who].length + 1) (evsC σ.views[who] ++ [.int .i64 σ.round, .int .i64 ((frm : Int) + 1), .im pm A cap (l.length + 1) (.int .u64 (a0 : Int) :: uL l)])))) = netC (hearS σ who frm (⟨pm, A, cap, a0 :: l⟩)) := by
   have hs : hearS σ who frm (⟨pm, A, cap, a0 :: l⟩) = { σ with views := σ.views.set who (σ.views[who] ++ [⟨σ.round, (frm : Int) + 1, ⟨pm, A, cap, a0 :: l⟩⟩]) } := by
    unfold hearS
    rw [if_pos ⟨hwf, by simp⟩]
    simp [hw]
   rw [hs]
   refine Eq.trans ?_ (netC_set7 σ (σ.views.set who (σ.views[who] ++ [⟨σ.round, (frm : Int) + 1, ⟨pm, A, cap, a0 :: l⟩⟩])))
   rw [← viewsC_set]
   simp [evsC_append, evsC, evC, rV, uL_cons]
  simp [entryS, hne, hb]
  refine EvP.drawT rfl ?_
  refine optE_mono (IsSt (fun i => match ([.bptr b 0, .int .i64 (who : Int), .int .i64 (frm : Int), .im pm A cap (l.length + 1) (.int .u64 (a0 : Int) :: uL l), .dead, .dead, .dead, .dead, .int .i64 (frm : Int), .int .i64 (who : Int), .bool true, .bool true, .im pm A cap (l.length + 1) (.int .u64 (a0 : Int) :: uL l), .int .i64 ((l.length : Int) + 1), .bool true, .bool true, .bptr b 0, .bptr b 0, .bptr b 7, .ref (.box b) [7], .int .i64 (who : Int), .bptr b 0, .bptr b 0, .bptr b 7, .ref (.box b) [7], .int .i64 (who : Int), .loc (.box b) [7, who], .dead, .bptr b 0, .bptr b 0, .bptr b 6, .int .i64 σ.round, .int .i64 (frm : Int), .int .i64 ((frm : Int) + 1), .im pm A cap (l.length + 1) (.int .u64 (a0 : Int) :: uL l), .agg [.int .i64 σ.round, .int .i64 ((frm : Int) + 1), .im pm A cap (l.length + 1) (.int .u64 (a0 : Int) :: uL l)], .own .nil 0 1 [.int .i64 σ.round, .int .i64 ((frm : Int) + 1), .im pm A cap (l.length + 1) (.int .u64 (a0 : Int) :: uL l)], .dead, .loc (.box b) [7, who]] : List V)[i]? with | some v => v | none => .dead) ((b, ⟨g, netC (hearS σ who frm (⟨pm, A, cap, a0 :: l⟩))⟩) :: tb) nx) (tree_all _ IsSt.sm _ _ ?_) (fun D hD => ?_)
  ·intro p hp
   simp only [paths, List.map_cons, List.map_nil, List.cons_append, List.nil_append, List.mem_cons, List.not_mem_nil, or_false] at hp
   rcases hp with rfl | rfl | rfl | rfl
   all_goals
    simp [hw, uL_cons, hb1, hb2, hn1, hn2, hf1, getBox_set, viewsC_set]
    refine ⟨fun i => ?_, ?_, rfl⟩
    ·have hi : i = 0 ∨ i = 1 ∨ i = 2 ∨ i = 3 ∨ i = 4 ∨ i = 5 ∨ i = 6 ∨ i = 7 ∨ i = 8 ∨ i = 9 ∨ i = 10 ∨ i = 11 ∨ i = 12 ∨ i = 13 ∨ i = 14 ∨ i = 15 ∨ i = 16 ∨ i = 17 ∨ i = 18 ∨ i = 19 ∨ i = 20 ∨ i = 21 ∨ i = 22 ∨ i = 23 ∨ i = 24 ∨ i = 25 ∨ i = 26 ∨ i = 27 ∨ i = 28 ∨ i = 29 ∨ i = 30 ∨ i = 31 ∨ i = 32 ∨ i = 33 ∨ i = 34 ∨ i = 35 ∨ i = 36 ∨ i = 37 ∨ i = 38 ∨ 39 ≤ i := by omega
     rcases hi with rfl | rfl | rfl | rfl | rfl | rfl | rfl | rfl | rfl | rfl | rfl | rfl | rfl | rfl | rfl | rfl | rfl | rfl | rfl | rfl | rfl | rfl | rfl | rfl | rfl | rfl | rfl | rfl | rfl | rfl | rfl | rfl | rfl | rfl | rfl | rfl | rfl | rfl | rfl | hi
     rotate_right
     ·obtain ⟨j, rfl⟩ : ∃ j, i = j + 39 := ⟨i - 39, by omega⟩
      simp
     all_goals simp
    ·rw [← hm7]
  ·obtain ⟨d1, d2, d3⟩ := hD
   simp [d1, d2, d3]
   exact ⟨hb, fun a c hc => ht _ hc⟩
 ·have hs : hearS σ who frm (⟨pm, A, cap, l⟩) = σ := if_neg fun h => h0 h.2
  have hl0 : l.length = 0 := by omega
  rw [hs]
  simp [entryS, hne, hb, hfl, hl0]
end Go.Abs
end
