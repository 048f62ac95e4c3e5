/- Joined: AbsPNLW AbsPNLB. -/
import Derived.Test.YtbkhamjlfadfoaaDoorAbs307
import Derived.Maps.RangeWalk
import Derived.Maps.OwnOps
import Derived.WalkKit
set_option linter.all false
set_option maxHeartbeats 16000000
noncomputable section
namespace Go.Abs
open Go Go.Proofs Go.RowKit Go.Maps
theorem law22 : Keyed Tryd.prog 22 := int_keyed Tryd.underlying22
theorem zero3 (w : World) : (zeroValue 3).run Tryd.prog w = .ok (.int .i64 0) w := by kernel_rfl
def MsgAt (w : World) (v : Value) : Option Nat → Prop
 | none => ∃ A cap, v = .slice A 0 cap
 | some x => x < 18446744073709551616 ∧ ∃ (b off l cap : Nat), v = .slice (some ⟨b, off, none⟩) (l + 1) cap ∧ b < w.heap.size ∧ w.cell? ⟨b, off, none⟩ = some (.int .u64 (x : Int))
section
variable {H : Type}
def n64 (c : Nat) : DataW H := .lit (.int .i64 (c : Int))
def kyl (x : Nat) : Lit := .int .u64 (x : Int)
theorem kyl_key (x : Nat) : WideAt.IsKeyLit (kyl x) := trivial
theorem kyl_ne {x y : Nat} (h : x ≠ y) : kyl x ≠ kyl y := fun e => h (by
 have := Lit.int.inj e
 omega)
def Vt (hs : List (Option Nat)) : Nat → DataW H
 | 0 => .map []
 | k + 1 => match hs[k]? with
   | some (some x) => (Vt hs k).put (kyl x) (n64 (votesL (hs.take (k + 1)) x))
   | _ => Vt hs k
theorem votesL_succ {hs : List (Option Nat)} {k : Nat} {h : Option Nat} (hk : hs[k]? = some h) (x : Nat) : votesL (hs.take (k + 1)) x = votesL (hs.take k) x + if h = some x then 1 else 0 := by
 unfold votesL
 rw [List.take_add_one, hk, List.filter_append, List.length_append]
 by_cases e : h = some x
 ·simp [e]
 ·simp [e]
theorem Vt_isMap (hs : List (Option Nat)) : ∀ k, IsMap (Vt (H := H) hs k)
 | 0 => isMap_empty
 | k + 1 => by
   unfold Vt
   split
   ·exact (Vt_isMap hs k).put _ _
   ·exact Vt_isMap hs k
theorem Vt_at (hs : List (Option Nat)) (x : Nat) : ∀ k, k ≤ hs.length → (Vt (H := H) hs k).atKey (kyl x) (n64 0) = n64 (votesL (hs.take k) x)
 | 0, _ => rfl
 | k + 1, hk => by
   obtain ⟨h, hh⟩ : ∃ h, hs[k]? = some h := ⟨_, List.getElem?_eq_getElem (by omega)⟩
   have ih := Vt_at hs x k (by omega)
   rw [votesL_succ hh]
   unfold Vt
   rw [hh]
   cases h with
   | none => simpa using ih
   | some y =>
     simp only
     by_cases e : y = x
     ·subst e
      rw [atKey_put_same (Vt_isMap hs k) (kyl_key y), votesL_succ hh]
     ·rw [atKey_put_other (kyl_ne fun h => e h.symm), ih]
      have : ¬ (some y = some x) := by simpa using e
      rw [if_neg this, Nat.add_zero]
theorem Vt_has (hs : List (Option Nat)) (x : Nat) : ∀ k, k ≤ hs.length → (has (Vt (H := H) hs k) (kyl x) = true ↔ 0 < votesL (hs.take k) x)
 | 0, _ => by simp [Vt, has, votesL]
 | k + 1, hk => by
   obtain ⟨h, hh⟩ : ∃ h, hs[k]? = some h := ⟨_, List.getElem?_eq_getElem (by omega)⟩
   have ih := Vt_has hs x k (by omega)
   rw [votesL_succ hh]
   unfold Vt
   rw [hh]
   cases h with
   | none => simpa using ih
   | some y =>
     simp only
     by_cases e : y = x
     ·subst e
      rw [has_put_same (Vt_isMap hs k) (kyl_key y)]
      simp
     ·rw [has_put_other (kyl_ne fun h => e h.symm), ih]
      have : ¬ (some y = some x) := by simpa using e
      rw [if_neg this, Nat.add_zero]
end
theorem Vt_none {H : Type} {hs : List (Option Nat)} {k : Nat} (h : hs[k]? = some none) : Vt (H := H) hs (k + 1) = Vt hs k := by
 rw [Vt, h]
theorem Vt_some {H : Type} {hs : List (Option Nat)} {k x : Nat} (h : hs[k]? = some (some x)) : Vt (H := H) hs (k + 1) = (Vt hs k).put (kyl x) (n64 (votesL (hs.take k) x + 1)) := by
 have e : votesL (hs.take (k + 1)) x = votesL (hs.take k) x + 1 := by rw [votesL_succ h, if_pos rfl]
 rw [← e, Vt, h]
def Best (hs : List (Option Nat)) (least : Int) (came : Nat → Prop) (x c : Nat) : Prop :=
 (x = 0 ∧ c = 0 ∧ ∀ y, came y → 0 < votesL hs y → ¬ least ≤ (votesL hs y : Int)) ∨ (0 < c ∧ c = votesL hs x ∧ came x ∧ least ≤ (c : Int) ∧ ∀ y, came y → 0 < votesL hs y → least ≤ (votesL hs y : Int) → x ≤ y)
theorem votesL_mem {hs : List (Option Nat)} {x : Nat} : 0 < votesL hs x ↔ x ∈ hs.filterMap id := by
 unfold votesL
 rw [List.length_pos_iff_exists_mem]
 simp
theorem best_end {hs : List (Option Nat)} {least : Int} {came : Nat → Prop} {x c : Nat} (h : Best hs least came x c) (hall : ∀ y, 0 < votesL hs y → came y) : mostOf hs least = (x, c) := by
 unfold mostOf
 rcases h with ⟨rfl, rfl, h⟩ | ⟨h0, rfl, hc, hl, h⟩
 ·have : ((hs.filterMap id).filter fun x => decide (least ≤ (votesL hs x : Int))) = [] := List.filter_eq_nil_iff.2 fun y hy => by
   have hv := votesL_mem.2 hy
   simpa using h y (hall y hv) hv
  rw [this]
  rfl
 ·have : ((hs.filterMap id).filter fun x => decide (least ≤ (votesL hs x : Int))).min? = some x := by
   rw [List.min?_eq_some_iff]
   refine ⟨List.mem_filter.2 ⟨votesL_mem.1 h0, by simpa using hl⟩, fun y hy => ?_⟩
   obtain ⟨h1, h2⟩ := List.mem_filter.1 hy
   have hv := votesL_mem.2 h1
   exact h y (hall y hv) hv (by simpa using h2)
  rw [this]
theorem best_start (hs : List (Option Nat)) (least : Int) {came : Nat → Prop} (h : ∀ y, 0 < votesL hs y → ¬ came y) : Best hs least came 0 0 := .inl ⟨rfl, rfl, fun y hy hv => absurd hy (h y hv)⟩
theorem best_step {hs : List (Option Nat)} {least : Int} {came came' : Nat → Prop} {x c y : Nat} (h : Best hs least came x c) (hc : ∀ z, came' z ↔ (came z ∨ z = y)) (hy : 0 < votesL hs y) :
 (least ≤ (votesL hs y : Int) ∧ (c = 0 ∨ y < x) → Best hs least came' y (votesL hs y)) ∧ (¬ (least ≤ (votesL hs y : Int) ∧ (c = 0 ∨ y < x)) → Best hs least came' x c) := by
 refine ⟨fun ⟨h1, h2⟩ => .inr ⟨hy, rfl, (hc y).2 (.inr rfl), h1, fun z hz hv hl => ?_⟩, fun hn => ?_⟩
 ·rcases (hc z).1 hz with hz | rfl
  ·rcases h with ⟨_, _, h⟩ | ⟨h0, _, _, _, h⟩
   ·exact absurd hl (h z hz hv)
   ·have := h z hz hv hl
    omega
  ·exact Nat.le_refl _
 ·rcases h with ⟨rfl, rfl, h⟩ | ⟨h0, e, hx, hl, h⟩
  ·refine .inl ⟨rfl, rfl, fun z hz hv => ?_⟩
   rcases (hc z).1 hz with hz | rfl
   ·exact h z hz hv
   ·exact fun hl => hn ⟨hl, .inl rfl⟩
  ·refine .inr ⟨h0, e, (hc x).2 (.inl hx), hl, fun z hz hv hlz => ?_⟩
   rcases (hc z).1 hz with hz | rfl
   ·exact h z hz hv hlz
   ·have : ¬ (z < x) := fun hlt => hn ⟨hlz, .inr hlt⟩
    omega
def cameOf (left : Lit → Bool) (y : Nat) : Prop := left (kyl y) = false
set_option maxRecDepth 100000 in
theorem most_any {H : Type} (A : Option Addr) (n cap : Nat) (hs : List (Option Nat)) (least : Int) (w : World) (hn : hs.length = n) (hreach : n < 4611686018427387904) (hA : 0 < n → ∃ b off, A = some ⟨b, off, none⟩ ∧ b < w.heap.size)
 (hc : ∀ j h, hs[j]? = some h → ∀ b off, A = some ⟨b, off, none⟩ → ∃ v, w.cell? ⟨b, off + j, none⟩ = some v ∧ MsgAt w v h) :
 Calls Tryd.prog 48 #[.slice A n cap, .int .i64 least] w fun e w' => e = .returned (.tuple #[.int .u64 ((mostOf hs least).1 : Int), .int .i64 ((mostOf hs least).2 : Int)]) ∧ Below w.heap.size w w' := by
 have hmm := @run_makeMap Tryd.prog
 go_enter Tryd.func48, Tryd.ntmps48
 go_wp2
 go_loopw [14] (fun i wr => ∃ k : Nat, k ≤ n ∧ i = .int .i64 k ∧ wr.ownsMap Tryd.prog 22 (plainElem (H := H) Tryd.prog 3) w.heap.size k (Vt hs k) ∧ Below w.heap.size w wr)
  (fun i _ => n - (intOf i).toNat)
 case atStart => exact ⟨0, Nat.zero_le _, rfl, World.ownsMap_made _ _ _ _, (Below.refl _ _).alloc (Nat.le_refl _) _⟩
 case round =>
  obtain ⟨k, hk, rfl, hown, hnx⟩ := hrel
  by_cases hlt : k < n
  ·obtain ⟨h, hh⟩ : ∃ h, hs[k]? = some h := ⟨_, List.getElem?_eq_getElem (by omega)⟩
   obtain ⟨b, off, rfl, hb⟩ := hA (by omega)
   obtain ⟨v, hv, hm⟩ := hc k h hh b off rfl
   have hcx : wr.cell? ⟨b, off + k, none⟩ = some v := (hnx.cell (by exact hb)).trans hv
   have hat0 := fun x => Vt_at (H := H) hs x k (by omega)
   clear hv hc hA
   cases h with
   | none =>
     obtain ⟨A2, cap2, rfl⟩ := hm
     go_wp2
     go_roundw
     case rel => exact ⟨k + 1, by omega, by go_num, by rw [Vt_none hh]; exact hown.mono (Nat.le_succ k), hnx⟩
     case measure => simp [intOf]; omega
   | some x =>
     obtain ⟨hx, b2, off2, l2, cap2, rfl, hb2, hv2⟩ := hm
     have hcy : wr.cell? ⟨b2, off2, none⟩ = some (.int .u64 (x : Int)) := (hnx.cell (by exact hb2)).trans hv2
     have hwx : (Lit.int .u64 (x : Int)).wf = true := by simp [Lit.wf, IntKind.min, IntKind.max, IntKind.signed, IntKind.bits]; omega
     have hkey : Go.keyOf Tryd.prog 22 (.int .u64 (x : Int)) = some (kyl x) := keyOf_int_mk Tryd.underlying22 hwx
     clear hv2
     go_wp2_with (first
      | (at_lookup; refine wpList_lookup_own_int _ rfl _ _ 101 rfl 22 3 .i64 law22 Tryd.underlying101 Tryd.underlying3 (zero3 _) w.heap.size k _ rfl hown _ _ rfl hkey ?_; intro c hat hwc)
      | (at_mapUpdate; refine wpList_mapUpdate_own _ rfl _ _ _ 101 rfl 22 3 law22 Tryd.underlying101 _ w.heap.size k _ rfl hown (by unfold maxLen; omega) _ _ _ rfl rfl hkey _ [] (plainElem_int Tryd.underlying3 (wrap64_wf _)) ?_; intro w1 hown1 hgrow1)
      | go_in)
     have hc2 : c = (votesL (hs.take k) x : Nat) := by
      have := (hat0 x).symm.trans hat
      simp only [n64, DataW.lit.injEq, Lit.int.injEq] at this
      exact this.2.symm
     have hle : votesL (hs.take k) x ≤ k := by
      unfold votesL
      exact Nat.le_trans (List.length_filter_le _ _) (by rw [List.length_take]; omega)
     have hw1 : wrap64 (c + 1) = ((votesL (hs.take k) x + 1 : Nat) : Int) := by
      rw [hc2]; unfold wrap64; omega
     go_roundw
     case rel => exact ⟨k + 1, by omega, by go_num, by rw [Vt_some hh, n64, ← hw1]; exact hown1, hnx.grown hgrow1 hnx.size (fun j hj => by cases hj; exact Nat.le_refl _)⟩
     case measure => simp [intOf]; omega
  ·have : k = n := by omega
   subst this
   rename World => wq
   have htk : hs.take k = hs := by rw [← hn]; exact List.take_length
   go_wp2_with (first
    | (at_range; refine wpList_range_own _ rfl _ 101 rfl 22 3 law22 Tryd.underlying101 _ w.heap.size k _ rfl hown ?_; intro w0 hrg0 hg0 hs0)
    | go_in)
   go_frame
   have hnx0 : Below w.heap.size w w0 := hnx.grown hg0 hnx.size (fun j hj => by cases hj)
   go_loopw [4, 5] (fun x c wr' => ∃ (left : Lit → Bool) (cnt xn cn : Nat), x = .int .u64 (xn : Int) ∧ c = .int .i64 (cn : Int) ∧ wr'.ranges Tryd.prog 22 (plainElem (H := H) Tryd.prog 3) w.heap.size wq.heap.size k (Vt hs k) left cnt ∧ Best hs least (cameOf left) xn cn ∧ Below w.heap.size w wr')
    (fun _ _ wr' => wr'.rangeLeft w.heap.size wq.heap.size)
   case atStart => exact ⟨_, _, 0, 0, by simp, by simp, hrg0, best_start _ _ (fun y hy => by
    have := (Vt_has (H := H) hs y k (by omega)).2 (by rw [htk]; exact hy)
    unfold cameOf
    rw [this]; simp), hnx0⟩
   case round =>
    obtain ⟨left, cnt, xn, cn, rfl, rfl, hrg, hB, hbw⟩ := hrel
    go_wp2_with (first
     | (at_next; refine wpList_next_ranges_ii _ rfl _ rfl 22 3 .u64 .i64 law22 Tryd.underlying22 Tryd.underlying3 w.heap.size wq.heap.size k _ _ _ (by rfl) hrg ?_ ?_)
     | go_in)
    ·intro _ hl0
     go_wp2
     go_ret2
     exact ⟨by rw [best_end hB (fun y _ => hl0 (kyl y))]; rfl, hbw⟩
    ·intro x c w1 cnt1 hwx hwc hlx hat hrg1 hlt1 hg1 hs1 hen
     obtain ⟨y, rfl⟩ : ∃ y : Nat, x = (y : Int) := ⟨x.toNat, by simp [Lit.wf, IntKind.min, IntKind.signed] at hwx; omega⟩
     have hhas : 0 < votesL hs y := by
      have := (Vt_has (H := H) hs y k (by omega)).1 (has_true_of_atKey hat)
      rwa [htk] at this
     have hcv : c = (votesL hs y : Nat) := by
      have := (Vt_at (H := H) hs y k (by omega)).symm.trans (hat (n64 0))
      rw [htk] at this
      simp only [n64, DataW.lit.injEq, Lit.int.injEq] at this
      exact this.2.symm
     have hbw1 : Below w.heap.size w w1 := hbw.grown hg1 hbw.size (fun j hj => by cases hj; exact hnx.size)
     have hcm : ∀ z, cameOf (fun z => left z && !z.sameKey (kyl y)) z ↔ (cameOf left z ∨ z = y) := fun z => by
      unfold cameOf
      by_cases e : z = y
      ·subst e; simp [WideAt.sameKey_self (kyl_key z)]
      ·simp [sameKey_ne (kyl_ne e), e]
     obtain ⟨s1, s2⟩ := best_step hB hcm hhas
     subst hcv
     obtain ⟨v, hv⟩ : ∃ v, votesL hs y = v := ⟨_, rfl⟩
     rw [hv] at s1 s2 hen hwc hhas
     simp only [hv]
     clear hat hc hA hmm hB hv
     go_wp2
     all_goals refine ⟨?_, by rw [hrg1.left_eq, hrg.left_eq]; exact hlt1⟩
     all_goals first
      | exact ⟨_, cnt1, y, v, rfl, rfl, hrg1, s1 (by omega), hbw1⟩
      | exact ⟨_, cnt1, xn, cn, rfl, rfl, hrg1, s2 (by omega), hbw1⟩
      | exact ⟨_, cnt1, y, v, rfl, rfl, hrg1, s1 (by simp_all <;> omega), hbw1⟩
      | exact ⟨_, cnt1, xn, cn, rfl, rfl, hrg1, s2 (by simp_all <;> omega), hbw1⟩
end Go.Abs
end
noncomputable section
namespace Go.Abs
open Go Go.Proofs Go.RowKit
set_option maxRecDepth 100000
section
variable {E : Env} {ex : List V} {w w' : World} {nx : Nat}
theorem back_flat {r : V} {v : Value} (hI : Inv E 0 (emptyS [] nx) ex w) (hb : Below w.heap.size w w') (hr : ∀ D, PR E.β D r v) (ha : atoms r = []) (hf : rows r = []) : Back E [] nx ex w r [] nx v w' := by
 have hI' := hI.ext hb.size hb.block
 have hs : Seen E 0 (emptyS [] nx) ex w' r v := ⟨hr _, fun b hb => (by rw [ha] at hb; cases hb), fun e he => (by rw [hf] at he; cases he)⟩
 obtain ⟨h1, h2⟩ := hs.join hI'
 refine ⟨E, r, [], Sm.refl _, .nil, h1, hr, ?_⟩
 exact ⟨fun _ _ => rfl, rfl, rfl, Nat.le_refl _, hb.size, fun k hk => h2.keys k hk |>.imp id (fun h => Nat.le_trans hb.size h), fun k hk _ => hb.block k hk, hb.os, hb.tape, hb.output⟩
theorem cell_plain {a : Addr} {u : Value} (h : w.cell? a = some u) : a.block < w.heap.size ∧ a.spot = none := by
 refine ⟨World.block_lt_of_cell? w _ h, ?_⟩
 unfold World.cell? at h
 split at h
 ·split at h
  ·cases h
  ·rename_i hs
   cases hs' : a.spot with
   | none => rfl
   | some v => rw [hs'] at hs; simp at hs
 ·cases h
theorem headsV_get : ∀ {cs : List V} {hs : List (Option Nat)}, headsV cs = some hs → cs.length = hs.length ∧ ∀ (j : Nat) (h : Option Nat), hs[j]? = some h → ∃ x, cs[j]? = some x ∧ headV x = some h
 | [], hs, h => by
   simp only [headsV, Option.some.injEq] at h; subst h
   exact ⟨rfl, fun j h hj => by simp at hj⟩
 | x :: cs, hs, h => by
   unfold headsV at h
   split at h
   case h_2 => cases h
   rename_i h0 hs0 e1 e2
   cases h
   obtain ⟨i1, i2⟩ := headsV_get e2
   refine ⟨by simp [i1], fun j h hj => ?_⟩
   cases j with
   | zero => simp at hj; subst hj; exact ⟨x, rfl, e1⟩
   | succ j => simpa using i2 j h (by simpa using hj)
theorem msg_at {K : Nat → Prop} {x : V} {u : Value} {h : Option Nat} (hh : headV x = some h) (hu : MR E.β x u) (hat : ∀ b ∈ atoms x, AtOk E w nx K b) : MsgAt w u h := by
 unfold headV at hh
 split at hh
 ·rename_i pm A cap
  cases hh
  rcases hu with hu | hu
  ·simp only [hd, Option.some.injEq] at hu; exact ⟨A, cap, hu.symm⟩
  ·cases hu
 ·rename_i pm A cap n x l
  split at hh
  case isFalse => cases hh
  rename_i hx
  cases hh
  rcases hu with hu | hu
  case inr => cases hu
  simp only [hd, Option.some.injEq] at hu
  obtain ⟨_, h3⟩ := hat (.i pm A cap (n + 1) (.int .u64 x :: l)) (by simp [atoms])
  cases A with
  | none => exact absurd h3.1 (by omega)
  | some a =>
    obtain ⟨_, h4, _⟩ := h3
    obtain ⟨u2, hu2, hm⟩ := h4 0 _ rfl
    have e0 : a.add 0 = a := by simp [Addr.add]
    rw [e0] at hu2
    have hu3 : u2 = .int .u64 x := by
     rcases hm with hm | hm
     ·simp only [hd, Option.some.injEq] at hm; exact hm.symm
     ·cases hm
    obtain ⟨hlt, hsp⟩ := cell_plain hu2
    obtain ⟨b, off, sp⟩ := a
    simp only at hsp hlt
    subst hsp
    have ex : ((x.toNat : Nat) : Int) = x := by omega
    refine ⟨by omega, b, off, n, cap, hu.symm, hlt, ?_⟩
    rw [hu2, hu3, ex]
 ·cases hh
theorem most48 {xs : List V} {r : V} (hX : mostX xs = some r) {us : List Value} (hI : Inv E 0 (emptyS [] nx) ex w) (hu' : ∀ D, PRL E.β D xs us) (hat : ∀ b ∈ atomsL xs, AtOk E w nx (fun k => k ∈ keysD 0 (emptyS [] nx) ex) b) :
 FGood Tryd.prog 48 us w (Back E [] nx ex w r [] nx) := by
 unfold mostX at hX
 split at hX
 case h_2 => cases hX
 rename_i pm A cap n cs least
 split at hX
 case isFalse => cases hX
 rename_i hcl
 split at hX
 case h_2 => cases hX
 rename_i hs hhs
 cases hX
 obtain ⟨u1, us1, rfl, e1, u2, us2, rfl, e2, e3⟩ := hu' (emptyS [] nx)
 have e1 : u1 = .slice A n cap := e1
 have e2 : u2 = .int .i64 least := e2
 have e3 : us2 = [] := e3
 subst e1 e2 e3
 obtain ⟨hl, hg⟩ := headsV_get hhs
 have hat0 := hat (.i pm A cap n cs) (by simp [atomsL, atoms])
 have hb0 : 0 < n → ∃ b off, A = some ⟨b, off, none⟩ ∧ b < w.heap.size := by
  intro h0
  cases A with
  | none => exact absurd hat0.2.1 (by omega)
  | some a =>
    obtain ⟨_, h4, _⟩ := hat0.2
    obtain ⟨x, hx⟩ : ∃ x, cs[0]? = some x := ⟨_, List.getElem?_eq_getElem (by omega)⟩
    obtain ⟨u, hu, _⟩ := h4 0 x hx
    have e0 : a.add 0 = a := by simp [Addr.add]
    rw [e0] at hu
    obtain ⟨hlt, hsp⟩ := cell_plain hu
    obtain ⟨b, off, sp⟩ := a
    simp only at hsp hlt
    subst hsp
    exact ⟨b, off, rfl, hlt⟩
 have hc : ∀ (j : Nat) (h : Option Nat), hs[j]? = some h → ∀ b off, A = some ⟨b, off, none⟩ → ∃ v, w.cell? ⟨b, off + j, none⟩ = some v ∧ MsgAt w v h := by
  intro j h hj b off hA
  subst hA
  obtain ⟨x, hx, hh⟩ := hg j h hj
  obtain ⟨u, hu, hm⟩ := hat0.2.2.1 j x hx
  refine ⟨u, ?_, msg_at hh hm fun b hb => hat b (by simp only [atomsL, atoms]; exact List.mem_append_left _ (List.mem_cons_of_mem _ (atoms_mem (List.mem_of_getElem? hx) hb)))⟩
  have e : (⟨b, off, none⟩ : Addr).add j = ⟨b, off + j, none⟩ := by
   unfold Addr.add
   split
   ·rename_i h; subst h; rfl
   ·rfl
  rw [← e]; exact hu
 refine .inl ⟨?_, (most_any (H := Unit) A n cap hs least w (by rw [← hl, hcl.1]) hcl.2 hb0 hc).mono ?_⟩
 ·exact enter_run (us := [_, _]) Tryd.func48 rfl (by decide +kernel)
 ·rintro e w' ⟨rfl, hbel⟩
  exact back_flat hI hbel (fun D => ⟨[_, _], rfl, _, _, rfl, rfl, _, _, rfl, rfl, rfl⟩) (by simp [atoms, atomsL]) (by simp [rows, rowsL])
theorem CX14 : CalleeOk Tryd.prog H14 (CX H14) := by
 intro f xs m nx r m2 nx2 h E ex w us hI hu hflat hat hG
 unfold CX at h
 split at h
 case h_2 => cases h
 split at h
 case h_2 => cases h
 rename_i r' hx
 cases h
 have hx : X14 f xs = some r := hx
 unfold X14 at hx
 split at hx
 ·rename_i hf; subst hf; exact clone34 hx hI hu hflat hat
 ·split at hx
  ·rename_i hf; subst hf; exact clone22 hx hI hu hflat hat
  ·split at hx
   ·rename_i hf; subst hf; exact add47 hx hI hu
   ·split at hx
    ·rename_i hf; subst hf; exact most48 hx hI hu hat
    ·cases hx
end
end Go.Abs
end
