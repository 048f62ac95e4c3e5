/- Joined: AbsPNA AbsPNLA AbsPNSB AbsPNSC AbsPNSD AbsPNSK AbsPNSE AbsPNSL AbsPNSM AbsPNSI AbsPNSH AbsPNSF AbsPNSJ AbsPNSN. -/
import Derived.Test.YtbkhamjlfadfoaaDoorAbs306
import Derived.Test.YtbkhamjlfadfoaaDoorRows
set_option linter.all false
set_option maxHeartbeats 16000000
noncomputable section
namespace Go.Abs
open Go Go.Proofs
def addX : List V → Option V
 | [.int .u64 x, .int .u64 y, .int .u64 c] => if 0 ≤ x ∧ 0 ≤ y ∧ 0 ≤ c ∧ c ≤ 1 then some (.tup [.int .u64 ((x + y + c) % 18446744073709551616), .int .u64 ((x + y + c) / 18446744073709551616)]) else none
 | _ => none
def headV : V → Option (Option Nat)
 | .im _ _ _ 0 [] => some none
 | .im _ _ _ (_ + 1) (.int .u64 x :: _) => if 0 ≤ x ∧ x < 18446744073709551616 then some (some x.toNat) else none
 | _ => none
def headsV : List V → Option (List (Option Nat))
 | [] => some []
 | v :: l => match headV v, headsV l with | some h, some hs => some (h :: hs) | _, _ => none
def votesL (hs : List (Option Nat)) (x : Nat) : Nat := (hs.filter fun h => decide (h = some x)).length
def mostOf (hs : List (Option Nat)) (least : Int) : Nat × Nat := match ((hs.filterMap id).filter fun x => decide (least ≤ (votesL hs x : Int))).min? with | some x => (x, votesL hs x) | none => (0, 0)
def mostX : List V → Option V
 | [.im _ _ _ n cs, .int .i64 least] => if cs.length = n ∧ n < 4611686018427387904 then (match headsV cs with | some hs => some (.tup [.int .u64 ((mostOf hs least).1 : Int), .int .i64 ((mostOf hs least).2 : Int)]) | none => none) else none
 | _ => none
def X14 (f : Nat) (l : List V) : Option V := if f = 97 then cloneX 8 l else if f = 83 then cloneX 24 l else if f = 112 then addX l else if f = 48 then mostX l else none
def plan14 (f id : Nat) : Option (List Nat) :=
 if f = 39 ∧ id = 29 then some [0, 1, 2, 3, 4, 5, 6, 7, 8, 9, 10, 11, 13, 12, 14, 15, 16, 17, 18] else
 if f = 52 ∧ id = 20 then some [0, 1, 4, 5, 2, 3, 6, 7, 8, 9, 10, 11, 13, 14, 15, 16, 17, 12, 18, 19, 20, 21, 22, 23] else
 if f = 93 ∧ id = 15 then some [0, 1, 2, 3, 4, 5, 6, 7, 8, 9, 10, 11, 12, 13, 15, 14, 16, 17, 18, 19, 20] else
 none
def tree14 (f id : Nat) : Option Pl :=
 if f = 5 ∧ id = 4 then some (.one 0 (.one 1 (.one 2 (.one 3 (.one 4 (.one 5 (.one 7 (.one 8 (.one 9 (.two 6 (.one 10 (.one 11 (.one 12 (.one 13 (.one 14 (.one 15 .fin)))))) 10 (.two 6 (.one 11 (.one 12 (.one 13 (.one 14 (.one 15 .fin))))) 11 (.two 6 (.one 12 (.one 13 (.one 14 (.one 15 .fin)))) 12 (.one 6 (.one 13 (.one 14 (.one 15 .fin)))))))))))))))) else
 if f = 9 ∧ id = 9 then some (.one 0 (.one 1 (.one 2 (.one 3 (.one 4 (.one 5 (.one 6 (.one 9 (.one 10 (.one 11 (.two 7 (.two 8 (.one 12 (.one 13 (.one 14 (.one 15 (.one 16 (.one 17 (.one 18 .fin))))))) 12 (.two 8 (.one 13 (.one 14 (.one 15 (.one 16 (.one 17 (.one 18 .fin)))))) 13 (.two 8 (.one 14 (.one 15 (.one 16 (.one 17 (.one 18 .fin))))) 14 (.two 8 (.one 15 (.one 16 (.one 17 (.one 18 .fin)))) 15 (.one 8 (.one 16 (.one 17 (.one 18 .fin)))))))) 12 (.two 7 (.two 8 (.one 13 (.one 14 (.one 15 (.one 16 (.one 17 (.one 18 .fin)))))) 13 (.two 8 (.one 14 (.one 15 (.one 16 (.one 17 (.one 18 .fin))))) 14 (.two 8 (.one 15 (.one 16 (.one 17 (.one 18 .fin)))) 15 (.one 8 (.one 16 (.one 17 (.one 18 .fin))))))) 13 (.two 7 (.two 8 (.one 14 (.one 15 (.one 16 (.one 17 (.one 18 .fin))))) 14 (.two 8 (.one 15 (.one 16 (.one 17 (.one 18 .fin)))) 15 (.one 8 (.one 16 (.one 17 (.one 18 .fin)))))) 14 (.two 7 (.two 8 (.one 15 (.one 16 (.one 17 (.one 18 .fin)))) 15 (.one 8 (.one 16 (.one 17 (.one 18 .fin))))) 15 (.one 7 (.one 8 (.one 16 (.one 17 (.one 18 .fin))))))))))))))))))) else
 if f = 12 ∧ id = 9 then some (.one 0 (.one 2 (.one 6 (.one 7 (.one 8 (.three 1 (.one 3 (.one 9 (.one 10 (.one 4 (.one 5 (.one 11 (.one 12 (.one 13 (.one 14 .fin))))))))) 3 (.two 1 (.one 9 (.one 10 (.one 4 (.one 5 (.one 11 (.one 12 (.one 13 (.one 14 .fin)))))))) 9 (.two 1 (.one 10 (.one 4 (.one 5 (.one 11 (.one 12 (.one 13 (.one 14 .fin))))))) 10 (.one 1 (.one 4 (.one 5 (.one 11 (.one 12 (.one 13 (.one 14 .fin))))))))) 9 (.three 1 (.one 3 (.one 10 (.one 4 (.one 5 (.one 11 (.one 12 (.one 13 (.one 14 .fin)))))))) 3 (.two 1 (.one 10 (.one 4 (.one 5 (.one 11 (.one 12 (.one 13 (.one 14 .fin))))))) 10 (.one 1 (.one 4 (.one 5 (.one 11 (.one 12 (.one 13 (.one 14 .fin)))))))) 10 (.two 1 (.one 3 (.one 4 (.one 5 (.one 11 (.one 12 (.one 13 (.one 14 .fin))))))) 3 (.one 1 (.one 4 (.one 5 (.one 11 (.one 12 (.one 13 (.one 14 .fin))))))))))))))) else
 if f = 14 ∧ id = 16 then some (.one 0 (.one 1 (.one 2 (.one 3 (.one 4 (.one 5 (.one 6 (.one 7 (.one 8 (.one 9 (.one 10 (.one 11 (.one 12 (.one 13 (.one 15 (.one 16 (.two 14 (.one 17 (.one 18 (.one 19 (.one 20 (.one 21 .fin))))) 17 (.one 14 (.one 18 (.one 19 (.one 20 (.one 21 .fin)))))))))))))))))))))) else
 if f = 30 ∧ id = 6 then some (.one 0 (.one 1 (.one 2 (.one 3 (.one 4 (.one 5 (.one 6 (.one 7 (.one 8 (.one 9 (.one 10 (.one 11 (.two 12 (.one 13 (.one 14 (.one 15 (.one 16 (.one 17 (.one 18 (.one 19 (.one 20 (.one 21 (.one 22 (.one 23 (.one 24 (.one 25 (.one 26 .fin)))))))))))))) 13 (.one 12 (.one 14 (.one 15 (.one 16 (.one 17 (.one 18 (.one 19 (.one 20 (.one 21 (.one 22 (.one 23 (.one 24 (.one 25 (.one 26 .fin))))))))))))))))))))))))))) else
 if f = 39 ∧ id = 34 then some (.one 0 (.one 1 (.one 4 (.one 5 (.one 6 (.one 7 (.one 8 (.one 9 (.one 10 (.one 11 (.one 12 (.one 13 (.one 14 (.one 15 (.two 2 (.two 3 (.one 16 (.one 17 (.one 18 (.one 19 .fin)))) 16 (.two 3 (.one 17 (.one 18 (.one 19 .fin))) 17 (.one 3 (.one 18 (.one 19 .fin))))) 16 (.two 2 (.two 3 (.one 17 (.one 18 (.one 19 .fin))) 17 (.one 3 (.one 18 (.one 19 .fin)))) 17 (.one 2 (.one 3 (.one 18 (.one 19 .fin)))))))))))))))))))) else
 if f = 58 ∧ id = 9 then some (.one 1 (.one 4 (.one 5 (.one 6 (.one 7 (.one 8 (.one 9 (.one 10 (.one 11 (.one 12 (.two 0 (.two 2 (.two 3 (.one 13 (.one 14 (.one 15 (.one 16 .fin)))) 13 (.two 3 (.one 14 (.one 15 (.one 16 .fin))) 14 (.one 3 (.one 15 (.one 16 .fin))))) 13 (.two 2 (.two 3 (.one 14 (.one 15 (.one 16 .fin))) 14 (.one 3 (.one 15 (.one 16 .fin)))) 14 (.one 2 (.one 3 (.one 15 (.one 16 .fin)))))) 13 (.two 0 (.two 2 (.two 3 (.one 14 (.one 15 (.one 16 .fin))) 14 (.one 3 (.one 15 (.one 16 .fin)))) 14 (.one 2 (.one 3 (.one 15 (.one 16 .fin))))) 14 (.one 0 (.one 2 (.one 3 (.one 15 (.one 16 .fin))))))))))))))))) else
 if f = 61 ∧ id = 1 then some (.one 0 (.one 1 (.one 2 (.one 4 (.one 5 (.one 6 (.one 7 (.one 8 (.one 9 (.one 10 (.one 11 (.one 12 (.one 13 (.one 14 (.one 15 (.one 16 (.one 17 (.one 18 (.two 3 (.one 19 (.one 20 (.one 21 (.one 22 (.one 23 (.one 24 .fin)))))) 19 (.one 20 (.two 3 (.one 21 (.one 22 (.one 23 (.one 24 .fin)))) 21 (.two 3 (.one 22 (.one 23 (.one 24 .fin))) 22 (.one 3 (.one 23 (.one 24 .fin))))))))))))))))))))))))) else
 if f = 81 ∧ id = 1 then some (.one 0 (.one 1 (.one 2 (.one 4 (.one 5 (.one 6 (.one 7 (.one 8 (.one 9 (.one 10 (.one 11 (.one 12 (.one 13 (.one 14 (.one 15 (.one 16 (.one 17 (.one 18 (.one 19 (.two 3 (.one 20 (.one 21 (.one 22 (.one 23 .fin)))) 20 (.two 3 (.one 21 (.one 22 (.one 23 .fin))) 21 (.one 3 (.one 22 (.one 23 .fin)))))))))))))))))))))))) else
 none
def mc14 (f id : Nat) : List Nat :=
 if f = 5 ∧ id = 4 then [6] else
 if f = 12 ∧ id = 9 then [1] else
 if f = 14 ∧ id = 16 then [14, 18] else
 if f = 30 ∧ id = 6 then [1] else
 []
def quiet14 (f id i : Nat) : Bool := decide ((f = 61 ∧ id = 1 ∧ i = 19))
def exps14 : List Int := [5, 7, 13, 17, 19, 31, 61]
def fz14 (f id i : Nat) : Bool := decide ((f = 61 ∧ id = 1 ∧ i = 21) ∨ (f = 63 ∧ id = 11 ∧ i = 7) ∨ (f = 59 ∧ id = 10 ∧ i = 7) ∨ (f = 57 ∧ id = 8 ∧ i = 7) ∨ (f = 39 ∧ id = 11 ∧ i = 2) ∨ (f = 11 ∧ id = 15 ∧ i = 8))
def sg14 (f : Nat) : List Nat := if f = 32 ∨ f = 56 ∨ f = 45 then [2] else if f = 18 then [2, 1] else if f = 47 then [1, 0] else []
def H14 : Hint := { tree := tree14, q := quiet14, G := fun g => if g = 0 then some [.int .i64 5, .int .i64 7, .int .i64 13, .int .i64 17, .int .i64 19, .int .i64 31, .int .i64 61] else none, sg := sg14, fz := fz14, live := fun _ _ => none, fr := fun _ => false, X := X14, plan := plan14, mc := mc14, good := fun f => decide (f < 114 ∧ f ≠ 48) }
theorem cloneX_sm (b : Nat) {l l' : List V} (h : SmL l l') : OptR Sm (cloneX b l) (cloneX b l') := by
 cases h with
 | nil => exact .none
 | cons h1 h2 =>
   cases h2 with
   | nil =>
     cases h1 with
     | im hc =>
       simp only [cloneX, hc.length, all_sm (f := cellIn) cellIn_sm hc]
       split
       ·exact .some (.own hc)
       ·exact .none
     | _ => exact .none
   | cons h3 h4 => cases h1 <;> exact .none
theorem addX_sm {l l' : List V} (h : SmL l l') : OptR Sm (addX l) (addX l') := by
 have key : ∀ {l l' : List V}, SmL l l' → (∃ x y c, l = [.int .u64 x, .int .u64 y, .int .u64 c]) → l' = l := by
  rintro l l' h ⟨x, y, c, rfl⟩
  cases h with
  | cons h1 h2 =>
    cases h1
    cases h2 with
    | cons h3 h4 =>
      cases h3
      cases h4 with
      | cons h5 h6 => cases h5; cases h6; rfl
 by_cases hl : ∃ x y c, l = [.int .u64 x, .int .u64 y, .int .u64 c]
 ·rw [key h hl]
  cases addX l with
  | none => exact .none
  | some v => exact .some (Sm.refl v)
 ·have hl' : ¬ ∃ x y c, l' = [.int .u64 x, .int .u64 y, .int .u64 c] := by
   rintro ⟨x, y, c, rfl⟩
   apply hl
   cases h with
   | cons h1 h2 =>
     cases h1
     cases h2 with
     | cons h3 h4 =>
       cases h3
       cases h4 with
       | cons h5 h6 => cases h5; cases h6; exact ⟨_, _, _, rfl⟩
  have e1 : addX l = none := by
   unfold addX
   split
   ·exact absurd ⟨_, _, _, rfl⟩ hl
   ·rfl
  have e2 : addX l' = none := by
   unfold addX
   split
   ·exact absurd ⟨_, _, _, rfl⟩ hl'
   ·rfl
  rw [e1, e2]; exact .none
theorem headV_sm {v v' : V} (h : Sm v v') : headV v' = headV v := by
 cases h with
 | @im pm A A' cap cap' n cs cs' hc =>
   cases n with
   | zero => cases hc with
     | nil => rfl
     | cons h k => rfl
   | succ n => cases hc with
     | nil => rfl
     | cons h k => cases h with
       | int kk nn => cases kk <;> rfl
       | _ => rfl
 | _ => rfl
theorem headsV_sm : ∀ {l l' : List V}, SmL l l' → headsV l' = headsV l
 | _, _, .nil => rfl
 | _, _, .cons h k => by simp only [headsV, headV_sm h, headsV_sm k]
theorem mostX_sm {l l' : List V} (h : SmL l l') : OptR Sm (mostX l) (mostX l') := by
 have key : mostX l' = mostX l := by
  cases h with
  | nil => rfl
  | cons h1 h2 =>
    cases h2 with
    | nil => cases h1 <;> rfl
    | cons h3 h4 =>
      cases h4 with
      | nil => cases h1 with
        | im hc => cases h3 with
          | int k n => cases k <;> first | rfl | simp only [mostX, hc.length, headsV_sm hc]
          | _ => rfl
        | _ => rfl
      | cons h5 h6 => cases h1 <;> cases h3 <;> first | rfl | (rename_i kk nn; cases kk <;> rfl)
 rw [key]
 cases mostX l with
 | none => exact .none
 | some v => exact .some (Sm.refl v)
theorem X14_sm : XSm H14 := by
 intro f xs xs' h
 show OptR Sm (X14 f xs) (X14 f xs')
 unfold X14
 split
 ·exact cloneX_sm _ h
 ·split
  ·exact cloneX_sm _ h
  ·split
   ·exact addX_sm h
   ·split
    ·exact mostX_sm h
    ·exact .none
theorem mixed14 : Tryd.prog.follows .mixedOrders = true := by kernel_rfl
def chkF (P : Program) (H : Hint) (f : Nat) : Bool := match P.funcs[f]? with
 | some fn => match fn.body with | some c => !H.good f || (codeB H f fn.ntmps c && !(fn.name == "runtime.NumGoroutine")) | none => true
 | none => true
theorem chk0 : chkF Tryd.prog H14 0 = true := by kernel_rfl
theorem chk1 : chkF Tryd.prog H14 1 = true := by kernel_rfl
theorem chk2 : chkF Tryd.prog H14 2 = true := by kernel_rfl
theorem chk3 : chkF Tryd.prog H14 3 = true := by kernel_rfl
theorem chk4 : chkF Tryd.prog H14 4 = true := by kernel_rfl
theorem chk5 : chkF Tryd.prog H14 5 = true := by kernel_rfl
theorem chk6 : chkF Tryd.prog H14 6 = true := by kernel_rfl
theorem chk7 : chkF Tryd.prog H14 7 = true := by kernel_rfl
theorem chk8 : chkF Tryd.prog H14 8 = true := by kernel_rfl
theorem chk9 : chkF Tryd.prog H14 9 = true := by kernel_rfl
theorem chk10 : chkF Tryd.prog H14 10 = true := by kernel_rfl
theorem chk11 : chkF Tryd.prog H14 11 = true := by kernel_rfl
theorem chk12 : chkF Tryd.prog H14 12 = true := by kernel_rfl
theorem chk13 : chkF Tryd.prog H14 13 = true := by kernel_rfl
theorem chk14 : chkF Tryd.prog H14 14 = true := by kernel_rfl
theorem chk15 : chkF Tryd.prog H14 15 = true := by kernel_rfl
theorem chk16 : chkF Tryd.prog H14 16 = true := by kernel_rfl
theorem chk17 : chkF Tryd.prog H14 17 = true := by kernel_rfl
theorem chk18 : chkF Tryd.prog H14 18 = true := by kernel_rfl
theorem chk19 : chkF Tryd.prog H14 19 = true := by kernel_rfl
theorem chk20 : chkF Tryd.prog H14 20 = true := by kernel_rfl
theorem chk21 : chkF Tryd.prog H14 21 = true := by kernel_rfl
theorem chk22 : chkF Tryd.prog H14 22 = true := by kernel_rfl
theorem chk23 : chkF Tryd.prog H14 23 = true := by kernel_rfl
theorem chk24 : chkF Tryd.prog H14 24 = true := by kernel_rfl
theorem chk25 : chkF Tryd.prog H14 25 = true := by kernel_rfl
theorem chk26 : chkF Tryd.prog H14 26 = true := by kernel_rfl
theorem chk27 : chkF Tryd.prog H14 27 = true := by kernel_rfl
theorem chk28 : chkF Tryd.prog H14 28 = true := by kernel_rfl
theorem chk29 : chkF Tryd.prog H14 29 = true := by kernel_rfl
theorem chk30 : chkF Tryd.prog H14 30 = true := by kernel_rfl
theorem chk31 : chkF Tryd.prog H14 31 = true := by kernel_rfl
theorem chk32 : chkF Tryd.prog H14 32 = true := by kernel_rfl
theorem chk33 : chkF Tryd.prog H14 33 = true := by kernel_rfl
theorem chk34 : chkF Tryd.prog H14 34 = true := by kernel_rfl
theorem chk35 : chkF Tryd.prog H14 35 = true := by kernel_rfl
theorem chk36 : chkF Tryd.prog H14 36 = true := by kernel_rfl
theorem chk37 : chkF Tryd.prog H14 37 = true := by kernel_rfl
theorem chk38 : chkF Tryd.prog H14 38 = true := by kernel_rfl
theorem chk39 : chkF Tryd.prog H14 39 = true := by kernel_rfl
theorem chk40 : chkF Tryd.prog H14 40 = true := by kernel_rfl
theorem chk41 : chkF Tryd.prog H14 41 = true := by kernel_rfl
theorem chk42 : chkF Tryd.prog H14 42 = true := by kernel_rfl
theorem chk43 : chkF Tryd.prog H14 43 = true := by kernel_rfl
theorem chk44 : chkF Tryd.prog H14 44 = true := by kernel_rfl
theorem chk45 : chkF Tryd.prog H14 45 = true := by kernel_rfl
theorem chk46 : chkF Tryd.prog H14 46 = true := by kernel_rfl
theorem chk47 : chkF Tryd.prog H14 47 = true := by kernel_rfl
theorem chk48 : chkF Tryd.prog H14 48 = true := by kernel_rfl
theorem chk49 : chkF Tryd.prog H14 49 = true := by kernel_rfl
theorem chk50 : chkF Tryd.prog H14 50 = true := by kernel_rfl
theorem chk51 : chkF Tryd.prog H14 51 = true := by kernel_rfl
theorem chk52 : chkF Tryd.prog H14 52 = true := by kernel_rfl
theorem chk53 : chkF Tryd.prog H14 53 = true := by kernel_rfl
theorem chk54 : chkF Tryd.prog H14 54 = true := by kernel_rfl
theorem chk55 : chkF Tryd.prog H14 55 = true := by kernel_rfl
theorem chk56 : chkF Tryd.prog H14 56 = true := by kernel_rfl
theorem chk57 : chkF Tryd.prog H14 57 = true := by kernel_rfl
theorem chk58 : chkF Tryd.prog H14 58 = true := by kernel_rfl
theorem chk59 : chkF Tryd.prog H14 59 = true := by kernel_rfl
theorem chk60 : chkF Tryd.prog H14 60 = true := by kernel_rfl
theorem chk61 : chkF Tryd.prog H14 61 = true := by kernel_rfl
theorem chk62 : chkF Tryd.prog H14 62 = true := by kernel_rfl
theorem chk63 : chkF Tryd.prog H14 63 = true := by kernel_rfl
theorem chk64 : chkF Tryd.prog H14 64 = true := by kernel_rfl
theorem chk65 : chkF Tryd.prog H14 65 = true := by kernel_rfl
theorem chk66 : chkF Tryd.prog H14 66 = true := by kernel_rfl
theorem chk67 : chkF Tryd.prog H14 67 = true := by kernel_rfl
theorem chk68 : chkF Tryd.prog H14 68 = true := by kernel_rfl
theorem chk69 : chkF Tryd.prog H14 69 = true := by kernel_rfl
theorem chk70 : chkF Tryd.prog H14 70 = true := by kernel_rfl
theorem chk71 : chkF Tryd.prog H14 71 = true := by kernel_rfl
theorem chk72 : chkF Tryd.prog H14 72 = true := by kernel_rfl
theorem chk73 : chkF Tryd.prog H14 73 = true := by kernel_rfl
theorem chk74 : chkF Tryd.prog H14 74 = true := by kernel_rfl
theorem chk75 : chkF Tryd.prog H14 75 = true := by kernel_rfl
theorem chk76 : chkF Tryd.prog H14 76 = true := by kernel_rfl
theorem chk77 : chkF Tryd.prog H14 77 = true := by kernel_rfl
theorem chk78 : chkF Tryd.prog H14 78 = true := by kernel_rfl
theorem chk79 : chkF Tryd.prog H14 79 = true := by kernel_rfl
theorem chk80 : chkF Tryd.prog H14 80 = true := by kernel_rfl
theorem chk81 : chkF Tryd.prog H14 81 = true := by kernel_rfl
theorem chk82 : chkF Tryd.prog H14 82 = true := by kernel_rfl
theorem chk83 : chkF Tryd.prog H14 83 = true := by kernel_rfl
theorem chk84 : chkF Tryd.prog H14 84 = true := by kernel_rfl
theorem chk85 : chkF Tryd.prog H14 85 = true := by kernel_rfl
theorem chk86 : chkF Tryd.prog H14 86 = true := by kernel_rfl
theorem chk87 : chkF Tryd.prog H14 87 = true := by kernel_rfl
theorem chk88 : chkF Tryd.prog H14 88 = true := by kernel_rfl
theorem chk89 : chkF Tryd.prog H14 89 = true := by kernel_rfl
theorem chk90 : chkF Tryd.prog H14 90 = true := by kernel_rfl
theorem chk91 : chkF Tryd.prog H14 91 = true := by kernel_rfl
theorem chk92 : chkF Tryd.prog H14 92 = true := by kernel_rfl
theorem chk93 : chkF Tryd.prog H14 93 = true := by kernel_rfl
theorem chk94 : chkF Tryd.prog H14 94 = true := by kernel_rfl
theorem chk95 : chkF Tryd.prog H14 95 = true := by kernel_rfl
theorem chk96 : chkF Tryd.prog H14 96 = true := by kernel_rfl
theorem chk97 : chkF Tryd.prog H14 97 = true := by kernel_rfl
theorem chk98 : chkF Tryd.prog H14 98 = true := by kernel_rfl
theorem chk99 : chkF Tryd.prog H14 99 = true := by kernel_rfl
theorem chk100 : chkF Tryd.prog H14 100 = true := by kernel_rfl
theorem chk101 : chkF Tryd.prog H14 101 = true := by kernel_rfl
theorem chk102 : chkF Tryd.prog H14 102 = true := by kernel_rfl
theorem chk103 : chkF Tryd.prog H14 103 = true := by kernel_rfl
theorem chk104 : chkF Tryd.prog H14 104 = true := by kernel_rfl
theorem chk105 : chkF Tryd.prog H14 105 = true := by kernel_rfl
theorem chk106 : chkF Tryd.prog H14 106 = true := by kernel_rfl
theorem chk107 : chkF Tryd.prog H14 107 = true := by kernel_rfl
theorem chk108 : chkF Tryd.prog H14 108 = true := by kernel_rfl
theorem chk109 : chkF Tryd.prog H14 109 = true := by kernel_rfl
theorem chk110 : chkF Tryd.prog H14 110 = true := by kernel_rfl
theorem chk111 : chkF Tryd.prog H14 111 = true := by kernel_rfl
theorem chk112 : chkF Tryd.prog H14 112 = true := by kernel_rfl
theorem chk113 : chkF Tryd.prog H14 113 = true := by kernel_rfl
theorem chk114 : chkF Tryd.prog H14 114 = true := by kernel_rfl
theorem chk115 : chkF Tryd.prog H14 115 = true := by kernel_rfl
theorem chk116 : chkF Tryd.prog H14 116 = true := by kernel_rfl
theorem chk117 : chkF Tryd.prog H14 117 = true := by kernel_rfl
theorem chk118 : chkF Tryd.prog H14 118 = true := by kernel_rfl
theorem chk119 : chkF Tryd.prog H14 119 = true := by kernel_rfl
theorem chk120 : chkF Tryd.prog H14 120 = true := by kernel_rfl
theorem chk121 : chkF Tryd.prog H14 121 = true := by kernel_rfl
theorem chk122 : chkF Tryd.prog H14 122 = true := by kernel_rfl
theorem chk123 : chkF Tryd.prog H14 123 = true := by kernel_rfl
theorem chk124 : chkF Tryd.prog H14 124 = true := by kernel_rfl
theorem chk125 : chkF Tryd.prog H14 125 = true := by kernel_rfl
theorem chk126 : chkF Tryd.prog H14 126 = true := by kernel_rfl
theorem chk127 : chkF Tryd.prog H14 127 = true := by kernel_rfl
theorem chk128 : chkF Tryd.prog H14 128 = true := by kernel_rfl
theorem chk129 : chkF Tryd.prog H14 129 = true := by kernel_rfl
theorem chk130 : chkF Tryd.prog H14 130 = true := by kernel_rfl
theorem chk131 : chkF Tryd.prog H14 131 = true := by kernel_rfl
theorem chk132 : chkF Tryd.prog H14 132 = true := by kernel_rfl
theorem chk133 : chkF Tryd.prog H14 133 = true := by kernel_rfl
theorem chk134 : chkF Tryd.prog H14 134 = true := by kernel_rfl
theorem chk135 : chkF Tryd.prog H14 135 = true := by kernel_rfl
set_option maxRecDepth 100000 in
theorem prog14 : progB Tryd.prog H14 = true := by
 have hs : Tryd.prog.funcs.size = 136 := by kernel_rfl
 have key : ∀ f, f < 136 → chkF Tryd.prog H14 f = true := by
  intro f hf
  match f, hf with
  | 0, _ => exact chk0
  | 1, _ => exact chk1
  | 2, _ => exact chk2
  | 3, _ => exact chk3
  | 4, _ => exact chk4
  | 5, _ => exact chk5
  | 6, _ => exact chk6
  | 7, _ => exact chk7
  | 8, _ => exact chk8
  | 9, _ => exact chk9
  | 10, _ => exact chk10
  | 11, _ => exact chk11
  | 12, _ => exact chk12
  | 13, _ => exact chk13
  | 14, _ => exact chk14
  | 15, _ => exact chk15
  | 16, _ => exact chk16
  | 17, _ => exact chk17
  | 18, _ => exact chk18
  | 19, _ => exact chk19
  | 20, _ => exact chk20
  | 21, _ => exact chk21
  | 22, _ => exact chk22
  | 23, _ => exact chk23
  | 24, _ => exact chk24
  | 25, _ => exact chk25
  | 26, _ => exact chk26
  | 27, _ => exact chk27
  | 28, _ => exact chk28
  | 29, _ => exact chk29
  | 30, _ => exact chk30
  | 31, _ => exact chk31
  | 32, _ => exact chk32
  | 33, _ => exact chk33
  | 34, _ => exact chk34
  | 35, _ => exact chk35
  | 36, _ => exact chk36
  | 37, _ => exact chk37
  | 38, _ => exact chk38
  | 39, _ => exact chk39
  | 40, _ => exact chk40
  | 41, _ => exact chk41
  | 42, _ => exact chk42
  | 43, _ => exact chk43
  | 44, _ => exact chk44
  | 45, _ => exact chk45
  | 46, _ => exact chk46
  | 47, _ => exact chk47
  | 48, _ => exact chk48
  | 49, _ => exact chk49
  | 50, _ => exact chk50
  | 51, _ => exact chk51
  | 52, _ => exact chk52
  | 53, _ => exact chk53
  | 54, _ => exact chk54
  | 55, _ => exact chk55
  | 56, _ => exact chk56
  | 57, _ => exact chk57
  | 58, _ => exact chk58
  | 59, _ => exact chk59
  | 60, _ => exact chk60
  | 61, _ => exact chk61
  | 62, _ => exact chk62
  | 63, _ => exact chk63
  | 64, _ => exact chk64
  | 65, _ => exact chk65
  | 66, _ => exact chk66
  | 67, _ => exact chk67
  | 68, _ => exact chk68
  | 69, _ => exact chk69
  | 70, _ => exact chk70
  | 71, _ => exact chk71
  | 72, _ => exact chk72
  | 73, _ => exact chk73
  | 74, _ => exact chk74
  | 75, _ => exact chk75
  | 76, _ => exact chk76
  | 77, _ => exact chk77
  | 78, _ => exact chk78
  | 79, _ => exact chk79
  | 80, _ => exact chk80
  | 81, _ => exact chk81
  | 82, _ => exact chk82
  | 83, _ => exact chk83
  | 84, _ => exact chk84
  | 85, _ => exact chk85
  | 86, _ => exact chk86
  | 87, _ => exact chk87
  | 88, _ => exact chk88
  | 89, _ => exact chk89
  | 90, _ => exact chk90
  | 91, _ => exact chk91
  | 92, _ => exact chk92
  | 93, _ => exact chk93
  | 94, _ => exact chk94
  | 95, _ => exact chk95
  | 96, _ => exact chk96
  | 97, _ => exact chk97
  | 98, _ => exact chk98
  | 99, _ => exact chk99
  | 100, _ => exact chk100
  | 101, _ => exact chk101
  | 102, _ => exact chk102
  | 103, _ => exact chk103
  | 104, _ => exact chk104
  | 105, _ => exact chk105
  | 106, _ => exact chk106
  | 107, _ => exact chk107
  | 108, _ => exact chk108
  | 109, _ => exact chk109
  | 110, _ => exact chk110
  | 111, _ => exact chk111
  | 112, _ => exact chk112
  | 113, _ => exact chk113
  | 114, _ => exact chk114
  | 115, _ => exact chk115
  | 116, _ => exact chk116
  | 117, _ => exact chk117
  | 118, _ => exact chk118
  | 119, _ => exact chk119
  | 120, _ => exact chk120
  | 121, _ => exact chk121
  | 122, _ => exact chk122
  | 123, _ => exact chk123
  | 124, _ => exact chk124
  | 125, _ => exact chk125
  | 126, _ => exact chk126
  | 127, _ => exact chk127
  | 128, _ => exact chk128
  | 129, _ => exact chk129
  | 130, _ => exact chk130
  | 131, _ => exact chk131
  | 132, _ => exact chk132
  | 133, _ => exact chk133
  | 134, _ => exact chk134
  | 135, _ => exact chk135
  | n + 136, h => omega
 unfold progB
 rw [List.all_eq_true]
 intro f hf
 rw [hs, List.mem_range] at hf
 exact key f hf
end Go.Abs
end
noncomputable section
namespace Go.Abs
open Go Go.Proofs
attribute [local simp] intOp shOp
set_option maxRecDepth 100000
section
variable {E : Env} {ex : List V} {w : World}
theorem s22 : sizeT Tryd.prog 22 = some 1 := by kernel_rfl
theorem s42 : sizeT Tryd.prog 30 = some 1 := by kernel_rfl
theorem b22 : bytesT Tryd.prog 22 = some 8 := by kernel_rfl
theorem b42 : bytesT Tryd.prog 30 = some 24 := by kernel_rfl
theorem zc22 : zeroT Tryd.prog 22 = some [.int .u64 0] := by kernel_rfl
theorem zc42 : zeroT Tryd.prog 30 = some [.own .nil 0 0 []] := by kernel_rfl
theorem clone34 {xs : List V} {r : V} (hX : cloneX 8 xs = some r) {nx : Nat} {us : List Value} (hI : Inv E 0 (emptyS [] nx) ex w) (hu' : ∀ D, PRL E.β D xs us) (hflat : noRowL xs = true) (hat : ∀ b ∈ atomsL xs, AtOk E w nx (fun k => k ∈ keysD 0 (emptyS [] nx) ex) b) :
 FGood Tryd.prog 97 us w (Back E [] nx ex w r [] nx) := by
 refine clone_ok (f := 97) (fn := Tryd.f97) (t := 30) (t2 := 30) (e := 22) (by_ := 8) (z := .dead) mixed14 Tryd.func97 (by decide +kernel) rfl rfl rfl rfl rfl rfl rfl rfl rfl rfl Tryd.underlying30 (by kernel_rfl) (by kernel_rfl) (by kernel_rfl) ?_ ?_ ?_ hX hI hu' hflat hat
 ·intro D; simp [evCode, evOps, evOp, ev, ofVal, ofCell, wantedV, settle]
 ·intro D; simp [evCode, evOps, evOp, ev, ofVal, ofCell, wantedV, settle]
 ·intro D pm A cap n cs hD hl hc h1 h2
  subst hl
  simp [evCode, evOps, evOp, ev, evL, evParts, settleP, fillV, rep, ofVal, ofCell, wantedV, settle, Tryd.underlying30, s22, b22, zc22, St.lay, St.put, noRow, killAll, kill, view, hD, doBuiltin, appendV, bring, take, look, go, setAt, goSet, hc, h1, h2, bare0]
theorem clone22 {xs : List V} {r : V} (hX : cloneX 24 xs = some r) {nx : Nat} {us : List Value} (hI : Inv E 0 (emptyS [] nx) ex w) (hu' : ∀ D, PRL E.β D xs us) (hflat : noRowL xs = true) (hat : ∀ b ∈ atomsL xs, AtOk E w nx (fun k => k ∈ keysD 0 (emptyS [] nx) ex) b) :
 FGood Tryd.prog 83 us w (Back E [] nx ex w r [] nx) := by
 refine clone_ok (f := 83) (fn := Tryd.f83) (t := 27) (t2 := 27) (e := 30) (by_ := 24) (z := .dead) mixed14 Tryd.func83 (by decide +kernel) rfl rfl rfl rfl rfl rfl rfl rfl rfl rfl Tryd.underlying27 (by kernel_rfl) (by kernel_rfl) (by kernel_rfl) ?_ ?_ ?_ hX hI hu' hflat hat
 ·intro D; simp [evCode, evOps, evOp, ev, ofVal, ofCell, wantedV, settle]
 ·intro D; simp [evCode, evOps, evOp, ev, ofVal, ofCell, wantedV, settle]
 ·intro D pm A cap n cs hD hl hc h1 h2
  subst hl
  simp [evCode, evOps, evOp, ev, evL, evParts, settleP, fillV, rep, ofVal, ofCell, wantedV, settle, Tryd.underlying27, s42, b42, zc42, St.lay, St.put, noRow, killAll, kill, view, hD, doBuiltin, appendV, bring, take, look, go, setAt, goSet, hc, h1, h2, bare0]
def addRow : Array Value → Sem Value := match Extern.MathBitsCarry.rows with | (_, r) :: _ => r | [] => fun _ => stuck ""
theorem add_find : Extern.findNext Tryd.f112 = none ∧ Extern.find Tryd.f112 = some addRow := ⟨by kernel_rfl, by kernel_rfl⟩
theorem add47 {xs : List V} {r : V} (hX : addX xs = some r) {nx : Nat} {us : List Value} (hI : Inv E 0 (emptyS [] nx) ex w) (hu' : ∀ D, PRL E.β D xs us) :
 FGood Tryd.prog 112 us w (Back E [] nx ex w r [] nx) := by
 unfold addX at hX
 split at hX
 case h_2 => cases hX
 rename_i x y c
 split at hX
 case isFalse => cases hX
 rename_i hc
 cases hX
 obtain ⟨c1, c2, c3, c4⟩ := hc
 obtain ⟨u1, us1, rfl, e1, u2, us2, rfl, e2, u3, us3, rfl, e3, e4⟩ := hu' (emptyS [] nx)
 have e1 : u1 = .int .u64 x := e1
 have e2 : u2 = .int .u64 y := e2
 have e3 : u3 = .int .u64 c := e3
 have e4 : us3 = [] := e4
 subst e1 e2 e3 e4
 refine .inr ⟨.tuple #[.int .u64 ((x + y + c) % 18446744073709551616), .int .u64 ((x + y + c) / 18446744073709551616)], w, ?_, ?_⟩
 ·have hnm : ¬ Tryd.f112.name = "runtime.NumGoroutine" := by decide +kernel
  have hbd : Tryd.f112.body = none := rfl
  have fin : ∀ k : Nat, c = k → (addRow #[.int .u64 x, .int .u64 y, .int .u64 c]).run Tryd.prog w = .ok (.tuple #[.int .u64 (Int.ofNat ((x.toNat + y.toNat + k) % 18446744073709551616)), .int .u64 (Int.ofNat ((x.toNat + y.toNat + k) / 18446744073709551616))]) w →
   (addRow #[.int .u64 x, .int .u64 y, .int .u64 c]).run Tryd.prog w = .ok (.tuple #[.int .u64 ((x + y + c) % 18446744073709551616), .int .u64 ((x + y + c) / 18446744073709551616)]) w := by
   intro k hk h
   rw [h, hk]
   have q1 : (Int.ofNat ((x.toNat + y.toNat + k) % 18446744073709551616)) = (x + y + k) % 18446744073709551616 := by
    show (((x.toNat + y.toNat + k) % 18446744073709551616 : Nat) : Int) = _
    omega
   have q2 : (Int.ofNat ((x.toNat + y.toNat + k) / 18446744073709551616)) = (x + y + k) / 18446744073709551616 := by
    show (((x.toNat + y.toNat + k) / 18446744073709551616 : Nat) : Int) = _
    omega
   rw [q1, q2]
  have run : (addRow #[.int .u64 x, .int .u64 y, .int .u64 c]).run Tryd.prog w = .ok (.tuple #[.int .u64 ((x + y + c) % 18446744073709551616), .int .u64 ((x + y + c) / 18446744073709551616)]) w := by
   have hcc : c = 0 ∨ c = 1 := by omega
   rcases hcc with rfl | rfl
   ·exact fin 0 rfl rfl
   ·exact fin 1 rfl rfl
  have hmark : (mark (.extern 47)).run Tryd.prog w = .ok () w := rfl
  simp [callFunc, Tryd.func112, hnm, hbd, add_find, run, hmark]
 ·have hs : Seen E 0 (emptyS [] nx) ex w (.tup [.int .u64 ((x + y + c) % 18446744073709551616), .int .u64 ((x + y + c) / 18446744073709551616)]) (.tuple #[.int .u64 ((x + y + c) % 18446744073709551616), .int .u64 ((x + y + c) / 18446744073709551616)]) :=
   ⟨⟨[_, _], rfl, _, _, rfl, rfl, _, _, rfl, rfl, rfl⟩, fun b hb => by simp [atoms, atomsL] at hb, fun e he => by simp [rows, rowsL] at he⟩
  obtain ⟨h1, h2⟩ := hs.join hI
  exact ⟨E, _, [], Sm.refl _, .nil, h1, fun D => ⟨[_, _], rfl, _, _, rfl, rfl, _, _, rfl, rfl, rfl⟩, h2⟩
end
end Go.Abs
end
noncomputable section
namespace Go.Abs
open Go Go.Proofs
@[simp] theorem z2 : zeroT Tryd.prog 2 = some [.int .i64 0] := by kernel_rfl
@[simp] theorem sz3 : sizeT Tryd.prog 3 = some 1 := by kernel_rfl
@[simp] theorem ag3 : aggT Tryd.prog 3 = some false := by kernel_rfl
@[simp] theorem z3 : zeroT Tryd.prog 3 = some [.int .i64 0] := by kernel_rfl
theorem ce3 : Tryd.prog.cellsOf 3 = 1 := by kernel_rfl
@[simp] theorem sz4 : sizeT Tryd.prog 4 = some 1 := by kernel_rfl
@[simp] theorem ag4 : aggT Tryd.prog 4 = some false := by kernel_rfl
@[simp] theorem by4 : bytesT Tryd.prog 4 = some 1 := by kernel_rfl
@[simp] theorem z4 : zeroT Tryd.prog 4 = some [.bool false] := by kernel_rfl
@[simp] theorem sz22 : sizeT Tryd.prog 22 = some 1 := by kernel_rfl
@[simp] theorem ag22 : aggT Tryd.prog 22 = some false := by kernel_rfl
@[simp] theorem by22 : bytesT Tryd.prog 22 = some 8 := by kernel_rfl
@[simp] theorem z22 : zeroT Tryd.prog 22 = some [.int .u64 0] := by kernel_rfl
theorem ce22 : Tryd.prog.cellsOf 22 = 1 := by kernel_rfl
@[simp] theorem sz24 : sizeT Tryd.prog 24 = some 3 := by kernel_rfl
@[simp] theorem ag24 : aggT Tryd.prog 24 = some true := by kernel_rfl
@[simp] theorem z24 : zeroT Tryd.prog 24 = some [.int .u64 0, .int .i64 0, .int .i64 0] := by kernel_rfl
theorem ce24 : Tryd.prog.cellsOf 24 = 3 := by kernel_rfl
@[simp] theorem sz25 : sizeT Tryd.prog 25 = some 1 := by kernel_rfl
@[simp] theorem ag25 : aggT Tryd.prog 25 = some false := by kernel_rfl
theorem ce25 : Tryd.prog.cellsOf 25 = 1 := by kernel_rfl
@[simp] theorem sz26 : sizeT Tryd.prog 26 = some 1 := by kernel_rfl
@[simp] theorem ag26 : aggT Tryd.prog 26 = some false := by kernel_rfl
theorem ce26 : Tryd.prog.cellsOf 26 = 1 := by kernel_rfl
@[simp] theorem sz27 : sizeT Tryd.prog 27 = some 1 := by kernel_rfl
@[simp] theorem ag27 : aggT Tryd.prog 27 = some false := by kernel_rfl
@[simp] theorem by27 : bytesT Tryd.prog 27 = some 24 := by kernel_rfl
@[simp] theorem z27 : zeroT Tryd.prog 27 = some [.own .nil 0 0 []] := by kernel_rfl
theorem ce27 : Tryd.prog.cellsOf 27 = 1 := by kernel_rfl
@[simp] theorem sz29 : sizeT Tryd.prog 29 = some 6 := by kernel_rfl
@[simp] theorem ag29 : aggT Tryd.prog 29 = some true := by kernel_rfl
@[simp] theorem z29 : zeroT Tryd.prog 29 = some [.int .u64 0, .int .i64 0, .int .i64 0, .own .nil 0 0 [], .own .nil 0 0 [], .own .nil 0 0 []] := by kernel_rfl
theorem ce29 : Tryd.prog.cellsOf 29 = 6 := by kernel_rfl
@[simp] theorem sz30 : sizeT Tryd.prog 30 = some 1 := by kernel_rfl
@[simp] theorem ag30 : aggT Tryd.prog 30 = some false := by kernel_rfl
@[simp] theorem by30 : bytesT Tryd.prog 30 = some 24 := by kernel_rfl
@[simp] theorem z30 : zeroT Tryd.prog 30 = some [.own .nil 0 0 []] := by kernel_rfl
theorem ce30 : Tryd.prog.cellsOf 30 = 1 := by kernel_rfl
@[simp] theorem sz35 : sizeT Tryd.prog 35 = some 1 := by kernel_rfl
@[simp] theorem ag35 : aggT Tryd.prog 35 = some false := by kernel_rfl
@[simp] theorem sz45 : sizeT Tryd.prog 45 = some 8 := by kernel_rfl
@[simp] theorem ag45 : aggT Tryd.prog 45 = some true := by kernel_rfl
@[simp] theorem z45 : zeroT Tryd.prog 45 = some [.int .i64 0, .int .i64 0, .int .i64 0, .int .i64 0, .int .i64 0, .int .u64 0, .int .i64 0, .int .i64 0] := by kernel_rfl
theorem ce45 : Tryd.prog.cellsOf 45 = 8 := by kernel_rfl
@[simp] theorem sz55 : sizeT Tryd.prog 55 = some 1 := by kernel_rfl
@[simp] theorem ag55 : aggT Tryd.prog 55 = some false := by kernel_rfl
@[simp] theorem by55 : bytesT Tryd.prog 55 = some 24 := by kernel_rfl
@[simp] theorem z55 : zeroT Tryd.prog 55 = some [.own .nil 0 0 []] := by kernel_rfl
@[simp] theorem sz58 : sizeT Tryd.prog 58 = some 8 := by kernel_rfl
@[simp] theorem ag58 : aggT Tryd.prog 58 = some true := by kernel_rfl
theorem ce58 : Tryd.prog.cellsOf 58 = 8 := by kernel_rfl
@[simp] theorem sz62 : sizeT Tryd.prog 62 = some 1 := by kernel_rfl
@[simp] theorem ag62 : aggT Tryd.prog 62 = some false := by kernel_rfl
@[simp] theorem z62 : zeroT Tryd.prog 62 = some [.own .nil 0 0 []] := by kernel_rfl
@[simp] theorem sz74 : sizeT Tryd.prog 74 = some 1 := by kernel_rfl
@[simp] theorem ag74 : aggT Tryd.prog 74 = some false := by kernel_rfl
@[simp] theorem sz75 : sizeT Tryd.prog 75 = some 1 := by kernel_rfl
@[simp] theorem ag75 : aggT Tryd.prog 75 = some false := by kernel_rfl
@[simp] theorem sz77 : sizeT Tryd.prog 77 = some 9 := by kernel_rfl
@[simp] theorem z77 : zeroT Tryd.prog 77 = some [.int .u64 0, .int .i64 0, .int .i64 0, .own .nil 0 0 [], .own .nil 0 0 [], .own .nil 0 0 [], .int .i64 0, .own .nil 0 0 [], .own .nil 0 0 []] := by kernel_rfl
@[simp] theorem sz84 : sizeT Tryd.prog 84 = some 1 := by kernel_rfl
@[simp] theorem ag84 : aggT Tryd.prog 84 = some false := by kernel_rfl
@[simp] theorem sz86 : sizeT Tryd.prog 86 = some 9 := by kernel_rfl
@[simp] theorem z86 : zeroT Tryd.prog 86 = some [.int .u64 0, .int .i64 0, .int .i64 0, .own .nil 0 0 [], .own .nil 0 0 [], .own .nil 0 0 [], .int .i64 0, .own .nil 0 0 [], .own .nil 0 0 []] := by kernel_rfl
@[simp] theorem sz87 : sizeT Tryd.prog 87 = some 1 := by kernel_rfl
@[simp] theorem by87 : bytesT Tryd.prog 87 = some 8 := by kernel_rfl
@[simp] theorem z87 : zeroT Tryd.prog 87 = some [.nilp] := by kernel_rfl
@[simp] theorem sz91 : sizeT Tryd.prog 91 = some 3 := by kernel_rfl
@[simp] theorem ag91 : aggT Tryd.prog 91 = some true := by kernel_rfl
@[simp] theorem by91 : bytesT Tryd.prog 91 = some 40 := by kernel_rfl
@[simp] theorem z91 : zeroT Tryd.prog 91 = some [.int .i64 0, .int .i64 0, .own .nil 0 0 []] := by kernel_rfl
@[simp] theorem sz94 : sizeT Tryd.prog 94 = some 1 := by kernel_rfl
@[simp] theorem by94 : bytesT Tryd.prog 94 = some 8 := by kernel_rfl
@[simp] theorem z94 : zeroT Tryd.prog 94 = some [.nilp] := by kernel_rfl
@[simp] theorem sz106 : sizeT Tryd.prog 106 = some 2 := by kernel_rfl
@[simp] theorem z106 : zeroT Tryd.prog 106 = some [.own .nil 0 0 [], .int .i64 0] := by kernel_rfl
@[simp] theorem sz118 : sizeT Tryd.prog 118 = some 2 := by kernel_rfl
@[simp] theorem z118 : zeroT Tryd.prog 118 = some [.own .nil 0 0 [], .int .i64 0] := by kernel_rfl
@[simp] theorem sz139 : sizeT Tryd.prog 139 = some 7 := by kernel_rfl
@[simp] theorem ag139 : aggT Tryd.prog 139 = some true := by kernel_rfl
attribute [simp] Tryd.underlying1 Tryd.underlying2 Tryd.underlying3 Tryd.underlying4 Tryd.underlying5 Tryd.underlying6 Tryd.underlying7 Tryd.underlying8 Tryd.underlying12 Tryd.underlying13 Tryd.underlying14 Tryd.underlying15 Tryd.underlying16 Tryd.underlying17 Tryd.underlying19 Tryd.underlying22 Tryd.underlying24 Tryd.underlying25 Tryd.underlying26 Tryd.underlying27 Tryd.underlying29 Tryd.underlying30 Tryd.underlying31 Tryd.underlying32 Tryd.underlying35 Tryd.underlying45 Tryd.underlying48 Tryd.underlying49 Tryd.underlying55 Tryd.underlying58 Tryd.underlying61 Tryd.underlying62 Tryd.underlying74 Tryd.underlying75 Tryd.underlying77 Tryd.underlying79 Tryd.underlying84 Tryd.underlying86 Tryd.underlying87 Tryd.underlying91 Tryd.underlying94 Tryd.underlying106 Tryd.underlying112 Tryd.underlying115 Tryd.underlying116 Tryd.underlying118 Tryd.underlying136 Tryd.underlying139 Tryd.underlying142 Tryd.underlying143 Tryd.underlying145 Tryd.underlying146 Tryd.underlying147 Tryd.underlying148 Tryd.underlying149 Tryd.underlying150 Tryd.underlying151 Tryd.underlying152 Tryd.underlying154
attribute [simp] evOps evDraw evOp ev evL evI evParts settleP fillV structPlace rep ofVal ofCell ofCells wantedV settle settleL St.lay St.put noRow noRowL killAll kill killL view viewL doBuiltin appendV bring copyV lenV minmax minmaxA rs take takeF look go goSet setAt sub subL
attribute [simp] capless bareV caplessV takeZ cpD loadV loadAt storeAt canStore target okAddr okPart partV moveV cutV capM takeC bin isSh isNil eq0 ne0 un V.scalar V.cells cellIn solid solidL frz frzL noBor noBorL ptrs ptrsL lend lendL lendArgs hasRef hasRefL lendsB doCall reach getBox setBox St.newAt St.new killB killBL othersM litB mutB quietB planOf muOf strOf packRes
attribute [simp] X14 plan14 tree14 List.range List.range.loop mutB
@[simp] theorem H14_G : H14.G = fun g => if g = 0 then some [.int .i64 5, .int .i64 7, .int .i64 13, .int .i64 17, .int .i64 19, .int .i64 31, .int .i64 61] else none := rfl
@[simp] theorem H14_sg : H14.sg = sg14 := rfl
attribute [simp] sg14
@[simp] theorem H14_q : H14.q = quiet14 := rfl
@[simp] theorem H14_fz : H14.fz = fz14 := rfl
@[simp] theorem H14_live : H14.live = fun _ _ => none := rfl
@[simp] theorem H14_fr : H14.fr = fun _ => false := rfl
@[simp] theorem H14_X : H14.X = X14 := rfl
@[simp] theorem H14_plan : H14.plan = plan14 := rfl
@[simp] theorem H14_mc : H14.mc = mc14 := rfl
attribute [simp] mc14
attribute [simp] quiet14 fz14
@[simp] theorem liveOf14 (f : Nat) (c : Code) : liveOf H14 f c = none := by unfold liveOf; split <;> rfl
structure RD where
 pm : Bool
 A : Option Addr
 cap : Nat
 l : List Nat
def rV (r : RD) : V := .im r.pm r.A r.cap r.l.length (uL r.l)
def rsV (rs : List RD) : List V := rs.map rV
@[simp] theorem rsV_length (rs : List RD) : (rsV rs).length = rs.length := by simp [rsV]
@[simp] theorem rsV_getElem (rs : List RD) (i : Nat) (h : i < (rsV rs).length) : (rsV rs)[i] = .im (rs[i]'(by simpa using h)).pm (rs[i]'(by simpa using h)).A (rs[i]'(by simpa using h)).cap (rs[i]'(by simpa using h)).l.length (uL (rs[i]'(by simpa using h)).l) := by simp [rsV, rV]
end Go.Abs
end
noncomputable section
namespace Go.Abs
open Go Go.Proofs
attribute [local simp] intOp shOp
set_option maxRecDepth 100000
end Go.Abs
end
noncomputable section
namespace Go.Abs
open Go Go.Proofs
attribute [local simp] intOp shOp
set_option maxRecDepth 100000
def primes7 : List Nat := [31, 127, 8191, 131071, 524287, 2147483647, 2305843009213693951]
def expOf (p : Nat) : Nat := if p = 31 then 5 else if p = 127 then 7 else if p = 8191 then 13 else if p = 131071 then 17 else if p = 524287 then 19 else if p = 2147483647 then 31 else if p = 2305843009213693951 then 61 else 0
theorem exps48 : AnsN 1 Tryd.prog H14 109 [] (.own .nil 0 7 [.int .i64 5, .int .i64 7, .int .i64 13, .int .i64 17, .int .i64 19, .int .i64 31, .int .i64 61]) :=
 fun n hn nx => by
  obtain ⟨m, rfl⟩ : ∃ m, n = m + 1 := ⟨n - 1, by omega⟩
  kernel_rfl
theorem wr (k : IntKind) (x y : Int) (h : k.wrap x = y) : k.wrap x = y := h
theorem exp45 (p : Nat) : AnsN 11 Tryd.prog H14 101 [.int .u64 (p : Int)] (.int .i64 (expOf p : Int)) := by
 have h1 := exps48
 refine AnsN.of (fn := Tryd.f101) (t := 2) (by rfl) Tryd.func101 rfl rfl (by rfl) (by rfl) (N := 10) fun k hk nx => ?_
 have hc := h1 k (by omega)
 refine EvP.seq (EvP.region ?_)
 simp [entryS]
 refine EvP.seq (EvP.region ?_)
 simp [hc]
 refine EvP.seq (EvP.seq (EvP.region ?_))
 simp
 refine EvP.block (EvP.loop (fun n D => ∃ i : Nat, n = 7 - i ∧ i ≤ 7 ∧ (∀ t, t < i → primes7[t]? ≠ some p) ∧ D.s 0 = .int .u64 (p : Int) ∧ D.s 3 = .own .nil 0 7 [.int .i64 5, .int .i64 7, .int .i64 13, .int .i64 17, .int .i64 19, .int .i64 31, .int .i64 61] ∧ D.s 4 = .int .i64 (i : Int) ∧ D.m = []) (n := 7) ⟨0, by simp⟩ (by omega) ?_)
 rintro n D ⟨i, hn, hi, hpre, d0, d3, d4, dm⟩
 simp only [liveOf14, clear_none]
 refine EvP.seq (EvP.seq (EvP.region ?_))
 simp [d0, d3, d4]
 refine EvP.cond (t := decide (i < 7)) (by simp; omega) (fun h => EvP.skip ?_) (fun h => EvP.exit ?_)
 ·have hlt : i < 7 := by simpa using h
  simp only [thenE_norm]
  refine EvP.seq (EvP.block (EvP.seq (EvP.region ?_)))
  have w5 : IntKind.u64.wrap 5 = 5 := rfl
  have w7 : IntKind.u64.wrap 7 = 7 := rfl
  have w13 : IntKind.u64.wrap 13 = 13 := rfl
  have w17 : IntKind.u64.wrap 17 = 17 := rfl
  have w19 : IntKind.u64.wrap 19 = 19 := rfl
  have w31 : IntKind.u64.wrap 31 = 31 := rfl
  have w61 : IntKind.u64.wrap 61 = 61 := rfl
  have bb : IntKind.u64.bits = 64 := rfl
  have v5 : IntKind.u64.wrap 32 = 32 := rfl
  have v7 : IntKind.u64.wrap 128 = 128 := rfl
  have v13 : IntKind.u64.wrap 8192 = 8192 := rfl
  have v17 : IntKind.u64.wrap 131072 = 131072 := rfl
  have v19 : IntKind.u64.wrap 524288 = 524288 := rfl
  have v31 : IntKind.u64.wrap 2147483648 = 2147483648 := rfl
  have v61 : IntKind.u64.wrap 2305843009213693952 = 2305843009213693952 := rfl
  have x5 : IntKind.u64.wrap 31 = 31 := rfl
  have x7 : IntKind.u64.wrap 127 = 127 := rfl
  have x13 : IntKind.u64.wrap 8191 = 8191 := rfl
  have x17 : IntKind.u64.wrap 131071 = 131071 := rfl
  have x19 : IntKind.u64.wrap 524287 = 524287 := rfl
  have x31 : IntKind.u64.wrap 2147483647 = 2147483647 := rfl
  have x61 : IntKind.u64.wrap 2305843009213693951 = 2305843009213693951 := rfl
  have hcase : i = 0 ∨ i = 1 ∨ i = 2 ∨ i = 3 ∨ i = 4 ∨ i = 5 ∨ i = 6 := by omega
  have next : ∀ t, t < i + 1 → (primes7[i]? ≠ some p) → primes7[t]? ≠ some p := by
   intro t ht hne
   by_cases hti : t = i
   ·subst hti; exact hne
   ·exact hpre t (by omega)
  by_cases hp : primes7[i]? = some p
  ·rcases hcase with rfl | rfl | rfl | rfl | rfl | rfl | rfl <;>
   ·simp [primes7] at hp
    subst hp
    simp [d0, d3, d4, w5, w7, w13, w17, w19, w31, w61, bb, v5, v7, v13, v17, v19, v31, v61, x5, x7, x13, x17, x19, x31, x61]
    refine EvP.cond (t := true) (by simp) (fun _ => ?_) (fun h => by cases h)
    refine EvP.seq (EvP.region ?_)
    simp [d0, d3, d4]
    refine EvP.ret ?_
    simp [dm, expOf]
  ·have hstep : (∃ n', n' < n ∧ ∃ i_1, n' = 7 - i_1 ∧ i_1 ≤ 7 ∧ (∀ t, t < i_1 → primes7[t]? ≠ some p) ∧ ((i : Int) + 1 = i_1) ∧ D.m = []) := ⟨7 - (i + 1), by omega, i + 1, rfl, by omega, fun t ht => next t ht hp, by omega, dm⟩
   have hw : IntKind.i64.wrap ((i : Int) + 1) = (i : Int) + 1 := wrap_nat (by omega) (by omega)
   rcases hcase with rfl | rfl | rfl | rfl | rfl | rfl | rfl <;>
   ·simp [primes7] at hp
    simp [d0, d3, d4, w5, w7, w13, w17, w19, w31, w61, bb, v5, v7, v13, v17, v19, v31, v61, x5, x7, x13, x17, x19, x31, x61]
    refine EvP.cond (t := false) (by simp; omega) (fun h => by cases h) (fun _ => EvP.skip ?_)
    simp
    refine EvP.region ?_
    simp at hw hstep
    simp [d0, d3, d4, hw]
    exact hstep
 ·have hlt : ¬ i < 7 := by simpa using h
  have hi7 : i = 7 := by omega
  simp
  refine EvP.seq (EvP.region ?_)
  simp
  refine EvP.ret ?_
  simp [dm]
  have q0 := hpre 0 (by omega); have q1 := hpre 1 (by omega); have q2 := hpre 2 (by omega); have q3 := hpre 3 (by omega); have q4 := hpre 4 (by omega); have q5 := hpre 5 (by omega); have q6 := hpre 6 (by omega)
  simp [primes7] at q0 q1 q2 q3 q4 q5 q6
  unfold expOf
  rw [if_neg (by omega), if_neg (by omega), if_neg (by omega), if_neg (by omega), if_neg (by omega), if_neg (by omega), if_neg (by omega)]
  rfl
theorem sup41 (p : Nat) : AnsN 12 Tryd.prog H14 87 [.int .u64 (p : Int)] (.bool (decide (0 < expOf p))) := by
 have h1 := exp45 p
 refine AnsN.of (fn := Tryd.f87) (t := 2) (by rfl) Tryd.func87 rfl rfl (by rfl) (by rfl) (N := 11) fun k hk nx => ?_
 have hc := h1 k (by omega)
 refine EvP.seq (EvP.region ?_)
 simp [entryS]
 refine EvP.seq (EvP.region ?_)
 simp [hc]
 refine EvP.ret ?_
 simp
theorem expOf_mem {p : Nat} (h : 0 < expOf p) : p ∈ primes7 := by
 unfold expOf at h
 simp only [primes7, List.mem_cons, List.not_mem_nil, or_false]
 split at h <;> try omega
 split at h <;> try omega
 split at h <;> try omega
 split at h <;> try omega
 split at h <;> try omega
 split at h <;> try omega
 split at h <;> omega
end Go.Abs
end
noncomputable section
namespace Go.Abs
open Go Go.Proofs
attribute [local simp] intOp shOp
set_option maxRecDepth 100000
theorem wrapu_nat (x : Nat) : IntKind.u64.wrap (x : Int) = ((x % 18446744073709551616 : Nat) : Int) := by
 unfold IntKind.wrap
 simp [IntKind.signed, IntKind.bits]
def pq7 : List (Nat × Nat) := [(31, 5), (127, 7), (8191, 13), (131071, 17), (524287, 19), (2147483647, 31), (2305843009213693951, 61)]
theorem len49 (p q : Nat) (h : (p, q) ∈ pq7) : Ans Tryd.prog H14 113 [.int .u64 (p : Int)] (.int .i64 (q : Int)) := by
 refine ⟨1, fun n hn nx => ?_⟩
 obtain ⟨m, rfl⟩ : ∃ m, n = m + 1 := ⟨n - 1, by omega⟩
 simp only [pq7, List.mem_cons, Prod.mk.injEq, List.not_mem_nil, or_false] at h
 rcases h with ⟨h1, h2⟩ | ⟨h1, h2⟩ | ⟨h1, h2⟩ | ⟨h1, h2⟩ | ⟨h1, h2⟩ | ⟨h1, h2⟩ | ⟨h1, h2⟩ <;> rw [h1, h2] <;> kernel_rfl
theorem width46 (p q : Nat) (h : (p, q) ∈ pq7) : Ans Tryd.prog H14 111 [.int .u64 (p : Int)] (.int .u64 (q : Int)) := by
 obtain ⟨N, h1⟩ := len49 p q h
 have hw : IntKind.u64.wrap (q : Int) = (q : Int) := by
  simp only [pq7, List.mem_cons, Prod.mk.injEq, List.not_mem_nil, or_false] at h
  rcases h with ⟨_, h2⟩ | ⟨_, h2⟩ | ⟨_, h2⟩ | ⟨_, h2⟩ | ⟨_, h2⟩ | ⟨_, h2⟩ | ⟨_, h2⟩ <;> rw [h2] <;> rfl
 refine Ans.of (fn := Tryd.f111) (t := 2) (by rfl) Tryd.func111 rfl rfl (by rfl) (by rfl) ⟨N, fun k hk nx => ?_⟩
 have hc := h1 k hk
 refine EvP.seq (EvP.region ?_)
 simp [entryS]
 refine EvP.seq (EvP.region ?_)
 simp [hc, hw]
 refine EvP.ret ?_
 simp
end Go.Abs
end
noncomputable section
namespace Go.Abs
open Go Go.Proofs
attribute [local simp] intOp shOp
set_option maxRecDepth 100000
def parV (p : Nat) (n t : Int) : V := .agg [.int .u64 (p : Int), .int .i64 n, .int .i64 t]
def ValidP (p : Nat) (n t : Int) : Prop := p ∈ primes7 ∧ 4 ≤ n ∧ n ≤ 13 ∧ n < p ∧ 1 ≤ t ∧ t < n
end Go.Abs
end
noncomputable section
namespace Go.Abs
open Go Go.Proofs
attribute [local simp] intOp shOp
set_option maxRecDepth 100000
section
variable {P : Program} {H : Hint} {f : Nat}
theorem AnsN.of2 {N : Nat} {fn : Func} {c : Code} {xs : List V} {k1 k2 : IntKind} {x1 x2 : Int} {t1 t2 : Nat} (hg : H.good f = true) (hf : P.funcs[f]? = some fn) (hb : fn.body = some c) (hres : fn.results = #[.tmp t1, .tmp t2]) (hfr : H.fr f = false)
 (h : ∀ k, N ≤ k → ∀ nx, EvP P H (evCall P H k) f k c (entryS xs [] nx) (fun e D => (e = .norm ∨ e = .ret) ∧ D.s t1 = .int k1 x1 ∧ D.s t2 = .int k2 x2 ∧ ∀ b ∈ D.m, nx ≤ b.1)) : AnsN (N + 1) P H f xs (.tup [.int k1 x1, .int k2 x2]) := by
 intro n hn nx
 obtain ⟨k, rfl⟩ : ∃ k, n = k + 1 := ⟨n - 1, by omega⟩
 obtain ⟨e, D, h1, h2, h3, h3', h4⟩ := h k (by omega) nx
 unfold evCall
 simp only [hg, hf, hb]
 have h1' : evCode P H (evCall P H k) f k c { s := fun i => match xs[i]? with | some v => v | none => .dead, m := [], nx := nx } = some (e, D) := h1
 have hres' : evRes P D fn.results.toList = some ([.int k1 x1, .int k2 x2], D) := by rw [hres]; simp [evRes, h3, h3', view, settle]
 have hfil : D.m.filter (fun e => decide (e.1 < nx)) = [] := by
  rw [List.filter_eq_nil_iff]
  intro b hb
  have := h4 b hb
  simp; omega
 rw [if_neg (by simp)]
 generalize hq : evCode P H (evCall P H k) f k c _ = q
 have : q = some (e, D) := by rw [← hq]; exact h1'
 subst this
 simp [if_pos h2, hres', hfr, packRes, hfil, ptrs, ptrsL]
end
theorem fold_step {p q hi lo low a r b lo2 c sm cy hi2 V W : Nat} (hp : p + 1 = 2 ^ q) (hq1 : 5 ≤ q) (hW : 2 ^ q * 2 ^ r = W) (hV : V = hi * W + lo) (hgo : p < V)
 (hlow : low = lo % 2 ^ q) (ha : a = lo / 2 ^ q) (hb : b = 2 ^ r * (hi % 2 ^ q)) (hlo2 : lo2 = b + a) (hc : c = hi / 2 ^ q) (hsm : sm = (lo2 + low) % W) (hcy : cy = (lo2 + low) / W) (hhi2 : hi2 = c + cy) :
 hi2 * W + sm < V ∧ (hi2 * W + sm) % p = V % p := by
 have hp2 : 0 < p := by
  have : 2 ^ 5 ≤ 2 ^ q := Nat.pow_le_pow_right (by omega) hq1
  omega
 generalize 2 ^ q = Q at *
 generalize 2 ^ r = R at *
 have h1 : hi = Q * c + hi % Q := by rw [hc]; exact (Nat.div_add_mod hi Q).symm
 have h2 : lo = Q * a + low := by rw [ha, hlow]; exact (Nat.div_add_mod lo Q).symm
 have h3 : hi2 * W + sm = (c * W + R * (hi % Q) + a) + low := by
  have := Nat.div_add_mod (lo2 + low) W
  rw [hhi2, Nat.add_mul, hsm, hcy, Nat.mul_comm ((lo2 + low) / W) W]
  omega
 have h4 : V = Q * (c * W + R * (hi % Q) + a) + low := by
  have e1 : Q * (R * (hi % Q)) = (hi % Q) * W := by rw [← Nat.mul_assoc, hW, Nat.mul_comm]
  have e2 : Q * (c * W) = (Q * c) * W := (Nat.mul_assoc _ _ _).symm
  have e3 : hi * W = (Q * c) * W + (hi % Q) * W := by rw [← Nat.add_mul, ← h1]
  rw [Nat.mul_add, Nat.mul_add, e1, e2, hV, e3]
  omega
 have hlt : low < Q := by rw [hlow]; exact Nat.mod_lt _ (by omega)
 rw [h3]
 generalize (c * W + R * (hi % Q) + a) = T at *
 have hpT : Q * T = p * T + T := by rw [← hp, Nat.add_mul, Nat.one_mul]
 have hT : 0 < T := by
  rcases Nat.eq_zero_or_pos T with h | h
  ·subst h; omega
  ·exact h
 have : 0 < p * T := Nat.mul_pos hp2 hT
 refine ⟨by omega, ?_⟩
 rw [h4, hpT, show p * T + T + low = (T + low) + p * T by omega, Nat.add_mul_mod_self_left]
theorem pq_facts {p q : Nat} (h : (p, q) ∈ pq7) : p + 1 = 2 ^ q ∧ 5 ≤ q ∧ q ≤ 61 := by
 simp only [pq7, List.mem_cons, Prod.mk.injEq, List.not_mem_nil, or_false] at h
 rcases h with ⟨rfl, rfl⟩ | ⟨rfl, rfl⟩ | ⟨rfl, rfl⟩ | ⟨rfl, rfl⟩ | ⟨rfl, rfl⟩ | ⟨rfl, rfl⟩ | ⟨rfl, rfl⟩ <;> decide
theorem fold43 (p q : Nat) (h : (p, q) ∈ pq7) : ∃ N, ∀ hi lo : Nat, hi < 18446744073709551616 → lo < 18446744073709551616 → AnsN N Tryd.prog H14 107 [.int .u64 (p : Int), .int .u64 (hi : Int), .int .u64 (lo : Int)] (.int .u64 (((hi * 18446744073709551616 + lo) % p : Nat) : Int)) := by
 obtain ⟨hp, hq1, hq2⟩ := pq_facts h
 obtain ⟨N1, h1⟩ := width46 p q h
 refine ⟨N1 + 18446744073709551616 * 18446744073709551616 + 1 + 1, fun hi0 lo0 hhi hlo => ?_⟩
 ·refine AnsN.of (fn := Tryd.f107) (t := 6) (by rfl) Tryd.func107 rfl rfl (by rfl) (by rfl) fun k hk nx => ?_
  have hc := h1 k (by omega)
  refine EvP.seq (EvP.region ?_)
  simp [entryS]
  refine EvP.seq (EvP.region ?_)
  simp [hc]
  refine EvP.seq (EvP.block (EvP.loop (fun V D => ∃ hi lo : Nat, V = hi * 18446744073709551616 + lo ∧ hi < 18446744073709551616 ∧ lo < 18446744073709551616 ∧ V % p = (hi0 * 18446744073709551616 + lo0) % p ∧ D.s 0 = .int .u64 (p : Int) ∧ D.s 1 = .int .u64 (hi : Int) ∧ D.s 2 = .int .u64 (lo : Int) ∧ D.s 7 = .int .u64 (q : Int) ∧ D.m = []) (n := hi0 * 18446744073709551616 + lo0) ⟨hi0, lo0, by simp [hhi, hlo]⟩ (by omega) ?_))
  rintro V D ⟨hi, lo, hV, hhi, hlo, hmod, d0, d1, d2, d7, dm⟩
  simp only [liveOf14, clear_none]
  have hpW : p < 18446744073709551616 := by
   have : 2 ^ q ≤ 2 ^ 61 := Nat.pow_le_pow_right (by omega) hq2
   omega
  by_cases hgo : p < V
  ·have hpos : hi ≠ 0 ∨ p < lo := by omega
   refine EvP.seq (EvP.seq (EvP.region ?_))
   have key2 : (hi ≠ 0 ∨ hi = 0 ∧ p < lo) := by omega
   have hb0 : ∀ x : Nat, x ≠ 0 → (((x : Nat) : Int) != 0) = true := fun x hx => by simp [bne]; omega
   have hbits : IntKind.u64.bits = 64 := rfl
   have hq0 : ¬ ((q : Int) < 0) := by omega
   have hmq : min q 64 = q := by omega
   have e1 : lo % 18446744073709551616 = lo := by omega
   have e2 : p % 18446744073709551616 = p := by omega
   have hp2 : p = 2 ^ q - 1 := by omega
   obtain ⟨low, hlow⟩ : ∃ low, low = lo % 2 ^ q := ⟨_, rfl⟩
   have f1 : IntKind.u64.wrap ((lo &&& p : Nat) : Int) = (low : Int) := by
    rw [wrapu_nat, hp2, Nat.and_two_pow_sub_one_eq_mod, ← hlow]
    have := Nat.mod_le lo (2 ^ q)
    congr 1; omega
   obtain ⟨a, ha⟩ : ∃ a, a = lo / 2 ^ q := ⟨_, rfl⟩
   have f2 : (lo : Int).fdiv (2 ^ q) = (a : Int) := by
    rw [ha, Int.fdiv_eq_ediv_of_nonneg _ (Int.le_of_lt (Int.pow_pos (by decide)))]
    simp
   obtain ⟨r, hr⟩ : ∃ r, r = 64 - q := ⟨_, rfl⟩
   have f3 : IntKind.u64.wrap (64 - (q : Int)) = (r : Int) := by rw [wrapu (by omega) (by omega)]; omega
   have hr0 : ¬ ((r : Int) < 0) := by omega
   have hmr : min r 64 = r := by omega
   obtain ⟨b, hb⟩ : ∃ b, b = 2 ^ r * (hi % 2 ^ q) := ⟨_, rfl⟩
   have f4 : IntKind.u64.wrap ((hi : Int) * 2 ^ r) = (b : Int) := by
    have h1 : (hi : Int) * 2 ^ r = ((hi * 2 ^ r : Nat) : Int) := by norm_cast
    rw [h1, wrapu_nat, hb, show 18446744073709551616 = 2 ^ q * 2 ^ r by rw [← Nat.pow_add, hr, show q + (64 - q) = 64 by omega], Nat.mul_mod_mul_right, Nat.mul_comm]
   obtain ⟨lo2, hlo2⟩ : ∃ lo2, lo2 = b + a := ⟨_, rfl⟩
   have e3 : a % 18446744073709551616 = a := by
    have := Nat.div_le_self lo (2 ^ q)
    omega
   have hWq : 2 ^ q * 2 ^ r = 18446744073709551616 := by
    rw [← Nat.pow_add, hr, show q + (64 - q) = 64 by omega]
   have hstep0 := fold_step (sm := (b + a + low) % 18446744073709551616) (cy := (b + a + low) / 18446744073709551616) hp hq1 hWq hV hgo hlow ha hb rfl rfl rfl rfl rfl
   have hb1 : b < 18446744073709551616 := by
    rw [hb, ← hWq, Nat.mul_comm]
    exact Nat.mul_lt_mul_of_pos_right (Nat.mod_lt _ (Nat.pow_pos (by decide))) (Nat.pow_pos (by decide))
   have e4 : b % 18446744073709551616 = b := by omega
   have ha1 : a < 2 ^ r := by
    rw [ha]
    exact Nat.div_lt_of_lt_mul (by rw [hWq]; exact hlo)
   have hba : b + a < 18446744073709551616 := by
    have h1 : b + 2 ^ r ≤ 18446744073709551616 := by
     rw [hb, ← hWq, Nat.mul_comm (2 ^ q)]
     have : hi % 2 ^ q + 1 ≤ 2 ^ q := Nat.mod_lt _ (Nat.pow_pos (by decide))
     calc 2 ^ r * (hi % 2 ^ q) + 2 ^ r = 2 ^ r * (hi % 2 ^ q + 1) := by rw [Nat.mul_add, Nat.mul_one]
      _ ≤ 2 ^ r * 2 ^ q := Nat.mul_le_mul_left _ this
    omega
   obtain ⟨lo2, hlo2⟩ : ∃ lo2, lo2 = b + a := ⟨_, rfl⟩
   have f5 : IntKind.u64.wrap ((a ||| b : Nat) : Int) = (lo2 : Int) := by
    rw [hb, Nat.or_comm, ← Nat.two_pow_add_eq_or_of_lt ha1, ← hb, ← hlo2, wrapu_nat]
    congr 1; omega
   obtain ⟨c, hc⟩ : ∃ c, c = hi / 2 ^ q := ⟨_, rfl⟩
   have f6 : (hi : Int).fdiv (2 ^ q) = (c : Int) := by
    rw [hc, Int.fdiv_eq_ediv_of_nonneg _ (Int.le_of_lt (Int.pow_pos (by decide)))]
    simp
   rw [← hlo2, ← hc] at hstep0
   obtain ⟨sm, hsm⟩ : ∃ sm, sm = (lo2 + low) % 18446744073709551616 := ⟨_, rfl⟩
   obtain ⟨cy, hcy⟩ : ∃ cy, cy = (lo2 + low) / 18446744073709551616 := ⟨_, rfl⟩
   have f7 : ((lo2 : Int) + (low : Int)) % 18446744073709551616 = (sm : Int) := by omega
   have f8 : ((lo2 : Int) + (low : Int)) / 18446744073709551616 = (cy : Int) := by omega
   obtain ⟨hi2, hhi2⟩ : ∃ hi2, hi2 = c + cy := ⟨_, rfl⟩
   rw [← hsm, ← hcy, ← hhi2] at hstep0
   obtain ⟨hs1, hs2⟩ := hstep0
   have hh2 : hi2 < 18446744073709551616 := by omega
   have f9 : IntKind.u64.wrap ((c : Int) + (cy : Int)) = (hi2 : Int) := by
    rw [wrapu (by omega) (by omega)]; omega
   have fin : ∃ n', n' < V ∧ ∃ hi lo : Nat, n' = hi * 18446744073709551616 + lo ∧ hi < 18446744073709551616 ∧ lo < 18446744073709551616 ∧ n' % p = (hi0 * 18446744073709551616 + lo0) % p ∧ (hi2 : Int) = (hi : Int) ∧ (sm : Int) = (lo : Int) ∧ D.m = [] :=
    ⟨_, hs1, hi2, sm, rfl, hh2, by omega, by rw [hs2, hmod], rfl, rfl, dm⟩
   rcases key2 with hz | ⟨hz, hz2⟩
   ·simp [d0, d1, d2, d7, hb0 hi hz]
    refine EvP.cond (t := true) (by simp) (fun _ => EvP.skip ?_) (fun h => by cases h)
    simp only [thenE_norm]
    refine EvP.block (EvP.seq (EvP.region ?_))
    simp [d0, d1, d2, d7, hbits, e1, e2, f1]
    refine EvP.seq (EvP.region ?_)
    simp [d0, d1, d2, d7, hbits, hq0, hmq, f2, f3, hr0, hmr, f4, e3, e4, f5, f6]
    refine EvP.seq (EvP.region ?_)
    simp [d0, d1, d2, d7, addX, f7, f8]
    refine EvP.region ?_
    simp [d0, d1, d2, d7, f9]
    exact fin
   ·have d1' : D.s 1 = .int .u64 0 := by rw [d1, hz]; rfl
    simp [d0, d1', d2, d7, hz2]
    refine EvP.cond (t := true) (by simp) (fun _ => EvP.skip ?_) (fun h => by cases h)
    simp only [thenE_norm]
    refine EvP.block (EvP.seq (EvP.region ?_))
    simp [d0, d1, d2, d7, hbits, e1, e2, f1]
    refine EvP.seq (EvP.region ?_)
    simp [d0, d1, d2, d7, hbits, hq0, hmq, f2, f3, hr0, hmr, f4, e3, e4, f5, f6]
    refine EvP.seq (EvP.region ?_)
    simp [d0, d1, d2, d7, addX, f7, f8]
    refine EvP.region ?_
    simp [d0, d1, d2, d7, f9]
    exact fin
  ·have hz : hi = 0 := by omega
   subst hz
   have d1' : D.s 1 = .int .u64 0 := by rw [d1]; rfl
   have hlp : ¬ p < lo := by omega
   have hp0 : 0 < p := by
    have : 2 ^ 5 ≤ 2 ^ q := Nat.pow_le_pow_right (by omega) hq1
    omega
   refine EvP.seq (EvP.seq (EvP.region ?_))
   simp [d0, d1', d2, hlp]
   refine EvP.cond (t := false) (by simp) (fun h => by cases h) (fun _ => EvP.exit ?_)
   simp
   by_cases he : lo = p
   ·refine EvP.seq (EvP.seq (EvP.region ?_))
    simp [d0, d2, he]
    refine EvP.cond (t := true) (by simp) (fun _ => ?_) (fun h => by cases h)
    refine EvP.seq (EvP.region ?_)
    simp
    refine EvP.ret ?_
    simp [dm]
    have h1 : V % p = 0 := by rw [show V = p by omega, Nat.mod_self]
    have h2 : (((hi0 * 18446744073709551616 + lo0) % p : Nat) : Int) = 0 := by rw [← hmod, h1]; rfl
    simpa using h2.symm
   ·have he' : ¬ ((lo : Int) = (p : Int)) := by omega
    refine EvP.seq (EvP.seq (EvP.region ?_))
    simp [d0, d2, he, he']
    refine EvP.cond (t := false) (by simp [he']) (fun h => by cases h) (fun _ => EvP.skip ?_)
    simp
    refine EvP.seq (EvP.region ?_)
    simp [d2]
    refine EvP.ret ?_
    simp [dm]
    have h1 : V % p = lo := by rw [show V = lo by omega, Nat.mod_eq_of_lt (by omega)]
    have h2 : (((hi0 * 18446744073709551616 + lo0) % p : Nat) : Int) = (lo : Int) := by rw [← hmod, h1]
    simpa using h2.symm
end Go.Abs
end
noncomputable section
namespace Go.Abs
open Go Go.Proofs
attribute [local simp] intOp shOp
set_option maxRecDepth 100000
theorem mul_split {x y x0 x1 y0 y1 : Nat} (hx : x = x1 * 4294967296 + x0) (hy : y = y1 * 4294967296 + y0) : x * y = x1 * y1 * 18446744073709551616 + x1 * y0 * 4294967296 + x0 * y1 * 4294967296 + x0 * y0 := by
 rw [hx, hy, Nat.add_mul, Nat.mul_add, Nat.mul_add, Nat.mul_mul_mul_comm, Nat.mul_right_comm x1 4294967296 y0, ← Nat.mul_assoc x0]
 omega
theorem mul_le {x y : Nat} (hx : x ≤ 4294967295) (hy : y ≤ 4294967295) : x * y ≤ 18446744065119617025 := Nat.mul_le_mul hx hy
theorem mul44 (x y : Nat) (hx : x < 18446744073709551616) (hy : y < 18446744073709551616) : AnsN 1 Tryd.prog H14 108 [.int .u64 (x : Int), .int .u64 (y : Int)] (.tup [.int .u64 ((x * y / 18446744073709551616 : Nat) : Int), .int .u64 ((x * y % 18446744073709551616 : Nat) : Int)]) := by
 refine AnsN.of2 (N := 0) (fn := Tryd.f108) (t1 := 4) (t2 := 5) (by rfl) Tryd.func108 rfl rfl (by rfl) fun k hk nx => ?_
 have hbits : IntKind.u64.bits = 64 := rfl
 have hm : ∀ z : Nat, z < 18446744073709551616 → IntKind.u64.wrap ((z &&& 4294967295 : Nat) : Int) = ((z % 4294967296 : Nat) : Int) := fun z hz => by
  rw [wrapu_nat, show (4294967295 : Nat) = 2 ^ 32 - 1 by rfl, Nat.and_two_pow_sub_one_eq_mod]
  congr 1; omega
 have hd : ∀ z : Nat, (z : Int).fdiv 4294967296 = ((z / 4294967296 : Nat) : Int) := fun z => by
  rw [Int.fdiv_eq_ediv_of_nonneg _ (by decide)]; simp
 have hw : ∀ z : Nat, z < 18446744073709551616 → IntKind.u64.wrap (z : Int) = (z : Int) := fun z hz => wrapu (by omega) (by omega)
 obtain ⟨x0, hx0⟩ : ∃ x0, x0 = x % 4294967296 := ⟨_, rfl⟩
 obtain ⟨x1, hx1⟩ : ∃ x1, x1 = x / 4294967296 := ⟨_, rfl⟩
 obtain ⟨y0, hy0⟩ : ∃ y0, y0 = y % 4294967296 := ⟨_, rfl⟩
 obtain ⟨y1, hy1⟩ : ∃ y1, y1 = y / 4294967296 := ⟨_, rfl⟩
 have hxy := mul_split (x := x) (y := y) (x0 := x0) (x1 := x1) (y0 := y0) (y1 := y1) (by omega) (by omega)
 have b1 := mul_le (x := x1) (y := y1) (by omega) (by omega)
 have b2 := mul_le (x := x1) (y := y0) (by omega) (by omega)
 have b3 := mul_le (x := x0) (y := y1) (by omega) (by omega)
 have b4 := mul_le (x := x0) (y := y0) (by omega) (by omega)
 have p1 : ((x1 : Int) * (y1 : Int)) = ((x1 * y1 : Nat) : Int) := by simp
 have p2 : ((x1 : Int) * (y0 : Int)) = ((x1 * y0 : Nat) : Int) := by simp
 have p3 : ((x0 : Int) * (y1 : Int)) = ((x0 * y1 : Nat) : Int) := by simp
 have p4 : ((x0 : Int) * (y0 : Int)) = ((x0 * y0 : Nat) : Int) := by simp
 have p5 : ((x : Int) * (y : Int)) = ((x * y : Nat) : Int) := by simp
 generalize x1 * y1 = a at *
 generalize x1 * y0 = b at *
 generalize x0 * y1 = c at *
 generalize x0 * y0 = d at *
 generalize x * y = m at *
 have f1 : IntKind.u64.wrap ((x &&& 4294967295 : Nat) : Int) = (x0 : Int) := by rw [hm x hx, hx0]
 have f2 : (x : Int).fdiv 4294967296 = (x1 : Int) := by rw [hd, hx1]
 have f3 : IntKind.u64.wrap ((y &&& 4294967295 : Nat) : Int) = (y0 : Int) := by rw [hm y hy, hy0]
 have f4 : (y : Int).fdiv 4294967296 = (y1 : Int) := by rw [hd, hy1]
 have e1 : x % 18446744073709551616 = x := by omega
 have e2 : y % 18446744073709551616 = y := by omega
 obtain ⟨d1, hd1⟩ : ∃ d1, d1 = d / 4294967296 := ⟨_, rfl⟩
 obtain ⟨t, ht⟩ : ∃ t, t = b + d1 := ⟨_, rfl⟩
 obtain ⟨w1, hw1⟩ : ∃ w1, w1 = t % 4294967296 := ⟨_, rfl⟩
 obtain ⟨w2, hw2⟩ : ∃ w2, w2 = t / 4294967296 := ⟨_, rfl⟩
 obtain ⟨w3, hw3⟩ : ∃ w3, w3 = w1 + c := ⟨_, rfl⟩
 obtain ⟨g, hg⟩ : ∃ g, g = w3 / 4294967296 := ⟨_, rfl⟩
 obtain ⟨u, hu⟩ : ∃ u, u = a + w2 := ⟨_, rfl⟩
 obtain ⟨hh, hhh⟩ : ∃ hh, hh = u + g := ⟨_, rfl⟩
 have f5 : IntKind.u64.wrap ((d : Nat) : Int) = (d : Int) := hw d (by omega)
 have f5' : IntKind.u64.wrap ((b : Nat) : Int) = (b : Int) := hw b (by omega)
 have f5a : IntKind.u64.wrap ((a : Nat) : Int) = (a : Int) := hw a (by omega)
 have f5c : IntKind.u64.wrap ((c : Nat) : Int) = (c : Int) := hw c (by omega)
 have f6 : (d : Int).fdiv 4294967296 = (d1 : Int) := by rw [hd, hd1]
 have f7 : IntKind.u64.wrap ((b : Int) + (d1 : Int)) = (t : Int) := by rw [wrapu (by omega) (by omega)]; omega
 have e3 : t % 18446744073709551616 = t := by omega
 have f8 : IntKind.u64.wrap ((t &&& 4294967295 : Nat) : Int) = (w1 : Int) := by rw [hm t (by omega), hw1]
 have f9 : (t : Int).fdiv 4294967296 = (w2 : Int) := by rw [hd, hw2]
 have f10 : IntKind.u64.wrap ((w1 : Int) + (c : Int)) = (w3 : Int) := by rw [wrapu (by omega) (by omega)]; omega
 have f11 : (w3 : Int).fdiv 4294967296 = (g : Int) := by rw [hd, hg]
 have f12 : IntKind.u64.wrap ((a : Int) + (w2 : Int)) = (u : Int) := by rw [wrapu (by omega) (by omega)]; omega
 have f13 : IntKind.u64.wrap ((u : Int) + (g : Int)) = (hh : Int) := by rw [wrapu (by omega) (by omega)]; omega
 have f14 : IntKind.u64.wrap ((m : Nat) : Int) = ((m % 18446744073709551616 : Nat) : Int) := wrapu_nat m
 refine EvP.seq (EvP.region ?_)
 simp [entryS]
 refine EvP.seq (EvP.region ?_)
 simp [hbits, e1, f1]
 refine EvP.seq (EvP.region ?_)
 simp [hbits, f2]
 refine EvP.seq (EvP.region ?_)
 simp [hbits, e2, f3]
 refine EvP.seq (EvP.region ?_)
 simp [hbits, f4]
 refine EvP.seq (EvP.region ?_)
 simp [p4, f5]
 refine EvP.seq (EvP.region ?_)
 simp [hbits, p2, f5', f6, f7]
 refine EvP.seq (EvP.region ?_)
 simp [hbits, e3, f8]
 refine EvP.seq (EvP.region ?_)
 simp [hbits, f9]
 refine EvP.seq (EvP.region ?_)
 simp [p3, f5c, f10]
 refine EvP.seq (EvP.region ?_)
 simp [hbits, p1, f5a, f12, f11, f13]
 refine EvP.seq (EvP.region ?_)
 simp [p5, f14]
 refine EvP.ret ?_
 simp
 omega
theorem reduce33 (p q : Nat) (h : (p, q) ∈ pq7) : ∃ N, ∀ x : Nat, x < 18446744073709551616 → AnsN N Tryd.prog H14 96 [.int .u64 (p : Int), .int .u64 (x : Int)] (.int .u64 ((x % p : Nat) : Int)) := by
 obtain ⟨N, hN⟩ := fold43 p q h
 refine ⟨N + 1, fun x hx => AnsN.of (fn := Tryd.f96) (t := 4) (by rfl) Tryd.func96 rfl rfl (by rfl) (by rfl) fun k hk nx => ?_⟩
 have hc := hN 0 x (by omega) hx k hk
 simp only [Nat.zero_mul, Nat.zero_add] at hc
 have hc : ∀ nx, evCall Tryd.prog H14 k 107 [.int .u64 (p : Int), .int .u64 0, .int .u64 (x : Int)] [] nx = some (.int .u64 ((x % p : Nat) : Int), [], nx) := hc
 refine EvP.seq (EvP.region ?_)
 simp [entryS]
 refine EvP.seq (EvP.region ?_)
 simp [hc]
 refine EvP.ret ?_
 simp
theorem add35 (p q : Nat) (h : (p, q) ∈ pq7) : ∃ N, ∀ x y : Nat, x + y < 18446744073709551616 → AnsN N Tryd.prog H14 98 [.int .u64 (p : Int), .int .u64 (x : Int), .int .u64 (y : Int)] (.int .u64 (((x + y) % p : Nat) : Int)) := by
 obtain ⟨N, hN⟩ := fold43 p q h
 refine ⟨N + 1, fun x y hx => AnsN.of (fn := Tryd.f98) (t := 6) (by rfl) Tryd.func98 rfl rfl (by rfl) (by rfl) fun k hk nx => ?_⟩
 obtain ⟨z, hz⟩ : ∃ z, z = x + y := ⟨_, rfl⟩
 rw [← hz]
 have hw : IntKind.u64.wrap ((x : Int) + (y : Int)) = (z : Int) := by rw [wrapu (by omega) (by omega)]; omega
 have hc := hN 0 z (by omega) (by omega) k hk
 simp only [Nat.zero_mul, Nat.zero_add] at hc
 have hc : ∀ nx, evCall Tryd.prog H14 k 107 [.int .u64 (p : Int), .int .u64 0, .int .u64 (z : Int)] [] nx = some (.int .u64 ((z % p : Nat) : Int), [], nx) := hc
 refine EvP.seq (EvP.region ?_)
 simp [entryS]
 refine EvP.seq (EvP.region ?_)
 simp [hw, hc]
 refine EvP.ret ?_
 simp
theorem mul37 (p q : Nat) (h : (p, q) ∈ pq7) : ∃ N, ∀ x y : Nat, x < 18446744073709551616 → y < 18446744073709551616 → AnsN N Tryd.prog H14 100 [.int .u64 (p : Int), .int .u64 (x : Int), .int .u64 (y : Int)] (.int .u64 (((x * y) % p : Nat) : Int)) := by
 obtain ⟨N, hN⟩ := fold43 p q h
 refine ⟨N + 1 + 1, fun x y hx hy => AnsN.of (fn := Tryd.f100) (t := 6) (by rfl) Tryd.func100 rfl rfl (by rfl) (by rfl) fun k hk nx => ?_⟩
 have hm := mul44 x y hx hy k (by omega)
 have hxy : x * y < 18446744073709551616 * 18446744073709551616 := Nat.mul_lt_mul'' hx hy
 generalize x * y = m at *
 obtain ⟨hi, hhi⟩ : ∃ hi, hi = m / 18446744073709551616 := ⟨_, rfl⟩
 obtain ⟨lo, hlo⟩ : ∃ lo, lo = m % 18446744073709551616 := ⟨_, rfl⟩
 rw [← hhi, ← hlo] at hm
 have hc := hN hi lo (by omega) (by omega) k (by omega)
 rw [show hi * 18446744073709551616 + lo = m by omega] at hc
 refine EvP.seq (EvP.region ?_)
 simp [entryS]
 refine EvP.seq (EvP.region ?_)
 simp [hm]
 refine EvP.seq (EvP.region ?_)
 simp [hc]
 refine EvP.ret ?_
 simp
end Go.Abs
end
noncomputable section
namespace Go.Abs
open Go Go.Proofs
attribute [local simp] intOp shOp
set_option maxRecDepth 100000
def iL (l : List Int) : List V := l.map fun (x : Int) => V.int .i64 x
@[simp] theorem iL_length (l : List Int) : (iL l).length = l.length := by simp [iL]
@[simp] theorem iL_getElem (l : List Int) (i : Nat) (h : i < (iL l).length) : (iL l)[i] = .int .i64 (l[i]'(by simpa using h)) := by simp [iL]
@[simp] theorem ptrsL_iL (l : List Int) : ptrsL (iL l) = [] := by
 unfold iL; induction l with
 | nil => rfl
 | cons x l ih => simp only [List.map_cons, ptrsL, ptrs, ih, List.append_nil]
@[simp] theorem frzL_iL (pm : Bool) (l : List Int) : frzL pm (iL l) = iL l := by
 unfold iL; induction l with
 | nil => rfl
 | cons x l ih => simp only [List.map_cons, frzL, frz, ih]
def CoalGood (n : Int) (l : List Int) (i : Nat) : Prop := ∀ x, l[i]? = some x → 1 ≤ x ∧ x ≤ n ∧ ∀ y, 0 < i → l[i - 1]? = some y → y < x
def CoalP (n t : Int) (l : List Int) : Prop := (l.length : Int) ≤ t ∧ ∀ i, i < l.length → CoalGood n l i
end Go.Abs
end
noncomputable section
namespace Go.Abs
open Go Go.Proofs
attribute [local simp] intOp shOp
set_option maxRecDepth 100000
def lent (r : RD) : RD := { r with pm := false }
@[simp] theorem lent_l (r : RD) : (lent r).l = r.l := rfl
@[simp] theorem frzL_rsV (rs : List RD) : frzL false (rsV rs) = rsV (rs.map lent) := by
 unfold rsV; induction rs with
 | nil => rfl
 | cons x l ih =>
   simp only [List.map_cons, frzL, ih]
   simp [rV, frz, lent]
@[simp] theorem ptrsL_rsV (rs : List RD) : ptrsL (rsV rs) = [] := by
 unfold rsV; induction rs with
 | nil => rfl
 | cons x l ih =>
   simp only [List.map_cons, ptrsL, ih]
   simp [rV, ptrs]
end Go.Abs
end
noncomputable section
namespace Go.Abs
open Go Go.Proofs
attribute [local simp] intOp shOp
set_option maxRecDepth 100000
structure Dev where
 round : Int
 from_ : Int
 to : Int
 at_ : Int
 kind : Int
 k : Nat
 of_ : Int
 src : Int
def devL (x : Dev) : List V := [.int .i64 x.round, .int .i64 x.from_, .int .i64 x.to, .int .i64 x.at_, .int .i64 x.kind, .int .u64 (x.k : Int), .int .i64 x.of_, .int .i64 x.src]
def devV (x : Dev) : V := .agg [.int .i64 x.round, .int .i64 x.from_, .int .i64 x.to, .int .i64 x.at_, .int .i64 x.kind, .int .u64 (x.k : Int), .int .i64 x.of_, .int .i64 x.src]
structure DevP (n : Int) (x : Dev) : Prop where
 round : x.round ≥ 0
 at_ : x.at_ ≥ 0
 src : x.src ≥ 0
 from1 : x.from_ ≥ 1
 from2 : x.from_ ≤ n
 to1 : x.to ≥ 0
 to2 : x.to ≤ n
 kind1 : x.kind ≥ 1
 kind2 : x.kind ≤ 4
 of1 : x.of_ ≥ 0
 of2 : x.of_ ≤ n
 echo : x.kind = 3 → x.of_ ≥ 1
end Go.Abs
end
noncomputable section
namespace Go.Abs
open Go Go.Proofs
attribute [local simp] intOp shOp
set_option maxRecDepth 100000
def devsV (xs : List Dev) : List V := xs.flatMap devL
@[simp] theorem devsV_length (xs : List Dev) : (devsV xs).length = xs.length * 8 := by
 unfold devsV; induction xs with
 | nil => rfl
 | cons x l ih => simp [List.flatMap_cons, ih, devL]; omega
theorem devsV_drop : ∀ (xs : List Dev) (i : Nat), (devsV xs).drop (i * 8) = devsV (xs.drop i)
 | xs, 0 => by simp
 | [], i + 1 => by simp [devsV]
 | x :: l, i + 1 => by
   have h : devsV (x :: l) = devL x ++ devsV l := rfl
   have h8 : (devL x).length = 8 := rfl
   rw [h, show (i + 1) * 8 = (devL x).length + i * 8 by rw [h8]; omega, ← List.drop_drop, List.drop_left, devsV_drop l i]
   rfl
@[simp] theorem devs_take (xs : List Dev) (i : Nat) (h : i < xs.length) : ((devsV xs).drop (i * 8)).take 8 = devL xs[i] := by
 rw [devsV_drop, List.drop_eq_getElem_cons h]
 have h8 : (devL xs[i]).length = 8 := rfl
 show (devL xs[i] ++ devsV (xs.drop (i + 1))).take 8 = _
 rw [← h8, List.take_left]
@[simp] theorem ptrsL_devs (xs : List Dev) : ptrsL (devsV xs) = [] := by
 induction xs with
 | nil => rfl
 | cons x l ih =>
   show ptrsL (devL x ++ devsV l) = []
   simp only [devL, List.cons_append, List.nil_append, ptrsL, ptrs, ih]
@[simp] theorem frzL_devs (pm : Bool) (xs : List Dev) : frzL pm (devsV xs) = devsV xs := by
 induction xs with
 | nil => rfl
 | cons x l ih =>
   show frzL pm (devL x ++ devsV l) = devL x ++ devsV l
   simp only [devL, List.cons_append, List.nil_append, frzL, frz, ih]
structure Scn where
 p : Nat
 n : Int
 t : Int
 cpm : Bool
 cA : Option Addr
 ccap : Nat
 corrupt : List Int
 dpm : Bool
 dA : Option Addr
 dcap : Nat
 devs : List Dev
 tpm : Bool
 tA : Option Addr
 tcap : Nat
 tapes : List RD
def scL (s : Scn) : List V := [.int .u64 (s.p : Int), .int .i64 s.n, .int .i64 s.t, .im s.cpm s.cA s.ccap s.corrupt.length (iL s.corrupt), .im s.dpm s.dA s.dcap s.devs.length (devsV s.devs), .im s.tpm s.tA s.tcap s.tapes.length (rsV s.tapes)]
def scV (s : Scn) : V := .agg (scL s)
structure ScnOk (s : Scn) : Prop where
 c : s.corrupt.length ≤ maxLen
 d : s.devs.length ≤ maxLen
 t : s.tapes.length ≤ maxLen
 r : ∀ x ∈ s.tapes, x.l.length ≤ maxLen
structure ScnP (s : Scn) : Prop where
 par : ValidP s.p s.n s.t
 coal : CoalP s.n s.t s.corrupt
 devs : ∀ x ∈ s.devs, DevP s.n x
 tapes : (s.tapes.length : Int) = s.n
end Go.Abs
end
noncomputable section
namespace Go.Abs
open Go Go.Proofs
attribute [local simp] intOp shOp
set_option maxRecDepth 100000
def idxZ (v : Int) : List Int → Nat → Int
 | [], _ => -1
 | x :: l, i => if v = x then (i : Int) else idxZ v l (i + 1)
theorem idxZ_hit {v : Int} : ∀ {l : List Int} {i k : Nat}, (∀ j x, j < i → l[j]? = some x → v ≠ x) → l[i]? = some v → idxZ v l k = ((k + i : Nat) : Int)
 | [], i, k, _, h => by simp at h
 | x :: l, 0, k, _, h => by
   simp at h; subst h; simp [idxZ]
 | x :: l, i + 1, k, h1, h => by
   have hx : v ≠ x := h1 0 x (by omega) (by simp)
   rw [idxZ, if_neg hx, idxZ_hit (l := l) (i := i) (fun j y hj hy => h1 (j + 1) y (by omega) (by simpa using hy)) (by simpa using h)]
   omega
theorem idxZ_miss {v : Int} : ∀ {l : List Int} {k : Nat}, v ∉ l → idxZ v l k = -1
 | [], _, _ => rfl
 | x :: l, k, h => by
   simp only [List.mem_cons, not_or] at h
   rw [idxZ, if_neg h.1, idxZ_miss h.2]
theorem idxZ_nonneg {v : Int} : ∀ {l : List Int} {k : Nat}, 0 ≤ idxZ v l k ↔ v ∈ l
 | [], _ => by simp [idxZ]
 | x :: l, k => by
   by_cases h : v = x
   ·subst h; simp [idxZ]
   ·rw [idxZ, if_neg h, idxZ_nonneg (l := l)]; simp [h]
theorem index42 (pm : Bool) (A : Option Addr) (cap : Nat) (l : List Int) (v : Int) (hl : l.length ≤ maxLen) : AnsN (l.length + 1 + 1) Tryd.prog H14 106 [.im pm A cap l.length (iL l), .int .i64 v] (.int .i64 (idxZ v l 0)) := by
 have hml : maxLen = 9223372036854775807 := rfl
 refine AnsN.of (fn := Tryd.f106) (t := 4) (by rfl) Tryd.func106 rfl rfl (by rfl) (by rfl) fun k hk nx => ?_
 refine EvP.seq (EvP.region ?_)
 simp [entryS]
 refine EvP.seq (EvP.seq (EvP.region ?_))
 simp
 refine EvP.block (EvP.loop (fun q D => ∃ i : Nat, q = l.length - i ∧ i ≤ l.length ∧ (∀ j x, j < i → l[j]? = some x → v ≠ x) ∧ D.s 0 = .im pm A cap l.length (iL l) ∧ D.s 1 = .int .i64 v ∧ D.s 7 = .int .i64 (l.length : Int) ∧ D.s 8 = .int .i64 (i : Int) ∧ D.m = []) (n := l.length) ⟨0, by simp⟩ (by omega) ?_)
 rintro q D ⟨i, hn, hi, hpre, d0, d1, d7, d8, dm⟩
 simp only [liveOf14, clear_none]
 refine EvP.seq (EvP.region ?_)
 simp [d7, d8]
 refine EvP.seq (EvP.cond (t := decide (i < l.length)) (by simp) (fun h => EvP.skip ?_) (fun h => EvP.exit ?_))
 ·have hlt : i < l.length := by simpa using h
  simp only [thenE_norm]
  refine EvP.seq (EvP.block (EvP.seq (EvP.region ?_)))
  simp [d8]
  refine EvP.seq (EvP.region ?_)
  by_cases hv : v = l[i]
  ·simp [d0, d1, hlt, hv]
   refine EvP.cond (t := true) (by simp) (fun _ => ?_) (fun h => by cases h)
   refine EvP.seq (EvP.region ?_)
   simp
   refine EvP.ret ?_
   simp [dm]
   have := idxZ_hit (k := 0) hpre (by rw [List.getElem?_eq_getElem hlt, hv])
   rw [← hv]; omega
  ·simp [d0, d1, hlt, hv]
   refine EvP.cond (t := false) (by simp [hv]) (fun h => by cases h) (fun _ => EvP.skip ?_)
   simp
   refine EvP.region ?_
   simp [d0, d1, d7, d8]
   refine ⟨_, by omega, i + 1, rfl, by omega, fun j x hj hx => ?_, wrap_succ (by omega), dm⟩
   by_cases hji : j = i
   ·subst hji
    rw [List.getElem?_eq_getElem hlt] at hx; cases hx; exact hv
   ·exact hpre j x (by omega) hx
 ·have hlt : ¬ i < l.length := by simpa using h
  simp
  refine EvP.seq (EvP.region ?_)
  simp
  refine EvP.ret ?_
  simp [dm]
  refine (idxZ_miss fun hm => ?_).symm
  obtain ⟨j, hj, he⟩ := List.getElem_of_mem hm
  exact hpre j _ (by omega) (List.getElem?_eq_getElem hj) he.symm
theorem contains32 (pm : Bool) (A : Option Addr) (cap : Nat) (l : List Int) (v : Int) (hl : l.length ≤ maxLen) : AnsN (l.length + 1 + 1 + 1) Tryd.prog H14 95 [.im pm A cap l.length (iL l), .int .i64 v] (.bool (decide (v ∈ l))) := by
 refine AnsN.of (fn := Tryd.f95) (t := 4) (by rfl) Tryd.func95 rfl rfl (by rfl) (by rfl) fun k hk nx => ?_
 have hc := index42 false A cap l v hl k hk
 have hv : (0 ≤ idxZ v l 0) ↔ v ∈ l := idxZ_nonneg
 refine EvP.seq (EvP.region ?_)
 simp [entryS]
 refine EvP.seq (EvP.region ?_)
 simp [hc, hv]
 refine EvP.ret ?_
 simp
theorem done23 (s : Scn) (hs : ScnOk s) (x : Dev) (rd : Int) : AnsN (s.corrupt.length + 1 + 1 + 1 + 1) Tryd.prog H14 84 [scV s, devV x, .int .i64 rd] (.bool (decide (x.round = rd ∧ x.from_ ∈ s.corrupt))) := by
 refine AnsN.of (fn := Tryd.f84) (t := 6) (by rfl) Tryd.func84 rfl rfl (by rfl) (by rfl) fun k hk nx => ?_
 have hc := contains32 false s.cA s.ccap s.corrupt x.from_ hs.c k hk
 refine EvP.seq (EvP.region ?_)
 simp [entryS, scV, scL, devV]
 refine EvP.seq (EvP.region ?_)
 by_cases h : x.round = rd
 ·simp [hc, h]
  refine EvP.ret ?_
  simp
  rintro a b (⟨rfl, _⟩ | ⟨rfl, _⟩) <;> omega
 ·have hb : (x.round == rd) = false := by simp [h]
  simp [hc, hb]
  refine EvP.ret ?_
  simp [h]
  rintro a b (⟨rfl, _⟩ | ⟨rfl, _⟩) <;> omega
def wordS (l : List Nat) (i : Int) : Nat := if 0 ≤ i then l[i.toNat]?.getD 0 else 0
theorem word36 (pm : Bool) (A : Option Addr) (cap : Nat) (l : List Nat) (i : Int) : AnsN 1 Tryd.prog H14 99 [.im pm A cap l.length (uL l), .int .i64 i] (.int .u64 ((wordS l i : Nat) : Int)) := by
 refine AnsN.of (N := 0) (fn := Tryd.f99) (t := 4) (by rfl) Tryd.func99 rfl rfl (by rfl) (by rfl) fun k hk nx => ?_
 refine EvP.seq (EvP.region ?_)
 simp [entryS]
 refine EvP.seq (EvP.seq (EvP.region ?_))
 by_cases h0 : i < 0
 ·have hn : ¬ 0 ≤ i := by omega
  simp [h0]
  refine EvP.cond (t := true) (by simp) (fun _ => ?_) (fun h => by cases h)
  refine EvP.seq (EvP.region ?_)
  simp
  refine EvP.ret ?_
  simp [wordS, hn]
 ·obtain ⟨j, rfl⟩ : ∃ j : Nat, i = j := ⟨i.toNat, by omega⟩
  have hn : (0 : Int) ≤ (j : Int) := by omega
  by_cases h1 : j < l.length
  ·have h2 : ¬ l.length ≤ j := by omega
   simp [h0, h2]
   refine EvP.cond (t := false) (by simp [h2]) (fun h => by cases h) (fun _ => EvP.skip ?_)
   simp
   refine EvP.seq (EvP.region ?_)
   simp [h1]
   refine EvP.ret ?_
   simp [wordS, h1, hn]
  ·have h2 : l.length ≤ j := by omega
   simp [h0, h2]
   refine EvP.cond (t := true) (by simp [h2]) (fun _ => ?_) (fun h => by cases h)
   refine EvP.seq (EvP.region ?_)
   simp
   refine EvP.ret ?_
   simp [wordS, h1, hn]
end Go.Abs
end
