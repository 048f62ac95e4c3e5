/- Joined: AbsLP AbsLA AbsSB AbsSC AbsSD AbsSK AbsSE AbsSL AbsSM AbsSG AbsSH AbsSI AbsSF. -/
import Derived.Test.YtdfnadckkcdldaaAbs8
import Derived.Test.YtdfnadckkcdldaaRows
set_option linter.all false
/- The seat of privitylaw13: hints, contracts. -/
set_option linter.unusedVariables false
noncomputable section
namespace Go.Abs
open Go Go.Proofs

def addX : List V → Option V
  | [.int .u64 x, .int .u64 y, .int .u64 c] => if 0 ≤ x ∧ 0 ≤ y ∧ 0 ≤ c ∧ c ≤ 1 then some (.tup [.int .u64 ((x + y + c) % 18446744073709551616), .int .u64 ((x + y + c) / 18446744073709551616)]) else none
  | _ => none
def X13 (f : Nat) (l : List V) : Option V := if f = 34 then cloneX 8 l else if f = 22 then cloneX 24 l else if f = 47 then addX l else none
def plan13 (f id : Nat) : Option (List Nat) :=
  if f = 3 ∧ id = 3 then some [0, 1, 2, 3, 4, 5, 6, 7, 9, 10, 11, 12, 13, 14, 8, 15, 16, 17, 18] else
  if f = 4 ∧ id = 3 then some [0, 1, 2, 3, 4, 5, 6, 7, 9, 10, 11, 12, 13, 14, 8, 15, 16, 17, 18] else
  if f = 5 ∧ id = 3 then some [0, 1, 2, 3, 4, 5, 7, 8, 9, 10, 11, 12, 6, 13, 14, 15] else
  if f = 6 ∧ id = 11 then some [0, 1, 2, 3, 4, 5, 6, 7, 9, 10, 11, 12, 13, 8, 14, 15, 16, 17, 18, 19, 20, 21, 22, 23, 25, 26, 27, 28, 29, 24, 30, 31, 32, 33, 34, 35, 36, 37, 38, 40, 41, 39, 42, 43, 44, 45, 46, 47, 48, 49, 51, 52, 50, 53, 54, 55] else
  if f = 7 ∧ id = 14 then some [0, 1, 2, 3, 4, 5, 7, 8, 9, 10, 11, 6, 12, 13, 14] else
  if f = 8 ∧ id = 11 then some [0, 1, 2, 3, 4, 6, 7, 8, 9, 10, 5, 11, 12, 13] else
  if f = 8 ∧ id = 19 then some [0, 1, 2, 3, 4, 5, 6, 8, 9, 10, 11, 12, 13, 7, 14, 15, 16, 17, 18, 19, 20, 21, 22, 24, 25, 26, 27, 28, 29, 23, 30, 31, 32, 33] else
  if f = 9 ∧ id = 16 then some [0, 1, 2, 3, 4, 5, 6, 7, 9, 10, 11, 12, 13, 8, 14, 15, 16, 17, 18, 19, 20, 21, 22, 23, 25, 26, 27, 28, 29, 24, 30, 31, 32, 33] else
  if f = 26 ∧ id = 15 then some [0, 1, 2, 3, 4, 5, 6, 7, 8, 9, 10, 11, 12, 13, 15, 14, 16, 17, 18, 19, 20] else
  none
def end8 : Pl := .one 8 (.one 9 (.one 10 .fin))
def end10 : Pl := .one 14 (.one 15 (.one 16 .fin))
def tree13 (f id : Nat) : Option Pl :=
  if f = 8 ∧ id = 8 then some (.one 1 (.one 2 (.one 3 (.one 5 (.one 6 (.two 0 (.two 4 (.one 7 end8) 7 (.one 4 end8)) 7 (.one 0 (.one 4 end8)))))))) else
  if f = 8 ∧ id = 10 then some (.one 1 (.one 2 (.one 3 (.one 5 (.one 6 (.one 7 (.one 8 (.one 9 (.one 10 (.one 11 (.one 12 (.two 0 (.two 4 (.one 13 end10) 13 (.one 4 end10)) 13 (.one 0 (.one 4 end10)))))))))))))) else
  none
def H13 : Hint := { tree := tree13, q := fun f id i => decide (f = 8 ∧ (id = 8 ∨ id = 10) ∧ i = 4), G := fun _ => none, sg := fun _ => [], fz := fun f id i => decide (f = 6 ∧ id = 5 ∧ i = 2), live := fun _ _ => none, fr := fun _ => false, X := X13, plan := plan13, mc := fun _ _ => [], good := fun _ => true }

theorem cloneX_sm (b : Nat) {l l' : List V} (h : SmL l l') : OptR Sm (cloneX b l) (cloneX b l') := by
  cases h with
  | nil => exact .none
  | cons h1 h2 =>
    cases h2 with
    | nil =>
      cases h1 with
      | im hc =>
        simp only [cloneX, hc.length, all_sm (f := cellIn) cellIn_sm hc]
        split
        · exact .some (.own hc)
        · exact .none
      | _ => exact .none
    | cons h3 h4 => cases h1 <;> exact .none
theorem addX_sm {l l' : List V} (h : SmL l l') : OptR Sm (addX l) (addX l') := by
  have key : ∀ {l l' : List V}, SmL l l' → (∃ x y c, l = [.int .u64 x, .int .u64 y, .int .u64 c]) → l' = l := by
    rintro l l' h ⟨x, y, c, rfl⟩
    cases h with
    | cons h1 h2 =>
      cases h1
      cases h2 with
      | cons h3 h4 =>
        cases h3
        cases h4 with
        | cons h5 h6 => cases h5; cases h6; rfl
  by_cases hl : ∃ x y c, l = [.int .u64 x, .int .u64 y, .int .u64 c]
  · rw [key h hl]
    cases addX l with
    | none => exact .none
    | some v => exact .some (Sm.refl v)
  · have hl' : ¬ ∃ x y c, l' = [.int .u64 x, .int .u64 y, .int .u64 c] := by
      rintro ⟨x, y, c, rfl⟩
      apply hl
      cases h with
      | cons h1 h2 =>
        cases h1
        cases h2 with
        | cons h3 h4 =>
          cases h3
          cases h4 with
          | cons h5 h6 => cases h5; cases h6; exact ⟨_, _, _, rfl⟩
    have e1 : addX l = none := by
      unfold addX
      split
      · exact absurd ⟨_, _, _, rfl⟩ hl
      · rfl
    have e2 : addX l' = none := by
      unfold addX
      split
      · exact absurd ⟨_, _, _, rfl⟩ hl'
      · rfl
    rw [e1, e2]; exact .none
theorem X13_sm : XSm H13 := by
  intro f xs xs' h
  show OptR Sm (X13 f xs) (X13 f xs')
  unfold X13
  split
  · exact cloneX_sm _ h
  · split
    · exact cloneX_sm _ h
    · split
      · exact addX_sm h
      · exact .none

/-! ### the program, looked at once -/
theorem mixed13 : Try.prog.follows .mixedOrders = true := by kernel_rfl
theorem prog13 : progB Try.prog H13 = true := by kernel_rfl

end Go.Abs
end
/- The seat of privitylaw13: contracts. -/
set_option linter.unusedVariables false
noncomputable section
namespace Go.Abs
open Go Go.Proofs

section
variable {E : Env} {ex : List V} {w : World}
theorem szT (t k : Nat) (h : (match Try.prog.info? t with | some i => some i.size | none => none) = some k) : sizeT Try.prog t = some k := h
theorem s22 : sizeT Try.prog 22 = some 1 := by kernel_rfl
theorem s42 : sizeT Try.prog 42 = some 1 := by kernel_rfl
theorem b22 : bytesT Try.prog 22 = some 8 := by kernel_rfl
theorem b42 : bytesT Try.prog 42 = some 24 := by kernel_rfl
theorem z22 : zeroT Try.prog 22 = some [.int .u64 0] := by kernel_rfl
theorem z42 : zeroT Try.prog 42 = some [.own .nil 0 0 []] := by kernel_rfl
set_option maxRecDepth 100000 in
theorem clone34 {xs : List V} {r : V} (hX : cloneX 8 xs = some r) {nx : Nat} {us : List Value} (hI : Inv E 0 (emptyS [] nx) ex w) (hu' : ∀ D, PRL E.β D xs us) (hflat : noRowL xs = true) (hat : ∀ b ∈ atomsL xs, AtOk E w nx (fun k => k ∈ keysD 0 (emptyS [] nx) ex) b) :
    FGood Try.prog 34 us w (Back E [] nx ex w r [] nx) := by
  refine clone_ok (f := 34) (fn := Try.f34) (t := 42) (t2 := 42) (e := 22) (by_ := 8) (z := .dead) mixed13 Try.func34 (by decide +kernel) rfl rfl rfl rfl rfl rfl rfl rfl rfl rfl Try.underlying42 (by kernel_rfl) (by kernel_rfl) (by kernel_rfl) ?_ ?_ ?_ hX hI hu' hflat hat
  · intro D; simp [evCode, evOps, evOp, ev, ofVal, ofCell, wantedV, settle]
  · intro D; simp [evCode, evOps, evOp, ev, ofVal, ofCell, wantedV, settle]
  · intro D pm A cap n cs hD hl hc h1 h2
    subst hl
    simp [evCode, evOps, evOp, ev, evL, evParts, settleP, fillV, rep, ofVal, ofCell, wantedV, settle, Try.underlying42, s22, b22, z22, St.lay, St.put, noRow, killAll, kill, view, hD, doBuiltin, appendV, bring, take, look, go, setAt, goSet, hc, h1, h2, bare0]
set_option maxRecDepth 100000 in
theorem clone22 {xs : List V} {r : V} (hX : cloneX 24 xs = some r) {nx : Nat} {us : List Value} (hI : Inv E 0 (emptyS [] nx) ex w) (hu' : ∀ D, PRL E.β D xs us) (hflat : noRowL xs = true) (hat : ∀ b ∈ atomsL xs, AtOk E w nx (fun k => k ∈ keysD 0 (emptyS [] nx) ex) b) :
    FGood Try.prog 22 us w (Back E [] nx ex w r [] nx) := by
  refine clone_ok (f := 22) (fn := Try.f22) (t := 27) (t2 := 27) (e := 42) (by_ := 24) (z := .dead) mixed13 Try.func22 (by decide +kernel) rfl rfl rfl rfl rfl rfl rfl rfl rfl rfl Try.underlying27 (by kernel_rfl) (by kernel_rfl) (by kernel_rfl) ?_ ?_ ?_ hX hI hu' hflat hat
  · intro D; simp [evCode, evOps, evOp, ev, ofVal, ofCell, wantedV, settle]
  · intro D; simp [evCode, evOps, evOp, ev, ofVal, ofCell, wantedV, settle]
  · intro D pm A cap n cs hD hl hc h1 h2
    subst hl
    simp [evCode, evOps, evOp, ev, evL, evParts, settleP, fillV, rep, ofVal, ofCell, wantedV, settle, Try.underlying27, s42, b42, z42, St.lay, St.put, noRow, killAll, kill, view, hD, doBuiltin, appendV, bring, take, look, go, setAt, goSet, hc, h1, h2, bare0]

def addRow : Array Value → Sem Value := match Extern.MathBitsCarry.rows with | (_, r) :: _ => r | [] => fun _ => stuck ""
theorem add_find : Extern.findNext Try.f47 = none ∧ Extern.find Try.f47 = some addRow := ⟨by kernel_rfl, by kernel_rfl⟩
theorem add47 {xs : List V} {r : V} (hX : addX xs = some r) {nx : Nat} {us : List Value} (hI : Inv E 0 (emptyS [] nx) ex w) (hu' : ∀ D, PRL E.β D xs us) :
    FGood Try.prog 47 us w (Back E [] nx ex w r [] nx) := by
  unfold addX at hX
  split at hX
  case h_2 => cases hX
  rename_i x y c
  split at hX
  case isFalse => cases hX
  rename_i hc
  cases hX
  obtain ⟨c1, c2, c3, c4⟩ := hc
  obtain ⟨u1, us1, rfl, e1, u2, us2, rfl, e2, u3, us3, rfl, e3, e4⟩ := hu' (emptyS [] nx)
  have e1 : u1 = .int .u64 x := e1
  have e2 : u2 = .int .u64 y := e2
  have e3 : u3 = .int .u64 c := e3
  have e4 : us3 = [] := e4
  subst e1 e2 e3 e4
  refine .inr ⟨.tuple #[.int .u64 ((x + y + c) % 18446744073709551616), .int .u64 ((x + y + c) / 18446744073709551616)], w, ?_, ?_⟩
  · have hnm : ¬ Try.f47.name = "runtime.NumGoroutine" := by decide +kernel
    have hbd : Try.f47.body = none := rfl
    have fin : ∀ k : Nat, c = k → (addRow #[.int .u64 x, .int .u64 y, .int .u64 c]).run Try.prog w = .ok (.tuple #[.int .u64 (Int.ofNat ((x.toNat + y.toNat + k) % 18446744073709551616)), .int .u64 (Int.ofNat ((x.toNat + y.toNat + k) / 18446744073709551616))]) w →
        (addRow #[.int .u64 x, .int .u64 y, .int .u64 c]).run Try.prog w = .ok (.tuple #[.int .u64 ((x + y + c) % 18446744073709551616), .int .u64 ((x + y + c) / 18446744073709551616)]) w := by
      intro k hk h
      rw [h, hk]
      have q1 : (Int.ofNat ((x.toNat + y.toNat + k) % 18446744073709551616)) = (x + y + k) % 18446744073709551616 := by
        show (((x.toNat + y.toNat + k) % 18446744073709551616 : Nat) : Int) = _
        omega
      have q2 : (Int.ofNat ((x.toNat + y.toNat + k) / 18446744073709551616)) = (x + y + k) / 18446744073709551616 := by
        show (((x.toNat + y.toNat + k) / 18446744073709551616 : Nat) : Int) = _
        omega
      rw [q1, q2]
    have run : (addRow #[.int .u64 x, .int .u64 y, .int .u64 c]).run Try.prog w = .ok (.tuple #[.int .u64 ((x + y + c) % 18446744073709551616), .int .u64 ((x + y + c) / 18446744073709551616)]) w := by
      have hcc : c = 0 ∨ c = 1 := by omega
      rcases hcc with rfl | rfl
      · exact fin 0 rfl rfl
      · exact fin 1 rfl rfl
    have hmark : (mark (.extern 47)).run Try.prog w = .ok () w := rfl
    simp [callFunc, Try.func47, hnm, hbd, add_find, run, hmark]
  · have hs : Seen E 0 (emptyS [] nx) ex w (.tup [.int .u64 ((x + y + c) % 18446744073709551616), .int .u64 ((x + y + c) / 18446744073709551616)]) (.tuple #[.int .u64 ((x + y + c) % 18446744073709551616), .int .u64 ((x + y + c) / 18446744073709551616)]) :=
      ⟨⟨[_, _], rfl, _, _, rfl, rfl, _, _, rfl, rfl, rfl⟩, fun b hb => by simp [atoms, atomsL] at hb, fun e he => by simp [rows, rowsL] at he⟩
    obtain ⟨h1, h2⟩ := hs.join hI
    exact ⟨E, _, [], Sm.refl _, .nil, h1, fun D => ⟨[_, _], rfl, _, _, rfl, rfl, _, _, rfl, rfl, rfl⟩, h2⟩
end
theorem CX13 : CalleeOk Try.prog H13 (CX H13) := by
  intro f xs m nx r m2 nx2 h E ex w us hI hu hflat hat hG
  unfold CX at h
  split at h
  case h_2 => cases h
  split at h
  case h_2 => cases h
  rename_i r' hx
  cases h
  have hx : X13 f xs = some r := hx
  unfold X13 at hx
  split at hx
  · rename_i hf; subst hf; exact clone34 hx hI hu hflat hat
  · split at hx
    · rename_i hf; subst hf; exact clone22 hx hI hu hflat hat
    · split at hx
      · rename_i hf; subst hf; exact add47 hx hI hu
      · cases hx
end Go.Abs
end
/- The seat of privitylaw13: sizes; the evaluator's words for simp. -/
set_option linter.unusedVariables false
noncomputable section
namespace Go.Abs
open Go Go.Proofs

@[simp] theorem sz2 : sizeT Try.prog 2 = some 1 := by kernel_rfl
@[simp] theorem ag2 : aggT Try.prog 2 = some false := by kernel_rfl
@[simp] theorem by2 : bytesT Try.prog 2 = some 8 := by kernel_rfl
@[simp] theorem sz3 : sizeT Try.prog 3 = some 1 := by kernel_rfl
@[simp] theorem ag3 : aggT Try.prog 3 = some false := by kernel_rfl
@[simp] theorem by3 : bytesT Try.prog 3 = some 8 := by kernel_rfl
@[simp] theorem sz4 : sizeT Try.prog 4 = some 1 := by kernel_rfl
@[simp] theorem ag4 : aggT Try.prog 4 = some false := by kernel_rfl
@[simp] theorem by4 : bytesT Try.prog 4 = some 1 := by kernel_rfl
@[simp] theorem sz5 : sizeT Try.prog 5 = some 1 := by kernel_rfl
@[simp] theorem ag5 : aggT Try.prog 5 = some false := by kernel_rfl
@[simp] theorem by5 : bytesT Try.prog 5 = some 1 := by kernel_rfl
@[simp] theorem sz6 : sizeT Try.prog 6 = some 1 := by kernel_rfl
@[simp] theorem ag6 : aggT Try.prog 6 = some false := by kernel_rfl
@[simp] theorem by6 : bytesT Try.prog 6 = some 1 := by kernel_rfl
@[simp] theorem sz12 : sizeT Try.prog 12 = some 1 := by kernel_rfl
@[simp] theorem ag12 : aggT Try.prog 12 = some false := by kernel_rfl
@[simp] theorem by12 : bytesT Try.prog 12 = some 8 := by kernel_rfl
@[simp] theorem sz21 : sizeT Try.prog 21 = some 1 := by kernel_rfl
@[simp] theorem ag21 : aggT Try.prog 21 = some false := by kernel_rfl
@[simp] theorem by21 : bytesT Try.prog 21 = some 4 := by kernel_rfl
@[simp] theorem sz22 : sizeT Try.prog 22 = some 1 := by kernel_rfl
@[simp] theorem ag22 : aggT Try.prog 22 = some false := by kernel_rfl
@[simp] theorem by22 : bytesT Try.prog 22 = some 8 := by kernel_rfl
@[simp] theorem sz23 : sizeT Try.prog 23 = some 3 := by kernel_rfl
@[simp] theorem ag23 : aggT Try.prog 23 = some true := by kernel_rfl
@[simp] theorem by23 : bytesT Try.prog 23 = some 24 := by kernel_rfl
@[simp] theorem sz24 : sizeT Try.prog 24 = some 3 := by kernel_rfl
@[simp] theorem ag24 : aggT Try.prog 24 = some true := by kernel_rfl
@[simp] theorem by24 : bytesT Try.prog 24 = some 24 := by kernel_rfl
@[simp] theorem sz25 : sizeT Try.prog 25 = some 1 := by kernel_rfl
@[simp] theorem ag25 : aggT Try.prog 25 = some false := by kernel_rfl
@[simp] theorem by25 : bytesT Try.prog 25 = some 24 := by kernel_rfl
@[simp] theorem sz26 : sizeT Try.prog 26 = some 1 := by kernel_rfl
@[simp] theorem ag26 : aggT Try.prog 26 = some false := by kernel_rfl
@[simp] theorem by26 : bytesT Try.prog 26 = some 24 := by kernel_rfl
@[simp] theorem sz27 : sizeT Try.prog 27 = some 1 := by kernel_rfl
@[simp] theorem ag27 : aggT Try.prog 27 = some false := by kernel_rfl
@[simp] theorem by27 : bytesT Try.prog 27 = some 24 := by kernel_rfl
@[simp] theorem sz28 : sizeT Try.prog 28 = some 6 := by kernel_rfl
@[simp] theorem ag28 : aggT Try.prog 28 = some true := by kernel_rfl
@[simp] theorem by28 : bytesT Try.prog 28 = some 96 := by kernel_rfl
@[simp] theorem sz29 : sizeT Try.prog 29 = some 6 := by kernel_rfl
@[simp] theorem ag29 : aggT Try.prog 29 = some true := by kernel_rfl
@[simp] theorem by29 : bytesT Try.prog 29 = some 96 := by kernel_rfl
@[simp] theorem sz30 : sizeT Try.prog 30 = some 1 := by kernel_rfl
@[simp] theorem ag30 : aggT Try.prog 30 = some false := by kernel_rfl
@[simp] theorem by30 : bytesT Try.prog 30 = some 24 := by kernel_rfl
@[simp] theorem sz31 : sizeT Try.prog 31 = some 9 := by kernel_rfl
@[simp] theorem ag31 : aggT Try.prog 31 = some true := by kernel_rfl
@[simp] theorem by31 : bytesT Try.prog 31 = some 152 := by kernel_rfl
@[simp] theorem sz32 : sizeT Try.prog 32 = some 9 := by kernel_rfl
@[simp] theorem ag32 : aggT Try.prog 32 = some true := by kernel_rfl
@[simp] theorem by32 : bytesT Try.prog 32 = some 152 := by kernel_rfl
@[simp] theorem sz40 : sizeT Try.prog 40 = some 8 := by kernel_rfl
@[simp] theorem ag40 : aggT Try.prog 40 = some true := by kernel_rfl
@[simp] theorem by40 : bytesT Try.prog 40 = some 64 := by kernel_rfl
@[simp] theorem sz41 : sizeT Try.prog 41 = some 8 := by kernel_rfl
@[simp] theorem ag41 : aggT Try.prog 41 = some true := by kernel_rfl
@[simp] theorem by41 : bytesT Try.prog 41 = some 64 := by kernel_rfl
@[simp] theorem sz42 : sizeT Try.prog 42 = some 1 := by kernel_rfl
@[simp] theorem ag42 : aggT Try.prog 42 = some false := by kernel_rfl
@[simp] theorem by42 : bytesT Try.prog 42 = some 24 := by kernel_rfl
@[simp] theorem sz67 : sizeT Try.prog 67 = some 1 := by kernel_rfl
@[simp] theorem ag67 : aggT Try.prog 67 = some false := by kernel_rfl
@[simp] theorem by67 : bytesT Try.prog 67 = some 8 := by kernel_rfl
@[simp] theorem sz78 : sizeT Try.prog 78 = some 1 := by kernel_rfl
@[simp] theorem ag78 : aggT Try.prog 78 = some false := by kernel_rfl
@[simp] theorem by78 : bytesT Try.prog 78 = some 4 := by kernel_rfl
@[simp] theorem sz79 : sizeT Try.prog 79 = some 1 := by kernel_rfl
@[simp] theorem ag79 : aggT Try.prog 79 = some false := by kernel_rfl
@[simp] theorem by79 : bytesT Try.prog 79 = some 1 := by kernel_rfl
attribute [simp] Try.underlying2 Try.underlying3 Try.underlying4 Try.underlying5 Try.underlying6 Try.underlying12 Try.underlying21 Try.underlying22 Try.underlying23 Try.underlying24 Try.underlying25 Try.underlying26 Try.underlying27 Try.underlying28 Try.underlying29 Try.underlying30 Try.underlying31 Try.underlying32 Try.underlying40 Try.underlying41 Try.underlying42 Try.underlying67 Try.underlying78 Try.underlying79
attribute [simp] evOps evDraw evOp ev evL evI evParts settleP fillV structPlace rep ofVal ofCell ofCells wantedV settle settleL St.lay St.put noRow noRowL killAll kill killL view viewL doBuiltin appendV bring copyV lenV minmax minmaxA rs take takeF look go goSet setAt sub subL
attribute [simp] capless caplessV takeZ cpD loadV loadAt storeAt canStore target okAddr okPart partV moveV cutV capM takeC bin intOp shOp isSh isNil eq0 ne0 un V.scalar V.cells cellIn solid solidL frz frzL noBor noBorL ptrs ptrsL lend lendL lendArgs hasRef hasRefL lendsB doCall reach getBox setBox St.newAt St.new killB killBL othersM litB mutB quietB planOf muOf strOf packRes
attribute [simp] X13 plan13 List.range List.range.loop mutB
@[simp] theorem H13_G : H13.G = fun _ => none := rfl
@[simp] theorem H13_sg : H13.sg = fun _ => [] := rfl
@[simp] theorem H13_q : H13.q = fun f id i => decide (f = 8 ∧ (id = 8 ∨ id = 10) ∧ i = 4) := rfl
@[simp] theorem H13_fz : H13.fz = fun f id i => decide (f = 6 ∧ id = 5 ∧ i = 2) := rfl
@[simp] theorem H13_live : H13.live = fun _ _ => none := rfl
@[simp] theorem H13_fr : H13.fr = fun _ => false := rfl
@[simp] theorem H13_X : H13.X = X13 := rfl
@[simp] theorem H13_plan : H13.plan = plan13 := rfl
@[simp] theorem H13_mc : H13.mc = fun _ _ => [] := rfl
@[simp] theorem liveOf13 (f : Nat) (c : Code) : liveOf H13 f c = none := by unfold liveOf; split <;> rfl
@[simp] theorem clear_none (D : St) : clear none D = D := rfl
/-- Words, as they lie in memory; a message with its place; messages. -/
def uL (l : List Nat) : List V := l.map fun (x : Nat) => V.int .u64 (x : Int)
@[simp] theorem uL_length (l : List Nat) : (uL l).length = l.length := by simp [uL]
@[simp] theorem uL_getElem (l : List Nat) (i : Nat) (h : i < (uL l).length) : (uL l)[i] = .int .u64 ((l[i]'(by simpa using h) : Nat) : Int) := by simp [uL]
structure RD where
  pm : Bool
  A : Option Addr
  cap : Nat
  l : List Nat
def rV (r : RD) : V := .im r.pm r.A r.cap r.l.length (uL r.l)
def rsV (rs : List RD) : List V := rs.map rV
@[simp] theorem rsV_length (rs : List RD) : (rsV rs).length = rs.length := by simp [rsV]
@[simp] theorem rsV_getElem (rs : List RD) (i : Nat) (h : i < (rsV rs).length) : (rsV rs)[i] = .im (rs[i]'(by simpa using h)).pm (rs[i]'(by simpa using h)).A (rs[i]'(by simpa using h)).cap (rs[i]'(by simpa using h)).l.length (uL (rs[i]'(by simpa using h)).l) := by simp [rsV, rV]
theorem sum_mem {l : List Nat} {x : Nat} (h : x ∈ l) : x ≤ l.sum := by
  induction l with
  | nil => cases h
  | cons y l ih =>
    rcases List.mem_cons.1 h with rfl | h
    · simp
    · have := ih h; simp; omega
theorem wrap_nat {x : Int} (h0 : 0 ≤ x) (h : x ≤ 9223372036854775807) : IntKind.i64.wrap x = x := by
  unfold IntKind.wrap
  simp [IntKind.signed, IntKind.bits]
  omega
theorem wrap_succ {q : Nat} (h : q < 9223372036854775807) : IntKind.i64.wrap ((q : Int) + 1) = ((q + 1 : Nat) : Int) := by
  rw [wrap_nat (by omega) (by omega)]; omega
end Go.Abs
end
set_option linter.unusedVariables false
noncomputable section
namespace Go.Abs
open Go Go.Proofs
set_option maxHeartbeats 1000000 in
set_option maxRecDepth 100000 in
/-- word(l, i) -/
theorem word40 (pm : Bool) (A : Option Addr) (cap : Nat) (l : List Nat) (i : Int) : Ans Try.prog H13 40 [.im pm A cap l.length (uL l), .int .i64 i] (.int .u64 ((if 0 ≤ i then l[i.toNat]?.getD 0 else 0 : Nat) : Int)) := by
  refine Ans.of (fn := Try.f40) (t := 4) (by rfl) Try.func40 rfl rfl (by rfl) (by rfl) ⟨0, fun k hk nx => ?_⟩
  refine EvP.seq (EvP.region ?_)
  simp [entryS]
  refine EvP.seq (EvP.seq (EvP.region ?_))
  by_cases h0 : i < 0
  · simp [h0]
    refine EvP.cond (t := true) (by simp) (fun _ => ?_) (fun h => by cases h)
    refine EvP.seq (EvP.region ?_)
    simp
    refine EvP.ret ?_
    have : ¬ 0 ≤ i := by omega
    simp [this]
  · by_cases h1 : i ≥ l.length
    · simp [h0, h1]
      refine EvP.cond (t := true) (by simp) (fun _ => ?_) (fun h => by cases h)
      refine EvP.seq (EvP.region ?_)
      simp
      refine EvP.ret ?_
      have h2 : l[i.toNat]? = none := List.getElem?_eq_none (by omega)
      simp [h2]
    · simp [h0, h1]
      refine EvP.cond (t := false) (by simp) (fun h => by cases h) (fun _ => EvP.skip ?_)
      simp only [thenE_norm]
      refine EvP.seq (EvP.region ?_)
      have hi : 0 ≤ i := by omega
      have hi2 : i < l.length := by omega
      simp [hi, hi2]
      refine EvP.ret ?_
      simp
set_option maxHeartbeats 4000000 in
set_option maxRecDepth 100000 in
/-- Same(a, b) -/
theorem same12 (pm pm2 : Bool) (A A2 : Option Addr) (cap cap2 : Nat) (a b : List RD) (ha : a.length ≤ maxLen) (hb0 : ∀ r ∈ b, r.l.length ≤ maxLen) : Ans Try.prog H13 12 [.im pm A cap a.length (rsV a), .im pm2 A2 cap2 b.length (rsV b)] (.bool (decide (a.map (·.l) = b.map (·.l)))) := by
  have hml : maxLen = 9223372036854775807 := rfl
  obtain ⟨M, hM⟩ : ∃ M, ∀ r ∈ a, r.l.length < M := by
    refine ⟨(a.map (·.l.length)).sum + 1, fun r hr => ?_⟩
    have : r.l.length ≤ (a.map (·.l.length)).sum := sum_mem (List.mem_map.2 ⟨r, hr, rfl⟩)
    omega
  refine Ans.of (fn := Try.f12) (t := 4) (by rfl) Try.func12 rfl rfl (by rfl) (by rfl) ⟨a.length + 1 + M, fun k hk nx => ?_⟩
  refine EvP.seq (EvP.region ?_)
  simp [entryS]
  refine EvP.seq (EvP.seq (EvP.region ?_))
  simp
  by_cases h0 : a.length = b.length
  · refine EvP.cond (t := false) (by simp [h0]) (fun h => by cases h) (fun _ => EvP.skip ?_)
    simp only [thenE_norm]
    refine EvP.seq (EvP.seq (EvP.region ?_))
    simp
    refine EvP.block (EvP.loop (fun n D => ∃ i : Nat, n = a.length - i ∧ i ≤ a.length ∧ (∀ j, j < i → (a.map (·.l))[j]? = (b.map (·.l))[j]?) ∧ D.s 0 = .im pm A cap a.length (rsV a) ∧ D.s 1 = .im pm2 A2 cap2 b.length (rsV b) ∧ D.s 5 = .int .i64 (i : Int) ∧ D.m = []) (n := a.length) ⟨0, by simp [entryS]⟩ (by omega) ?_)
    rintro n D ⟨i, hn, hi, hpre, d0, d1, d5, dm⟩
    simp only [liveOf13, clear_none]
    refine EvP.seq (EvP.seq (EvP.region ?_))
    simp [d0, d1, d5]
    refine EvP.cond (t := decide (i < a.length)) (by simp) (fun h => EvP.skip ?_) (fun h => EvP.exit ?_)
    · have hlt : i < a.length := by simpa using h
      have hb : i < b.length := by omega
      simp only [thenE_norm]
      refine EvP.seq (EvP.block (EvP.seq (EvP.seq (EvP.draw ?_))))
      by_cases hll : a[i].l.length = b[i].l.length
      · simp [d0, d1, d5, hlt, hb, hll]
        refine EvP.cond (t := false) (by simp) (fun h => by cases h) (fun _ => EvP.skip ?_)
        simp only [thenE_norm]
        refine EvP.seq (EvP.region ?_)
        simp
        refine EvP.block (EvP.loop (fun n D => ∃ q : Nat, n = b[i].l.length - q ∧ q ≤ b[i].l.length ∧ (∀ j, j < q → a[i].l[j]? = b[i].l[j]?) ∧ D.s 0 = .im pm A cap a.length (rsV a) ∧ D.s 1 = .im pm2 A2 cap2 b.length (rsV b) ∧ D.s 5 = .int .i64 (i : Int) ∧ D.s 6 = .int .i64 (q : Int) ∧ D.m = []) (n := b[i].l.length) ⟨0, by simp [d0, d1, d5, dm]⟩ (by have := hM a[i] (List.getElem_mem hlt); omega) ?_)
        rintro n2 D2 ⟨q, hn2, hq, hpre2, e0, e1, e5, e6, em⟩
        simp only [liveOf13, clear_none]
        refine EvP.seq (EvP.seq (EvP.region ?_))
        simp [e0, e1, e5, e6, hlt, hb, hll]
        refine EvP.cond (t := decide (q < b[i].l.length)) (by simp) (fun h => EvP.skip ?_) (fun h => EvP.exit ?_)
        · have hq2 : q < b[i].l.length := by simpa using h
          have hq1 : q < a[i].l.length := by omega
          simp only [thenE_norm]
          refine EvP.seq (EvP.block (EvP.seq (EvP.draw ?_)))
          by_cases hw : a[i].l[q] = b[i].l[q]
          · simp [e0, e1, e5, e6, hlt, hb, hq1, hq2, hw]
            refine EvP.cond (t := false) (by simp) (fun h => by cases h) (fun _ => EvP.skip ?_)
            simp
            refine EvP.region ?_
            have hbl := hb0 b[i] (List.getElem_mem hb)
            simp [e0, e1, e5, e6]
            refine ⟨b[i].l.length - (q + 1), by omega, q + 1, rfl, by omega, fun j hj => ?_, wrap_succ (by omega), em⟩
            by_cases hjq : j = q
            · subst hjq; simp [hq1, hq2, hw]
            · exact hpre2 j (by omega)
          · have hw' : (((a[i].l[q] : Nat) : Int) != ((b[i].l[q] : Nat) : Int)) = true := by simp [bne]; omega
            simp [e0, e1, e5, e6, hlt, hb, hq1, hq2, hw']
            refine EvP.cond (t := true) (by simp) (fun _ => ?_) (fun h => by cases h)
            refine EvP.seq (EvP.region ?_)
            simp
            refine EvP.ret ?_
            simp [em]
            intro he
            have h1 := congrArg (fun (x : List (List Nat)) => x[i]?) he
            simp [hlt, hb] at h1
            have h2 := congrArg (fun (x : List Nat) => x[q]?) h1
            simp [hq1, hq2] at h2
            exact hw h2
        · have hq3 : ¬ q < b[i].l.length := by simpa using h
          have hq2 : q = b[i].l.length := by omega
          simp
          refine EvP.region ?_
          simp [e0, e1, e5, em]
          refine ⟨a.length - (i + 1), by omega, i + 1, rfl, by omega, fun j hj => ?_, wrap_succ (by omega)⟩
          by_cases hji : j = i
          · subst hji
            simp [hlt, hb]
            refine List.ext_getElem? fun t => ?_
            by_cases ht : t < q
            · exact hpre2 t ht
            · rw [List.getElem?_eq_none (by omega), List.getElem?_eq_none (by omega)]
          · have := hpre j (by omega)
            simpa using this
      · have hll' : (((a[i].l.length : Nat) : Int) != ((b[i].l.length : Nat) : Int)) = true := by simp [bne]; omega
        simp [d0, d1, d5, hlt, hb, hll']
        refine EvP.cond (t := true) (by simp) (fun _ => ?_) (fun h => by cases h)
        refine EvP.seq (EvP.region ?_)
        simp
        refine EvP.ret ?_
        simp [dm]
        intro he
        have h1 := congrArg (fun (x : List (List Nat)) => (x[i]?).map List.length) he
        simp [hlt, hb] at h1
        exact hll h1
    · have hie0 : ¬ i < a.length := by simpa using h
      have hie : i = a.length := by omega
      simp
      refine EvP.seq (EvP.region ?_)
      simp
      refine EvP.ret ?_
      simp [dm]
      refine List.ext_getElem? fun t => ?_
      by_cases ht : t < i
      · exact hpre t ht
      · rw [List.getElem?_eq_none (by simp; omega), List.getElem?_eq_none (by simp; omega)]
  · have h0' : (((a.length : Nat) : Int) != ((b.length : Nat) : Int)) = true := by simp [bne]; omega
    refine EvP.cond (t := true) (by simp [h0']) (fun _ => ?_) (fun h => by cases h)
    refine EvP.seq (EvP.region ?_)
    simp
    refine EvP.ret ?_
    simp
    intro he
    have := congrArg List.length he
    simp at this
    exact h0 this
end Go.Abs
end
/- The seat of privitylaw13: supported primes. -/
set_option linter.unusedVariables false
noncomputable section
namespace Go.Abs
open Go Go.Proofs

def primes7 : List Nat := [31, 127, 8191, 131071, 524287, 2147483647, 2305843009213693951]
def exps7 : List Nat := [5, 7, 13, 17, 19, 31, 61]
def expOf (p : Nat) : Nat := if p = 31 then 5 else if p = 127 then 7 else if p = 8191 then 13 else if p = 131071 then 17 else if p = 524287 then 19 else if p = 2147483647 then 31 else if p = 2305843009213693951 then 61 else 0
theorem exps48 : Ans Try.prog H13 48 [] (.own .nil 0 7 [.int .i64 5, .int .i64 7, .int .i64 13, .int .i64 17, .int .i64 19, .int .i64 31, .int .i64 61]) :=
  ⟨1, fun n hn nx => by
    obtain ⟨m, rfl⟩ : ∃ m, n = m + 1 := ⟨n - 1, by omega⟩
    kernel_rfl⟩
theorem wr (k : IntKind) (x y : Int) (h : k.wrap x = y) : k.wrap x = y := h
set_option maxHeartbeats 8000000 in
set_option maxRecDepth 100000 in
theorem exp45 (p : Nat) : Ans Try.prog H13 45 [.int .u64 (p : Int)] (.int .i64 (expOf p : Int)) := by
  obtain ⟨N1, h1⟩ := exps48
  refine Ans.of (fn := Try.f45) (t := 2) (by rfl) Try.func45 rfl rfl (by rfl) (by rfl) ⟨N1 + 9, fun k hk nx => ?_⟩
  have hc := h1 k (by omega)
  refine EvP.seq (EvP.region ?_)
  simp [entryS]
  refine EvP.seq (EvP.region ?_)
  simp [hc]
  refine EvP.seq (EvP.seq (EvP.region ?_))
  simp
  refine EvP.block (EvP.loop (fun n D => ∃ i : Nat, n = 7 - i ∧ i ≤ 7 ∧ (∀ t, t < i → primes7[t]? ≠ some p) ∧ D.s 0 = .int .u64 (p : Int) ∧ D.s 3 = .own .nil 0 7 [.int .i64 5, .int .i64 7, .int .i64 13, .int .i64 17, .int .i64 19, .int .i64 31, .int .i64 61] ∧ D.s 4 = .int .i64 (i : Int) ∧ D.m = []) (n := 7) ⟨0, by simp⟩ (by omega) ?_)
  rintro n D ⟨i, hn, hi, hpre, d0, d3, d4, dm⟩
  simp only [liveOf13, clear_none]
  refine EvP.seq (EvP.seq (EvP.region ?_))
  simp [d0, d3, d4]
  refine EvP.cond (t := decide (i < 7)) (by simp; omega) (fun h => EvP.skip ?_) (fun h => EvP.exit ?_)
  · have hlt : i < 7 := by simpa using h
    simp only [thenE_norm]
    refine EvP.seq (EvP.block (EvP.seq (EvP.region ?_)))
    have w5 : IntKind.u64.wrap 5 = 5 := rfl
    have w7 : IntKind.u64.wrap 7 = 7 := rfl
    have w13 : IntKind.u64.wrap 13 = 13 := rfl
    have w17 : IntKind.u64.wrap 17 = 17 := rfl
    have w19 : IntKind.u64.wrap 19 = 19 := rfl
    have w31 : IntKind.u64.wrap 31 = 31 := rfl
    have w61 : IntKind.u64.wrap 61 = 61 := rfl
    have bb : IntKind.u64.bits = 64 := rfl
    have v5 : IntKind.u64.wrap 32 = 32 := rfl
    have v7 : IntKind.u64.wrap 128 = 128 := rfl
    have v13 : IntKind.u64.wrap 8192 = 8192 := rfl
    have v17 : IntKind.u64.wrap 131072 = 131072 := rfl
    have v19 : IntKind.u64.wrap 524288 = 524288 := rfl
    have v31 : IntKind.u64.wrap 2147483648 = 2147483648 := rfl
    have v61 : IntKind.u64.wrap 2305843009213693952 = 2305843009213693952 := rfl
    have x5 : IntKind.u64.wrap 31 = 31 := rfl
    have x7 : IntKind.u64.wrap 127 = 127 := rfl
    have x13 : IntKind.u64.wrap 8191 = 8191 := rfl
    have x17 : IntKind.u64.wrap 131071 = 131071 := rfl
    have x19 : IntKind.u64.wrap 524287 = 524287 := rfl
    have x31 : IntKind.u64.wrap 2147483647 = 2147483647 := rfl
    have x61 : IntKind.u64.wrap 2305843009213693951 = 2305843009213693951 := rfl
    have hcase : i = 0 ∨ i = 1 ∨ i = 2 ∨ i = 3 ∨ i = 4 ∨ i = 5 ∨ i = 6 := by omega
    have next : ∀ t, t < i + 1 → (primes7[i]? ≠ some p) → primes7[t]? ≠ some p := by
      intro t ht hne
      by_cases hti : t = i
      · subst hti; exact hne
      · exact hpre t (by omega)
    by_cases hp : primes7[i]? = some p
    · rcases hcase with rfl | rfl | rfl | rfl | rfl | rfl | rfl <;>
      · simp [primes7] at hp
        subst hp
        simp [d0, d3, d4, w5, w7, w13, w17, w19, w31, w61, bb, v5, v7, v13, v17, v19, v31, v61, x5, x7, x13, x17, x19, x31, x61]
        refine EvP.cond (t := true) (by simp) (fun _ => ?_) (fun h => by cases h)
        refine EvP.seq (EvP.region ?_)
        simp [d0, d3, d4]
        refine EvP.ret ?_
        simp [dm, expOf]
    · have hstep : (∃ n', n' < n ∧ ∃ i_1, n' = 7 - i_1 ∧ i_1 ≤ 7 ∧ (∀ t, t < i_1 → primes7[t]? ≠ some p) ∧ ((i : Int) + 1 = i_1) ∧ D.m = []) := ⟨7 - (i + 1), by omega, i + 1, rfl, by omega, fun t ht => next t ht hp, by omega, dm⟩
      have hw : IntKind.i64.wrap ((i : Int) + 1) = (i : Int) + 1 := wrap_nat (by omega) (by omega)
      rcases hcase with rfl | rfl | rfl | rfl | rfl | rfl | rfl <;>
      · simp [primes7] at hp
        simp [d0, d3, d4, w5, w7, w13, w17, w19, w31, w61, bb, v5, v7, v13, v17, v19, v31, v61, x5, x7, x13, x17, x19, x31, x61]
        refine EvP.cond (t := false) (by simp; omega) (fun h => by cases h) (fun _ => EvP.skip ?_)
        simp
        refine EvP.region ?_
        simp at hw hstep
        simp [d0, d3, d4, hw]
        exact hstep
  · have hlt : ¬ i < 7 := by simpa using h
    have hi7 : i = 7 := by omega
    simp
    refine EvP.seq (EvP.region ?_)
    simp
    refine EvP.ret ?_
    simp [dm]
    have q0 := hpre 0 (by omega); have q1 := hpre 1 (by omega); have q2 := hpre 2 (by omega); have q3 := hpre 3 (by omega); have q4 := hpre 4 (by omega); have q5 := hpre 5 (by omega); have q6 := hpre 6 (by omega)
    simp [primes7] at q0 q1 q2 q3 q4 q5 q6
    unfold expOf
    rw [if_neg (by omega), if_neg (by omega), if_neg (by omega), if_neg (by omega), if_neg (by omega), if_neg (by omega), if_neg (by omega)]
    rfl
/-- Supported(p) -/
theorem sup41 (p : Nat) : Ans Try.prog H13 41 [.int .u64 (p : Int)] (.bool (decide (0 < expOf p))) := by
  obtain ⟨N1, h1⟩ := exp45 p
  refine Ans.of (fn := Try.f41) (t := 2) (by rfl) Try.func41 rfl rfl (by rfl) (by rfl) ⟨N1, fun k hk nx => ?_⟩
  have hc := h1 k (by omega)
  refine EvP.seq (EvP.region ?_)
  simp [entryS]
  refine EvP.seq (EvP.region ?_)
  simp [hc]
  refine EvP.ret ?_
  simp
theorem expOf_mem {p : Nat} (h : 0 < expOf p) : p ∈ primes7 := by
  unfold expOf at h
  simp only [primes7, List.mem_cons, List.not_mem_nil, or_false]
  split at h <;> try omega
  split at h <;> try omega
  split at h <;> try omega
  split at h <;> try omega
  split at h <;> try omega
  split at h <;> try omega
  split at h <;> omega
end Go.Abs
end
/- The seat of privitylaw13: the field. -/
set_option linter.unusedVariables false
noncomputable section
namespace Go.Abs
open Go Go.Proofs

theorem wrapu_nat (x : Nat) : IntKind.u64.wrap (x : Int) = ((x % 18446744073709551616 : Nat) : Int) := by
  unfold IntKind.wrap
  simp [IntKind.signed, IntKind.bits]
theorem bvn (x : Nat) (h : x < 18446744073709551616) : (BitVec.ofInt 64 (x : Int)).toNat = x := by
  simp [BitVec.toNat_ofInt]
  omega
theorem and_mask (x q : Nat) (hx : x < 18446744073709551616) (hq : q < 64) : IntKind.u64.wrap (((BitVec.ofInt IntKind.u64.bits (x : Int) &&& BitVec.ofInt IntKind.u64.bits ((2 ^ q - 1 : Nat) : Int)).toNat : Nat) : Int) = ((x % 2 ^ q : Nat) : Int) := by
  have hp : 2 ^ q - 1 < 18446744073709551616 := by
    have : 2 ^ q < 2 ^ 64 := Nat.pow_lt_pow_right (by omega) hq
    omega
  have hb : IntKind.u64.bits = 64 := rfl
  rw [hb, BitVec.toNat_and, bvn x hx, bvn _ hp, Nat.and_two_pow_sub_one_eq_mod, wrapu_nat]
  congr 1
  have : x % 2 ^ q ≤ x := Nat.mod_le _ _
  omega
theorem or_add (a b n : Nat) (hb : b < 2 ^ n) (h : 2 ^ n * a + b < 18446744073709551616) : IntKind.u64.wrap (((BitVec.ofInt IntKind.u64.bits (b : Int) ||| BitVec.ofInt IntKind.u64.bits ((2 ^ n * a : Nat) : Int)).toNat : Nat) : Int) = ((2 ^ n * a + b : Nat) : Int) := by
  have hb' : IntKind.u64.bits = 64 := rfl
  rw [hb', BitVec.toNat_or, bvn b (by omega), bvn _ (by omega), wrapu_nat, Nat.or_comm, ← Nat.two_pow_add_eq_or_of_lt hb]
  congr 1
  omega
/-- 46: width, at the supported primes. -/
def pq7 : List (Nat × Nat) := [(31, 5), (127, 7), (8191, 13), (131071, 17), (524287, 19), (2147483647, 31), (2305843009213693951, 61)]
theorem len49 (p q : Nat) (h : (p, q) ∈ pq7) : Ans Try.prog H13 49 [.int .u64 (p : Int)] (.int .i64 (q : Int)) := by
  refine ⟨1, fun n hn nx => ?_⟩
  obtain ⟨m, rfl⟩ : ∃ m, n = m + 1 := ⟨n - 1, by omega⟩
  simp only [pq7, List.mem_cons, Prod.mk.injEq, List.not_mem_nil, or_false] at h
  rcases h with ⟨h1, h2⟩ | ⟨h1, h2⟩ | ⟨h1, h2⟩ | ⟨h1, h2⟩ | ⟨h1, h2⟩ | ⟨h1, h2⟩ | ⟨h1, h2⟩ <;> rw [h1, h2] <;> kernel_rfl
theorem width46 (p q : Nat) (h : (p, q) ∈ pq7) : Ans Try.prog H13 46 [.int .u64 (p : Int)] (.int .u64 (q : Int)) := by
  obtain ⟨N, h1⟩ := len49 p q h
  have hw : IntKind.u64.wrap (q : Int) = (q : Int) := by
    simp only [pq7, List.mem_cons, Prod.mk.injEq, List.not_mem_nil, or_false] at h
    rcases h with ⟨_, h2⟩ | ⟨_, h2⟩ | ⟨_, h2⟩ | ⟨_, h2⟩ | ⟨_, h2⟩ | ⟨_, h2⟩ | ⟨_, h2⟩ <;> rw [h2] <;> rfl
  refine Ans.of (fn := Try.f46) (t := 2) (by rfl) Try.func46 rfl rfl (by rfl) (by rfl) ⟨N, fun k hk nx => ?_⟩
  have hc := h1 k hk
  refine EvP.seq (EvP.region ?_)
  simp [entryS]
  refine EvP.seq (EvP.region ?_)
  simp [hc, hw]
  refine EvP.ret ?_
  simp
end Go.Abs
end
/- The seat of privitylaw13: valid parameters. -/
set_option linter.unusedVariables false
noncomputable section
namespace Go.Abs
open Go Go.Proofs

@[simp] theorem ptrsL_uL (l : List Nat) : ptrsL (uL l) = [] := by
  unfold uL; induction l with
  | nil => rfl
  | cons x l ih => simp only [List.map_cons, ptrsL, ptrs, ih, List.append_nil]
@[simp] theorem frzL_uL (pm : Bool) (l : List Nat) : frzL pm (uL l) = uL l := by
  unfold uL; induction l with
  | nil => rfl
  | cons x l ih => simp only [List.map_cons, frzL, frz, ih]
@[simp] theorem noBorL_uL (l : List Nat) : noBorL (uL l) = true := by
  unfold uL; induction l with
  | nil => rfl
  | cons x l ih => simp only [List.map_cons, noBorL, noBor, ih, Bool.and_self]
theorem wrapu {x : Int} (h0 : 0 ≤ x) (h : x < 18446744073709551616) : IntKind.u64.wrap x = x := by
  unfold IntKind.wrap
  simp [IntKind.signed, IntKind.bits]
  omega
def parV (p : Nat) (n t : Int) : V := .agg [.int .u64 (p : Int), .int .i64 n, .int .i64 t]
/-- What Valid says, as far as it is used. -/
def ValidP (p : Nat) (n t : Int) : Prop := p ∈ primes7 ∧ 4 ≤ n ∧ n ≤ 13 ∧ n < p ∧ 1 ≤ t ∧ t < n
set_option maxHeartbeats 8000000 in
set_option maxRecDepth 100000 in
theorem valid28 (p : Nat) (n t : Int) : ∃ b, Ans Try.prog H13 28 [parV p n t] (.bool b) ∧ (b = true → ValidP p n t) := by
  obtain ⟨N1, h1⟩ := sup41 p
  have mk : ∀ b, (∀ k, N1 ≤ k → ∀ nx, EvP Try.prog H13 (evCall Try.prog H13 k) 28 k (Try.f28.body.getD .skip) (entryS [parV p n t] [] nx) (fun e D => (e = .norm ∨ e = .ret) ∧ D.s 2 = .bool b ∧ ∀ b ∈ D.m, nx ≤ b.1)) → Ans Try.prog H13 28 [parV p n t] (.bool b) :=
    fun b h => Ans.of (fn := Try.f28) (t := 2) (by rfl) Try.func28 rfl rfl (by rfl) (by rfl) ⟨N1, h⟩
  by_cases c1 : 0 < expOf p
  · by_cases c2 : n ≥ 4
    · by_cases c3 : n ≤ 13
      · have hw4 : IntKind.u64.wrap n = n := wrapu (by omega) (by omega)
        by_cases c4 : n < p
        · by_cases c5 : t ≥ 1
          · by_cases c6 : t < n
            · have hw7 : IntKind.i64.wrap (3 * t) = 3 * t := wrap_nat (by omega) (by omega)
              by_cases c7 : 3 * t < n
              · refine ⟨true, mk true fun k hk nx => ?_, fun _ => ⟨expOf_mem c1, c2, c3, c4, c5, c6⟩⟩
                have hc := h1 k (by omega)
                refine EvP.seq (EvP.region ?_)
                simp [entryS, parV]
                refine EvP.seq (EvP.region ?_)
                simp [hc, c1, c2, c3, c4, c5, c6, c7, hw4, hw7]
                refine EvP.ret ?_
                simp
              · refine ⟨false, mk false fun k hk nx => ?_, fun h => by cases h⟩
                have hc := h1 k (by omega)
                refine EvP.seq (EvP.region ?_)
                simp [entryS, parV]
                refine EvP.seq (EvP.region ?_)
                simp [hc, c1, c2, c3, c4, c5, c6, c7, hw4, hw7]
                refine EvP.ret ?_
                simp
            · refine ⟨false, mk false fun k hk nx => ?_, fun h => by cases h⟩
              have hc := h1 k (by omega)
              refine EvP.seq (EvP.region ?_)
              simp [entryS, parV]
              refine EvP.seq (EvP.region ?_)
              simp [hc, c1, c2, c3, c4, c5, c6, hw4]
              refine EvP.ret ?_
              simp
          · refine ⟨false, mk false fun k hk nx => ?_, fun h => by cases h⟩
            have hc := h1 k (by omega)
            refine EvP.seq (EvP.region ?_)
            simp [entryS, parV]
            refine EvP.seq (EvP.region ?_)
            simp [hc, c1, c2, c3, c4, c5, hw4]
            refine EvP.ret ?_
            simp
        · refine ⟨false, mk false fun k hk nx => ?_, fun h => by cases h⟩
          have hc := h1 k (by omega)
          refine EvP.seq (EvP.region ?_)
          simp [entryS, parV]
          refine EvP.seq (EvP.region ?_)
          simp [hc, c1, c2, c3, c4, hw4]
          refine EvP.ret ?_
          simp
      · refine ⟨false, mk false fun k hk nx => ?_, fun h => by cases h⟩
        have hc := h1 k (by omega)
        refine EvP.seq (EvP.region ?_)
        simp [entryS, parV]
        refine EvP.seq (EvP.region ?_)
        simp [hc, c1, c2, c3]
        refine EvP.ret ?_
        simp
    · refine ⟨false, mk false fun k hk nx => ?_, fun h => by cases h⟩
      have hc := h1 k (by omega)
      refine EvP.seq (EvP.region ?_)
      simp [entryS, parV]
      refine EvP.seq (EvP.region ?_)
      simp [hc, c1, c2]
      refine EvP.ret ?_
      simp
  · refine ⟨false, mk false fun k hk nx => ?_, fun h => by cases h⟩
    have hc := h1 k (by omega)
    refine EvP.seq (EvP.region ?_)
    simp [entryS, parV]
    refine EvP.seq (EvP.region ?_)
    simp [hc, c1]
    refine EvP.ret ?_
    simp
end Go.Abs
end
/- The seat of privitylaw13: the field's fold. -/
set_option linter.unusedVariables false
noncomputable section
namespace Go.Abs
open Go Go.Proofs

section
variable {P : Program} {H : Hint} {f : Nat}
/-- The same with a bound that is named. -/
def AnsN (N : Nat) (P : Program) (H : Hint) (f : Nat) (xs : List V) (r : V) : Prop := ∀ n, N ≤ n → ∀ nx, evCall P H n f xs [] nx = some (r, [], nx)
theorem AnsN.ans {N : Nat} {xs : List V} {r : V} (h : AnsN N P H f xs r) : Ans P H f xs r := ⟨N, h⟩
theorem AnsN.le {N M : Nat} {xs : List V} {r : V} (h : AnsN N P H f xs r) (hm : N ≤ M) : AnsN M P H f xs r := fun n hn => h n (by omega)
theorem AnsN.of {N : Nat} {fn : Func} {c : Code} {xs : List V} {r : V} {t : Nat} (hg : H.good f = true) (hf : P.funcs[f]? = some fn) (hb : fn.body = some c) (hres : fn.results = #[.tmp t]) (hfr : H.fr f = false) (hr : plainV r = true)
    (h : ∀ k, N ≤ k → ∀ nx, EvP P H (evCall P H k) f k c (entryS xs [] nx) (fun e D => (e = .norm ∨ e = .ret) ∧ D.s t = r ∧ ∀ b ∈ D.m, nx ≤ b.1)) : AnsN (N + 1) P H f xs r := by
  intro n hn nx
  obtain ⟨k, rfl⟩ : ∃ k, n = k + 1 := ⟨n - 1, by omega⟩
  obtain ⟨e, D, h1, h2, h3, h4⟩ := h k (by omega) nx
  obtain ⟨⟨D1, q1, q2, q3⟩, q4⟩ := plain_settle h3 hr
  unfold evCall
  simp only [hg, hf, hb]
  have h1' : evCode P H (evCall P H k) f k c { s := fun i => match xs[i]? with | some v => v | none => .dead, m := [], nx := nx } = some (e, D) := h1
  have hres' : evRes P D fn.results.toList = some ([r], D1) := by rw [hres]; simp [evRes, q1]
  have hfil : D1.m.filter (fun e => decide (e.1 < nx)) = [] := by
    rw [List.filter_eq_nil_iff, q2]
    intro b hb
    have := h4 b hb
    simp; omega
  rw [if_neg (by simp)]
  generalize hq : evCode P H (evCall P H k) f k c _ = q
  have : q = some (e, D) := by rw [← hq]; exact h1'
  subst this
  simp only [if_pos h2, hres', hfr, Bool.false_and, packRes, Bool.false_eq_true, if_false, hfil, q4, List.flatMap_nil, List.append_nil, List.any_nil]
/-- Two numbers. -/
theorem AnsN.of2 {N : Nat} {fn : Func} {c : Code} {xs : List V} {k1 k2 : IntKind} {x1 x2 : Int} {t1 t2 : Nat} (hg : H.good f = true) (hf : P.funcs[f]? = some fn) (hb : fn.body = some c) (hres : fn.results = #[.tmp t1, .tmp t2]) (hfr : H.fr f = false)
    (h : ∀ k, N ≤ k → ∀ nx, EvP P H (evCall P H k) f k c (entryS xs [] nx) (fun e D => (e = .norm ∨ e = .ret) ∧ D.s t1 = .int k1 x1 ∧ D.s t2 = .int k2 x2 ∧ ∀ b ∈ D.m, nx ≤ b.1)) : AnsN (N + 1) P H f xs (.tup [.int k1 x1, .int k2 x2]) := by
  intro n hn nx
  obtain ⟨k, rfl⟩ : ∃ k, n = k + 1 := ⟨n - 1, by omega⟩
  obtain ⟨e, D, h1, h2, h3, h3', h4⟩ := h k (by omega) nx
  unfold evCall
  simp only [hg, hf, hb]
  have h1' : evCode P H (evCall P H k) f k c { s := fun i => match xs[i]? with | some v => v | none => .dead, m := [], nx := nx } = some (e, D) := h1
  have hres' : evRes P D fn.results.toList = some ([.int k1 x1, .int k2 x2], D) := by rw [hres]; simp [evRes, h3, h3', view, settle]
  have hfil : D.m.filter (fun e => decide (e.1 < nx)) = [] := by
    rw [List.filter_eq_nil_iff]
    intro b hb
    have := h4 b hb
    simp; omega
  rw [if_neg (by simp)]
  generalize hq : evCode P H (evCall P H k) f k c _ = q
  have : q = some (e, D) := by rw [← hq]; exact h1'
  subst this
  simp [if_pos h2, hres', hfr, packRes, hfil, ptrs, ptrsL]
end
theorem fold_step {p q hi lo low a r b lo2 c sm cy hi2 V W : Nat} (hp : p + 1 = 2 ^ q) (hq1 : 5 ≤ q) (hW : 2 ^ q * 2 ^ r = W) (hV : V = hi * W + lo) (hgo : p < V)
    (hlow : low = lo % 2 ^ q) (ha : a = lo / 2 ^ q) (hb : b = 2 ^ r * (hi % 2 ^ q)) (hlo2 : lo2 = b + a) (hc : c = hi / 2 ^ q) (hsm : sm = (lo2 + low) % W) (hcy : cy = (lo2 + low) / W) (hhi2 : hi2 = c + cy) :
    hi2 * W + sm < V ∧ (hi2 * W + sm) % p = V % p := by
  have hp2 : 0 < p := by
    have : 2 ^ 5 ≤ 2 ^ q := Nat.pow_le_pow_right (by omega) hq1
    omega
  generalize 2 ^ q = Q at *
  generalize 2 ^ r = R at *
  have h1 : hi = Q * c + hi % Q := by rw [hc]; exact (Nat.div_add_mod hi Q).symm
  have h2 : lo = Q * a + low := by rw [ha, hlow]; exact (Nat.div_add_mod lo Q).symm
  have h3 : hi2 * W + sm = (c * W + R * (hi % Q) + a) + low := by
    have := Nat.div_add_mod (lo2 + low) W
    rw [hhi2, Nat.add_mul, hsm, hcy, Nat.mul_comm ((lo2 + low) / W) W]
    omega
  have h4 : V = Q * (c * W + R * (hi % Q) + a) + low := by
    have e1 : Q * (R * (hi % Q)) = (hi % Q) * W := by rw [← Nat.mul_assoc, hW, Nat.mul_comm]
    have e2 : Q * (c * W) = (Q * c) * W := (Nat.mul_assoc _ _ _).symm
    have e3 : hi * W = (Q * c) * W + (hi % Q) * W := by rw [← Nat.add_mul, ← h1]
    rw [Nat.mul_add, Nat.mul_add, e1, e2, hV, e3]
    omega
  have hlt : low < Q := by rw [hlow]; exact Nat.mod_lt _ (by omega)
  rw [h3]
  generalize (c * W + R * (hi % Q) + a) = T at *
  have hpT : Q * T = p * T + T := by rw [← hp, Nat.add_mul, Nat.one_mul]
  have hT : 0 < T := by
    rcases Nat.eq_zero_or_pos T with h | h
    · subst h; omega
    · exact h
  have : 0 < p * T := Nat.mul_pos hp2 hT
  refine ⟨by omega, ?_⟩
  rw [h4, hpT, show p * T + T + low = (T + low) + p * T by omega, Nat.add_mul_mod_self_left]
theorem pq_facts {p q : Nat} (h : (p, q) ∈ pq7) : p + 1 = 2 ^ q ∧ 5 ≤ q ∧ q ≤ 61 := by
  simp only [pq7, List.mem_cons, Prod.mk.injEq, List.not_mem_nil, or_false] at h
  rcases h with ⟨rfl, rfl⟩ | ⟨rfl, rfl⟩ | ⟨rfl, rfl⟩ | ⟨rfl, rfl⟩ | ⟨rfl, rfl⟩ | ⟨rfl, rfl⟩ | ⟨rfl, rfl⟩ <;> decide
set_option maxHeartbeats 8000000 in
set_option maxRecDepth 100000 in
theorem fold43 (p q : Nat) (h : (p, q) ∈ pq7) : ∃ N, ∀ hi lo : Nat, hi < 18446744073709551616 → lo < 18446744073709551616 → AnsN N Try.prog H13 43 [.int .u64 (p : Int), .int .u64 (hi : Int), .int .u64 (lo : Int)] (.int .u64 (((hi * 18446744073709551616 + lo) % p : Nat) : Int)) := by
  obtain ⟨hp, hq1, hq2⟩ := pq_facts h
  obtain ⟨N1, h1⟩ := width46 p q h
  refine ⟨N1 + 18446744073709551616 * 18446744073709551616 + 1 + 1, fun hi0 lo0 hhi hlo => ?_⟩
  · refine AnsN.of (fn := Try.f43) (t := 6) (by rfl) Try.func43 rfl rfl (by rfl) (by rfl) fun k hk nx => ?_
    have hc := h1 k (by omega)
    refine EvP.seq (EvP.region ?_)
    simp [entryS]
    refine EvP.seq (EvP.region ?_)
    simp [hc]
    refine EvP.seq (EvP.block (EvP.loop (fun V D => ∃ hi lo : Nat, V = hi * 18446744073709551616 + lo ∧ hi < 18446744073709551616 ∧ lo < 18446744073709551616 ∧ V % p = (hi0 * 18446744073709551616 + lo0) % p ∧ D.s 0 = .int .u64 (p : Int) ∧ D.s 1 = .int .u64 (hi : Int) ∧ D.s 2 = .int .u64 (lo : Int) ∧ D.s 7 = .int .u64 (q : Int) ∧ D.m = []) (n := hi0 * 18446744073709551616 + lo0) ⟨hi0, lo0, by simp [hhi, hlo]⟩ (by omega) ?_))
    rintro V D ⟨hi, lo, hV, hhi, hlo, hmod, d0, d1, d2, d7, dm⟩
    simp only [liveOf13, clear_none]
    have hpW : p < 18446744073709551616 := by
      have : 2 ^ q ≤ 2 ^ 61 := Nat.pow_le_pow_right (by omega) hq2
      omega
    by_cases hgo : p < V
    · have hpos : hi ≠ 0 ∨ p < lo := by omega
      refine EvP.seq (EvP.seq (EvP.region ?_))
      have key2 : (hi ≠ 0 ∨ hi = 0 ∧ p < lo) := by omega
      have hb0 : ∀ x : Nat, x ≠ 0 → (((x : Nat) : Int) != 0) = true := fun x hx => by simp [bne]; omega
      have hbits : IntKind.u64.bits = 64 := rfl
      have hq0 : ¬ ((q : Int) < 0) := by omega
      have hmq : min q 64 = q := by omega
      have e1 : lo % 18446744073709551616 = lo := by omega
      have e2 : p % 18446744073709551616 = p := by omega
      have hp2 : p = 2 ^ q - 1 := by omega
      obtain ⟨low, hlow⟩ : ∃ low, low = lo % 2 ^ q := ⟨_, rfl⟩
      have f1 : IntKind.u64.wrap ((lo &&& p : Nat) : Int) = (low : Int) := by
        rw [wrapu_nat, hp2, Nat.and_two_pow_sub_one_eq_mod, ← hlow]
        have := Nat.mod_le lo (2 ^ q)
        congr 1; omega
      obtain ⟨a, ha⟩ : ∃ a, a = lo / 2 ^ q := ⟨_, rfl⟩
      have f2 : (lo : Int).fdiv (2 ^ q) = (a : Int) := by
        rw [ha, Int.fdiv_eq_ediv_of_nonneg _ (Int.le_of_lt (Int.pow_pos (by decide)))]
        simp
      obtain ⟨r, hr⟩ : ∃ r, r = 64 - q := ⟨_, rfl⟩
      have f3 : IntKind.u64.wrap (64 - (q : Int)) = (r : Int) := by rw [wrapu (by omega) (by omega)]; omega
      have hr0 : ¬ ((r : Int) < 0) := by omega
      have hmr : min r 64 = r := by omega
      obtain ⟨b, hb⟩ : ∃ b, b = 2 ^ r * (hi % 2 ^ q) := ⟨_, rfl⟩
      have f4 : IntKind.u64.wrap ((hi : Int) * 2 ^ r) = (b : Int) := by
        have h1 : (hi : Int) * 2 ^ r = ((hi * 2 ^ r : Nat) : Int) := by norm_cast
        rw [h1, wrapu_nat, hb, show 18446744073709551616 = 2 ^ q * 2 ^ r by rw [← Nat.pow_add, hr, show q + (64 - q) = 64 by omega], Nat.mul_mod_mul_right, Nat.mul_comm]
      obtain ⟨lo2, hlo2⟩ : ∃ lo2, lo2 = b + a := ⟨_, rfl⟩
      have e3 : a % 18446744073709551616 = a := by
        have := Nat.div_le_self lo (2 ^ q)
        omega
      have hWq : 2 ^ q * 2 ^ r = 18446744073709551616 := by
        rw [← Nat.pow_add, hr, show q + (64 - q) = 64 by omega]
      have hstep0 := fold_step (sm := (b + a + low) % 18446744073709551616) (cy := (b + a + low) / 18446744073709551616) hp hq1 hWq hV hgo hlow ha hb rfl rfl rfl rfl rfl
      have hb1 : b < 18446744073709551616 := by
        rw [hb, ← hWq, Nat.mul_comm]
        exact Nat.mul_lt_mul_of_pos_right (Nat.mod_lt _ (Nat.pow_pos (by decide))) (Nat.pow_pos (by decide))
      have e4 : b % 18446744073709551616 = b := by omega
      have ha1 : a < 2 ^ r := by
        rw [ha]
        exact Nat.div_lt_of_lt_mul (by rw [hWq]; exact hlo)
      have hba : b + a < 18446744073709551616 := by
        have h1 : b + 2 ^ r ≤ 18446744073709551616 := by
          rw [hb, ← hWq, Nat.mul_comm (2 ^ q)]
          have : hi % 2 ^ q + 1 ≤ 2 ^ q := Nat.mod_lt _ (Nat.pow_pos (by decide))
          calc 2 ^ r * (hi % 2 ^ q) + 2 ^ r = 2 ^ r * (hi % 2 ^ q + 1) := by rw [Nat.mul_add, Nat.mul_one]
            _ ≤ 2 ^ r * 2 ^ q := Nat.mul_le_mul_left _ this
        omega
      obtain ⟨lo2, hlo2⟩ : ∃ lo2, lo2 = b + a := ⟨_, rfl⟩
      have f5 : IntKind.u64.wrap ((a ||| b : Nat) : Int) = (lo2 : Int) := by
        rw [hb, Nat.or_comm, ← Nat.two_pow_add_eq_or_of_lt ha1, ← hb, ← hlo2, wrapu_nat]
        congr 1; omega
      obtain ⟨c, hc⟩ : ∃ c, c = hi / 2 ^ q := ⟨_, rfl⟩
      have f6 : (hi : Int).fdiv (2 ^ q) = (c : Int) := by
        rw [hc, Int.fdiv_eq_ediv_of_nonneg _ (Int.le_of_lt (Int.pow_pos (by decide)))]
        simp
      rw [← hlo2, ← hc] at hstep0
      obtain ⟨sm, hsm⟩ : ∃ sm, sm = (lo2 + low) % 18446744073709551616 := ⟨_, rfl⟩
      obtain ⟨cy, hcy⟩ : ∃ cy, cy = (lo2 + low) / 18446744073709551616 := ⟨_, rfl⟩
      have f7 : ((lo2 : Int) + (low : Int)) % 18446744073709551616 = (sm : Int) := by omega
      have f8 : ((lo2 : Int) + (low : Int)) / 18446744073709551616 = (cy : Int) := by omega
      obtain ⟨hi2, hhi2⟩ : ∃ hi2, hi2 = c + cy := ⟨_, rfl⟩
      rw [← hsm, ← hcy, ← hhi2] at hstep0
      obtain ⟨hs1, hs2⟩ := hstep0
      have hh2 : hi2 < 18446744073709551616 := by omega
      have f9 : IntKind.u64.wrap ((c : Int) + (cy : Int)) = (hi2 : Int) := by
        rw [wrapu (by omega) (by omega)]; omega
      have fin : ∃ n', n' < V ∧ ∃ hi lo : Nat, n' = hi * 18446744073709551616 + lo ∧ hi < 18446744073709551616 ∧ lo < 18446744073709551616 ∧ n' % p = (hi0 * 18446744073709551616 + lo0) % p ∧ (hi2 : Int) = (hi : Int) ∧ (sm : Int) = (lo : Int) ∧ D.m = [] :=
        ⟨_, hs1, hi2, sm, rfl, hh2, by omega, by rw [hs2, hmod], rfl, rfl, dm⟩
      rcases key2 with hz | ⟨hz, hz2⟩
      · simp [d0, d1, d2, d7, hb0 hi hz]
        refine EvP.cond (t := true) (by simp) (fun _ => EvP.skip ?_) (fun h => by cases h)
        simp only [thenE_norm]
        refine EvP.block (EvP.seq (EvP.region ?_))
        simp [d0, d1, d2, d7, hbits, e1, e2, f1]
        refine EvP.seq (EvP.region ?_)
        simp [d0, d1, d2, d7, hbits, hq0, hmq, f2, f3, hr0, hmr, f4, e3, e4, f5, f6]
        refine EvP.seq (EvP.region ?_)
        simp [d0, d1, d2, d7, addX, f7, f8]
        refine EvP.region ?_
        simp [d0, d1, d2, d7, f9]
        exact fin
      · have d1' : D.s 1 = .int .u64 0 := by rw [d1, hz]; rfl
        simp [d0, d1', d2, d7, hz2]
        refine EvP.cond (t := true) (by simp) (fun _ => EvP.skip ?_) (fun h => by cases h)
        simp only [thenE_norm]
        refine EvP.block (EvP.seq (EvP.region ?_))
        simp [d0, d1, d2, d7, hbits, e1, e2, f1]
        refine EvP.seq (EvP.region ?_)
        simp [d0, d1, d2, d7, hbits, hq0, hmq, f2, f3, hr0, hmr, f4, e3, e4, f5, f6]
        refine EvP.seq (EvP.region ?_)
        simp [d0, d1, d2, d7, addX, f7, f8]
        refine EvP.region ?_
        simp [d0, d1, d2, d7, f9]
        exact fin
    · have hz : hi = 0 := by omega
      subst hz
      have d1' : D.s 1 = .int .u64 0 := by rw [d1]; rfl
      have hlp : ¬ p < lo := by omega
      have hp0 : 0 < p := by
        have : 2 ^ 5 ≤ 2 ^ q := Nat.pow_le_pow_right (by omega) hq1
        omega
      refine EvP.seq (EvP.seq (EvP.region ?_))
      simp [d0, d1', d2, hlp]
      refine EvP.cond (t := false) (by simp) (fun h => by cases h) (fun _ => EvP.exit ?_)
      simp
      by_cases he : lo = p
      · refine EvP.seq (EvP.seq (EvP.region ?_))
        simp [d0, d2, he]
        refine EvP.cond (t := true) (by simp) (fun _ => ?_) (fun h => by cases h)
        refine EvP.seq (EvP.region ?_)
        simp
        refine EvP.ret ?_
        simp [dm]
        have h1 : V % p = 0 := by rw [show V = p by omega, Nat.mod_self]
        have h2 : (((hi0 * 18446744073709551616 + lo0) % p : Nat) : Int) = 0 := by rw [← hmod, h1]; rfl
        simpa using h2.symm
      · have he' : ¬ ((lo : Int) = (p : Int)) := by omega
        refine EvP.seq (EvP.seq (EvP.region ?_))
        simp [d0, d2, he, he']
        refine EvP.cond (t := false) (by simp [he']) (fun h => by cases h) (fun _ => EvP.skip ?_)
        simp
        refine EvP.seq (EvP.region ?_)
        simp [d2]
        refine EvP.ret ?_
        simp [dm]
        have h1 : V % p = lo := by rw [show V = lo by omega, Nat.mod_eq_of_lt (by omega)]
        have h2 : (((hi0 * 18446744073709551616 + lo0) % p : Nat) : Int) = (lo : Int) := by rw [← hmod, h1]
        simpa using h2.symm
end Go.Abs
end
/- The seat of privitylaw13: the field's operations. -/
set_option linter.unusedVariables false
noncomputable section
namespace Go.Abs
open Go Go.Proofs

theorem mul_split {x y x0 x1 y0 y1 : Nat} (hx : x = x1 * 4294967296 + x0) (hy : y = y1 * 4294967296 + y0) : x * y = x1 * y1 * 18446744073709551616 + x1 * y0 * 4294967296 + x0 * y1 * 4294967296 + x0 * y0 := by
  rw [hx, hy, Nat.add_mul, Nat.mul_add, Nat.mul_add, Nat.mul_mul_mul_comm, Nat.mul_right_comm x1 4294967296 y0, ← Nat.mul_assoc x0]
  omega
theorem mul_le {x y : Nat} (hx : x ≤ 4294967295) (hy : y ≤ 4294967295) : x * y ≤ 18446744065119617025 := Nat.mul_le_mul hx hy
set_option maxHeartbeats 8000000 in
set_option maxRecDepth 100000 in
theorem mul44 (x y : Nat) (hx : x < 18446744073709551616) (hy : y < 18446744073709551616) : AnsN 1 Try.prog H13 44 [.int .u64 (x : Int), .int .u64 (y : Int)] (.tup [.int .u64 ((x * y / 18446744073709551616 : Nat) : Int), .int .u64 ((x * y % 18446744073709551616 : Nat) : Int)]) := by
  refine AnsN.of2 (N := 0) (fn := Try.f44) (t1 := 4) (t2 := 5) (by rfl) Try.func44 rfl rfl (by rfl) fun k hk nx => ?_
  have hbits : IntKind.u64.bits = 64 := rfl
  have hm : ∀ z : Nat, z < 18446744073709551616 → IntKind.u64.wrap ((z &&& 4294967295 : Nat) : Int) = ((z % 4294967296 : Nat) : Int) := fun z hz => by
    rw [wrapu_nat, show (4294967295 : Nat) = 2 ^ 32 - 1 by rfl, Nat.and_two_pow_sub_one_eq_mod]
    congr 1; omega
  have hd : ∀ z : Nat, (z : Int).fdiv 4294967296 = ((z / 4294967296 : Nat) : Int) := fun z => by
    rw [Int.fdiv_eq_ediv_of_nonneg _ (by decide)]; simp
  have hw : ∀ z : Nat, z < 18446744073709551616 → IntKind.u64.wrap (z : Int) = (z : Int) := fun z hz => wrapu (by omega) (by omega)
  obtain ⟨x0, hx0⟩ : ∃ x0, x0 = x % 4294967296 := ⟨_, rfl⟩
  obtain ⟨x1, hx1⟩ : ∃ x1, x1 = x / 4294967296 := ⟨_, rfl⟩
  obtain ⟨y0, hy0⟩ : ∃ y0, y0 = y % 4294967296 := ⟨_, rfl⟩
  obtain ⟨y1, hy1⟩ : ∃ y1, y1 = y / 4294967296 := ⟨_, rfl⟩
  have hxy := mul_split (x := x) (y := y) (x0 := x0) (x1 := x1) (y0 := y0) (y1 := y1) (by omega) (by omega)
  have b1 := mul_le (x := x1) (y := y1) (by omega) (by omega)
  have b2 := mul_le (x := x1) (y := y0) (by omega) (by omega)
  have b3 := mul_le (x := x0) (y := y1) (by omega) (by omega)
  have b4 := mul_le (x := x0) (y := y0) (by omega) (by omega)
  have p1 : ((x1 : Int) * (y1 : Int)) = ((x1 * y1 : Nat) : Int) := by simp
  have p2 : ((x1 : Int) * (y0 : Int)) = ((x1 * y0 : Nat) : Int) := by simp
  have p3 : ((x0 : Int) * (y1 : Int)) = ((x0 * y1 : Nat) : Int) := by simp
  have p4 : ((x0 : Int) * (y0 : Int)) = ((x0 * y0 : Nat) : Int) := by simp
  have p5 : ((x : Int) * (y : Int)) = ((x * y : Nat) : Int) := by simp
  generalize x1 * y1 = a at *
  generalize x1 * y0 = b at *
  generalize x0 * y1 = c at *
  generalize x0 * y0 = d at *
  generalize x * y = m at *
  have f1 : IntKind.u64.wrap ((x &&& 4294967295 : Nat) : Int) = (x0 : Int) := by rw [hm x hx, hx0]
  have f2 : (x : Int).fdiv 4294967296 = (x1 : Int) := by rw [hd, hx1]
  have f3 : IntKind.u64.wrap ((y &&& 4294967295 : Nat) : Int) = (y0 : Int) := by rw [hm y hy, hy0]
  have f4 : (y : Int).fdiv 4294967296 = (y1 : Int) := by rw [hd, hy1]
  have e1 : x % 18446744073709551616 = x := by omega
  have e2 : y % 18446744073709551616 = y := by omega
  obtain ⟨d1, hd1⟩ : ∃ d1, d1 = d / 4294967296 := ⟨_, rfl⟩
  obtain ⟨t, ht⟩ : ∃ t, t = b + d1 := ⟨_, rfl⟩
  obtain ⟨w1, hw1⟩ : ∃ w1, w1 = t % 4294967296 := ⟨_, rfl⟩
  obtain ⟨w2, hw2⟩ : ∃ w2, w2 = t / 4294967296 := ⟨_, rfl⟩
  obtain ⟨w3, hw3⟩ : ∃ w3, w3 = w1 + c := ⟨_, rfl⟩
  obtain ⟨g, hg⟩ : ∃ g, g = w3 / 4294967296 := ⟨_, rfl⟩
  obtain ⟨u, hu⟩ : ∃ u, u = a + w2 := ⟨_, rfl⟩
  obtain ⟨hh, hhh⟩ : ∃ hh, hh = u + g := ⟨_, rfl⟩
  have f5 : IntKind.u64.wrap ((d : Nat) : Int) = (d : Int) := hw d (by omega)
  have f5' : IntKind.u64.wrap ((b : Nat) : Int) = (b : Int) := hw b (by omega)
  have f5a : IntKind.u64.wrap ((a : Nat) : Int) = (a : Int) := hw a (by omega)
  have f5c : IntKind.u64.wrap ((c : Nat) : Int) = (c : Int) := hw c (by omega)
  have f6 : (d : Int).fdiv 4294967296 = (d1 : Int) := by rw [hd, hd1]
  have f7 : IntKind.u64.wrap ((b : Int) + (d1 : Int)) = (t : Int) := by rw [wrapu (by omega) (by omega)]; omega
  have e3 : t % 18446744073709551616 = t := by omega
  have f8 : IntKind.u64.wrap ((t &&& 4294967295 : Nat) : Int) = (w1 : Int) := by rw [hm t (by omega), hw1]
  have f9 : (t : Int).fdiv 4294967296 = (w2 : Int) := by rw [hd, hw2]
  have f10 : IntKind.u64.wrap ((w1 : Int) + (c : Int)) = (w3 : Int) := by rw [wrapu (by omega) (by omega)]; omega
  have f11 : (w3 : Int).fdiv 4294967296 = (g : Int) := by rw [hd, hg]
  have f12 : IntKind.u64.wrap ((a : Int) + (w2 : Int)) = (u : Int) := by rw [wrapu (by omega) (by omega)]; omega
  have f13 : IntKind.u64.wrap ((u : Int) + (g : Int)) = (hh : Int) := by rw [wrapu (by omega) (by omega)]; omega
  have f14 : IntKind.u64.wrap ((m : Nat) : Int) = ((m % 18446744073709551616 : Nat) : Int) := wrapu_nat m
  refine EvP.seq (EvP.region ?_)
  simp [entryS]
  refine EvP.seq (EvP.region ?_)
  simp [hbits, e1, f1]
  refine EvP.seq (EvP.region ?_)
  simp [hbits, f2]
  refine EvP.seq (EvP.region ?_)
  simp [hbits, e2, f3]
  refine EvP.seq (EvP.region ?_)
  simp [hbits, f4]
  refine EvP.seq (EvP.region ?_)
  simp [p4, f5]
  refine EvP.seq (EvP.region ?_)
  simp [hbits, p2, f5', f6, f7]
  refine EvP.seq (EvP.region ?_)
  simp [hbits, e3, f8]
  refine EvP.seq (EvP.region ?_)
  simp [hbits, f9]
  refine EvP.seq (EvP.region ?_)
  simp [p3, f5c, f10]
  refine EvP.seq (EvP.region ?_)
  simp [hbits, p1, f5a, f12, f11, f13]
  refine EvP.seq (EvP.region ?_)
  simp [p5, f14]
  refine EvP.ret ?_
  simp
  omega
theorem u_cast {a b : Nat} (h : a = b) : V.int .u64 (a : Int) = V.int .u64 (b : Int) := by rw [h]
set_option maxHeartbeats 8000000 in
theorem reduce33 (p q : Nat) (h : (p, q) ∈ pq7) : ∃ N, ∀ x : Nat, x < 18446744073709551616 → AnsN N Try.prog H13 33 [.int .u64 (p : Int), .int .u64 (x : Int)] (.int .u64 ((x % p : Nat) : Int)) := by
  obtain ⟨N, hN⟩ := fold43 p q h
  refine ⟨N + 1, fun x hx => AnsN.of (fn := Try.f33) (t := 4) (by rfl) Try.func33 rfl rfl (by rfl) (by rfl) fun k hk nx => ?_⟩
  have hc := hN 0 x (by omega) hx k hk
  simp only [Nat.zero_mul, Nat.zero_add] at hc
  have hc : ∀ nx, evCall Try.prog H13 k 43 [.int .u64 (p : Int), .int .u64 0, .int .u64 (x : Int)] [] nx = some (.int .u64 ((x % p : Nat) : Int), [], nx) := hc
  refine EvP.seq (EvP.region ?_)
  simp [entryS]
  refine EvP.seq (EvP.region ?_)
  simp [hc]
  refine EvP.ret ?_
  simp
set_option maxHeartbeats 8000000 in
theorem add35 (p q : Nat) (h : (p, q) ∈ pq7) : ∃ N, ∀ x y : Nat, x + y < 18446744073709551616 → AnsN N Try.prog H13 35 [.int .u64 (p : Int), .int .u64 (x : Int), .int .u64 (y : Int)] (.int .u64 (((x + y) % p : Nat) : Int)) := by
  obtain ⟨N, hN⟩ := fold43 p q h
  refine ⟨N + 1, fun x y hx => AnsN.of (fn := Try.f35) (t := 6) (by rfl) Try.func35 rfl rfl (by rfl) (by rfl) fun k hk nx => ?_⟩
  obtain ⟨z, hz⟩ : ∃ z, z = x + y := ⟨_, rfl⟩
  rw [← hz]
  have hw : IntKind.u64.wrap ((x : Int) + (y : Int)) = (z : Int) := by rw [wrapu (by omega) (by omega)]; omega
  have hc := hN 0 z (by omega) (by omega) k hk
  simp only [Nat.zero_mul, Nat.zero_add] at hc
  have hc : ∀ nx, evCall Try.prog H13 k 43 [.int .u64 (p : Int), .int .u64 0, .int .u64 (z : Int)] [] nx = some (.int .u64 ((z % p : Nat) : Int), [], nx) := hc
  refine EvP.seq (EvP.region ?_)
  simp [entryS]
  refine EvP.seq (EvP.region ?_)
  simp [hw, hc]
  refine EvP.ret ?_
  simp
set_option maxHeartbeats 8000000 in
theorem mul37 (p q : Nat) (h : (p, q) ∈ pq7) : ∃ N, ∀ x y : Nat, x < 18446744073709551616 → y < 18446744073709551616 → AnsN N Try.prog H13 37 [.int .u64 (p : Int), .int .u64 (x : Int), .int .u64 (y : Int)] (.int .u64 (((x * y) % p : Nat) : Int)) := by
  obtain ⟨N, hN⟩ := fold43 p q h
  refine ⟨N + 1 + 1, fun x y hx hy => AnsN.of (fn := Try.f37) (t := 6) (by rfl) Try.func37 rfl rfl (by rfl) (by rfl) fun k hk nx => ?_⟩
  have hm := mul44 x y hx hy k (by omega)
  have hxy : x * y < 18446744073709551616 * 18446744073709551616 := Nat.mul_lt_mul'' hx hy
  generalize x * y = m at *
  obtain ⟨hi, hhi⟩ : ∃ hi, hi = m / 18446744073709551616 := ⟨_, rfl⟩
  obtain ⟨lo, hlo⟩ : ∃ lo, lo = m % 18446744073709551616 := ⟨_, rfl⟩
  rw [← hhi, ← hlo] at hm
  have hc := hN hi lo (by omega) (by omega) k (by omega)
  rw [show hi * 18446744073709551616 + lo = m by omega] at hc
  refine EvP.seq (EvP.region ?_)
  simp [entryS]
  refine EvP.seq (EvP.region ?_)
  simp [hm]
  refine EvP.seq (EvP.region ?_)
  simp [hc]
  refine EvP.ret ?_
  simp
end Go.Abs
end
/- The seat of privitylaw13: Below, words. -/
set_option linter.unusedVariables false
noncomputable section
namespace Go.Abs
open Go Go.Proofs

set_option maxHeartbeats 8000000 in
set_option maxRecDepth 100000 in
/-- Below(p, l): some answer. -/
theorem below31 (p : Nat) (pm : Bool) (A : Option Addr) (cap : Nat) (l : List Nat) (hl : l.length ≤ maxLen) : ∃ b, Ans Try.prog H13 31 [.int .u64 (p : Int), .im pm A cap l.length (uL l)] (.bool b) := by
  have hml : maxLen = 9223372036854775807 := rfl
  by_cases hall : ∀ x ∈ l, x < p
  · refine ⟨true, Ans.of (fn := Try.f31) (t := 4) (by rfl) Try.func31 rfl rfl (by rfl) (by rfl) ⟨l.length + 1, fun k hk nx => ?_⟩⟩
    refine EvP.seq (EvP.region ?_)
    simp [entryS]
    refine EvP.seq (EvP.seq (EvP.region ?_))
    simp
    refine EvP.block (EvP.loop (fun n D => ∃ i : Nat, n = l.length - i ∧ i ≤ l.length ∧ D.s 0 = .int .u64 (p : Int) ∧ D.s 1 = .im pm A cap l.length (uL l) ∧ D.s 5 = .int .i64 (i : Int) ∧ D.m = []) (n := l.length) ⟨0, by simp⟩ (by omega) ?_)
    rintro n D ⟨i, hn, hi, d0, d1, d5, dm⟩
    simp only [liveOf13, clear_none]
    refine EvP.seq (EvP.seq (EvP.region ?_))
    simp [d0, d1, d5]
    refine EvP.cond (t := decide (i < l.length)) (by simp) (fun h => EvP.skip ?_) (fun h => EvP.exit ?_)
    · have hlt : i < l.length := by simpa using h
      simp only [thenE_norm]
      refine EvP.seq (EvP.block (EvP.seq (EvP.region ?_)))
      have hx := hall l[i] (List.getElem_mem hlt)
      have hx' : ¬ p ≤ l[i] := by omega
      simp [d0, d1, d5, hlt, hx']
      refine EvP.cond (t := false) (by simp) (fun h => by cases h) (fun _ => EvP.skip ?_)
      simp
      refine EvP.region ?_
      simp [d0, d1, d5]
      exact ⟨l.length - (i + 1), by omega, i + 1, rfl, by omega, wrap_succ (by omega), dm⟩
    · simp
      refine EvP.seq (EvP.region ?_)
      simp
      refine EvP.ret ?_
      simp [dm]
  · obtain ⟨x, hx, hxp⟩ : ∃ x, x ∈ l ∧ ¬ x < p := by
      refine Classical.byContradiction fun hne => hall fun x hx => Classical.byContradiction fun hlt => hne ⟨x, hx, hlt⟩
    refine ⟨false, Ans.of (fn := Try.f31) (t := 4) (by rfl) Try.func31 rfl rfl (by rfl) (by rfl) ⟨l.length + 1, fun k hk nx => ?_⟩⟩
    refine EvP.seq (EvP.region ?_)
    simp [entryS]
    refine EvP.seq (EvP.seq (EvP.region ?_))
    simp
    refine EvP.block (EvP.loop (fun n D => ∃ i : Nat, n = l.length - i ∧ i ≤ l.length ∧ (∀ j y, j < i → l[j]? = some y → y < p) ∧ D.s 0 = .int .u64 (p : Int) ∧ D.s 1 = .im pm A cap l.length (uL l) ∧ D.s 5 = .int .i64 (i : Int) ∧ D.m = []) (n := l.length) ⟨0, by simp⟩ (by omega) ?_)
    rintro n D ⟨i, hn, hi, hpre, d0, d1, d5, dm⟩
    simp only [liveOf13, clear_none]
    refine EvP.seq (EvP.seq (EvP.region ?_))
    simp [d0, d1, d5]
    refine EvP.cond (t := decide (i < l.length)) (by simp) (fun h => EvP.skip ?_) (fun h => EvP.exit ?_)
    · have hlt : i < l.length := by simpa using h
      simp only [thenE_norm]
      refine EvP.seq (EvP.block (EvP.seq (EvP.region ?_)))
      by_cases hx' : p ≤ l[i]
      · simp [d0, d1, d5, hlt, hx']
        refine EvP.cond (t := true) (by simp) (fun _ => ?_) (fun h => by cases h)
        refine EvP.seq (EvP.region ?_)
        simp
        refine EvP.ret ?_
        simp [dm]
      · simp [d0, d1, d5, hlt, hx']
        refine EvP.cond (t := false) (by simp) (fun h => by cases h) (fun _ => EvP.skip ?_)
        simp
        refine EvP.region ?_
        simp [d0, d1, d5]
        refine ⟨l.length - (i + 1), by omega, i + 1, rfl, by omega, fun j y hj hy => ?_, wrap_succ (by omega), dm⟩
        by_cases hji : j = i
        · subst hji
          rw [List.getElem?_eq_getElem hlt] at hy; cases hy; omega
        · exact hpre j y (by omega) hy
    · exfalso
      have hlt : ¬ i < l.length := by simpa using h
      obtain ⟨j, hj, rfl⟩ := List.getElem_of_mem hx
      exact hxp (hpre j _ (by omega) (List.getElem?_eq_getElem hj))
end Go.Abs
end
/- The seat of privitylaw13: words. -/
set_option linter.unusedVariables false
noncomputable section
namespace Go.Abs
open Go Go.Proofs

def lent (r : RD) : RD := { r with pm := false }
@[simp] theorem lent_l (r : RD) : (lent r).l = r.l := rfl
@[simp] theorem frzL_rsV (rs : List RD) : frzL false (rsV rs) = rsV (rs.map lent) := by
  unfold rsV; induction rs with
  | nil => rfl
  | cons x l ih =>
    simp only [List.map_cons, frzL, ih]
    simp [rV, frz, lent]
@[simp] theorem ptrsL_rsV (rs : List RD) : ptrsL (rsV rs) = [] := by
  unfold rsV; induction rs with
  | nil => rfl
  | cons x l ih =>
    simp only [List.map_cons, ptrsL, ih]
    simp [rV, ptrs]
/-- Messages, one for each party, of at most 20 words below p. -/
def WordsP (p : Nat) (n : Int) (a : List RD) : Prop := (a.length : Int) = n ∧ ∀ r ∈ a, r.l.length ≤ 20 ∧ ∀ x ∈ r.l, x < p
open Classical in
set_option maxHeartbeats 8000000 in
set_option maxRecDepth 100000 in
theorem words20 (p : Nat) (n t : Int) (pm : Bool) (A : Option Addr) (cap : Nat) (a : List RD) (ha : a.length ≤ maxLen) : Ans Try.prog H13 20 [.im pm A cap a.length (rsV a), parV p n t] (.bool (decide (WordsP p n a))) := by
  have hml : maxLen = 9223372036854775807 := rfl
  refine Ans.of (fn := Try.f20) (t := 4) (by rfl) Try.func20 rfl rfl (by rfl) (by rfl) ⟨a.length + 30, fun k hk nx => ?_⟩
  refine EvP.seq (EvP.region ?_)
  simp [entryS, parV]
  refine EvP.seq (EvP.seq (EvP.region ?_))
  simp
  by_cases h0 : (a.length : Int) = n
  · refine EvP.cond (t := false) (by simp [h0]) (fun h => by cases h) (fun _ => EvP.skip ?_)
    simp only [thenE_norm]
    refine EvP.seq (EvP.seq (EvP.region ?_))
    simp
    refine EvP.block (EvP.loop (fun q D => ∃ i : Nat, q = a.length - i ∧ i ≤ a.length ∧ (∀ j r, j < i → a[j]? = some r → r.l.length ≤ 20 ∧ ∀ x ∈ r.l, x < p) ∧ D.s 0 = .im pm A cap a.length (rsV a) ∧ D.s 3 = .bptr nx 0 ∧ D.s 5 = .int .i64 (i : Int) ∧ D.m = [(nx, ⟨0, [.int .u64 (p : Int), .int .i64 n, .int .i64 t]⟩)]) (n := a.length) ⟨0, by simp⟩ (by omega) ?_)
    rintro q D ⟨i, hn, hi, hpre, d0, d3, d5, dm⟩
    simp only [liveOf13, clear_none]
    refine EvP.seq (EvP.seq (EvP.region ?_))
    simp [d0, d5]
    refine EvP.cond (t := decide (i < a.length)) (by simp) (fun h => EvP.skip ?_) (fun h => EvP.exit ?_)
    · have hlt : i < a.length := by simpa using h
      simp only [thenE_norm]
      refine EvP.seq (EvP.block (EvP.seq (EvP.seq (EvP.region ?_))))
      by_cases hl : 20 < a[i].l.length
      · simp [d0, d5, hlt, hl]
        refine EvP.cond (t := true) (by simp; omega) (fun _ => ?_) (fun h => by cases h)
        refine EvP.seq (EvP.region ?_)
        simp
        refine EvP.ret ?_
        simp [dm]
        intro hW
        have := (hW.2 a[i] (List.getElem_mem hlt)).1
        omega
      · simp [d0, d5, hlt, hl]
        refine EvP.cond (t := false) (by simp; omega) (fun h => by cases h) (fun _ => EvP.skip ?_)
        simp only [thenE_norm]
        refine EvP.seq (EvP.region ?_)
        simp
        refine EvP.block (EvP.loop (fun q D => ∃ j : Nat, q = a[i].l.length - j ∧ j ≤ a[i].l.length ∧ (∀ u x, u < j → a[i].l[u]? = some x → x < p) ∧ D.s 0 = .im pm A cap a.length (rsV a) ∧ D.s 3 = .bptr nx 0 ∧ D.s 5 = .int .i64 (i : Int) ∧ D.s 6 = .int .i64 (j : Int) ∧ D.m = [(nx, ⟨0, [.int .u64 (p : Int), .int .i64 n, .int .i64 t]⟩)]) (n := a[i].l.length) ⟨0, by simp [d0, d3, d5, dm]⟩ (by omega) ?_)
        rintro q2 D2 ⟨j, hn2, hj, hpre2, e0, e3, e5, e6, em⟩
        simp only [liveOf13, clear_none]
        refine EvP.seq (EvP.seq (EvP.region ?_))
        simp [e0, e5, e6, hlt]
        refine EvP.cond (t := decide (j < a[i].l.length)) (by simp) (fun h => EvP.skip ?_) (fun h => EvP.exit ?_)
        · have hj2 : j < a[i].l.length := by simpa using h
          simp only [thenE_norm]
          refine EvP.seq (EvP.block (EvP.seq (EvP.draw ?_)))
          by_cases hw : p ≤ a[i].l[j]
          · simp [e0, e3, e5, e6, em, hlt, hj2, hw]
            refine EvP.cond (t := true) (by simp) (fun _ => ?_) (fun h => by cases h)
            refine EvP.seq (EvP.region ?_)
            simp
            refine EvP.ret ?_
            simp [em]
            intro hW
            have := (hW.2 a[i] (List.getElem_mem hlt)).2 _ (List.getElem_mem hj2)
            omega
          · simp [e0, e3, e5, e6, em, hlt, hj2, hw]
            refine EvP.cond (t := false) (by simp) (fun h => by cases h) (fun _ => EvP.skip ?_)
            simp
            refine EvP.region ?_
            simp [e0, e3, e5, e6]
            refine ⟨a[i].l.length - (j + 1), by omega, j + 1, rfl, by omega, fun u x hu hx => ?_, wrap_succ (by omega)⟩
            by_cases huj : u = j
            · subst huj
              rw [List.getElem?_eq_getElem hj2] at hx; cases hx; omega
            · exact hpre2 u x (by omega) hx
        · have hj2 : ¬ j < a[i].l.length := by simpa using h
          simp
          refine EvP.region ?_
          simp [e0, e3, e5]
          refine ⟨a.length - (i + 1), by omega, i + 1, rfl, by omega, fun u r hu hr => ?_, wrap_succ (by omega), em⟩
          by_cases hui : u = i
          · subst hui
            rw [List.getElem?_eq_getElem hlt] at hr; cases hr
            refine ⟨by omega, fun x hx => ?_⟩
            obtain ⟨v, hv, rfl⟩ := List.getElem_of_mem hx
            exact hpre2 v _ (by omega) (List.getElem?_eq_getElem hv)
          · exact hpre u r (by omega) hr
    · have hlt : ¬ i < a.length := by simpa using h
      simp
      refine EvP.seq (EvP.region ?_)
      simp
      refine EvP.ret ?_
      simp [dm]
      refine ⟨h0, fun r hr => ?_⟩
      obtain ⟨v, hv, rfl⟩ := List.getElem_of_mem hr
      exact hpre v _ (by omega) (List.getElem?_eq_getElem hv)
  · have h0' : (((a.length : Nat) : Int) != n) = true := by simp [bne]; omega
    refine EvP.cond (t := true) (by simp [h0']) (fun _ => ?_) (fun h => by cases h)
    refine EvP.seq (EvP.region ?_)
    simp
    refine EvP.ret ?_
    simp
    exact fun hW => h0 hW.1
end Go.Abs
end
/- The seat of privitylaw13: a valid coalition. -/
set_option linter.unusedVariables false
noncomputable section
namespace Go.Abs
open Go Go.Proofs

/-- Whole numbers, as they lie in memory. -/
def iL (l : List Int) : List V := l.map fun (x : Int) => V.int .i64 x
@[simp] theorem iL_length (l : List Int) : (iL l).length = l.length := by simp [iL]
@[simp] theorem iL_getElem (l : List Int) (i : Nat) (h : i < (iL l).length) : (iL l)[i] = .int .i64 (l[i]'(by simpa using h)) := by simp [iL]
@[simp] theorem ptrsL_iL (l : List Int) : ptrsL (iL l) = [] := by
  unfold iL; induction l with
  | nil => rfl
  | cons x l ih => simp only [List.map_cons, ptrsL, ptrs, ih, List.append_nil]
@[simp] theorem frzL_iL (pm : Bool) (l : List Int) : frzL pm (iL l) = iL l := by
  unfold iL; induction l with
  | nil => rfl
  | cons x l ih => simp only [List.map_cons, frzL, frz, ih]
def CoalGood (n : Int) (l : List Int) (i : Nat) : Prop := ∀ x, l[i]? = some x → 1 ≤ x ∧ x ≤ n ∧ ∀ y, 0 < i → l[i - 1]? = some y → y < x
def CoalP (n t : Int) (l : List Int) : Prop := (l.length : Int) ≤ t ∧ ∀ i, i < l.length → CoalGood n l i
open Classical in
set_option maxHeartbeats 16000000 in
set_option maxRecDepth 100000 in
theorem coal29 (p : Nat) (n t : Int) (pm : Bool) (A : Option Addr) (cap : Nat) (l : List Int) (hl : l.length ≤ maxLen) : ∃ b, Ans Try.prog H13 29 [parV p n t, .im pm A cap l.length (iL l)] (.bool b) ∧ (b = true → ValidP p n t ∧ CoalP n t l) := by
  have hml : maxLen = 9223372036854775807 := rfl
  obtain ⟨b0, ⟨N0, h0⟩, hv⟩ := valid28 p n t
  refine ⟨b0 && decide (CoalP n t l), Ans.of (fn := Try.f29) (t := 4) (by rfl) Try.func29 rfl rfl (by rfl) (by rfl) ⟨N0 + l.length + 1, fun k hk nx => ?_⟩, fun h => ?_⟩
  case refine_2 => simp only [Bool.and_eq_true, decide_eq_true_eq] at h; exact ⟨hv h.1, h.2⟩
  have hc := h0 k (by omega)
  unfold parV at hc
  refine EvP.seq (EvP.region ?_)
  simp [entryS, parV]
  refine EvP.seq (EvP.seq (EvP.region ?_))
  cases b0 with
  | false =>
    simp [hc]
    refine EvP.cond (t := true) (by simp) (fun _ => ?_) (fun h => by cases h)
    refine EvP.seq (EvP.region ?_)
    simp
    refine EvP.ret ?_
    simp
  | true =>
    by_cases hlt0 : (l.length : Int) > t
    · simp [hc, hlt0]
      refine EvP.cond (t := true) (by simp) (fun _ => ?_) (fun h => by cases h)
      refine EvP.seq (EvP.region ?_)
      simp
      refine EvP.ret ?_
      simp
      intro hW
      have := hW.1
      omega
    · simp [hc, hlt0]
      refine EvP.cond (t := false) (by simp) (fun h => by cases h) (fun _ => EvP.skip ?_)
      simp only [thenE_norm]
      refine EvP.seq (EvP.seq (EvP.region ?_))
      simp
      refine EvP.block (EvP.loop (fun q D => ∃ i : Nat, q = l.length - i ∧ i ≤ l.length ∧ (∀ j, j < i → CoalGood n l j) ∧ D.s 1 = .im pm A cap l.length (iL l) ∧ D.s 2 = .bptr nx 0 ∧ D.s 5 = .int .i64 (i : Int) ∧ D.m = [(nx, ⟨0, [.int .u64 (p : Int), .int .i64 n, .int .i64 t]⟩)]) (n := l.length) ⟨0, by simp⟩ (by omega) ?_)
      rintro q D ⟨i, hn, hi, hpre, d1, d2, d5, dm⟩
      simp only [liveOf13, clear_none]
      refine EvP.seq (EvP.seq (EvP.region ?_))
      simp [d1, d5]
      refine EvP.cond (t := decide (i < l.length)) (by simp) (fun h => EvP.skip ?_) (fun h => EvP.exit ?_)
      · have hlt : i < l.length := by simpa using h
        simp only [thenE_norm]
        refine EvP.seq (EvP.block (EvP.seq (EvP.draw ?_)))
        have bad : ¬ CoalGood n l i → ¬ CoalP n t l := fun hb hW => hb (hW.2 i hlt)
        have nextI : CoalGood n l i → ∃ n', n' < q ∧ ∃ i_1, n' = l.length - i_1 ∧ i_1 ≤ l.length ∧ (∀ j, j < i_1 → CoalGood n l j) ∧ IntKind.i64.wrap ((i : Int) + 1) = i_1 := fun hg =>
          ⟨l.length - (i + 1), by omega, i + 1, rfl, by omega, fun j hj => by
            by_cases hji : j = i
            · subst hji; exact hg
            · exact hpre j (by omega), wrap_succ (by omega)⟩
        by_cases c1 : l[i] < 1
        · simp [d1, d2, d5, dm, hlt, c1]
          refine EvP.cond (t := true) (by simp) (fun _ => ?_) (fun h => by cases h)
          refine EvP.seq (EvP.region ?_)
          simp
          refine EvP.ret ?_
          simp
          refine bad (fun hg => ?_)
          have := (hg _ (List.getElem?_eq_getElem hlt)).1
          omega
        · by_cases c2 : l[i] > n
          · simp [d1, d2, d5, dm, hlt, c1, c2]
            refine EvP.cond (t := true) (by simp) (fun _ => ?_) (fun h => by cases h)
            refine EvP.seq (EvP.region ?_)
            simp
            refine EvP.ret ?_
            simp
            refine bad (fun hg => ?_)
            have := (hg _ (List.getElem?_eq_getElem hlt)).2.1
            omega
          · by_cases c3 : 0 < i
            · have c3' : (0 : Int) < (i : Int) := by omega
              have hw : IntKind.i64.wrap ((i : Int) - 1) = ((i - 1 : Nat) : Int) := by rw [wrap_nat (by omega) (by omega)]; omega
              have hlt1 : i - 1 < l.length := by omega
              by_cases c4 : l[i] ≤ l[i - 1]
              · simp [d1, d2, d5, dm, hlt, c1, c2, c3, hw, hlt1, c4]
                refine EvP.cond (t := true) (by simp) (fun _ => ?_) (fun h => by cases h)
                refine EvP.seq (EvP.region ?_)
                simp
                refine EvP.ret ?_
                simp
                refine bad (fun hg => ?_)
                have := (hg _ (List.getElem?_eq_getElem hlt)).2.2 _ c3 (List.getElem?_eq_getElem hlt1)
                omega
              · simp [d1, d2, d5, dm, hlt, c1, c2, c3, hw, hlt1, c4]
                refine EvP.cond (t := false) (by simp) (fun h => by cases h) (fun _ => EvP.skip ?_)
                simp
                refine EvP.region ?_
                simp [d1, d2, d5]
                refine nextI (fun x hx => ?_)
                rw [List.getElem?_eq_getElem hlt] at hx; cases hx
                refine ⟨by omega, by omega, fun y _ hy => ?_⟩
                rw [List.getElem?_eq_getElem hlt1] at hy; cases hy
                omega
            · have hi0 : i = 0 := by omega
              simp [d1, d2, d5, dm, hlt, c1, c2, c3]
              refine EvP.cond (t := false) (by simp) (fun h => by cases h) (fun _ => EvP.skip ?_)
              simp
              refine EvP.region ?_
              simp [d1, d2, d5]
              refine nextI (fun x hx => ?_)
              rw [List.getElem?_eq_getElem hlt] at hx; cases hx
              exact ⟨by omega, by omega, fun y h0 => absurd h0 c3⟩
      · have hlt : ¬ i < l.length := by simpa using h
        simp
        refine EvP.seq (EvP.region ?_)
        simp
        refine EvP.ret ?_
        simp [dm]
        exact ⟨by omega, fun j hj => hpre j (by omega)⟩
end Go.Abs
end
/- The seat of privitylaw13: a valid deviation. -/
set_option linter.unusedVariables false
noncomputable section
namespace Go.Abs
open Go Go.Proofs

structure Dev where
  round : Int
  from_ : Int
  to : Int
  at_ : Int
  kind : Int
  k : Nat
  of_ : Int
  src : Int
def devL (x : Dev) : List V := [.int .i64 x.round, .int .i64 x.from_, .int .i64 x.to, .int .i64 x.at_, .int .i64 x.kind, .int .u64 (x.k : Int), .int .i64 x.of_, .int .i64 x.src]
def devV (x : Dev) : V := .agg [.int .i64 x.round, .int .i64 x.from_, .int .i64 x.to, .int .i64 x.at_, .int .i64 x.kind, .int .u64 (x.k : Int), .int .i64 x.of_, .int .i64 x.src]
structure DevP (n : Int) (x : Dev) : Prop where
  round : x.round ≥ 0
  at_ : x.at_ ≥ 0
  src : x.src ≥ 0
  from1 : x.from_ ≥ 1
  from2 : x.from_ ≤ n
  to1 : x.to ≥ 0
  to2 : x.to ≤ n
  kind1 : x.kind ≥ 1
  kind2 : x.kind ≤ 4
  of1 : x.of_ ≥ 0
  of2 : x.of_ ≤ n
  echo : x.kind = 3 → x.of_ ≥ 1
set_option maxHeartbeats 16000000 in
set_option maxRecDepth 100000 in
theorem dev30 (p : Nat) (n t : Int) (x : Dev) : ∃ b, Ans Try.prog H13 30 [parV p n t, devV x] (.bool b) ∧ (b = true → DevP n x) := by
  have mk : ∀ b, (∀ k, 0 ≤ k → ∀ nx, EvP Try.prog H13 (evCall Try.prog H13 k) 30 k (Try.f30.body.getD .skip) (entryS [parV p n t, devV x] [] nx) (fun e D => (e = .norm ∨ e = .ret) ∧ D.s 4 = .bool b ∧ ∀ b ∈ D.m, nx ≤ b.1)) → Ans Try.prog H13 30 [parV p n t, devV x] (.bool b) :=
    fun b h => Ans.of (fn := Try.f30) (t := 4) (by rfl) Try.func30 rfl rfl (by rfl) (by rfl) ⟨0, h⟩
  by_cases c1 : x.round ≥ 0
  · by_cases c2 : x.at_ ≥ 0
    · by_cases c3 : x.src ≥ 0
      · by_cases c4 : x.from_ ≥ 1
        · by_cases c5 : x.from_ ≤ n
          · by_cases c6 : x.to ≥ 0
            · by_cases c7 : x.to ≤ n
              · by_cases c8 : x.kind ≥ 1
                · by_cases c9 : x.kind ≤ 4
                  · by_cases c10 : x.of_ ≥ 0
                    · by_cases c11 : x.of_ ≤ n
                      · by_cases c12 : x.kind = 3
                        · by_cases c13 : x.of_ ≥ 1
                          · refine ⟨true, mk true fun k hk nx => ?_, fun _ => ⟨c1, c2, c3, c4, c5, c6, c7, c8, c9, c10, c11, fun _ => c13⟩⟩
                            refine EvP.seq (EvP.region ?_)
                            simp [entryS, parV, devV]
                            refine EvP.seq (EvP.region ?_)
                            simp [c1, c2, c3, c4, c5, c6, c7, c8, c9, c10, c11, c12, c13]
                            refine EvP.ret ?_
                            simp
                            rintro a b (⟨rfl, _⟩ | ⟨rfl, _⟩) <;> omega
                          · refine ⟨false, mk false fun k hk nx => ?_, fun h => by cases h⟩
                            refine EvP.seq (EvP.region ?_)
                            simp [entryS, parV, devV]
                            refine EvP.seq (EvP.region ?_)
                            simp [c1, c2, c3, c4, c5, c6, c7, c8, c9, c10, c11, c12, c13]
                            refine EvP.ret ?_
                            simp
                            rintro a b (⟨rfl, _⟩ | ⟨rfl, _⟩) <;> omega
                        · have c12b : (x.kind != 3) = true := by simpa [bne] using c12
                          refine ⟨true, mk true fun k hk nx => ?_, fun _ => ⟨c1, c2, c3, c4, c5, c6, c7, c8, c9, c10, c11, fun h => absurd h c12⟩⟩
                          refine EvP.seq (EvP.region ?_)
                          simp [entryS, parV, devV]
                          refine EvP.seq (EvP.region ?_)
                          simp [c1, c2, c3, c4, c5, c6, c7, c8, c9, c10, c11, c12, c12b]
                          refine EvP.ret ?_
                          simp
                          rintro a b (⟨rfl, _⟩ | ⟨rfl, _⟩) <;> omega
                      · refine ⟨false, mk false fun k hk nx => ?_, fun h => by cases h⟩
                        refine EvP.seq (EvP.region ?_)
                        simp [entryS, parV, devV]
                        refine EvP.seq (EvP.region ?_)
                        simp [c1, c2, c3, c4, c5, c6, c7, c8, c9, c10, c11]
                        refine EvP.ret ?_
                        simp
                        rintro a b (⟨rfl, _⟩ | ⟨rfl, _⟩) <;> omega
                    · refine ⟨false, mk false fun k hk nx => ?_, fun h => by cases h⟩
                      refine EvP.seq (EvP.region ?_)
                      simp [entryS, parV, devV]
                      refine EvP.seq (EvP.region ?_)
                      simp [c1, c2, c3, c4, c5, c6, c7, c8, c9, c10]
                      refine EvP.ret ?_
                      simp
                      rintro a b (⟨rfl, _⟩ | ⟨rfl, _⟩) <;> omega
                  · refine ⟨false, mk false fun k hk nx => ?_, fun h => by cases h⟩
                    refine EvP.seq (EvP.region ?_)
                    simp [entryS, parV, devV]
                    refine EvP.seq (EvP.region ?_)
                    simp [c1, c2, c3, c4, c5, c6, c7, c8, c9]
                    refine EvP.ret ?_
                    simp
                    rintro a b (⟨rfl, _⟩ | ⟨rfl, _⟩) <;> omega
                · refine ⟨false, mk false fun k hk nx => ?_, fun h => by cases h⟩
                  refine EvP.seq (EvP.region ?_)
                  simp [entryS, parV, devV]
                  refine EvP.seq (EvP.region ?_)
                  simp [c1, c2, c3, c4, c5, c6, c7, c8]
                  refine EvP.ret ?_
                  simp
                  rintro a b (⟨rfl, _⟩ | ⟨rfl, _⟩) <;> omega
              · refine ⟨false, mk false fun k hk nx => ?_, fun h => by cases h⟩
                refine EvP.seq (EvP.region ?_)
                simp [entryS, parV, devV]
                refine EvP.seq (EvP.region ?_)
                simp [c1, c2, c3, c4, c5, c6, c7]
                refine EvP.ret ?_
                simp
                rintro a b (⟨rfl, _⟩ | ⟨rfl, _⟩) <;> omega
            · refine ⟨false, mk false fun k hk nx => ?_, fun h => by cases h⟩
              refine EvP.seq (EvP.region ?_)
              simp [entryS, parV, devV]
              refine EvP.seq (EvP.region ?_)
              simp [c1, c2, c3, c4, c5, c6]
              refine EvP.ret ?_
              simp
              rintro a b (⟨rfl, _⟩ | ⟨rfl, _⟩) <;> omega
          · refine ⟨false, mk false fun k hk nx => ?_, fun h => by cases h⟩
            refine EvP.seq (EvP.region ?_)
            simp [entryS, parV, devV]
            refine EvP.seq (EvP.region ?_)
            simp [c1, c2, c3, c4, c5]
            refine EvP.ret ?_
            simp
            rintro a b (⟨rfl, _⟩ | ⟨rfl, _⟩) <;> omega
        · refine ⟨false, mk false fun k hk nx => ?_, fun h => by cases h⟩
          refine EvP.seq (EvP.region ?_)
          simp [entryS, parV, devV]
          refine EvP.seq (EvP.region ?_)
          simp [c1, c2, c3, c4]
          refine EvP.ret ?_
          simp
          rintro a b (⟨rfl, _⟩ | ⟨rfl, _⟩) <;> omega
      · refine ⟨false, mk false fun k hk nx => ?_, fun h => by cases h⟩
        refine EvP.seq (EvP.region ?_)
        simp [entryS, parV, devV]
        refine EvP.seq (EvP.region ?_)
        simp [c1, c2, c3]
        refine EvP.ret ?_
        simp
        rintro a b (⟨rfl, _⟩ | ⟨rfl, _⟩) <;> omega
    · refine ⟨false, mk false fun k hk nx => ?_, fun h => by cases h⟩
      refine EvP.seq (EvP.region ?_)
      simp [entryS, parV, devV]
      refine EvP.seq (EvP.region ?_)
      simp [c1, c2]
      refine EvP.ret ?_
      simp
      rintro a b (⟨rfl, _⟩ | ⟨rfl, _⟩) <;> omega
  · refine ⟨false, mk false fun k hk nx => ?_, fun h => by cases h⟩
    refine EvP.seq (EvP.region ?_)
    simp [entryS, parV, devV]
    refine EvP.seq (EvP.region ?_)
    simp [c1]
    refine EvP.ret ?_
    simp
    rintro a b (⟨rfl, _⟩ | ⟨rfl, _⟩) <;> omega
end Go.Abs
end
