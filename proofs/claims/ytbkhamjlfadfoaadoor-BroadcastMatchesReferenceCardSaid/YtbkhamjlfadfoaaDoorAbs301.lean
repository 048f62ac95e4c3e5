/- Joined: AbsA AbsA2 AbsB AbsC AbsD AbsE AbsF AbsG. -/
import Derived.WalkKit
set_option linter.all false
set_option maxHeartbeats 16000000
namespace Go.Abs
open Go
inductive Root where
 | slot (t : Nat)
 | box (b : Nat)
deriving DecidableEq, Repr
inductive Dec where
 | nil
 | emp (A : Addr)
 | blk (g cap k : Nat)
deriving Inhabited
inductive V where
 | int (k : IntKind) (n : Int)
 | bool (b : Bool)
 | nilp
 | nilf
 | bptr (b o : Nat)
 | ip (pm : Bool) (A : Addr) (cs : List V)
 | im (pm : Bool) (A : Option Addr) (cap : Nat) (n : Nat) (cs : List V)
 | own (d : Dec) (r : Nat) (n : Nat) (cs : List V)
 | agg (cs : List V)
 | tup (cs : List V)
 | fn (f : Fn) (first cap : List V)
 | ref (r : Root) (p : List Nat)
 | loc (r : Root) (p : List Nat)
 | dead
deriving Inhabited
def A0 : Addr := ⟨0, 0, none⟩
mutual
def er : V → V
 | .ip pm _ cs => .ip pm A0 (erL cs)
 | .im pm _ _ n cs => .im pm none 0 n (erL cs)
 | .own _ r n cs => .own .nil r n (erL cs)
 | .agg cs => .agg (erL cs)
 | .tup cs => .tup (erL cs)
 | .fn f a b => .fn f (erL a) (erL b)
 | v => v
def erL : List V → List V
 | [] => []
 | v :: l => er v :: erL l
end
structure Box where
 g : Nat
 cs : List V
deriving Inhabited
structure St where
 s : Nat → V
 m : List (Nat × Box)
 nx : Nat
def St.put (D : St) (t : Nat) (v : V) : St := { D with s := fun i => if i = t then v else D.s i }
def St.putD (D : St) (d : Option Nat) (v : V) : St := match d with | some t => D.put t v | none => D
def getBox : List (Nat × Box) → Nat → Option Box
 | [], _ => none
 | (i, c) :: l, b => if i = b then some c else getBox l b
def setBox : List (Nat × Box) → Nat → Box → List (Nat × Box)
 | [], _, _ => []
 | (i, c) :: l, b, c' => if i = b then (i, c') :: l else (i, c) :: setBox l b c'
def go : List Nat → V → Option V
 | [], x => some x
 | o :: p, .own _ _ _ cs => match cs[o]? with | some y => go p y | none => none
 | o :: p, .agg cs => match cs[o]? with | some y => go p y | none => none
 | o :: p, .tup cs => match cs[o]? with | some y => go p y | none => none
 | _, _ => none
def goSet : List Nat → V → V → V
 | [], y, _ => y
 | o :: p, y, .own d r n cs => .own d r n (match cs[o]? with | some x => cs.set o (goSet p y x) | none => cs)
 | o :: p, y, .agg cs => .agg (match cs[o]? with | some x => cs.set o (goSet p y x) | none => cs)
 | o :: p, y, .tup cs => .tup (match cs[o]? with | some x => cs.set o (goSet p y x) | none => cs)
 | _, _, x => x
def look (D : St) (r : Root) (p : List Nat) : Option V :=
 match r with
 | .slot t => go p (D.s t)
 | .box b => match getBox D.m b with
   | some c => match p with
     | [] => none
     | o :: q => match c.cs[o]? with | some y => go q y | none => none
   | none => none
def pre : List Nat → List Nat → Bool
 | [], _ => true
 | a :: p, b :: q => a == b && pre p q
 | _ :: _, [] => false
def hitRef (r : Root) (p : List Nat) (r' : Root) (q : List Nat) : Bool := decide (r = r') && pre p q
def hitLoc (r : Root) (p : List Nat) (r' : Root) (q : List Nat) : Bool := decide (r = r') && pre p q.dropLast
mutual
def kill (r : Root) (p : List Nat) : V → V
 | .ref r' q => if hitRef r p r' q then .dead else .ref r' q
 | .loc r' q => if hitLoc r p r' q then .dead else .loc r' q
 | .agg cs => .agg (killL r p cs)
 | .tup cs => .tup (killL r p cs)
 | .fn f a b => .fn f (killL r p a) (killL r p b)
 | v => v
def killL (r : Root) (p : List Nat) : List V → List V
 | [] => []
 | v :: l => kill r p v :: killL r p l
end
def killAll (D : St) (r : Root) (p : List Nat) : St := { D with s := fun i => kill r p (D.s i) }
def setAt (D : St) (r : Root) (p : List Nat) (y : V) : St :=
 match r with
 | .slot t => { D with s := fun i => if i = t then goSet p y (D.s t) else D.s i }
 | .box b => match getBox D.m b with
   | some c => match p with
     | [] => D
     | o :: q => { D with m := setBox D.m b { c with cs := match c.cs[o]? with | some x => c.cs.set o (goSet q y x) | none => c.cs } }
   | none => D
def V.scalar : V → Bool
 | .int _ _ | .bool _ => true
 | _ => false
mutual
def noRow : V → Bool
 | .own _ _ _ _ => false
 | .agg cs => noRowL cs
 | .tup cs => noRowL cs
 | .fn _ a b => noRowL a && noRowL b
 | _ => true
def noRowL : List V → Bool
 | [] => true
 | v :: l => noRow v && noRowL l
end
mutual
def view (r : Root) (p : List Nat) : V → V
 | .own _ _ _ _ => .ref r p
 | .agg cs => .agg (viewL r p 0 cs)
 | .tup cs => .tup (viewL r p 0 cs)
 | .fn f a b => if noRowL a && noRowL b then .fn f a b else .dead
 | x => x
def viewL (r : Root) (p : List Nat) (i : Nat) : List V → List V
 | [] => []
 | x :: l => view r (p ++ [i]) x :: viewL r p (i + 1) l
end
mutual
def frz (pm : Bool) : V → V
 | .own d _ n cs => .im pm (match d with | .nil => none | .emp A => some A | .blk g _ _ => some ⟨g, 0, none⟩) (match d with | .blk _ cap _ => cap | _ => 0) n (frzL pm cs)
 | .im _ A cap n cs => .im pm A cap n (frzL pm cs)
 | .ip _ A cs => .ip pm A (frzL pm cs)
 | .agg cs => .agg (frzL pm cs)
 | .tup cs => .tup (frzL pm cs)
 | .fn f a b => .fn f (frzL pm a) (frzL pm b)
 | v => v
def frzL (pm : Bool) : List V → List V
 | [] => []
 | v :: l => frz pm v :: frzL pm l
end
mutual
def noBor : V → Bool
 | .im pm _ _ _ cs => pm && noBorL cs
 | .ip pm _ cs => pm && noBorL cs
 | .own _ _ _ cs => noBorL cs
 | .agg cs => noBorL cs
 | .tup cs => noBorL cs
 | .fn _ a b => noBorL a && noBorL b
 | _ => true
def noBorL : List V → Bool
 | [] => true
 | v :: l => noBor v && noBorL l
end
mutual
def ptrs : V → List Nat
 | .bptr b _ => [b]
 | .im _ _ _ _ cs => ptrsL cs
 | .ip _ _ cs => ptrsL cs
 | .own _ _ _ cs => ptrsL cs
 | .agg cs => ptrsL cs
 | .tup cs => ptrsL cs
 | .fn _ a b => ptrsL a ++ ptrsL b
 | _ => []
def ptrsL : List V → List Nat
 | [] => []
 | v :: l => ptrs v ++ ptrsL l
end
mutual
def sub (r : Root) (p : List Nat) (x : V) : V → V
 | .ref r' q => if r = r' ∧ p = q then x else .ref r' q
 | .agg cs => .agg (subL r p x cs)
 | .tup cs => .tup (subL r p x cs)
 | .fn f a b => .fn f (subL r p x a) (subL r p x b)
 | v => v
def subL (r : Root) (p : List Nat) (x : V) : List V → List V
 | [] => []
 | v :: l => sub r p x v :: subL r p x l
end
def take (D : St) (r : Root) (p : List Nat) : Option (V × St) :=
 match look D r p with
 | some (.own d k n cs) => some (.own d k n cs, setAt D r p .dead)
 | _ => none
def takeF (D : St) (r : Root) (p : List Nat) : Option (V × St) :=
 match look D r p with
 | some (.own d k n cs) =>
   some (frz (noBorL cs) (.own d k n cs), setAt { D with s := fun i => sub r p (frz (noBorL cs) (.own d k n cs)) (D.s i) } r p (frz (noBorL cs) (.own d k n cs)))
 | _ => none
def cpD : Dec → Dec
 | .blk g _ _ => .emp ⟨g, 0, none⟩
 | d => d
def takeZ (D : St) (r : Root) (p : List Nat) : Option (V × St) :=
 match look D r p with
 | some (.own d 0 0 []) => some (.own (cpD d) 0 0 [], D)
 | _ => takeF D r p
mutual
def solid : V → Bool
 | .int _ _ | .bool _ | .nilp | .nilf | .bptr _ _ | .ip _ _ _ | .im _ _ _ _ _ => true
 | .fn _ a b => solidL a && solidL b
 | _ => false
def solidL : List V → Bool
 | [] => true
 | v :: l => solid v && solidL l
end
def cellIn : V → Bool
 | .own _ _ _ _ => true
 | v => solid v
mutual
def settle (fz : Bool) : V → St → Option (V × St)
 | .ref r p, D => if fz then takeZ D r p else take D r p
 | .loc _ _, _ => none
 | .agg cs, D => match settleL fz cs D with | some (l, D') => some (.agg l, D') | none => none
 | .tup cs, D => match settleL fz cs D with | some (l, D') => some (.tup l, D') | none => none
 | .fn f a b, D => if solidL a && solidL b then some (.fn f a b, D) else none
 | v, D => some (v, D)
def settleL (fz : Bool) : List V → St → Option (List V × St)
 | [], D => some ([], D)
 | v :: l, D => match settle fz v D with
   | some (x, D1) => match settleL fz l D1 with
     | some (xs, D2) => some (x :: xs, D2)
     | none => none
   | none => none
end
def rs (D : St) : V → Option V
 | .ref r p => match look D r p with | some (.own d k n cs) => some (.own d k n cs) | _ => none
 | v => some v
def ofCell : Value → Option V
 | .int k n => some (.int k n)
 | .bool b => some (.bool b)
 | .slice none 0 0 => some (.own .nil 0 0 [])
 | .pointer none => some .nilp
 | .nilFunc => some .nilf
 | _ => none
def ofCells : List Value → Option (List V)
 | [] => some []
 | v :: l => match ofCell v with
   | some x => match ofCells l with | some xs => some (x :: xs) | none => none
   | none => none
def ofVal : Value → Option V
 | .agg cs => match ofCells cs.toList with | some l => some (.agg l) | none => none
 | v => ofCell v
def V.cells : V → List V
 | .agg cs => cs
 | v => [v]
def rep : Nat → List V → List V
 | 0, _ => []
 | n + 1, l => l ++ rep n l
section
variable (P : Program)
def sizeT (t : TypeId) : Option Nat := match P.info? t with | some i => some i.size | none => none
def bytesT (t : TypeId) : Option Nat := match P.info? t with | some i => some i.bytes | none => none
def zeroT (t : TypeId) : Option (List V) := match P.info? t with
 | some i => match i.zero with
   | some z => ofCells z.cells.toList
   | none => none
 | none => none
def aggT (t : TypeId) : Option Bool := match P.underlying t with | some (.struct _) | some (.array _ _) => some true | some _ => some false | none => none
def canStore (D : St) (r : Root) (p : List Nat) : Bool :=
 match r, p with
 | .box _, [] => true
 | r, p => match look D r p with | some (.own _ _ _ _) => true | _ => false
def storeAt (D : St) (r : Root) (p : List Nat) (o : Nat) : List V → Option St
 | [] => some D
 | y :: l => match look D r (p ++ [o]) with
   | some _ => if cellIn y && canStore D r p then storeAt (if noRow y then setAt D r (p ++ [o]) y else killAll (setAt D r (p ++ [o]) y) r (p ++ [o])) r p (o + 1) l else none
   | none => none
def loadAt (D : St) (r : Root) (p : List Nat) (o : Nat) : Nat → Option (List V)
 | 0 => some []
 | k + 1 => match look D r (p ++ [o]) with
   | some x => if canStore D r p then (match loadAt D r p (o + 1) k with
     | some l => some (view r (p ++ [o]) x :: l)
     | none => none) else none
   | none => none
def target : V → Option (Root × List Nat × Nat)
 | .bptr b o => some (.box b, [], o)
 | .loc r p => match p.getLast? with
   | some o => match r, p.dropLast with
     | .box _, [] => none
     | r, q => some (r, q, o)
   | none => none
 | _ => none
def intOp (op : BinOp) (k : IntKind) (a b : Int) : Option V :=
 match op with
 | .add => some (.int k (k.wrap (a + b)))
 | .sub => some (.int k (k.wrap (a - b)))
 | .mul => some (.int k (k.wrap (a * b)))
 | .quo => if b = 0 then none else some (.int k (k.wrap (a.tdiv b)))
 | .rem => if b = 0 then none else some (.int k (a.tmod b))
 | .and => some (.int k (k.wrap ((BitVec.ofInt k.bits a &&& BitVec.ofInt k.bits b).toNat)))
 | .or => some (.int k (k.wrap ((BitVec.ofInt k.bits a ||| BitVec.ofInt k.bits b).toNat)))
 | .xor => some (.int k (k.wrap ((BitVec.ofInt k.bits a ^^^ BitVec.ofInt k.bits b).toNat)))
 | .andNot => some (.int k (k.wrap ((BitVec.ofInt k.bits a &&& ~~~ (BitVec.ofInt k.bits b)).toNat)))
 | .eql => some (.bool (a == b))
 | .neq => some (.bool (a != b))
 | .lss => some (.bool (decide (a < b)))
 | .leq => some (.bool (decide (a ≤ b)))
 | .gtr => some (.bool (decide (a > b)))
 | .geq => some (.bool (decide (a ≥ b)))
 | _ => none
def shOp (op : BinOp) (k : IntKind) (a b : Int) : Option V :=
 if b < 0 then none else
 match op with
 | .shl => some (.int k (k.wrap (a * 2 ^ (min b.toNat k.bits))))
 | .shr => some (.int k (a.fdiv (2 ^ (min b.toNat k.bits))))
 | _ => none
def isSh : BinOp → Bool | .shl | .shr => true | _ => false
def ne0 (op : BinOp) : Option V := match op with | .eql => some (.bool false) | .neq => some (.bool true) | _ => none
def eq0 (op : BinOp) : Option V := match op with | .eql => some (.bool true) | .neq => some (.bool false) | _ => none
def un (op : UnOp) (a : V) : Option V :=
 match op, a with
 | .neg, .int k n => some (.int k (k.wrap (0 - n)))
 | .xor, .int k n => some (.int k (k.wrap ((BitVec.ofInt k.bits (if k.signed then -1 else k.max) ^^^ BitVec.ofInt k.bits n).toNat)))
 | .not, .bool b => some (.bool !b)
 | _, _ => none
end
end Go.Abs
noncomputable section
namespace Go.Abs
open Go
mutual
inductive Sm : V → V → Prop
 | int (k : IntKind) (n : Int) : Sm (.int k n) (.int k n)
 | bool (b : Bool) : Sm (.bool b) (.bool b)
 | nilp : Sm .nilp .nilp
 | nilf : Sm .nilf .nilf
 | bptr (b o : Nat) : Sm (.bptr b o) (.bptr b o)
 | ip {pm : Bool} {A A' : Addr} {cs cs' : List V} (h : SmL cs cs') : Sm (.ip pm A cs) (.ip pm A' cs')
 | im {pm : Bool} {A A' : Option Addr} {cap cap' n : Nat} {cs cs' : List V} (h : SmL cs cs') : Sm (.im pm A cap n cs) (.im pm A' cap' n cs')
 | own {d d' : Dec} {r n : Nat} {cs cs' : List V} (h : SmL cs cs') : Sm (.own d r n cs) (.own d' r n cs')
 | agg {cs cs' : List V} (h : SmL cs cs') : Sm (.agg cs) (.agg cs')
 | tup {cs cs' : List V} (h : SmL cs cs') : Sm (.tup cs) (.tup cs')
 | fn {f : Fn} {a a' b b' : List V} (h : SmL a a') (k : SmL b b') : Sm (.fn f a b) (.fn f a' b')
 | ref (r : Root) (p : List Nat) : Sm (.ref r p) (.ref r p)
 | loc (r : Root) (p : List Nat) : Sm (.loc r p) (.loc r p)
 | dead : Sm .dead .dead
inductive SmL : List V → List V → Prop
 | nil : SmL [] []
 | cons {v v' : V} {l l' : List V} (h : Sm v v') (k : SmL l l') : SmL (v :: l) (v' :: l')
end
mutual
theorem Sm.refl : ∀ v : V, Sm v v
 | .int k n => .int k n
 | .bool b => .bool b
 | .nilp => .nilp
 | .nilf => .nilf
 | .bptr b o => .bptr b o
 | .ip _ _ cs => .ip (SmL.refl cs)
 | .im _ _ _ _ cs => .im (SmL.refl cs)
 | .own _ _ _ cs => .own (SmL.refl cs)
 | .agg cs => .agg (SmL.refl cs)
 | .tup cs => .tup (SmL.refl cs)
 | .fn _ a b => .fn (SmL.refl a) (SmL.refl b)
 | .ref r p => .ref r p
 | .loc r p => .loc r p
 | .dead => .dead
theorem SmL.refl : ∀ l : List V, SmL l l
 | [] => .nil
 | v :: l => .cons (Sm.refl v) (SmL.refl l)
end
mutual
theorem Sm.trans : ∀ {a b c : V}, Sm a b → Sm b c → Sm a c
 | _, _, _, .int _ _, h => h
 | _, _, _, .bool _, h => h
 | _, _, _, .nilp, h => h
 | _, _, _, .nilf, h => h
 | _, _, _, .bptr _ _, h => h
 | _, _, _, .ip h, .ip k => .ip (h.trans k)
 | _, _, _, .im h, .im k => .im (h.trans k)
 | _, _, _, .own h, .own k => .own (h.trans k)
 | _, _, _, .agg h, .agg k => .agg (h.trans k)
 | _, _, _, .tup h, .tup k => .tup (h.trans k)
 | _, _, _, .fn h h', .fn k k' => .fn (h.trans k) (h'.trans k')
 | _, _, _, .ref _ _, h => h
 | _, _, _, .loc _ _, h => h
 | _, _, _, .dead, h => h
theorem SmL.trans : ∀ {a b c : List V}, SmL a b → SmL b c → SmL a c
 | _, _, _, .nil, h => h
 | _, _, _, .cons h h', .cons k k' => .cons (h.trans k) (h'.trans k')
end
inductive SmM : List (Nat × Box) → List (Nat × Box) → Prop
 | nil : SmM [] []
 | cons {i : Nat} {c c' : Box} {m m' : List (Nat × Box)} (h : SmL c.cs c'.cs) (k : SmM m m') : SmM ((i, c) :: m) ((i, c') :: m')
theorem SmM.refl : ∀ m, SmM m m
 | [] => .nil
 | (i, c) :: m => .cons (SmL.refl _) (SmM.refl m)
theorem SmM.trans {a b c : List (Nat × Box)} (h : SmM a b) (k : SmM b c) : SmM a c := by
 induction h generalizing c with
 | nil => exact k
 | cons h1 _ ih => cases k with | cons k1 k2 => exact .cons (h1.trans k1) (ih k2)
theorem SmM.append {a b a' b' : List (Nat × Box)} (h : SmM a b) (k : SmM a' b') : SmM (a ++ a') (b ++ b') := by
 induction h with
 | nil => exact k
 | cons h1 _ ih => exact .cons h1 ih
structure SmS (D D' : St) : Prop where
 s : ∀ i, Sm (D.s i) (D'.s i)
 m : SmM D.m D'.m
 nx : D'.nx = D.nx
theorem SmS.refl (D : St) : SmS D D := ⟨fun _ => Sm.refl _, SmM.refl _, rfl⟩
theorem SmS.trans {a b c : St} (h : SmS a b) (k : SmS b c) : SmS a c := ⟨fun i => (h.s i).trans (k.s i), h.m.trans k.m, k.nx.trans h.nx⟩
mutual
theorem Sm.symm : ∀ {a b : V}, Sm a b → Sm b a
 | _, _, .int _ _ => .int _ _
 | _, _, .bool _ => .bool _
 | _, _, .nilp => .nilp
 | _, _, .nilf => .nilf
 | _, _, .bptr _ _ => .bptr _ _
 | _, _, .ip h => .ip h.symm
 | _, _, .im h => .im h.symm
 | _, _, .own h => .own h.symm
 | _, _, .agg h => .agg h.symm
 | _, _, .tup h => .tup h.symm
 | _, _, .fn h k => .fn h.symm k.symm
 | _, _, .ref _ _ => .ref _ _
 | _, _, .loc _ _ => .loc _ _
 | _, _, .dead => .dead
theorem SmL.symm : ∀ {a b : List V}, SmL a b → SmL b a
 | _, _, .nil => .nil
 | _, _, .cons h k => .cons h.symm k.symm
end
theorem SmM.symm {a b : List (Nat × Box)} (h : SmM a b) : SmM b a := by
 induction h with
 | nil => exact .nil
 | cons h1 _ ih => exact .cons h1.symm ih
theorem SmS.symm {a b : St} (h : SmS a b) : SmS b a := ⟨fun i => (h.s i).symm, h.m.symm, h.nx.symm⟩
inductive Pl where
 | fin
 | one (i : Nat) (l : Pl)
 | two (i : Nat) (a : Pl) (j : Nat) (b : Pl)
 | three (i : Nat) (a : Pl) (j : Nat) (b : Pl) (k : Nat) (c : Pl)
structure Hint where
 tree : Nat → Nat → Option Pl := fun _ _ => none
 q : Nat → Nat → Nat → Bool := fun _ _ _ => false
 G : Nat → Option (List V)
 sg : Nat → List Nat
 fz : Nat → Nat → Nat → Bool
 live : Nat → Nat → Option (List Nat)
 fr : Nat → Bool
 X : Nat → List V → Option V
 plan : Nat → Nat → Option (List Nat)
 mc : Nat → Nat → List Nat
 good : Nat → Bool
abbrev Callee := Nat → List V → List (Nat × Box) → Nat → Option (V × List (Nat × Box) × Nat)
section
variable (P : Program) (H : Hint)
def ev (D : St) : Operand → Option V
 | .tmp t => some (view (.slot t) [] (D.s t))
 | .const v => ofVal v
 | .func f => some (.fn (.func f) [] [])
 | .global g => match H.G g with | some cs => some (.ip true ⟨g, 0, none⟩ cs) | none => none
def evL (D : St) : List Operand → Option (List V)
 | [] => some []
 | x :: l => match ev H D x with
   | some v => match evL D l with | some vs => some (v :: vs) | none => none
   | none => none
def St.lay (D : St) (d : Option Nat) (v : V) : St := match d with
 | none => D
 | some t => if noRow v then D.put t v else killAll (D.put t v) (.slot t) []
def St.newAt (D : St) (g : Nat) (cs : List V) : St := killAll { D with m := D.m ++ [(D.nx, ⟨g, cs⟩)], nx := D.nx + 1 } (.box D.nx) []
def St.new (D : St) (cs : List V) : St := D.newAt 0 cs
def fillV (place : Nat → Option (Nat × Nat)) : List V → List (Nat × V) → Option (List V)
 | cells, [] => some cells
 | cells, (i, v) :: l => match place i with
   | some (off, size) => if v.cells.length = size ∧ off + size ≤ cells.length then fillV place (cells.take off ++ v.cells ++ cells.drop (off + size)) l else none
   | none => none
def okAddr (D : St) : V → Bool
 | .bptr _ _ => true
 | .ip _ _ _ => true
 | .loc r p => match target (.loc r p) with
   | some (r', q, j) => canStore D r' q && (look D r' (q ++ [j])).isSome
   | none => false
 | _ => false
def okPart (D : St) : V → Bool
 | .ref r p => match look D r p with | some (.own _ _ _ _) => true | _ => false
 | .loc r p => okAddr D (.loc r p)
 | .dead => false
 | .tup _ => false
 | _ => true
def evParts (D : St) : List (Nat × Operand) → Option (List (Nat × V))
 | [] => some []
 | (i, x) :: l => match ev H D x with
   | some v => if okPart D v then (match evParts D l with | some vs => some ((i, v) :: vs) | none => none) else none
   | none => none
def settleP (fz : Bool) : List (Nat × V) → St → Option (List (Nat × V) × St)
 | [], D => some ([], D)
 | (i, v) :: l, D => match settle fz v D with
   | some (x, D1) => if x.cells.all cellIn then (match settleP fz l D1 with
     | some (xs, D2) => some ((i, x) :: xs, D2)
     | none => none) else none
   | none => none
def partV (t : TypeId) (cs : List V) (off : Nat) : Option V :=
 match aggT P t, sizeT P t with
 | some true, some k => if off + k ≤ cs.length then some (.agg ((cs.drop off).take k)) else none
 | some false, _ => cs[off]?
 | _, _ => none
def moveV (d : Nat) : V → Option V
 | .bptr b o => some (.bptr b (o + d))
 | .loc r p => match p.getLast? with | some o => some (.loc r (p.dropLast ++ [o + d])) | none => none
 | .ip pm A cs => if d ≤ cs.length then some (.ip pm (A.add d) (cs.drop d)) else none
 | _ => none
def capM (cap : Nat) : Option Int → Nat
 | some m => m.toNat
 | none => cap
def cutV (sz : Nat) (l : Option Int) (h : Option Int) (mx : Option Int) : V → Option V
 | .im pm A cap n cs =>
   let l' := l.getD 0
   let h' := h.getD n
   let m' := mx.getD h'
   if 0 ≤ l' ∧ l' ≤ h' ∧ h' ≤ m' ∧ m' ≤ n ∧ cs.length = n * sz ∧ (mx.isSome = true → h.isSome = true) then
    let m0 := capM cap mx
    let A' := if m0 = l'.toNat then A else match A with | some a => some (a.add (l'.toNat * sz)) | none => none
    if mx.isSome && decide (l' = m') then some (.own (match A' with | some a => .emp a | none => .nil) 0 0 [])
    else some (.im pm A' (m0 - l'.toNat) (h'.toNat - l'.toNat) ((cs.drop (l'.toNat * sz)).take ((h'.toNat - l'.toNat) * sz)))
   else none
 | _ => none
def takeC (D : St) : V → Option (V × St)
 | .ref r p => takeF D r p
 | v => some (v, D)
def evI (D : St) : Option Operand → Option (Option Int)
 | none => some none
 | some x => match ev H D x with | some (.int _ n) => some (some n) | _ => none
mutual
def lend (md : Nat) : V → St → Option (V × St)
 | .ref r p, D => if md = 0 then (match look D r p with | some (.own d k n cs) => some (frz false (.own d k n cs), D) | _ => none)
   else match takeF D r p with
    | some (x, D1) => if md = 1 then some (frz false x, D1) else if noBor x then some (x, D1) else none
    | none => none
 | .loc _ _, _ => none
 | .own d k n cs, D => if n = 0 then some (frz (decide (md = 2)) (.own d k n cs), D) else none
 | .agg cs, D => match lendL md cs D with | some (l, D') => some (.agg l, D') | none => none
 | .tup cs, D => match lendL md cs D with | some (l, D') => some (.tup l, D') | none => none
 | .fn f a b, D => match lendL md a D with
   | some (a', D1) => match lendL md b D1 with | some (b', D2) => some (.fn f a' b', D2) | none => none
   | none => none
 | v, D => if md = 2 then (if noBor v then some (v, D) else none) else some (frz false v, D)
def lendL (md : Nat) : List V → St → Option (List V × St)
 | [], D => some ([], D)
 | v :: l, D => match lend md v D with
   | some (x, D1) => match lendL md l D1 with
     | some (xs, D2) => some (x :: xs, D2)
     | none => none
   | none => none
end
def lendArgs : List Nat → List V → St → Option (List V × St)
 | _, [], D => some ([], D)
 | md, v :: l, D => match lend (md.headD 1) v D with
   | some (x, D1) => match lendArgs md.tail l D1 with
     | some (xs, D2) => some (x :: xs, D2)
     | none => none
   | none => none
mutual
def hasRef : V → Bool
 | .ref _ _ => true
 | .agg cs => hasRefL cs
 | .tup cs => hasRefL cs
 | .fn _ a b => hasRefL a || hasRefL b
 | _ => false
def hasRefL : List V → Bool
 | [] => false
 | v :: l => hasRef v || hasRefL l
end
def lendsB : List Nat → List V → Bool
 | _, [] => false
 | md, v :: l => (md.headD 1 == 0 && hasRef v) || lendsB md.tail l
def lendsS : List Nat → List V → Bool
 | _, [] => true
 | md, v :: l => (match v with | .ref (.slot _) _ => md.headD 1 == 0 | v => !hasRef v) && lendsS md.tail l
def reach (m : List (Nat × Box)) : Nat → List Nat → List Nat
 | 0, ids => ids
 | k + 1, ids =>
   let more := (ids.flatMap fun b => match getBox m b with | some c => ptrsL c.cs | none => []).filter fun b => !ids.contains b
   if more.isEmpty then ids else reach m k (ids ++ more.eraseDups)
mutual
def killB (ids : List Nat) (nx : Nat) : V → V
 | .ref (.box b) p => if ids.contains b || decide (nx ≤ b) then .dead else .ref (.box b) p
 | .loc (.box b) p => if ids.contains b || decide (nx ≤ b) then .dead else .loc (.box b) p
 | .agg cs => .agg (killBL ids nx cs)
 | .tup cs => .tup (killBL ids nx cs)
 | .fn f a b => .fn f (killBL ids nx a) (killBL ids nx b)
 | v => v
def killBL (ids : List Nat) (nx : Nat) : List V → List V
 | [] => []
 | v :: l => killB ids nx v :: killBL ids nx l
end
def othersM (m : List (Nat × Box)) (ids : List Nat) : List (Nat × Box) := m.filter fun e => !ids.contains e.1
def doCall (C : Callee) (f : Nat) (vs : List V) (D : St) (dst : Option Nat) : Option St :=
 match lendArgs (H.sg f) vs D with
 | some (as, D1) =>
   match H.X f as with
   | some r => if lendsB (H.sg f) vs && !noBor r then none else some (D1.lay dst r)
   | none =>
     let ids := reach D1.m D1.m.length (ptrsL as).eraseDups
     if lendsB (H.sg f) vs && !ids.isEmpty && !lendsS (H.sg f) vs then none else
     match C f as (D1.m.filter fun e => ids.contains e.1) D1.nx with
     | some (r, m2, nx2) =>
       if lendsB (H.sg f) vs && !(noBor r && m2.all fun e => noBorL e.2.cs) then none
       else if ids.isEmpty && nx2 == D1.nx then some (D1.lay dst r)
       else if m2.all fun e => ids.contains e.1 || decide (D1.nx ≤ e.1) then some ((St.mk (fun i => killB ids D1.nx (D1.s i)) (othersM D1.m ids ++ m2) nx2).lay dst r)
       else none
     | none => none
 | none => none
def bring (sz : Nat) (x : V) (D : St) : Option (Nat × List V × St) :=
 match x with
 | .im _ _ _ n cs => if cs.length = n * sz ∧ cs.all cellIn then some (n, cs, D) else none
 | .ref r p => match look D r p with
   | some (.own _ _ n cs) => if cs.length = n * sz ∧ cs.all cellIn then (if noRowL cs then some (n, cs, D) else some (n, cs, setAt D r p .dead)) else none
   | _ => none
 | _ => none
def appendV (t : TypeId) (v x : V) (D : St) : Option (V × St) :=
 match P.underlying t with
 | some (.slice e) => match sizeT P e, bytesT P e, zeroT P e with
   | some sz, some by_, some z =>
     if z.length ≠ sz ∨ sz = 0 then none else
     match bring sz x D with
     | some (n, cs, D0) =>
       match v with
       | .ref r p => match take D0 r p with
         | some (.own _ k n' cs', D1) => if (k = 0 ∨ k = sz) ∧ cs'.length = n' * sz ∧ (n' + n) * by_ ≤ 140737488355328 ∧ n' + n ≤ 140737488355328 then some (.own .nil (if n' + n = 0 then k else 0) (n' + n) (cs' ++ cs), D1) else none
         | _ => none
       | .own d k 0 [] => if n * by_ ≤ 140737488355328 ∧ n ≤ 140737488355328 then some (.own .nil (if n = 0 then k else 0) n cs, D0) else none
       | _ => none
     | none => none
   | _, _, _ => none
 | _ => none
def copyV (t : TypeId) (v x : V) (D : St) : Option (V × St) :=
 match P.underlying t with
 | some (.slice e) => match sizeT P e with
   | some sz => match bring sz x D with
     | some (n, cs, D0) => match v with
       | .ref r p => match look D0 r p with
         | some (.own _ _ n' _) => if cs.all V.scalar then (match storeAt D0 r p 0 (cs.take (min n n' * sz)) with
          | some D2 => some (.int .i64 (min n n' : Nat), D2)
          | none => none) else none
         | _ => none
       | _ => none
     | none => none
   | none => none
 | _ => none
def lenV (t : TypeId) (v : V) (D : St) : Option V :=
 match P.underlying t with
 | some (.slice _) => match rs D v with
   | some (.im _ _ _ n _) => some (.int .i64 n)
   | some (.own _ _ n _) => some (.int .i64 n)
   | _ => none
 | some (.array n _) => some (.int .i64 n)
 | some (.pointer a) => match P.underlying a with | some (.array n _) => some (.int .i64 n) | _ => none
 | _ => none
def minmaxA (isMax : Bool) (k : IntKind) (a : Int) : List V → Option V
 | [] => some (.int k a)
 | .int k' b :: l => if k = k' then minmaxA isMax k (if isMax then (if b > a then b else a) else (if b < a then b else a)) l else none
 | _ => none
def minmax (isMax : Bool) : List V → Option V
 | .int k a :: l => minmaxA isMax k a l
 | _ => none
def doBuiltin (b : Builtin) (ts : List TypeId) (vs : List V) (D : St) : Option (V × St) :=
 match b, ts, vs with
 | .append, [t, t'], [v, x] => if t = t' then appendV P t v x D else none
 | .copy, [t, t'], [v, x] => copyV P t v x D
 | .len, [t], [v] => match lenV P t v D with | some y => some (y, D) | none => none
 | .max, _, vs => match minmax true vs with | some y => some (y, D) | none => none
 | .min, _, vs => match minmax false vs with | some y => some (y, D) | none => none
 | _, _, _ => none
def loadV (D : St) (t : TypeId) (v : V) : Option V :=
 match v with
 | .ip _ _ cs => match aggT P t, sizeT P t with
   | some true, some k => if k ≤ cs.length then some (.agg (cs.take k)) else none
   | some false, _ => cs[0]?
   | _, _ => none
 | v => match target v with
   | some (r, p, j) => match aggT P t, sizeT P t with
     | some true, some (k + 1) => match loadAt D r p j (k + 1) with | some l => some (.agg l) | none => none
     | some false, _ => match loadAt D r p j 1 with | some (c :: _) => some c | _ => none
     | _, _ => none
   | none => none
def isNil : Operand → Bool
 | .const (.slice none 0 0) => true
 | _ => false
def intV : Option V → Option (IntKind × Int)
 | some (.int k a) => some (k, a)
 | _ => none
def eqFs : List Field → List V → List V → Option Bool
 | [], _, _ => some true
 | f :: fs, xs, ys => if f.name = "_" then none else
   match aggT P f.type, P.underlying f.type, intV xs[f.offset]?, intV ys[f.offset]? with
   | some false, some (.int _), some (k, a), some (k', b) => if k = k' then (if a = b then eqFs fs xs ys else some false) else none
   | _, _, _, _ => none
def eqStruct (t : TypeId) (xs ys : List V) : Option Bool := match P.underlying t with
 | some (.struct fs) => if P.stoodInHeld t || P.eqGuardType P.depth t then none else eqFs P fs.toList xs ys
 | _ => none
def eqB (op : BinOp) (r : Bool) : Option V := match op with | .eql => some (.bool r) | .neq => some (.bool !r) | _ => none
def bin (D : St) (op : BinOp) (t : TypeId) (nil : Bool) (a b : V) : Option V :=
 match a, b with
 | .int k x, .int k' y => if isSh op then shOp op k x y else if k = k' then intOp op k x y else none
 | .bool x, .bool y => match P.underlying t, op with
   | some .bool, .eql => some (.bool (x == y))
   | some .bool, .neq => some (.bool (!(x == y)))
   | _, _ => none
 | .nilp, .nilp => match P.underlying t with | some (.pointer _) => eq0 op | _ => none
 | .bptr _ _, .nilp => match P.underlying t with | some (.pointer _) => ne0 op | _ => none
 | .nilp, .bptr _ _ => match P.underlying t with | some (.pointer _) => ne0 op | _ => none
 | .agg xs, .agg ys => match eqStruct P t xs ys with | some r => eqB op r | none => none
 | a, _ => if nil then (match P.underlying t, rs D a with
   | some (.slice _), some (.im _ _ _ (_ + 1) _) => ne0 op
   | some (.slice _), some (.own _ _ (_ + 1) _) => ne0 op
   | _, _ => none) else none
def structPlace (fs : Array Field) (i : Nat) : Option (Nat × Nat) :=
 match fs[i]? with | some f => (match sizeT P f.type with | some k => some (f.offset, k) | none => none) | none => none
def strOf : Operand → Option ByteArray
 | .const (.string s) => some s
 | _ => none
def evOp (C : Callee) (fz : Bool) (o : Oper) (D : St) : Option St :=
 match o.op with
 | .move x => match ev H D x with | some v => some (D.lay o.dst v) | none => none
 | .assign x => match ev H D x with
   | some v => match settle fz v D with | some (y, D1) => some (D1.lay o.dst y) | none => none
   | none => none
 | .pick c a b => match ev H D c with
   | some (.bool t) => match ev H D a, ev H D b with
     | some (.bool x), some (.bool y) => some (D.lay o.dst (.bool (bif t then x else y)))
     | va, vb => match (if t then va else vb) with | some v => some (D.lay o.dst v) | none => none
   | _ => none
 | .alloc t => match zeroT P t with | some cs => if cs.isEmpty || !cs.all cellIn then none else some ((D.new cs).lay o.dst (.bptr D.nx 0)) | none => none
 | .box t x => match ev H D x with
   | some v => match settle fz v D with
     | some (y, D1) => if sizeT P t = some y.cells.length ∧ y.cells ≠ [] ∧ y.cells.all cellIn then some ((D1.new y.cells).lay o.dst (.bptr D1.nx 0)) else none
     | none => none
   | none => none
 | .build t ps => match zeroT P t, evParts H D ps.toList with
   | some z, some vs => match P.underlying t with
     | some (.struct fs) => if fs.all fun f => (sizeT P f.type).isSome then (match fillV (structPlace P fs) z vs with | some l => some (D.lay o.dst (.agg l)) | none => none) else none
     | some (.array _ e) => match sizeT P e with
       | some k => match fillV (fun i => some (i * k, k)) z vs with | some l => some (D.lay o.dst (.agg l)) | none => none
       | none => none
     | _ => none
   | _, _ => none
 | .buildSlice t n ps => match P.underlying t with
   | some (.slice e) => match sizeT P e, zeroT P e, evParts H D ps.toList with
     | some k, some z, some vs => match settleP fz vs D with
       | some (ys, D1) => match fillV (fun i => some (i * k, k)) (rep n z) ys with
         | some l => if n * k ≤ 16777216 ∧ z.length = k ∧ n * k = l.length ∧ 0 < k ∧ l.all cellIn then some (D1.lay o.dst (.own .nil 0 n l)) else none
         | none => none
       | none => none
     | _, _, _ => none
   | _ => none
 | .load t a => match ev H D a with
   | some v => match loadV P D t v with | some y => some (D.lay o.dst y) | none => none
   | none => none
 | .store t a x => match ev H D x with
   | some v => match settle fz v D with
     | some (y, D1) => match ev H D1 a with
       | some va => match target va with
         | some (r, p, j) => if sizeT P t = some y.cells.length ∧ y.cells ≠ [] then (match storeAt D1 r p j y.cells with
          | some D2 => some (D2.lay o.dst .dead)
          | none => none) else none
         | none => none
       | none => none
     | none => none
   | none => none
 | .nilCheck x => match ev H D x with
   | some (.bptr b o') => some (D.lay o.dst (.bptr b o'))
   | some (.ip pm A cs) => some (D.lay o.dst (.ip pm A cs))
   | some (.loc r p) => if okAddr D (.loc r p) then some (D.lay o.dst (.loc r p)) else none
   | _ => none
 | .binOp op t x y _ => match ev H D x, ev H D y with
   | some a, some b => match bin P D op t (isNil y) a b with | some v => some (D.lay o.dst v) | none => none
   | _, _ => none
 | .unOp op _ x => match ev H D x with
   | some a => match un op a with | some v => some (D.lay o.dst v) | none => none
   | none => none
 | .convert src dst x => match ev H D x, P.underlying dst, P.underlying src with
   | some (.int _ n), some (.int k), some _ => some (D.lay o.dst (.int k (k.wrap n)))
   | _, _, _ => none
 | .makeFunc f a b => match evL H D a.toList, evL H D b.toList with
   | some va, some vb => some (D.lay o.dst (.fn f va vb))
   | _, _ => none
 | .makeSlice t l c => match P.underlying t, ev H D l, ev H D c with
   | some (.slice e), some (.int _ n), some (.int _ m) => match sizeT P e, bytesT P e, zeroT P e with
     | some k, some by_, some z =>
       if 0 ≤ n ∧ n ≤ m ∧ m ≤ 140737488355328 ∧ m * by_ ≤ 140737488355328 ∧ z.length = k ∧ 0 < k then some (D.lay o.dst (.own .nil (if n = 0 ∧ 0 < m then k else 0) n.toNat (rep n.toNat z))) else none
     | _, _, _ => none
   | _, _, _ => none
 | .slice t x lo hi mx => match P.underlying t, ev H D x, evI H D lo, evI H D hi, evI H D mx with
   | some (.slice e), some v, some l, some h, some m => match sizeT P e, takeC D v with
     | some k, some (y, D1) => match cutV k l h m y with | some z => some (D1.lay o.dst z) | none => none
     | _, _ => none
   | _, _, _, _, _ => none
 | .fieldAddr s x f => match P.underlying s, ev H D x with
   | some (.struct fs), some v => match fs[f]? with
     | some fd => match sizeT P fd.type, moveV fd.offset v with
       | some (_ + 1), some y => if okAddr D v then some (D.lay o.dst y) else none
       | _, _ => none
     | none => none
   | _, _ => none
 | .field s x f => match P.underlying s, ev H D x with
   | some (.struct fs), some (.agg cs) => match fs[f]? with
     | some fd => match partV P fd.type cs fd.offset with | some y => some (D.lay o.dst y) | none => none
     | none => none
   | _, _ => none
 | .indexAddr t x ix => match P.underlying t, ev H D x, ev H D ix with
   | some (.slice e), some v, some (.int _ i) => match sizeT P e with
     | some k => match v with
       | .im pm A _ n cs => if cs.length = n * k ∧ 0 ≤ i ∧ i < n then some (D.lay o.dst (.ip pm ((A.getD A0).add (i.toNat * k)) (cs.drop (i.toNat * k)))) else none
       | .ref r p => match look D r p with
         | some (.own _ _ n cs) => if cs.length = n * k ∧ 0 ≤ i ∧ i < n then some (D.lay o.dst (.loc r (p ++ [i.toNat * k]))) else none
         | _ => none
       | _ => none
     | none => none
   | some (.array n e), some v, some (.int _ i) => match sizeT P e with
     | some k => if 0 ≤ i ∧ i < n ∧ okAddr D v then (match moveV (i.toNat * k) v with | some y => some (D.lay o.dst y) | none => none) else none
     | none => none
   | _, _, _ => none
 | .index t x ix => match strOf x with
   | some s => match P.underlying t, ev H D ix with
     | some .string, some (.int _ i) => if 0 ≤ i then (match s[i.toNat]? with | some b => some (D.lay o.dst (.int .u8 b.toNat)) | none => none) else none
     | _, _ => none
   | none => match P.underlying t, ev H D x, ev H D ix with
     | some (.array n e), some (.agg cs), some (.int _ i) => match sizeT P e with
       | some k => if 0 ≤ i ∧ i < n then (match partV P e cs (i.toNat * k) with | some y => some (D.lay o.dst y) | none => none) else none
       | none => none
     | _, _, _ => none
 | .extract t i => match ev H D t with
   | some (.tup vs) => match vs[i]? with | some v => some (D.lay o.dst v) | none => none
   | _ => none
 | .call c => match c.callee with
   | .builtin b => match evL H D c.args.toList with
     | some vs => match doBuiltin P b c.argTypes.toList vs D with | some (v, D1) => some (D1.lay o.dst v) | none => none
     | none => none
   | .value g => match ev H D g, evL H D c.args.toList with
     | some (.fn (.func f) a b), some vs => doCall H C f (a ++ vs ++ b) D o.dst
     | _, _ => none
   | _ => none
 | _ => none
def wantedV (ops : Array Oper) (o : Oper) (D : St) : Option Bool :=
 match o.guard with
 | none => some true
 | some (j, want) => match (ops[j]?).bind (·.dst) with
   | some t => match D.s t with
     | .bool b => some (b == want)
     | .int _ _ => some false
     | .tup _ => some false
     | _ => none
   | none => some false
def evOps (C : Callee) (ops : Array Oper) (fz : Nat → Bool) : Nat → List Oper → St → Option St
 | _, [], D => some D
 | i, o :: l, D => match wantedV ops o D with
   | some true => match evOp P H C (fz i) o D with | some D1 => evOps C ops fz (i + 1) l D1 | none => none
   | some false => evOps C ops fz (i + 1) l (D.lay o.dst (.tup []))
   | none => none
def litB (o : Oper) : Bool := match o.op with
 | .move _ | .assign _ | .pick _ _ _ | .nilCheck _ | .binOp _ _ _ _ _ | .unOp _ _ _ | .convert _ _ _ | .makeFunc _ _ _ | .fieldAddr _ _ _ | .field _ _ _ | .indexAddr _ _ _ | .index _ _ _ | .extract _ _ | .build _ _ | .slice _ _ _ _ _ | .load _ _ => true
 | .call c => (match c.callee with | .builtin .len | .builtin .min | .builtin .max => true | _ => false)
 | _ => false
def mutB (o : Oper) : Bool := match o.op with
 | .store _ _ _ => true
 | .call c => (match c.callee with | .builtin .append | .builtin .copy => true | _ => false)
 | _ => false
def capless : Option V → Bool
 | some (.own _ 0 0 []) => true
 | _ => false
def bareV (D : St) : V → Bool
 | .ref r p => capless (look D r p)
 | .own _ 0 0 [] => true
 | _ => false
def caplessV (D : St) (ts : List TypeId) (vs : Option (List V)) : Bool :=
 match ts with
 | [t, t'] => decide (t = t') && (match vs with
   | some [v, _] => bareV D v
   | _ => false)
 | _ => false
def quietB (o : Oper) (D : St) : Bool := match o.op with
 | .alloc _ | .box _ _ | .makeSlice _ _ _ | .buildSlice _ _ _ => true
 | .call c => match c.callee with
   | .builtin .append => caplessV D c.argTypes.toList (evL H D c.args.toList)
   | .value g => match ev H D g, evL H D c.args.toList with
     | some (.fn (.func f) a b), some vs => match lendArgs (H.sg f) (a ++ vs ++ b) D with
       | some (as, _) => (ptrsL as).isEmpty
       | none => false
     | _, _ => false
   | _ => false
 | _ => false
def evDraw (C : Callee) (ops : Array Oper) (fz mu : Nat → Bool) : List Nat → St → Option St
 | [], D => some D
 | i :: l, D => match ops[i]? with
   | some o => match wantedV ops o D with
     | some true => if mu i || litB o || quietB H o D then (match evOp P H C (fz i) o D with | some D1 => evDraw C ops fz mu l D1 | none => none) else none
     | some false => evDraw C ops fz mu l (D.lay o.dst (.tup []))
     | none => none
   | none => none
def stepT (C : Callee) (ops : Array Oper) (fz mu : Nat → Bool) (i : Nat) (D : St) : Option St := match ops[i]? with
 | some o => match wantedV ops o D with
   | some true => if mu i || litB o || quietB H o D then evOp P H C (fz i) o D else none
   | some false => some (D.lay o.dst (.tup []))
   | none => none
 | none => none
open Classical in
def bothO : Option St → Option St → Option St
 | some D1, some D2 => if SmS D1 D2 then some D1 else none
 | _, _ => none
def evDrawT (C : Callee) (ops : Array Oper) (fz mu : Nat → Bool) : Pl → St → Option St
 | .fin, D => some D
 | .one i l, D => (stepT P H C ops fz mu i D).bind fun D1 => evDrawT C ops fz mu l D1
 | .two i a j b, D => bothO ((stepT P H C ops fz mu i D).bind fun D1 => evDrawT C ops fz mu a D1) ((stepT P H C ops fz mu j D).bind fun D1 => evDrawT C ops fz mu b D1)
 | .three i a j b k c, D => bothO ((stepT P H C ops fz mu i D).bind fun D1 => evDrawT C ops fz mu a D1) (bothO ((stepT P H C ops fz mu j D).bind fun D1 => evDrawT C ops fz mu b D1) ((stepT P H C ops fz mu k D).bind fun D1 => evDrawT C ops fz mu c D1))
def planOf (f id : Nat) (ops : Array Oper) : List Nat := match H.plan f id with | some l => l | none => List.range ops.size
def muOf (f id : Nat) (ops : Array Oper) (i : Nat) : Bool := ((match ops[i]? with | some o => mutB o | none => false) && !H.q f id i) || (H.mc f id).contains i
inductive Ex where
 | norm | ret | exit (id : Nat)
deriving DecidableEq
def firstReg : Code → Option Nat
 | .region id _ _ => some id
 | .seq a b => match firstReg a with | some i => some i | none => firstReg b
 | .cond _ a b => match firstReg a with | some i => some i | none => firstReg b
 | .block _ c => firstReg c
 | .loop c => firstReg c
 | _ => none
def clear (l : Option (List Nat)) (D : St) : St := match l with
 | none => D
 | some live => { D with s := fun i => if live.contains i then D.s i else .dead }
def iter (body : St → Option (Ex × St)) (l : Option (List Nat)) : Nat → St → Option (Ex × St)
 | 0, _ => none
 | k + 1, D => match body (clear l D) with
   | some (.norm, D1) => iter body l k D1
   | r => r
def evCode (C : Callee) (f k : Nat) : Code → St → Option (Ex × St)
 | .skip, D => some (.norm, D)
 | .region id ops dr, D => match (if dr then (match H.tree f id with | some T => evDrawT P H C ops (H.fz f id) (muOf H f id ops) T D | none => evDraw P H C ops (H.fz f id) (muOf H f id ops) (planOf H f id ops) D) else evOps P H C ops (H.fz f id) 0 ops.toList D) with | some D1 => some (.norm, D1) | none => none
 | .seq a b, D => match evCode C f k a D with
   | some (.norm, D1) => evCode C f k b D1
   | r => r
 | .cond c a b, D => match ev H D c with
   | some (.bool t) => if t then evCode C f k a D else evCode C f k b D
   | _ => none
 | .block id c, D => match evCode C f k c D with
   | some (.exit i, D1) => if i = id then some (.norm, D1) else some (.exit i, D1)
   | r => r
 | .loop c, D => iter (evCode C f k c) (match firstReg c with | some i => H.live f i | none => none) k D
 | .exit id, D => some (.exit id, D)
 | .ret, D => some (.ret, D)
 | _, _ => none
def evRes (D : St) : List ResultVar → Option (List V × St)
 | [] => some ([], D)
 | .tmp t :: l => match settle false (view (.slot t) [] (D.s t)) D with
   | some (y, D1) => match evRes D1 l with | some (ys, D2) => some (y :: ys, D2) | none => none
   | none => none
 | .cell t ty :: l => match loadV P D ty (D.s t) with
   | some v => match settle false v D with
     | some (y, D1) => match evRes D1 l with | some (ys, D2) => some (y :: ys, D2) | none => none
     | none => none
   | none => none
def packRes : List V → V
 | [v] => v
 | l => .tup l
def evCall : Nat → Callee
 | 0, _, _, _, _ => none
 | k + 1, f, as, m, nx => if !H.good f then none else match P.funcs[f]? with
   | some fn => match fn.body with
     | some c => match evCode P H (evCall k) f k c { s := fun i => match as[i]? with | some v => v | none => .dead, m := m, nx := nx } with
       | some (e, D) => if e = .norm ∨ e = .ret then (match evRes P D fn.results.toList with
        | some (rs, D1) =>
          if H.fr f && !noBorL rs then none else
          let r := packRes (if H.fr f then frzL true rs else rs)
          let old := D1.m.filter fun e => decide (e.1 < nx)
          if ((ptrs r) ++ old.flatMap fun e => ptrsL e.2.cs).any (fun b => decide (nx ≤ b)) then some (r, D1.m, D1.nx) else some (r, old, nx)
        | none => none) else none
       | none => none
     | none => none
   | none => none
end
mutual
def hd (β : Nat → Nat) : V → Option Value
 | .int k n => some (.int k n)
 | .bool b => some (.bool b)
 | .nilp => some (.pointer none)
 | .nilf => some .nilFunc
 | .bptr b o => some (.pointer (some ⟨β b, o, none⟩))
 | .ip _ A _ => some (.pointer (some A))
 | .im _ A cap n _ => some (.slice A n cap)
 | .own d _ n _ => some (match d with | .nil => .slice none 0 0 | .emp A => .slice (some A) 0 0 | .blk g cap _ => .slice (some ⟨g, 0, none⟩) n cap)
 | .fn f a b => match hdL β a with
   | some la => match hdL β b with | some lb => some (.func f la.toArray lb.toArray) | none => none
   | none => none
 | _ => none
def hdL (β : Nat → Nat) : List V → Option (List Value)
 | [] => some []
 | v :: l => match hd β v with
   | some u => match hdL β l with | some us => some (u :: us) | none => none
   | none => none
end
def MR (β : Nat → Nat) (x : V) (u : Value) : Prop := hd β x = some u ∨ x = .dead
def sh : V → V
 | .own d k n _ => .own d k n []
 | .agg _ => .agg []
 | .tup _ => .tup []
 | x => x
theorem hd_sh (β : Nat → Nat) (x : V) : hd β (sh x) = hd β x := by cases x <;> simp [sh, hd]
theorem sh_dead (x : V) : sh x = .dead ↔ x = .dead := by cases x <;> simp [sh]
theorem MR_sh {β : Nat → Nat} {x : V} {u : Value} : MR β (sh x) u ↔ MR β x u := by unfold MR; rw [hd_sh, sh_dead]
abbrev RowE := Dec × Nat × Nat × List V
mutual
def rows : V → List RowE
 | .own d k n cs => (d, k, n, cs.map sh) :: rowsL cs
 | .agg cs => rowsL cs
 | .tup cs => rowsL cs
 | .fn _ a b => rowsL a ++ rowsL b
 | _ => []
def rowsL : List V → List RowE
 | [] => []
 | v :: l => rows v ++ rowsL l
end
inductive At where
 | p (b : Nat)
 | i (pm : Bool) (A : Option Addr) (cap n : Nat) (cs : List V)
 | f (pm : Bool) (A : Addr) (cs : List V)
mutual
def atoms : V → List At
 | .bptr b _ => [.p b]
 | .im pm A cap n cs => .i pm A cap n cs :: atomsL cs
 | .ip pm A cs => .f pm A cs :: atomsL cs
 | .own _ _ _ cs => atomsL cs
 | .agg cs => atomsL cs
 | .tup cs => atomsL cs
 | .fn _ a b => atomsL a ++ atomsL b
 | _ => []
def atomsL : List V → List At
 | [] => []
 | v :: l => atoms v ++ atomsL l
end
theorem rowsL_append (l l' : List V) : rowsL (l ++ l') = rowsL l ++ rowsL l' := by
 induction l with
 | nil => rfl
 | cons x l ih => simp [rowsL, ih]
theorem atomsL_append (l l' : List V) : atomsL (l ++ l') = atomsL l ++ atomsL l' := by
 induction l with
 | nil => rfl
 | cons x l ih => simp [atomsL, ih]
theorem atoms_mem {x : V} {l : List V} (h : x ∈ l) {a : At} (ha : a ∈ atoms x) : a ∈ atomsL l := by
 induction l with
 | nil => cases h
 | cons y l ih =>
   rcases List.mem_cons.1 h with rfl | h
   ·exact List.mem_append_left _ ha
   ·exact List.mem_append_right _ (ih h)
theorem atomsL_mem {l : List V} {a : At} (h : a ∈ atomsL l) : ∃ x ∈ l, a ∈ atoms x := by
 induction l with
 | nil => simp [atomsL] at h
 | cons y l ih =>
   rcases List.mem_append.1 h with h | h
   ·exact ⟨y, List.mem_cons_self, h⟩
   ·obtain ⟨x, hx, ha⟩ := ih h; exact ⟨x, List.mem_cons_of_mem _ hx, ha⟩
theorem rowsL_mem {l : List V} {e : RowE} (h : e ∈ rowsL l) : ∃ x ∈ l, e ∈ rows x := by
 induction l with
 | nil => simp [rowsL] at h
 | cons y l ih =>
   rcases List.mem_append.1 h with h | h
   ·exact ⟨y, List.mem_cons_self, h⟩
   ·obtain ⟨x, hx, ha⟩ := ih h; exact ⟨x, List.mem_cons_of_mem _ hx, ha⟩
mutual
theorem rows_noRow : ∀ {x : V}, noRow x = true → rows x = []
 | .own _ _ _ _, h => by simp [noRow] at h
 | .agg cs, h => rowsL_noRow (by simpa [noRow] using h)
 | .tup cs, h => rowsL_noRow (by simpa [noRow] using h)
 | .fn _ a b, h => by
   simp only [noRow, Bool.and_eq_true] at h
   simp [rows, rowsL_noRow h.1, rowsL_noRow h.2]
 | .int _ _, _ | .bool _, _ | .nilp, _ | .nilf, _ | .bptr _ _, _ | .ip _ _ _, _ | .im _ _ _ _ _, _ | .ref _ _, _ | .loc _ _, _ | .dead, _ => rfl
theorem rowsL_noRow : ∀ {l : List V}, noRowL l = true → rowsL l = []
 | [], _ => rfl
 | x :: l, h => by
   simp only [noRowL, Bool.and_eq_true] at h
   simp [rowsL, rows_noRow h.1, rowsL_noRow h.2]
end
theorem rowsL_set : ∀ (l : List V) (o : Nat) (x y : V), l[o]? = some x → ∃ R, (rowsL l).Perm (rows x ++ R) ∧ (rowsL (l.set o y)).Perm (rows y ++ R)
 | [], o, x, y, h => by simp at h
 | z :: l, 0, x, y, h => by
   simp at h; subst h
   exact ⟨rowsL l, by simp [rowsL], by simp [rowsL]⟩
 | z :: l, o + 1, x, y, h => by
   simp at h
   obtain ⟨R, h1, h2⟩ := rowsL_set l o x y h
   refine ⟨rows z ++ R, ?_, ?_⟩
   ·simp only [rowsL]
    exact ((List.Perm.append_left _ h1).trans (by rw [← List.append_assoc, ← List.append_assoc]; exact List.Perm.append_right _ List.perm_append_comm))
   ·simp only [List.set_cons_succ, rowsL]
    exact ((List.Perm.append_left _ h2).trans (by rw [← List.append_assoc, ← List.append_assoc]; exact List.Perm.append_right _ List.perm_append_comm))
theorem atomsL_set {l : List V} {o : Nat} {y : V} {a : At} (h : a ∈ atomsL (l.set o y)) : a ∈ atoms y ∨ a ∈ atomsL l := by
 obtain ⟨x, hx, ha⟩ := atomsL_mem h
 rcases List.mem_or_eq_of_mem_set hx with hx | rfl
 ·exact .inr (atoms_mem hx ha)
 ·exact .inl ha
def RLe (β : Nat → Nat) (e' e : RowE) : Prop := e'.1 = e.1 ∧ e'.2.1 = e.2.1 ∧ e'.2.2.1 = e.2.2.1 ∧ e'.2.2.2.length = e.2.2.2.length ∧
 ∀ (j : Nat) (x x' : V), e.2.2.2[j]? = some x → e'.2.2.2[j]? = some x' → ∀ u, MR β x u → MR β x' u
theorem RLe.refl (β : Nat → Nat) (e : RowE) : RLe β e e := ⟨rfl, rfl, rfl, rfl, fun j x x' h h' u hu => by rw [h] at h'; cases h'; exact hu⟩
inductive RLeL (β : Nat → Nat) : List RowE → List RowE → Prop
 | nil : RLeL β [] []
 | cons {e' e l' l} : RLe β e' e → RLeL β l' l → RLeL β (e' :: l') (e :: l)
theorem RLeL.refl (β : Nat → Nat) : ∀ l, RLeL β l l
 | [] => .nil
 | e :: l => .cons (RLe.refl β e) (RLeL.refl β l)
theorem RLeL.append {β : Nat → Nat} {a' a b' b : List RowE} (h : RLeL β a' a) (k : RLeL β b' b) : RLeL β (a' ++ b') (a ++ b) := by
 induction h with
 | nil => exact k
 | cons h1 _ ih => exact .cons h1 ih
theorem RLeL.mem {β : Nat → Nat} {l' l : List RowE} (h : RLeL β l' l) {e' : RowE} (he : e' ∈ l') : ∃ e ∈ l, RLe β e' e := by
 induction h with
 | nil => cases he
 | cons h1 _ ih =>
   rcases List.mem_cons.1 he with rfl | he
   ·exact ⟨_, List.mem_cons_self, h1⟩
   ·obtain ⟨e, h2, h3⟩ := ih he; exact ⟨e, List.mem_cons_of_mem _ h2, h3⟩
theorem MR_goSet {β : Nat → Nat} {o : Nat} {p : List Nat} {y z : V} {u : Value} (h : MR β z u) : MR β (goSet (o :: p) y z) u := by
 cases z <;> first | exact h | (simp only [MR, hd, goSet] at h ⊢; first | exact h | exact h.elim .inl (fun e => by cases e))
theorem rle_set {β : Nat → Nat} {d : Dec} {k n : Nat} {cs : List V} {o : Nat} {x y : V} (h : cs[o]? = some x) (hy : ∀ u, MR β x u → MR β y u) :
 RLe β (d, k, n, (cs.set o y).map sh) (d, k, n, cs.map sh) := by
 refine ⟨rfl, rfl, rfl, by simp, fun j z z' hz hz' u hu => ?_⟩
 simp only [List.getElem?_map, List.getElem?_set] at hz hz'
 by_cases hj : o = j
 ·subst hj
  have hl : o < cs.length := (List.getElem?_eq_some_iff.1 h).1
  rw [h, Option.map_some, Option.some.injEq] at hz
  simp only [hl, if_true, Option.map_some, Option.some.injEq] at hz'
  subst hz hz'
  exact MR_sh.2 (hy u (MR_sh.1 hu))
 ·simp [hj] at hz'
  rw [Option.map_eq_some_iff] at hz
  obtain ⟨q, hq, rfl⟩ := hz
  obtain ⟨q', hq', rfl⟩ := hz'
  rw [hq] at hq'; cases hq'
  exact hu
theorem rows_goSet {β : Nat → Nat} : ∀ (p : List Nat) (x old y : V), go p x = some old → (∀ u, MR β old u → MR β y u) →
 ∃ R R', RLeL β R' R ∧ (rows x).Perm (rows old ++ R) ∧ (rows (goSet p y x)).Perm (rows y ++ R')
 | [], x, old, y, h, hy => by
   simp only [go, Option.some.injEq] at h; subst h
   exact ⟨[], [], .nil, by simp, by simp [goSet]⟩
 | o :: p, .own d k n cs, old, y, h, hy => by
   simp only [go] at h
   cases hc : cs[o]? with
   | none => simp [hc] at h
   | some z =>
     simp only [hc] at h
     obtain ⟨R, R', hR, h1, h2⟩ := rows_goSet p z old y h hy
     obtain ⟨S, h3, h4⟩ := rowsL_set cs o z (goSet p y z) hc
     have hz : ∀ u, MR β z u → MR β (goSet p y z) u := by
      intro u hu
      cases p with
      | nil => simp only [go, Option.some.injEq] at h; subst h; exact hy u hu
      | cons o' p' => exact MR_goSet hu
     refine ⟨(d, k, n, cs.map sh) :: (R ++ S), (d, k, n, (cs.set o (goSet p y z)).map sh) :: (R' ++ S), .cons (rle_set hc hz) (hR.append (RLeL.refl β S)), ?_, ?_⟩
     ·simp only [rows]
      refine ((h3.trans (List.Perm.append_right S h1)).cons _).trans ?_
      rw [List.append_assoc]
      exact List.perm_middle.symm
     ·simp only [goSet, hc, rows]
      refine ((h4.trans (List.Perm.append_right S h2)).cons _).trans ?_
      rw [List.append_assoc]
      exact List.perm_middle.symm
 | o :: p, .agg cs, old, y, h, hy => by
   simp only [go] at h
   cases hc : cs[o]? with
   | none => simp [hc] at h
   | some z =>
     simp only [hc] at h
     obtain ⟨R, R', hR, h1, h2⟩ := rows_goSet p z old y h hy
     obtain ⟨S, h3, h4⟩ := rowsL_set cs o z (goSet p y z) hc
     refine ⟨R ++ S, R' ++ S, hR.append (RLeL.refl β S), ?_, ?_⟩
     ·simp only [rows]; refine (h3.trans (List.Perm.append_right S h1)).trans ?_; rw [List.append_assoc]
     ·simp only [goSet, hc, rows]; refine (h4.trans (List.Perm.append_right S h2)).trans ?_; rw [List.append_assoc]
 | o :: p, .tup cs, old, y, h, hy => by
   simp only [go] at h
   cases hc : cs[o]? with
   | none => simp [hc] at h
   | some z =>
     simp only [hc] at h
     obtain ⟨R, R', hR, h1, h2⟩ := rows_goSet p z old y h hy
     obtain ⟨S, h3, h4⟩ := rowsL_set cs o z (goSet p y z) hc
     refine ⟨R ++ S, R' ++ S, hR.append (RLeL.refl β S), ?_, ?_⟩
     ·simp only [rows]; refine (h3.trans (List.Perm.append_right S h1)).trans ?_; rw [List.append_assoc]
     ·simp only [goSet, hc, rows]; refine (h4.trans (List.Perm.append_right S h2)).trans ?_; rw [List.append_assoc]
 | _ :: _, .int _ _, _, _, h, _ | _ :: _, .bool _, _, _, h, _ | _ :: _, .nilp, _, _, h, _ | _ :: _, .nilf, _, _, h, _ | _ :: _, .bptr _ _, _, _, h, _
 | _ :: _, .ip _ _ _, _, _, h, _ | _ :: _, .im _ _ _ _ _, _, _, h, _ | _ :: _, .fn _ _ _, _, _, h, _ | _ :: _, .ref _ _, _, _, h, _ | _ :: _, .loc _ _, _, _, h, _ | _ :: _, .dead, _, _, h, _ => by
   simp [go] at h
theorem atoms_go : ∀ (p : List Nat) (x old : V), go p x = some old → ∀ a, a ∈ atoms old → a ∈ atoms x
 | [], x, old, h, a, ha => by simp only [go, Option.some.injEq] at h; subst h; exact ha
 | o :: p, .own d k n cs, old, h, a, ha => by
   simp only [go] at h
   cases hc : cs[o]? with
   | none => simp [hc] at h
   | some z => simp only [hc] at h; exact atoms_mem (List.mem_of_getElem? hc) (atoms_go p z old h a ha)
 | o :: p, .agg cs, old, h, a, ha => by
   simp only [go] at h
   cases hc : cs[o]? with
   | none => simp [hc] at h
   | some z => simp only [hc] at h; exact atoms_mem (List.mem_of_getElem? hc) (atoms_go p z old h a ha)
 | o :: p, .tup cs, old, h, a, ha => by
   simp only [go] at h
   cases hc : cs[o]? with
   | none => simp [hc] at h
   | some z => simp only [hc] at h; exact atoms_mem (List.mem_of_getElem? hc) (atoms_go p z old h a ha)
 | _ :: _, .int _ _, _, h, _, _ | _ :: _, .bool _, _, h, _, _ | _ :: _, .nilp, _, h, _, _ | _ :: _, .nilf, _, h, _, _ | _ :: _, .bptr _ _, _, h, _, _
 | _ :: _, .ip _ _ _, _, h, _, _ | _ :: _, .im _ _ _ _ _, _, h, _, _ | _ :: _, .fn _ _ _, _, h, _, _ | _ :: _, .ref _ _, _, h, _, _ | _ :: _, .loc _ _, _, h, _, _ | _ :: _, .dead, _, h, _, _ => by
   simp [go] at h
theorem atoms_goSet : ∀ (p : List Nat) (x y : V) (a : At), a ∈ atoms (goSet p y x) → a ∈ atoms y ∨ a ∈ atoms x
 | [], x, y, a, h => .inl h
 | o :: p, .own d k n cs, y, a, h => by
   cases hc : cs[o]? with
   | none => simp only [goSet, hc] at h; exact .inr h
   | some z =>
     simp only [goSet, hc, atoms] at h
     rcases atomsL_set h with h | h
     ·exact (atoms_goSet p z y a h).imp id fun h => atoms_mem (List.mem_of_getElem? hc) h
     ·exact .inr h
 | o :: p, .agg cs, y, a, h => by
   cases hc : cs[o]? with
   | none => simp only [goSet, hc] at h; exact .inr h
   | some z =>
     simp only [goSet, hc, atoms] at h
     rcases atomsL_set h with h | h
     ·exact (atoms_goSet p z y a h).imp id fun h => atoms_mem (List.mem_of_getElem? hc) h
     ·exact .inr h
 | o :: p, .tup cs, y, a, h => by
   cases hc : cs[o]? with
   | none => simp only [goSet, hc] at h; exact .inr h
   | some z =>
     simp only [goSet, hc, atoms] at h
     rcases atomsL_set h with h | h
     ·exact (atoms_goSet p z y a h).imp id fun h => atoms_mem (List.mem_of_getElem? hc) h
     ·exact .inr h
 | _ :: _, .int _ _, _, _, h | _ :: _, .bool _, _, _, h | _ :: _, .nilp, _, _, h | _ :: _, .nilf, _, _, h | _ :: _, .bptr _ _, _, _, h
 | _ :: _, .ip _ _ _, _, _, h | _ :: _, .im _ _ _ _ _, _, _, h | _ :: _, .fn _ _ _, _, _, h | _ :: _, .ref _ _, _, _, h | _ :: _, .loc _ _, _, _, h | _ :: _, .dead, _, _, h => .inr h
theorem noRowL_get {l : List V} (h : noRowL l = true) {o : Nat} {x : V} (hx : l[o]? = some x) : noRow x = true := by
 induction l generalizing o with
 | nil => simp at hx
 | cons y l ih =>
   simp only [noRowL, Bool.and_eq_true] at h
   cases o with
   | zero => simp at hx; subst hx; exact h.1
   | succ o => simp at hx; exact ih h.2 hx
theorem go_noRow : ∀ (p : List Nat) (x z : V), noRow x = true → go p x = some z → noRow z = true
 | [], x, z, h, hg => by simp only [go, Option.some.injEq] at hg; subst hg; exact h
 | o :: p, .own _ _ _ _, z, h, hg => by simp [noRow] at h
 | o :: p, .agg cs, z, h, hg => by
   simp only [go] at hg
   cases hc : cs[o]? with
   | none => simp [hc] at hg
   | some y => simp only [hc] at hg; exact go_noRow p y z (noRowL_get (by simpa [noRow] using h) hc) hg
 | o :: p, .tup cs, z, h, hg => by
   simp only [go] at hg
   cases hc : cs[o]? with
   | none => simp [hc] at hg
   | some y => simp only [hc] at hg; exact go_noRow p y z (noRowL_get (by simpa [noRow] using h) hc) hg
 | _ :: _, .int _ _, _, _, h | _ :: _, .bool _, _, _, h | _ :: _, .nilp, _, _, h | _ :: _, .nilf, _, _, h | _ :: _, .bptr _ _, _, _, h
 | _ :: _, .ip _ _ _, _, _, h | _ :: _, .im _ _ _ _ _, _, _, h | _ :: _, .fn _ _ _, _, _, h | _ :: _, .ref _ _, _, _, h | _ :: _, .loc _ _, _, _, h | _ :: _, .dead, _, _, h => by simp [go] at h
theorem go_goSet : ∀ (p q : List Nat) (x y : V) {old : V} {d : Dec} {k n : Nat} {cs : List V}, go p x = some old → go q (goSet p y x) = some (.own d k n cs) →
 (pre p q = false ∧ ∃ cs', go q x = some (.own d k n cs')) ∨ (pre p q = true ∧ ∃ q', go q' y = some (.own d k n cs))
 | [], q, x, y, old, d, k, n, cs, h, hq => .inr ⟨rfl, q, hq⟩
 | o :: p, [], x, y, old, d, k, n, cs, h, hq => by
   refine .inl ⟨rfl, ?_⟩
   cases x <;> simp [go, goSet] at h hq
   obtain ⟨rfl, rfl, rfl, _⟩ := hq
   exact ⟨_, rfl⟩
 | o :: p, o' :: q, x, y, old, d, k, n, cs, h, hq => by
   have key : ∀ l : List V, (match l[o]? with | some z => go p z | none => none) = some old →
    (match (match l[o]? with | some z => l.set o (goSet p y z) | none => l)[o']? with | some z => go q z | none => none) = some (.own d k n cs) →
    (pre (o :: p) (o' :: q) = false ∧ ∃ cs', (match l[o']? with | some z => go q z | none => none) = some (.own d k n cs')) ∨ (pre (o :: p) (o' :: q) = true ∧ ∃ q', go q' y = some (.own d k n cs)) := by
    intro l hl hs
    cases hz : l[o]? with
    | none => simp [hz] at hl
    | some z =>
      simp only [hz] at hl hs
      by_cases ho : o = o'
      ·subst ho
       have hlt : o < l.length := (List.getElem?_eq_some_iff.1 hz).1
       rw [List.getElem?_set_self hlt] at hs
       simp only at hs
       rcases go_goSet p q z y hl hs with ⟨h1, cs', h2⟩ | ⟨h1, h2⟩
       ·exact .inl ⟨by simp [pre, h1], cs', by simp only [hz]; exact h2⟩
       ·exact .inr ⟨by simp [pre, h1], h2⟩
      ·rw [List.getElem?_set_ne ho] at hs
       exact .inl ⟨by simp [pre, ho], cs, hs⟩
   cases x with
   | own d' k' n' l => exact key l h hq
   | agg l => exact key l h hq
   | tup l => exact key l h hq
   | _ => simp [go] at h
theorem sh_goSet (o : Nat) (p : List Nat) (y z : V) {d : Dec} {k n : Nat} {cs : List V} (hz : z = .own d k n cs) : sh (goSet (o :: p) y z) = sh z := by
 subst hz; rfl
theorem rows_goStore : ∀ (p : List Nat) (x : V) {d : Dec} {k n : Nat} {cs : List V} {o : Nat} {old : V} (y : V), go p x = some (.own d k n cs) → cs[o]? = some old →
 ∃ R, (rows x).Perm ((d, k, n, cs.map sh) :: (rows old ++ R)) ∧ (rows (goSet (p ++ [o]) y x)).Perm ((d, k, n, (cs.set o y).map sh) :: (rows y ++ R))
 | [], x, d, k, n, cs, o, old, y, h, ho => by
   simp only [go, Option.some.injEq] at h; subst h
   obtain ⟨R, h1, h2⟩ := rowsL_set cs o old y ho
   exact ⟨R, by simp only [rows]; exact h1.cons _, by simp only [List.nil_append, goSet, ho, rows]; exact h2.cons _⟩
 | i :: p, .own d' k' n' l, d, k, n, cs, o, old, y, h, ho => by
   simp only [go] at h
   cases hz : l[i]? with
   | none => simp [hz] at h
   | some z =>
     simp only [hz] at h
     obtain ⟨R, h1, h2⟩ := rows_goStore p z y h ho
     obtain ⟨S, h3, h4⟩ := rowsL_set l i z (goSet (p ++ [o]) y z) hz
     have hsh : (l.set i (goSet (p ++ [o]) y z)).map sh = l.map sh := by
      have : sh (goSet (p ++ [o]) y z) = sh z := by
       cases p with
       | nil => simp only [go, Option.some.injEq] at h; exact sh_goSet _ _ _ _ h
       | cons a p' => cases z <;> simp [go] at h <;> simp [goSet, sh]
      rw [List.map_set, this]
      refine List.ext_getElem? fun j => ?_
      rw [List.getElem?_set]
      by_cases hj : i = j
      ·subst hj; simp [hz]; exact (List.getElem?_eq_some_iff.1 hz).1
      ·simp [hj]
     refine ⟨(d', k', n', l.map sh) :: (R ++ S), ?_, ?_⟩
     ·simp only [rows]
      refine ((h3.trans (List.Perm.append_right S h1)).cons _).trans ?_
      rw [List.cons_append, List.append_assoc]
      exact (List.Perm.swap _ _ _).trans (List.Perm.cons _ List.perm_middle.symm)
     ·simp only [List.cons_append, goSet, hz, rows, hsh]
      refine ((h4.trans (List.Perm.append_right S h2)).cons _).trans ?_
      rw [List.cons_append, List.append_assoc]
      exact (List.Perm.swap _ _ _).trans (List.Perm.cons _ List.perm_middle.symm)
 | i :: p, .agg l, d, k, n, cs, o, old, y, h, ho => by
   simp only [go] at h
   cases hz : l[i]? with
   | none => simp [hz] at h
   | some z =>
     simp only [hz] at h
     obtain ⟨R, h1, h2⟩ := rows_goStore p z y h ho
     obtain ⟨S, h3, h4⟩ := rowsL_set l i z (goSet (p ++ [o]) y z) hz
     refine ⟨R ++ S, ?_, ?_⟩
     ·simp only [rows]; refine (h3.trans (List.Perm.append_right S h1)).trans ?_; rw [List.cons_append, List.append_assoc]
     ·simp only [List.cons_append, goSet, hz, rows]; refine (h4.trans (List.Perm.append_right S h2)).trans ?_; rw [List.cons_append, List.append_assoc]
 | i :: p, .tup l, d, k, n, cs, o, old, y, h, ho => by
   simp only [go] at h
   cases hz : l[i]? with
   | none => simp [hz] at h
   | some z =>
     simp only [hz] at h
     obtain ⟨R, h1, h2⟩ := rows_goStore p z y h ho
     obtain ⟨S, h3, h4⟩ := rowsL_set l i z (goSet (p ++ [o]) y z) hz
     refine ⟨R ++ S, ?_, ?_⟩
     ·simp only [rows]; refine (h3.trans (List.Perm.append_right S h1)).trans ?_; rw [List.cons_append, List.append_assoc]
     ·simp only [List.cons_append, goSet, hz, rows]; refine (h4.trans (List.Perm.append_right S h2)).trans ?_; rw [List.cons_append, List.append_assoc]
 | _ :: _, .int _ _, _, _, _, _, _, _, _, h, _ | _ :: _, .bool _, _, _, _, _, _, _, _, h, _ | _ :: _, .nilp, _, _, _, _, _, _, _, h, _ | _ :: _, .nilf, _, _, _, _, _, _, _, h, _ | _ :: _, .bptr _ _, _, _, _, _, _, _, _, h, _
 | _ :: _, .ip _ _ _, _, _, _, _, _, _, _, h, _ | _ :: _, .im _ _ _ _ _, _, _, _, _, _, _, _, h, _ | _ :: _, .fn _ _ _, _, _, _, _, _, _, _, h, _ | _ :: _, .ref _ _, _, _, _, _, _, _, _, h, _ | _ :: _, .loc _ _, _, _, _, _, _, _, _, h, _ | _ :: _, .dead, _, _, _, _, _, _, _, h, _ => by
   simp [go] at h
def slotRows (nt : Nat) (s : Nat → V) : List RowE := (List.range nt).flatMap fun t => rows (s t)
def boxRow (c : Box) : RowE := (.blk c.g 1 c.cs.length, 0, 1, c.cs.map sh)
def boxRows : List (Nat × Box) → List RowE
 | [] => []
 | (_, c) :: m => boxRow c :: (rowsL c.cs ++ boxRows m)
def rowsD (nt : Nat) (D : St) (ex : List V) : List RowE := slotRows nt D.s ++ (boxRows D.m ++ rowsL ex)
def keyOf : RowE → Option Nat
 | (.blk g _ _, _) => some g
 | _ => none
def keysOf (l : List RowE) : List Nat := l.filterMap keyOf
def keysD (nt : Nat) (D : St) (ex : List V) : List Nat := keysOf (rowsD nt D ex)
def boxAtoms : List (Nat × Box) → List At
 | [] => []
 | (_, c) :: m => atomsL c.cs ++ boxAtoms m
def slotAtoms (nt : Nat) (s : Nat → V) : List At := (List.range nt).flatMap fun t => atoms (s t)
def atomsD (nt : Nat) (D : St) (ex : List V) : List At := slotAtoms nt D.s ++ (boxAtoms D.m ++ atomsL ex)
theorem slotRows_set (nt t : Nat) (s : Nat → V) (ht : t < nt) :
 ∃ R, (slotRows nt s).Perm (rows (s t) ++ R) ∧ ∀ y, (slotRows nt (fun i => if i = t then y else s i)).Perm (rows y ++ R) := by
 have key : ∀ l : List Nat, l.Nodup → t ∈ l → ∃ R, (l.flatMap fun t => rows (s t)).Perm (rows (s t) ++ R) ∧
  ∀ y, (l.flatMap fun i => rows (if i = t then y else s i)).Perm (rows y ++ R) := by
  intro l
  induction l with
  | nil => intro _ h; cases h
  | cons a l ih =>
    intro hn hm
    have hn' := List.nodup_cons.1 hn
    by_cases ha : a = t
    ·subst ha
     refine ⟨l.flatMap fun t => rows (s t), by simp, fun y => ?_⟩
     have : (l.flatMap fun i => rows (if i = a then y else s i)) = l.flatMap fun t => rows (s t) := by
      simp only [List.flatMap]
      congr 1
      refine List.map_congr_left fun i hi => ?_
      have hne : ¬ i = a := fun e => hn'.1 (by rw [← e]; exact hi)
      rw [if_neg hne]
     simp [this]
    ·have ht' : t ∈ l := by
      rcases List.mem_cons.1 hm with h | h
      ·exact absurd h.symm ha
      ·exact h
     obtain ⟨R, h1, h2⟩ := ih hn'.2 ht'
     refine ⟨rows (s a) ++ R, ?_, fun y => ?_⟩
     ·simp only [List.flatMap_cons]
      exact (List.Perm.append_left _ h1).trans (by rw [← List.append_assoc, ← List.append_assoc]; exact List.Perm.append_right _ List.perm_append_comm)
     ·simp only [List.flatMap_cons, if_neg ha]
      exact (List.Perm.append_left _ (h2 y)).trans (by rw [← List.append_assoc, ← List.append_assoc]; exact List.Perm.append_right _ List.perm_append_comm)
 exact key _ List.nodup_range (List.mem_range.2 ht)
theorem slotAtoms_set {nt t : Nat} {s : Nat → V} {y : V} {a : At} (h : a ∈ slotAtoms nt (fun i => if i = t then y else s i)) : a ∈ atoms y ∨ a ∈ slotAtoms nt s := by
 obtain ⟨i, hi, ha⟩ := List.mem_flatMap.1 h
 simp only at ha
 by_cases e : i = t
 ·rw [if_pos e] at ha; exact .inl ha
 ·rw [if_neg e] at ha; exact .inr (List.mem_flatMap.2 ⟨i, hi, ha⟩)
theorem slotAtoms_mem {nt t : Nat} {s : Nat → V} {a : At} (ht : t < nt) (h : a ∈ atoms (s t)) : a ∈ slotAtoms nt s := List.mem_flatMap.2 ⟨t, List.mem_range.2 ht, h⟩
theorem getBox_mem : ∀ {m : List (Nat × Box)} {b : Nat} {c : Box}, getBox m b = some c → (b, c) ∈ m
 | [], _, _, h => by simp [getBox] at h
 | (i, c') :: m, b, c, h => by
   simp only [getBox] at h
   by_cases e : i = b
   ·rw [if_pos e] at h; cases h; subst e; exact List.mem_cons_self
   ·rw [if_neg e] at h; exact List.mem_cons_of_mem _ (getBox_mem h)
theorem boxAtoms_mem : ∀ {m : List (Nat × Box)} {b : Nat} {c : Box}, getBox m b = some c → ∀ {a}, a ∈ atomsL c.cs → a ∈ boxAtoms m
 | [], _, _, h, _, _ => by simp [getBox] at h
 | (i, c') :: m, b, c, h, a, ha => by
   simp only [getBox] at h
   by_cases e : i = b
   ·rw [if_pos e] at h; cases h; exact List.mem_append_left _ ha
   ·rw [if_neg e] at h; exact List.mem_append_right _ (boxAtoms_mem h ha)
theorem boxRows_set : ∀ {m : List (Nat × Box)} {b : Nat} {c : Box}, getBox m b = some c →
 ∃ R, (boxRows m).Perm (boxRow c :: (rowsL c.cs ++ R)) ∧ ∀ c', (boxRows (setBox m b c')).Perm (boxRow c' :: (rowsL c'.cs ++ R))
 | [], _, _, h => by simp [getBox] at h
 | (i, c0) :: m, b, c, h => by
   simp only [getBox] at h
   by_cases e : i = b
   ·rw [if_pos e] at h; cases h
    exact ⟨boxRows m, by simp [boxRows], fun c' => by simp [setBox, e, boxRows]⟩
   ·rw [if_neg e] at h
    obtain ⟨R, h1, h2⟩ := boxRows_set h
    have move : ∀ (X : RowE) (Y S : List RowE), (boxRow c0 :: (rowsL c0.cs ++ (X :: (Y ++ S)))).Perm (X :: (Y ++ (boxRow c0 :: (rowsL c0.cs ++ S)))) := by
     intro X Y S
     refine (List.Perm.cons _ List.perm_middle).trans ((List.Perm.swap _ _ _).trans (List.Perm.cons _ ?_))
     refine (List.Perm.cons _ ?_).trans List.perm_middle.symm
     rw [← List.append_assoc, ← List.append_assoc]
     exact List.Perm.append_right _ List.perm_append_comm
    refine ⟨boxRow c0 :: (rowsL c0.cs ++ R), ?_, fun c' => ?_⟩
    ·exact ((List.Perm.append_left _ h1).cons _).trans (move _ _ _)
    ·simp only [setBox, if_neg e, boxRows]
     exact ((List.Perm.append_left _ (h2 c')).cons _).trans (move _ _ _)
theorem boxAtoms_set : ∀ {m : List (Nat × Box)} {b : Nat} {c' : Box} {a : At}, a ∈ boxAtoms (setBox m b c') → a ∈ atomsL c'.cs ∨ a ∈ boxAtoms m
 | [], _, _, _, h => by simp [setBox, boxAtoms] at h
 | (i, c0) :: m, b, c', a, h => by
   by_cases e : i = b
   ·simp only [setBox, if_pos e, boxAtoms] at h
    rcases List.mem_append.1 h with h | h
    ·exact .inl h
    ·exact .inr (List.mem_append_right _ h)
   ·simp only [setBox, if_neg e, boxAtoms] at h
    rcases List.mem_append.1 h with h | h
    ·exact .inr (List.mem_append_left _ h)
    ·exact (boxAtoms_set h).imp id (List.mem_append_right _)
theorem getBox_setBox : ∀ {m : List (Nat × Box)} {b b' : Nat} {c c' : Box}, getBox m b = some c → getBox (setBox m b c') b' = if b' = b then some c' else getBox m b'
 | [], _, _, _, _, h => by simp [getBox] at h
 | (i, c0) :: m, b, b', c, c', h => by
   simp only [getBox] at h
   by_cases e : i = b
   ·subst e
    simp only [setBox, if_true, getBox]
    by_cases e' : i = b'
    ·simp [e']
    ·simp [e', Ne.symm e']
   ·rw [if_neg e] at h
    have ih := getBox_setBox (b' := b') (c' := c') h
    simp only [setBox, if_neg e, getBox]
    by_cases e' : i = b'
    ·subst e'; simp [e]
    ·simp [e', ih]
theorem setBox_fst : ∀ (m : List (Nat × Box)) (b : Nat) (c : Box), (setBox m b c).map (·.1) = m.map (·.1)
 | [], _, _ => rfl
 | (i, c0) :: m, b, c => by
   by_cases e : i = b
   ·simp [setBox, e]
   ·simp [setBox, e, setBox_fst m b c]
theorem rows_setAt {β : Nat → Nat} {nt : Nat} {D : St} {ex : List V} {r : Root} {p : List Nat} {old y : V} (h : look D r p = some old) (hr : ∀ t, r = .slot t → t < nt) (hy : ∀ u, MR β old u → MR β y u) :
 ∃ R R', RLeL β R' R ∧ (rowsD nt D ex).Perm (rows old ++ R) ∧ (rowsD nt (setAt D r p y) ex).Perm (rows y ++ R') := by
 cases r with
 | slot t =>
   obtain ⟨R, R', hR, h1, h2⟩ := rows_goSet (β := β) p (D.s t) old y h hy
   obtain ⟨S, h3, h4⟩ := slotRows_set nt t D.s (hr t rfl)
   refine ⟨R ++ (S ++ (boxRows D.m ++ rowsL ex)), R' ++ (S ++ (boxRows D.m ++ rowsL ex)), hR.append (RLeL.refl β _), ?_, ?_⟩
   ·unfold rowsD
    refine (List.Perm.append_right _ (h3.trans (List.Perm.append_right _ h1))).trans ?_
    simp only [List.append_assoc]; exact List.Perm.refl _
   ·unfold rowsD
    simp only [setAt]
    refine (List.Perm.append_right _ ((h4 _).trans (List.Perm.append_right _ h2))).trans ?_
    simp only [List.append_assoc]; exact List.Perm.refl _
 | box b =>
   simp only [look] at h
   cases hb : getBox D.m b with
   | none => simp [hb] at h
   | some c =>
     simp only [hb] at h
     cases p with
     | nil => simp at h
     | cons o q =>
       simp only at h
       cases hc : c.cs[o]? with
       | none => simp [hc] at h
       | some z =>
         simp only [hc] at h
         obtain ⟨R, R', hR, h1, h2⟩ := rows_goSet (β := β) q z old y h hy
         obtain ⟨S, h3, h4⟩ := rowsL_set c.cs o z (goSet q y z) hc
         obtain ⟨T, h5, h6⟩ := boxRows_set hb
         have hz : ∀ u, MR β z u → MR β (goSet q y z) u := by
          intro u hu
          cases q with
          | nil => simp only [go, Option.some.injEq] at h; subst h; exact hy u hu
          | cons o' p' => exact MR_goSet hu
         have hbr : RLe β (boxRow { c with cs := c.cs.set o (goSet q y z) }) (boxRow c) := by
          have := rle_set (β := β) (d := .blk c.g 1 c.cs.length) (k := 0) (n := 1) hc hz
          simpa [boxRow] using this
         have perm : ∀ (X : RowE) (Y A B E F : List RowE), (E ++ ((X :: ((Y ++ A) ++ B)) ++ F)).Perm (Y ++ (X :: (A ++ (B ++ (E ++ F))))) := by
          intro X Y A B E F
          have h1 : (E ++ ((X :: ((Y ++ A) ++ B)) ++ F)).Perm (X :: (Y ++ (A ++ (B ++ (E ++ F))))) := by
           refine List.perm_append_comm.trans ?_
           simp only [List.cons_append, List.append_assoc]
           refine List.Perm.cons _ (List.Perm.append_left _ (List.Perm.append_left _ (List.Perm.append_left _ List.perm_append_comm)))
          exact h1.trans List.perm_middle.symm
         refine ⟨boxRow c :: (R ++ (S ++ (T ++ (slotRows nt D.s ++ rowsL ex)))) , boxRow { c with cs := c.cs.set o (goSet q y z) } :: (R' ++ (S ++ (T ++ (slotRows nt D.s ++ rowsL ex)))),
          .cons hbr (hR.append (RLeL.refl β _)), ?_, ?_⟩
         ·unfold rowsD
          refine (List.Perm.append_left _ (List.Perm.append_right _ (h5.trans (List.Perm.cons _ (List.Perm.append_right _ (h3.trans (List.Perm.append_right _ h1))))))).trans ?_
          refine (perm (boxRow c) (rows old) (R ++ S) T (slotRows nt D.s) (rowsL ex) |> fun hp => ?_)
          simp only [List.append_assoc] at hp ⊢
          exact hp
         ·unfold rowsD
          simp only [setAt, hb, hc]
          refine (List.Perm.append_left _ (List.Perm.append_right _ ((h6 _).trans (List.Perm.cons _ (List.Perm.append_right _ (h4.trans (List.Perm.append_right _ h2))))))).trans ?_
          refine (perm (boxRow { c with cs := c.cs.set o (goSet q y z) }) (rows y) (R' ++ S) T (slotRows nt D.s) (rowsL ex) |> fun hp => ?_)
          simp only [List.append_assoc] at hp ⊢
          exact hp
theorem atoms_setAt {nt : Nat} {D : St} {ex : List V} {r : Root} {p : List Nat} {y : V} {a : At} (hr : ∀ t, r = .slot t → t < nt) (h : a ∈ atomsD nt (setAt D r p y) ex) : a ∈ atoms y ∨ a ∈ atomsD nt D ex := by
 cases r with
 | slot t =>
   simp only [setAt, atomsD] at h ⊢
   rcases List.mem_append.1 h with h | h
   ·rcases slotAtoms_set h with h | h
    ·rcases atoms_goSet _ _ _ _ h with h | h
     ·exact .inl h
     ·exact .inr (List.mem_append_left _ (slotAtoms_mem (hr t rfl) h))
    ·exact .inr (List.mem_append_left _ h)
   ·exact .inr (List.mem_append_right _ h)
 | box b =>
   simp only [setAt] at h
   cases hb : getBox D.m b with
   | none => simp only [hb] at h; exact .inr h
   | some c =>
     simp only [hb] at h
     cases p with
     | nil => exact .inr h
     | cons o q =>
       simp only [atomsD] at h ⊢
       rcases List.mem_append.1 h with h | h
       ·exact .inr (List.mem_append_left _ h)
       rcases List.mem_append.1 h with h | h
       ·rcases boxAtoms_set h with h | h
        ·cases hc : c.cs[o]? with
         | none => simp only [hc] at h; exact .inr (List.mem_append_right _ (List.mem_append_left _ (boxAtoms_mem hb h)))
         | some z =>
           simp only [hc] at h
           rcases atomsL_set h with h | h
           ·rcases atoms_goSet _ _ _ _ h with h | h
            ·exact .inl h
            ·exact .inr (List.mem_append_right _ (List.mem_append_left _ (boxAtoms_mem hb (atoms_mem (List.mem_of_getElem? hc) h))))
           ·exact .inr (List.mem_append_right _ (List.mem_append_left _ (boxAtoms_mem hb h)))
        ·exact .inr (List.mem_append_right _ (List.mem_append_left _ h))
       ·exact .inr (List.mem_append_right _ (List.mem_append_right _ h))
theorem atoms_look {nt : Nat} {D : St} {ex : List V} {r : Root} {p : List Nat} {x : V} (hr : ∀ t, r = .slot t → t < nt) (h : look D r p = some x) {a : At} (ha : a ∈ atoms x) : a ∈ atomsD nt D ex := by
 cases r with
 | slot t => exact List.mem_append_left _ (slotAtoms_mem (hr t rfl) (atoms_go p _ _ h a ha))
 | box b =>
   simp only [look] at h
   cases hb : getBox D.m b with
   | none => simp [hb] at h
   | some c =>
     simp only [hb] at h
     cases p with
     | nil => simp at h
     | cons o q =>
       simp only at h
       cases hc : c.cs[o]? with
       | none => simp [hc] at h
       | some z =>
         simp only [hc] at h
         exact List.mem_append_right _ (List.mem_append_left _ (boxAtoms_mem hb (atoms_mem (List.mem_of_getElem? hc) (atoms_go q _ _ h a ha))))
def addrOf (β : Nat → Nat) (D : St) (r : Root) (p : List Nat) : Option Addr :=
 match p.getLast? with
 | none => none
 | some o => match r, p.dropLast with
   | .box b, [] => none
   | r, q => match look D r q with
     | some (.own (.blk g _ _) _ _ _) => some ⟨g, o, none⟩
     | _ => none
mutual
def PR (β : Nat → Nat) (D : St) : V → Value → Prop
 | .dead, _ => True
 | .ref r p, u => ∀ d k n cs, look D r p = some (.own d k n cs) → hd β (.own d k n cs) = some u
 | .loc r p, u => ∀ a, addrOf β D r p = some a → u = .pointer (some a)
 | .agg cs, u => ∃ us, u = .agg us.toArray ∧ PRL β D cs us
 | .tup cs, u => ∃ us, u = .tuple us.toArray ∧ PRL β D cs us
 | .fn f a b, u => ∃ ua ub, u = .func f ua.toArray ub.toArray ∧ PRL β D a ua ∧ PRL β D b ub
 | .int k n, u => u = .int k n
 | .bool b, u => u = .bool b
 | .nilp, u => u = .pointer none
 | .nilf, u => u = .nilFunc
 | .bptr b o, u => u = .pointer (some ⟨β b, o, none⟩)
 | .ip _ A _, u => u = .pointer (some A)
 | .im _ A cap n _, u => u = .slice A n cap
 | .own d k n cs, u => hd β (.own d k n cs) = some u
def PRL (β : Nat → Nat) (D : St) : List V → List Value → Prop
 | [], us => us = []
 | v :: l, us => ∃ u us', us = u :: us' ∧ PR β D v u ∧ PRL β D l us'
end
def Turned (D D' : St) (r : Root) (p : List Nat) : Prop :=
 ∀ r' q d k n cs, look D' r' q = some (.own d k n cs) → hitRef r p r' q = true ∨ ∃ cs', look D r' q = some (.own d k n cs')
def Kept (D D' : St) : Prop := ∀ r' q d k n cs, look D' r' q = some (.own d k n cs) → ∃ cs', look D r' q = some (.own d k n cs')
theorem Kept.refl (D : St) : Kept D D := fun _ _ _ _ _ cs h => ⟨cs, h⟩
theorem Kept.trans {D D1 D2 : St} (h : Kept D D1) (k : Kept D1 D2) : Kept D D2 := fun r' q d k' n cs hq => by
 obtain ⟨cs', h'⟩ := k r' q d k' n cs hq
 exact h r' q d k' n cs' h'
theorem addrOf_kept {β : Nat → Nat} {D D' : St} (hk : Kept D D') {r : Root} {p : List Nat} {a : Addr} (h : addrOf β D' r p = some a) : addrOf β D r p = some a := by
 unfold addrOf at h ⊢
 cases hl : p.getLast? with
 | none => rw [hl] at h; cases h
 | some o =>
   rw [hl] at h
   cases r with
   | box b =>
     cases hd : p.dropLast with
     | nil => rw [hd] at h; exact h
     | cons x q =>
       rw [hd] at h
       simp only at h ⊢
       split at h
       ·rename_i g c1 c2 c3 c4 c5 hlk
        obtain ⟨cs', h'⟩ := hk _ _ _ _ _ _ hlk
        rw [h']; exact h
       ·cases h
   | slot t =>
     simp only at h ⊢
     split at h
     ·rename_i g c1 c2 c3 c4 c5 hlk
      obtain ⟨cs', h'⟩ := hk _ _ _ _ _ _ hlk
      rw [h']; exact h
     ·cases h
theorem addrOf_turned {β : Nat → Nat} {D D' : St} {r0 : Root} {p0 : List Nat} (hk : Turned D D' r0 p0) {r : Root} {p : List Nat} (hh : hitLoc r0 p0 r p = false) {a : Addr} (h : addrOf β D' r p = some a) : addrOf β D r p = some a := by
 unfold addrOf at h ⊢
 cases hl : p.getLast? with
 | none => rw [hl] at h; cases h
 | some o =>
   rw [hl] at h
   have hh' : hitRef r0 p0 r p.dropLast = false := hh
   cases r with
   | box b =>
     cases hd : p.dropLast with
     | nil => rw [hd] at h; exact h
     | cons x q =>
       rw [hd] at h hh'
       simp only at h ⊢
       split at h
       ·rename_i g c1 c2 c3 c4 c5 hlk
        rcases hk _ _ _ _ _ _ hlk with h1 | ⟨cs', h'⟩
        ·rw [hh'] at h1; cases h1
        ·rw [h']; exact h
       ·cases h
   | slot t =>
     simp only at h ⊢
     split at h
     ·rename_i g c1 c2 c3 c4 c5 hlk
      rcases hk _ _ _ _ _ _ hlk with h1 | ⟨cs', h'⟩
      ·rw [hh'] at h1; cases h1
      ·rw [h']; exact h
     ·cases h
mutual
theorem PR_kept {β : Nat → Nat} {D D' : St} (hk : Kept D D') : ∀ {v : V} {u : Value}, PR β D v u → PR β D' v u
 | .ref r p, u, h => by
   intro d k n cs hq
   obtain ⟨cs', h'⟩ := hk r p d k n cs hq
   exact h d k n cs' h'
 | .loc r p, u, h => fun a ha => h a (addrOf_kept hk ha)
 | .agg cs, u, h => by obtain ⟨us, rfl, hl⟩ := h; exact ⟨us, rfl, PRL_kept hk hl⟩
 | .tup cs, u, h => by obtain ⟨us, rfl, hl⟩ := h; exact ⟨us, rfl, PRL_kept hk hl⟩
 | .fn f a b, u, h => by obtain ⟨ua, ub, rfl, ha, hb⟩ := h; exact ⟨ua, ub, rfl, PRL_kept hk ha, PRL_kept hk hb⟩
 | .dead, _, _ => trivial
 | .int _ _, _, h | .bool _, _, h | .nilp, _, h | .nilf, _, h | .bptr _ _, _, h | .ip _ _ _, _, h | .im _ _ _ _ _, _, h | .own _ _ _ _, _, h => h
theorem PRL_kept {β : Nat → Nat} {D D' : St} (hk : Kept D D') : ∀ {l : List V} {us : List Value}, PRL β D l us → PRL β D' l us
 | [], us, h => h
 | v :: l, us, h => by obtain ⟨u, us', rfl, h1, h2⟩ := h; exact ⟨u, us', rfl, PR_kept hk h1, PRL_kept hk h2⟩
end
mutual
theorem PR_kill {β : Nat → Nat} {D D' : St} {r : Root} {p : List Nat} (hk : Turned D D' r p) : ∀ {v : V} {u : Value}, PR β D v u → PR β D' (kill r p v) u
 | .ref r' q, u, h => by
   simp only [kill]
   cases hh : hitRef r p r' q with
   | true => simp [PR]
   | false =>
     simp only [Bool.false_eq_true, if_false]
     intro d k n cs hq
     rcases hk r' q d k n cs hq with h1 | ⟨cs', h'⟩
     ·rw [hh] at h1; cases h1
     ·exact h d k n cs' h'
 | .loc r' q, u, h => by
   simp only [kill]
   cases hh : hitLoc r p r' q with
   | true => simp [PR]
   | false =>
     simp only [Bool.false_eq_true, if_false]
     exact fun a ha => h a (addrOf_turned hk hh ha)
 | .agg cs, u, h => by obtain ⟨us, rfl, hl⟩ := h; exact ⟨us, rfl, PRL_kill hk hl⟩
 | .tup cs, u, h => by obtain ⟨us, rfl, hl⟩ := h; exact ⟨us, rfl, PRL_kill hk hl⟩
 | .fn f a b, u, h => by obtain ⟨ua, ub, rfl, ha, hb⟩ := h; exact ⟨ua, ub, rfl, PRL_kill hk ha, PRL_kill hk hb⟩
 | .dead, _, _ => trivial
 | .int _ _, _, h | .bool _, _, h | .nilp, _, h | .nilf, _, h | .bptr _ _, _, h | .ip _ _ _, _, h | .im _ _ _ _ _, _, h | .own _ _ _ _, _, h => h
theorem PRL_kill {β : Nat → Nat} {D D' : St} {r : Root} {p : List Nat} (hk : Turned D D' r p) : ∀ {l : List V} {us : List Value}, PRL β D l us → PRL β D' (killL r p l) us
 | [], us, h => h
 | v :: l, us, h => by obtain ⟨u, us', rfl, h1, h2⟩ := h; exact ⟨u, us', rfl, PR_kill hk h1, PRL_kill hk h2⟩
end
theorem setAt_turned {D : St} {r : Root} {p : List Nat} {old y : V} (h : look D r p = some old) : Turned D (setAt D r p y) r p ∧ (noRow y = true → Kept D (setAt D r p y)) := by
 have key : ∀ r' q d k n cs, look (setAt D r p y) r' q = some (.own d k n cs) → (hitRef r p r' q = true ∧ ∃ q', go q' y = some (.own d k n cs)) ∨ ∃ cs', look D r' q = some (.own d k n cs') := by
  intro r' q d k n cs hq
  cases r with
  | slot t =>
    cases r' with
    | slot t' =>
      simp only [look, setAt] at hq h ⊢
      by_cases e : t' = t
      ·subst e
       simp only [if_true] at hq
       rcases go_goSet p q _ y h hq with ⟨_, h2⟩ | ⟨h1, h2⟩
       ·exact .inr h2
       ·exact .inl ⟨by simp [hitRef, h1], h2⟩
      ·rw [if_neg e] at hq; exact .inr ⟨cs, hq⟩
    | box b => exact .inr ⟨cs, hq⟩
  | box b =>
    simp only [look] at h
    cases hb : getBox D.m b with
    | none => simp [hb] at h
    | some c =>
      simp only [hb] at h
      cases p with
      | nil => simp at h
      | cons o p =>
        simp only at h
        cases hc : c.cs[o]? with
        | none => simp [hc] at h
        | some z =>
          simp only [hc] at h
          cases r' with
          | slot t' => simp only [look, setAt, hb] at hq; exact .inr ⟨cs, hq⟩
          | box b' =>
            simp only [look, setAt, hb, hc] at hq
            rw [getBox_setBox hb] at hq
            by_cases e : b' = b
            ·subst e
             simp only [if_true] at hq
             cases q with
             | nil => simp at hq
             | cons o' q =>
               simp only at hq
               by_cases ho : o = o'
               ·subst ho
                have hlt : o < c.cs.length := (List.getElem?_eq_some_iff.1 hc).1
                rw [List.getElem?_set_self hlt] at hq
                simp only at hq
                rcases go_goSet p q _ y h hq with ⟨_, cs', h2⟩ | ⟨h1, h2⟩
                ·exact .inr ⟨cs', by simp only [look, hb, hc]; exact h2⟩
                ·exact .inl ⟨by simp [hitRef, pre, h1], h2⟩
               ·rw [List.getElem?_set_ne ho] at hq
                exact .inr ⟨cs, by simp only [look, hb]; exact hq⟩
            ·rw [if_neg e] at hq
             exact .inr ⟨cs, hq⟩
 refine ⟨fun r' q d k n cs hq => (key r' q d k n cs hq).imp (·.1) id, fun hn r' q d k n cs hq => ?_⟩
 rcases key r' q d k n cs hq with ⟨_, q', h2⟩ | h2
 ·have := go_noRow q' y _ hn h2
  simp [noRow] at this
 ·exact h2
def Mild (f : V → V) : Prop := ∀ v q d k n cs, go q (f v) = some (.own d k n cs) → go q v = some (.own d k n cs)
theorem mild_kept {D : St} {f : V → V} (hf : Mild f) : Kept D { D with s := fun i => f (D.s i) } := by
 intro r' q d k n cs hq
 cases r' with
 | slot t => exact ⟨cs, hf _ _ _ _ _ _ hq⟩
 | box b => exact ⟨cs, hq⟩
mutual
theorem kill_mild (r : Root) (p : List Nat) : ∀ (v : V) (q : List Nat) (d : Dec) (k n : Nat) (cs : List V), go q (kill r p v) = some (.own d k n cs) → go q v = some (.own d k n cs)
 | .ref r' q', q, d, k, n, cs, h => by simp only [kill] at h; split at h <;> cases q <;> simp [go] at h
 | .loc r' q', q, d, k, n, cs, h => by simp only [kill] at h; split at h <;> cases q <;> simp [go] at h
 | .agg l, q, d, k, n, cs, h => by
   cases q with
   | nil => simp [kill, go] at h
   | cons o q => simp only [kill, go] at h ⊢; exact killL_mild r p l o q d k n cs h
 | .tup l, q, d, k, n, cs, h => by
   cases q with
   | nil => simp [kill, go] at h
   | cons o q => simp only [kill, go] at h ⊢; exact killL_mild r p l o q d k n cs h
 | .fn f a b, q, d, k, n, cs, h => by cases q <;> simp [kill, go] at h
 | .dead, q, d, k, n, cs, h | .int _ _, q, d, k, n, cs, h | .bool _, q, d, k, n, cs, h | .nilp, q, d, k, n, cs, h | .nilf, q, d, k, n, cs, h | .bptr _ _, q, d, k, n, cs, h | .ip _ _ _, q, d, k, n, cs, h
 | .im _ _ _ _ _, q, d, k, n, cs, h | .own _ _ _ _, q, d, k, n, cs, h => h
theorem killL_mild (r : Root) (p : List Nat) : ∀ (l : List V) (o : Nat) (q : List Nat) (d : Dec) (k n : Nat) (cs : List V),
 (match (killL r p l)[o]? with | some y => go q y | none => none) = some (.own d k n cs) → (match l[o]? with | some y => go q y | none => none) = some (.own d k n cs)
 | [], o, q, d, k, n, cs, h => by simp [killL] at h
 | v :: l, 0, q, d, k, n, cs, h => by simp only [killL, List.getElem?_cons_zero] at h ⊢; exact kill_mild r p v q d k n cs h
 | v :: l, o + 1, q, d, k, n, cs, h => by simp only [killL, List.getElem?_cons_succ] at h ⊢; exact killL_mild r p l o q d k n cs h
end
mutual
theorem rows_kill (r : Root) (p : List Nat) : ∀ v : V, rows (kill r p v) = rows v
 | .ref r' q' => by simp only [kill]; split <;> rfl
 | .loc r' q' => by simp only [kill]; split <;> rfl
 | .agg l => rowsL_kill r p l
 | .tup l => rowsL_kill r p l
 | .fn f a b => by simp only [kill, rows, rowsL_kill r p a, rowsL_kill r p b]
 | .dead | .int _ _ | .bool _ | .nilp | .nilf | .bptr _ _ | .ip _ _ _ | .im _ _ _ _ _ | .own _ _ _ _ => rfl
theorem rowsL_kill (r : Root) (p : List Nat) : ∀ l : List V, rowsL (killL r p l) = rowsL l
 | [] => rfl
 | v :: l => by simp only [killL, rowsL, rows_kill r p v, rowsL_kill r p l]
end
mutual
theorem atoms_kill (r : Root) (p : List Nat) : ∀ v : V, atoms (kill r p v) = atoms v
 | .ref r' q' => by simp only [kill]; split <;> rfl
 | .loc r' q' => by simp only [kill]; split <;> rfl
 | .agg l => atomsL_kill r p l
 | .tup l => atomsL_kill r p l
 | .fn f a b => by simp only [kill, atoms, atomsL_kill r p a, atomsL_kill r p b]
 | .dead | .int _ _ | .bool _ | .nilp | .nilf | .bptr _ _ | .ip _ _ _ | .im _ _ _ _ _ | .own _ _ _ _ => rfl
theorem atomsL_kill (r : Root) (p : List Nat) : ∀ l : List V, atomsL (killL r p l) = atomsL l
 | [] => rfl
 | v :: l => by simp only [killL, atomsL, atoms_kill r p v, atomsL_kill r p l]
end
theorem block_of_add (a : Addr) (n : Nat) : (a.add n).block = a.block := by unfold Addr.add; split <;> rfl
theorem add_of_add (a : Addr) (i j : Nat) : (a.add i).add j = a.add (i + j) := by
 unfold Addr.add
 by_cases hi : i = 0 <;> by_cases hj : j = 0 <;> simp [hi, hj, Nat.add_assoc]
structure Env where
 β : Nat → Nat
 Gp : Nat → Prop
 Gb : Nat → Prop
def Env.good (E : Env) (pm : Bool) (k : Nat) : Prop := if pm then E.Gp k else E.Gb k
def FOk (E : Env) (w : World) (K : Nat → Prop) (pm : Bool) (A : Addr) (cs : List V) : Prop :=
 noRowL cs = true ∧ (∀ (j : Nat) (x : V), cs[j]? = some x → ∃ u, w.cell? (A.add j) = some u ∧ MR E.β x u) ∧ (cs ≠ [] → E.good pm A.block ∧ ¬ K A.block)
def AtOk (E : Env) (w : World) (nx : Nat) (K : Nat → Prop) : At → Prop
 | .p b => b < nx
 | .i pm A cap n cs => n ≤ cap ∧ match A with | none => n = 0 ∧ cs = [] | some a => FOk E w K pm a cs
 | .f pm A cs => FOk E w K pm A cs
def RowOk (E : Env) (w : World) : RowE → Prop
 | (d, k, n, cs) => match d with
   | .nil => n = 0 ∧ cs = []
   | .emp _ => n = 0 ∧ cs = []
   | .blk g cap kk => n ≤ cap ∧ cap ≤ 9223372036854775807 ∧ 0 < kk ∧ cs.length = n * kk ∧ (0 < n ∨ k = kk ∨ cap = 0) ∧
     ∃ (cur : Array Value) (e : TypeId), w.heap[g]? = some (.cells cur e (0, 0)) ∧ cur.size = cap * kk ∧ ∀ (j : Nat) (x : V), cs[j]? = some x → ∃ u, cur[j]? = some u ∧ MR E.β x u
structure Inv (E : Env) (nt : Nat) (D : St) (ex : List V) (w : World) : Prop where
 rows : ∀ e ∈ rowsD nt D ex, RowOk E w e
 nodup : (keysD nt D ex).Nodup
 atoms : ∀ a ∈ atomsD nt D ex, AtOk E w D.nx (fun k => k ∈ keysD nt D ex) a
 boxes : ∀ e ∈ D.m, e.2.g = E.β e.1 ∧ e.1 < D.nx
 ids : (D.m.map (·.1)).Nodup
 keysG : ∀ k ∈ keysD nt D ex, E.Gp k
 newG : ∀ k, w.heap.size ≤ k → E.Gp k
 gpb : ∀ k, E.Gp k → E.Gb k
structure SlotsOk (E : Env) (nt : Nat) (D : St) (a : Act) : Prop where
 size : a.tmps.size = nt
 defers : a.defers = []
 slot : ∀ t, PR E.β D (D.s t) (a.tmps.getD t undef)
 high : ∀ t, nt ≤ t → D.s t = .dead
theorem AtOk.mono {E : Env} {w : World} {nx nx' : Nat} {K K' : Nat → Prop} (hn : nx ≤ nx') (hK : ∀ k, K' k → K k) {a : At} (h : AtOk E w nx K a) : AtOk E w nx' K' a := by
 have hf : ∀ {pm A cs}, FOk E w K pm A cs → FOk E w K' pm A cs := fun h => ⟨h.1, h.2.1, fun hc => ⟨(h.2.2 hc).1, fun hk => (h.2.2 hc).2 (hK _ hk)⟩⟩
 cases a with
 | p b => exact Nat.lt_of_lt_of_le h hn
 | i pm A cap n cs =>
   refine ⟨h.1, ?_⟩
   have h2 := h.2
   cases A with
   | none => exact h2
   | some a => exact hf h2
 | f pm A cs => exact hf h
theorem keysOf_perm {l l' : List RowE} (h : l.Perm l') : (keysOf l).Perm (keysOf l') := h.filterMap _
theorem keysOf_append (l l' : List RowE) : keysOf (l ++ l') = keysOf l ++ keysOf l' := List.filterMap_append
theorem RLeL.keys {β : Nat → Nat} {l' l : List RowE} (h : RLeL β l' l) : keysOf l' = keysOf l := by
 induction h with
 | nil => rfl
 | @cons e' e l' l h1 _ ih =>
   have : keyOf e' = keyOf e := by
    obtain ⟨d', r'⟩ := e'; obtain ⟨d, r⟩ := e
    have : d' = d := h1.1
    subst this; cases d' <;> rfl
   simp only [keysOf, List.filterMap_cons, this] at ih ⊢
   cases keyOf e <;> simp [ih]
theorem RowOk.le {E : Env} {w : World} {e' e : RowE} (h : RLe E.β e' e) (k : RowOk E w e) : RowOk E w e' := by
 obtain ⟨d', k', n', cs'⟩ := e'
 obtain ⟨d, k0, n, cs⟩ := e
 obtain ⟨h1, h2, h3, h4, h5⟩ := h
 simp only at h1 h2 h3 h4 h5
 subst h1 h2 h3
 cases d' with
 | nil => exact ⟨k.1, List.eq_nil_of_length_eq_zero (by rw [h4, k.2]; rfl)⟩
 | emp A => exact ⟨k.1, List.eq_nil_of_length_eq_zero (by rw [h4, k.2]; rfl)⟩
 | blk g cap kk =>
   obtain ⟨q1, q2, q3, q4, q5, cur, el, q6, q7, q8⟩ := k
   refine ⟨q1, q2, q3, h4.trans q4, q5, cur, el, q6, q7, fun j x hx => ?_⟩
   have hj : j < cs.length := by rw [← h4]; exact (List.getElem?_eq_some_iff.1 hx).1
   obtain ⟨u, hu, hm⟩ := q8 j _ (List.getElem?_eq_getElem hj)
   exact ⟨u, hu, h5 j _ x (List.getElem?_eq_getElem hj) hx u hm⟩
theorem Inv.weaken {E : Env} {nt nt' : Nat} {D D' : St} {ex ex' : List V} {w : World} (h : Inv E nt D ex w) (S R R' : List RowE) (hS : (rowsD nt D ex).Perm (S ++ R)) (hR : RLeL E.β R' R) (hS' : (rowsD nt' D' ex').Perm R')
 (ha : ∀ a ∈ atomsD nt' D' ex', a ∈ atomsD nt D ex) (hm : ∀ e' ∈ D'.m, ∃ e ∈ D.m, e.2.g = e'.2.g ∧ e.1 = e'.1) (hi : (D'.m.map (·.1)).Nodup) (hx : D'.nx = D.nx) : Inv E nt' D' ex' w := by
 have hk : ∀ k, k ∈ keysD nt' D' ex' → k ∈ keysD nt D ex := by
  intro k hk
  have h1 := (keysOf_perm hS').mem_iff.1 hk
  rw [hR.keys] at h1
  exact (keysOf_perm hS).mem_iff.2 (by rw [keysOf_append]; exact List.mem_append_right _ h1)
 refine ⟨fun e he => ?_, ?_, fun a haa => ?_, fun e' he' => ?_, hi, fun k hkk => h.keysG k (hk k hkk), h.newG, h.gpb⟩
 ·obtain ⟨e0, he0, hle⟩ := hR.mem (hS'.mem_iff.1 he)
  exact (h.rows e0 (hS.mem_iff.2 (List.mem_append_right _ he0))).le hle
 ·refine (keysOf_perm hS').nodup_iff.2 ?_
  rw [hR.keys]
  have := (keysOf_perm hS).nodup_iff.1 h.nodup
  rw [keysOf_append] at this
  exact (List.nodup_append.1 this).2.1
 ·exact (h.atoms a (ha a haa)).mono (by rw [hx]; exact Nat.le_refl _) hk
 ·obtain ⟨e, he, h1, h2⟩ := hm e' he'
  have := h.boxes e he
  rw [← h1, ← h2, hx]; exact this
theorem keys_sub {β : Nat → Nat} {nt nt' : Nat} {D D' : St} {ex ex' : List V} {S R R' : List RowE} (hS : (rowsD nt D ex).Perm (S ++ R)) (hR : RLeL β R' R) (hS' : (rowsD nt' D' ex').Perm R') :
 ∀ k, k ∈ keysD nt' D' ex' → k ∈ keysD nt D ex := by
 intro k hk
 have h1 := (keysOf_perm hS').mem_iff.1 hk
 rw [hR.keys] at h1
 exact (keysOf_perm hS).mem_iff.2 (by rw [keysOf_append]; exact List.mem_append_right _ h1)
theorem setAt_m (D : St) (r : Root) (p : List Nat) (y : V) : (setAt D r p y).nx = D.nx ∧ ((setAt D r p y).m.map (·.1)) = D.m.map (·.1) ∧ ∀ e' ∈ (setAt D r p y).m, ∃ e ∈ D.m, e.2.g = e'.2.g ∧ e.1 = e'.1 := by
 cases r with
 | slot t => exact ⟨rfl, rfl, fun e he => ⟨e, he, rfl, rfl⟩⟩
 | box b =>
   simp only [setAt]
   cases hb : getBox D.m b with
   | none => exact ⟨rfl, rfl, fun e he => ⟨e, he, rfl, rfl⟩⟩
   | some c =>
     cases p with
     | nil => exact ⟨rfl, rfl, fun e he => ⟨e, he, rfl, rfl⟩⟩
     | cons o q =>
       refine ⟨rfl, setBox_fst _ _ _, fun e he => ?_⟩
       have key : ∀ (m : List (Nat × Box)) (c' : Box), getBox m b = some c → c'.g = c.g → ∀ e ∈ setBox m b c', ∃ e0 ∈ m, e0.2.g = e.2.g ∧ e0.1 = e.1 := by
        intro m
        induction m with
        | nil => intro c' h; simp [getBox] at h
        | cons x m ih =>
          intro c' h hg e he
          obtain ⟨i, c0⟩ := x
          simp only [getBox] at h
          by_cases ei : i = b
          ·rw [if_pos ei] at h; cases h
           simp only [setBox, if_pos ei] at he
           rcases List.mem_cons.1 he with rfl | he
           ·exact ⟨_, List.mem_cons_self, hg.symm, rfl⟩
           ·exact ⟨e, List.mem_cons_of_mem _ he, rfl, rfl⟩
          ·rw [if_neg ei] at h
           simp only [setBox, if_neg ei] at he
           rcases List.mem_cons.1 he with rfl | he
           ·exact ⟨(i, c0), List.mem_cons_self, rfl, rfl⟩
           ·obtain ⟨e0, h0, h1⟩ := ih c' h hg e he
            exact ⟨e0, List.mem_cons_of_mem _ h0, h1⟩
       have he' : e ∈ setBox D.m b { c with cs := match c.cs[o]? with | some x => c.cs.set o (goSet q y x) | none => c.cs } := he
       exact key D.m { c with cs := match c.cs[o]? with | some x => c.cs.set o (goSet q y x) | none => c.cs } hb rfl e he'
mutual
theorem PR_goSet {β : Nat → Nat} {D : St} : ∀ (p : List Nat) (x old y : V) (u : Value), go p x = some old → (∀ u, PR β D old u → PR β D y u) → PR β D x u → PR β D (goSet p y x) u
 | [], x, old, y, u, h, hy, hx => by simp only [go, Option.some.injEq] at h; subst h; exact hy u hx
 | o :: p, .own d k n cs, old, y, u, h, hy, hx => hx
 | o :: p, .agg cs, old, y, u, h, hy, hx => by
   obtain ⟨us, rfl, hl⟩ := hx
   refine ⟨us, rfl, ?_⟩
   simp only [go] at h
   cases hc : cs[o]? with
   | none => simp [hc] at h
   | some z =>
     simp only [hc] at h
     exact PRL_set cs us o z _ hc (fun u hu => PR_goSet p z old y u h hy hu) hl
 | o :: p, .tup cs, old, y, u, h, hy, hx => by
   obtain ⟨us, rfl, hl⟩ := hx
   refine ⟨us, rfl, ?_⟩
   simp only [go] at h
   cases hc : cs[o]? with
   | none => simp [hc] at h
   | some z =>
     simp only [hc] at h
     exact PRL_set cs us o z _ hc (fun u hu => PR_goSet p z old y u h hy hu) hl
 | _ :: _, .int _ _, _, _, _, h, _, _ | _ :: _, .bool _, _, _, _, h, _, _ | _ :: _, .nilp, _, _, _, h, _, _ | _ :: _, .nilf, _, _, _, h, _, _ | _ :: _, .bptr _ _, _, _, _, h, _, _
 | _ :: _, .ip _ _ _, _, _, _, h, _, _ | _ :: _, .im _ _ _ _ _, _, _, _, h, _, _ | _ :: _, .fn _ _ _, _, _, _, h, _, _ | _ :: _, .ref _ _, _, _, _, h, _, _ | _ :: _, .loc _ _, _, _, _, h, _, _ | _ :: _, .dead, _, _, _, h, _, _ => by
   simp [go] at h
theorem PRL_set {β : Nat → Nat} {D : St} : ∀ (l : List V) (us : List Value) (o : Nat) (z y : V), l[o]? = some z → (∀ u, PR β D z u → PR β D y u) → PRL β D l us → PRL β D (l.set o y) us
 | [], us, o, z, y, h, _, _ => by simp at h
 | v :: l, us, 0, z, y, h, hy, hl => by
   obtain ⟨u, us', rfl, h1, h2⟩ := hl
   simp at h; subst h
   exact ⟨u, us', rfl, hy u h1, h2⟩
 | v :: l, us, o + 1, z, y, h, hy, hl => by
   obtain ⟨u, us', rfl, h1, h2⟩ := hl
   simp at h
   exact ⟨u, us', rfl, h1, PRL_set l us' o z y h hy h2⟩
end
theorem SlotsOk.lt {E : Env} {nt : Nat} {D : St} {a : Act} (h : SlotsOk E nt D a) {r : Root} {p : List Nat} {d : Dec} {k n : Nat} {cs : List V} (hl : look D r p = some (.own d k n cs)) : ∀ t, r = .slot t → t < nt := by
 intro t hr
 subst hr
 rcases Nat.lt_or_ge t nt with h1 | h1
 ·exact h1
 ·simp only [look, h.high t h1] at hl
  cases p <;> simp [go] at hl
theorem SlotsOk.setAt {E : Env} {nt : Nat} {D : St} {a : Act} (h : SlotsOk E nt D a) {r : Root} {p : List Nat} {old y : V} (hr : ∀ t, r = .slot t → t < nt) (hl : look D r p = some old) (hn : noRow y = true) (hy : ∀ u, PR E.β D old u → PR E.β D y u) :
 SlotsOk E nt (Abs.setAt D r p y) a := by
 have hk := (setAt_turned (y := y) hl).2 hn
 refine ⟨h.size, h.defers, fun t => ?_, fun t ht => ?_⟩
 case refine_2 =>
  cases r with
  | slot t' =>
    have : t ≠ t' := fun e => by have := hr t' rfl; omega
    simp only [Abs.setAt, if_neg this]
    exact h.high t ht
  | box b =>
    have : (Abs.setAt D (.box b) p y).s = D.s := by
     simp only [Abs.setAt]
     cases getBox D.m b with
     | none => rfl
     | some c => cases p <;> rfl
    rw [this]; exact h.high t ht
 refine PR_kept hk ?_
 cases r with
 | slot t' =>
   simp only [Abs.setAt]
   by_cases e : t = t'
   ·subst e; rw [if_pos rfl]; exact PR_goSet p _ old y _ hl hy (h.slot t)
   ·rw [if_neg e]; exact h.slot t
 | box b =>
   have : (Abs.setAt D (.box b) p y).s = D.s := by
    simp only [Abs.setAt]
    cases getBox D.m b with
    | none => rfl
    | some c => cases p <;> rfl
   rw [this]; exact h.slot t
theorem rowsD_ex (nt : Nat) (D : St) (x : V) (ex : List V) : (rowsD nt D (x :: ex)).Perm (rows x ++ rowsD nt D ex) := by
 unfold rowsD
 simp only [rowsL]
 have h1 : (boxRows D.m ++ (rows x ++ rowsL ex)).Perm (rows x ++ (boxRows D.m ++ rowsL ex)) := by
  rw [← List.append_assoc, ← List.append_assoc]; exact List.Perm.append_right _ List.perm_append_comm
 have h2 : (slotRows nt D.s ++ (rows x ++ (boxRows D.m ++ rowsL ex))).Perm (rows x ++ (slotRows nt D.s ++ (boxRows D.m ++ rowsL ex))) := by
  rw [← List.append_assoc, ← List.append_assoc (rows x)]; exact List.Perm.append_right _ List.perm_append_comm
 exact (List.Perm.append_left _ h1).trans h2
theorem atomsD_ex {nt : Nat} {D : St} {x : V} {ex : List V} {b : At} : b ∈ atomsD nt D (x :: ex) ↔ b ∈ atoms x ∨ b ∈ atomsD nt D ex := by
 unfold atomsD
 simp only [atomsL, List.mem_append]
 constructor
 ·rintro (h | h | h | h)
  ·exact .inr (.inl h)
  ·exact .inr (.inr (.inl h))
  ·exact .inl h
  ·exact .inr (.inr (.inr h))
 ·rintro (h | h | h | h)
  ·exact .inr (.inr (.inl h))
  ·exact .inl h
  ·exact .inr (.inl h)
  ·exact .inr (.inr (.inr h))
theorem take_ok {E : Env} {nt : Nat} {D D1 : St} {ex : List V} {w : World} {a : Act} {r : Root} {p : List Nat} {x : V} (hI : Inv E nt D ex w) (hS : SlotsOk E nt D a)
 (h : take D r p = some (x, D1)) : Inv E nt D1 (x :: ex) w ∧ SlotsOk E nt D1 a ∧ Kept D D1 ∧ D1.nx = D.nx ∧ (∀ k, k ∈ keysD nt D1 (x :: ex) → k ∈ keysD nt D ex) ∧ look D r p = some x ∧ ∃ d k n cs, x = .own d k n cs := by
 unfold take at h
 cases hl : look D r p with
 | none => simp [hl] at h
 | some y =>
   cases y <;> simp [hl] at h
   rename_i d k n cs
   have hr := hS.lt hl
   obtain ⟨rfl, rfl⟩ := h
   obtain ⟨R, R', hR, h1, h2⟩ := rows_setAt (β := E.β) (ex := ex) (y := .dead) hl hr (fun u _ => .inr rfl)
   obtain ⟨m1, m2, m3⟩ := setAt_m D r p .dead
   have hp : (rowsD nt (setAt D r p .dead) (.own d k n cs :: ex)).Perm (rows (.own d k n cs) ++ R') :=
    (rowsD_ex _ _ _ _).trans (List.Perm.append_left _ (by simpa [rows] using h2))
   refine ⟨?_, hS.setAt hr hl rfl (fun u _ => by simp [PR]), (setAt_turned hl).2 rfl, m1, keys_sub (S := []) h1 ((RLeL.refl E.β _).append hR) hp, rfl, _, _, _, _, rfl⟩
   refine hI.weaken [] (rows (.own d k n cs) ++ R) (rows (.own d k n cs) ++ R') h1 ((RLeL.refl _ _).append hR) hp ?_ m3 (by rw [m2]; exact hI.ids) m1
   intro b hb
   rcases atomsD_ex.1 hb with hb | hb
   ·exact atoms_look hr hl hb
   ·rcases atoms_setAt hr hb with hb | hb
    ·simp [atoms] at hb
    ·exact hb
end Go.Abs
end
