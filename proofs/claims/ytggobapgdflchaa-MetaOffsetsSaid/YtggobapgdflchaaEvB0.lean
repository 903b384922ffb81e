import Derived.Calls
import Derived.KernelRfl
import Derived.Below
import Derived.Laws.CopyRow
import Derived.Laws.Cells
import Derived.Laws.Entries
import Derived.Laws.AppendOwn
import Derived.OrdersIn
import Derived.RangeFuncWrites
import Derived.RangeFuncLeaves
import Derived.RangeFuncCalls
import Derived.Laws.StructEq
import Derived.Laws.BytesArg
import Derived.Laws.Slices
namespace Go.Ev

inductive Ty where
  | top | undef | int (k : IntKind) | bool | str | unit
  | pr (a b : Ty) | st (t : Ty) | sl (t : Ty) | tup (t : Ty)
  | fn (f : Nat) (a c : Ty) | box (i off : Nat) | boxv (i : Nat) (offs : List Nat) | ref (t : Ty)
  | yld (i : Nat) | ob

def natsBeq : List Nat → List Nat → Bool
  | [], [] => true
  | a :: l, b :: m => Nat.beq a b && natsBeq l m
  | _, _ => false

theorem natsBeq_eq : ∀ (l m : List Nat), natsBeq l m = true ↔ l = m
  | [], [] => by simp [natsBeq]
  | [], _ :: _ => by simp [natsBeq]
  | _ :: _, [] => by simp [natsBeq]
  | a :: l, b :: m => by simp only [natsBeq, Bool.and_eq_true, natsBeq_eq l m, Nat.beq_eq, List.cons.injEq]

def Ty.beq (a : Ty) : Ty → Bool := match a with
  | .top => fun | .top => true | _ => false
  | .undef => fun | .undef => true | _ => false
  | .bool => fun | .bool => true | _ => false
  | .str => fun | .str => true | _ => false
  | .unit => fun | .unit => true | _ => false
  | .int k => fun | .int k' => decide (k = k') | _ => false
  | .pr a b => fun | .pr c d => a.beq c && b.beq d | _ => false
  | .st a => fun | .st b => a.beq b | _ => false
  | .sl a => fun | .sl b => a.beq b | _ => false
  | .tup a => fun | .tup b => a.beq b | _ => false
  | .ref a => fun | .ref b => a.beq b | _ => false
  | .fn f a c => fun | .fn g b d => Nat.beq f g && (a.beq b && c.beq d) | _ => false
  | .box i o => fun | .box j p => Nat.beq i j && Nat.beq o p | _ => false
  | .boxv i l => fun | .boxv j m => Nat.beq i j && natsBeq l m | _ => false
  | .yld i => fun | .yld j => Nat.beq i j | _ => false
  | .ob => fun | .ob => true | _ => false

theorem Ty.beq_eq : ∀ (a b : Ty), a.beq b = true ↔ a = b := by
  intro a
  induction a with
  | pr a b iha ihb => intro t; cases t <;> simp [Ty.beq, iha, ihb]
  | st a ih | sl a ih | tup a ih | ref a ih => intro t; cases t <;> simp [Ty.beq, ih]
  | fn f a c iha ihc => intro t; cases t <;> simp [Ty.beq, iha, ihc, Nat.beq_eq]
  | box i o => intro t; cases t <;> simp [Ty.beq, Nat.beq_eq]
  | boxv i l => intro t; cases t <;> simp [Ty.beq, Nat.beq_eq, natsBeq_eq]
  | yld i => intro t; cases t <;> simp [Ty.beq, Nat.beq_eq]
  | _ => intro t; cases t <;> simp [Ty.beq]

instance : DecidableEq Ty := fun a b => match h : a.beq b with
  | true => .isTrue ((Ty.beq_eq a b).1 h)
  | false => .isFalse fun e => by rw [(Ty.beq_eq a b).2 e] at h; cases h

def Ty.den : Ty → Type
  | .top => Unit | .undef => Unit | .int _ => Int | .bool => Bool | .str => ByteArray | .unit => Unit
  | .pr a b => a.den × b.den | .st t => t.den | .sl t => List t.den | .tup t => t.den
  | .fn _ a c => a.den × c.den | .box _ _ => Unit | .boxv _ _ => Nat | .ref t => t.den | .yld _ => Unit | .ob => Nat

structure AV where
  ty : Ty
  x : ty.den

def AV.top : AV := ⟨.top, ()⟩
def AV.undef : AV := ⟨.undef, ()⟩

def castTo (t : Ty) (v : AV) : Option t.den := if h : v.ty = t then some (cast (congrArg Ty.den h) v.x) else none

def idx {α : Type} (l : List α) (i : Int) : Option α := if 0 ≤ i then l[i.toNat]? else none

def Ty.csize : Ty → Nat
  | .unit => 0
  | .pr a b => a.csize + b.csize
  | .st t => t.csize
  | _ => 1

def Ty.isSt : Ty → Bool
  | .st _ => true
  | _ => false

/-- one cell, and no aggregate -/
def Ty.leaf : Ty → Bool
  | .unit | .pr _ _ | .st _ | .tup _ | .undef | .top | .ob => false
  | _ => true

/-- its cells are single cells that are known -/
def Ty.cellok : Ty → Bool
  | .top | .undef | .tup _ | .ob => false
  | .pr a b => a.cellok && b.cellok
  | .st t => t.cellok
  | _ => true

def Ty.isTop : Ty → Bool
  | .top => true
  | _ => false

def Ty.isSl : Ty → Bool
  | .sl _ => true
  | _ => false

def Ty.zero : (t : Ty) → Option t.den
  | .int _ => some (0 : Int)
  | .bool => some false
  | .str => some ByteArray.empty
  | .unit => some ()
  | .pr a b => match a.zero, b.zero with
    | some x, some y => some (x, y)
    | _, _ => none
  | .st t => t.zero
  | .sl t => some ([] : List t.den)
  | _ => none

def proj : (t : Ty) → t.den → Nat → Option AV
  | .pr a _, x, 0 => some ⟨a, x.1⟩
  | .pr _ b, x, n + 1 => proj b x.2 n
  | t, x, 0 => some ⟨t, x⟩
  | _, _, _ => none

def fieldOff : Ty → Nat → Nat
  | .pr a b, n + 1 => a.csize + fieldOff b n
  | _, _ => 0

def fieldTy : Ty → Nat → Option Ty
  | .pr a _, 0 => some a
  | .pr _ b, n + 1 => fieldTy b n
  | t, 0 => some t
  | _, _ => none

/-- what stands at a cell of a value -/
def getOff (want : Ty) : (t : Ty) → t.den → Nat → Option AV
  | .st t, x, off => if off = 0 ∧ want = .st t then some ⟨.st t, x⟩ else getOff want t x off
  | .pr a b, x, off => if off < a.csize then getOff want a x.1 off else getOff want b x.2 (off - a.csize)
  | t, x, off => if off = 0 ∧ t.leaf = true ∧ (want = .top ∨ want = t) then some ⟨t, x⟩ else none

def setOff (v : AV) : (t : Ty) → t.den → Nat → Option t.den
  | .st t, x, off => if off = 0 ∧ v.ty = .st t then castTo (.st t) v else setOff v t x off
  | .pr a b, x, off =>
    if off < a.csize then (setOff v a x.1 off).map fun y => (y, x.2) else (setOff v b x.2 (off - a.csize)).map fun y => (x.1, y)
  | t, _, off => if off = 0 ∧ t.leaf = true then castTo t v else none

def setBox (v : AV) (c : AV) (off : Nat) : Option AV :=
  if off = 0 ∧ (c.ty.leaf || c.ty.isTop) = true ∧ v.ty.leaf = true then some v else (setOff v c.ty c.x off).map fun y => ⟨c.ty, y⟩

structure St where
  tmps : List AV
  boxes : List AV
  cp : List (Option Nat)

def nth {α : Type} (d : α) : List α → Nat → α
  | [], _ => d
  | x :: _, 0 => x
  | _ :: l, n + 1 => nth d l n

def setN {α : Type} : List α → Nat → α → List α
  | [], _, _ => []
  | _ :: l, 0, v => v :: l
  | x :: l, n + 1, v => x :: setN l n v

def St.get (s : St) (i : Nat) : AV := nth .top s.tmps i
def St.cap (s : St) (i : Nat) : Option Nat := nth none s.cp i

def isP (p : Nat) : Option Nat → Bool
  | some q => Nat.beq q p
  | none => false

def clearP (p : Nat) (l : List (Option Nat)) : List (Option Nat) := l.map fun o => bif isP p o then none else o

/-- what an operation does to who may append in place -/
inductive Cap where
  | no                       -- none
  | dup (p : Option Nat)   -- as another one has it
  | fresh                    -- anew
  | taken (p : Nat)        -- taken from p, and had anew

def St.put (s : St) (d : Option Nat) (v : AV) (c : Cap) : St :=
  match d with
  | none => s
  | some d =>
    { s with
      tmps := setN s.tmps d v
      cp := match (bif v.ty.isSl then c else .no) with
        | .no => setN s.cp d none
        | .dup p => setN s.cp d p
        | .fresh => setN (clearP d s.cp) d (some d)
        | .taken p => setN (clearP d (clearP p s.cp)) d (some d) }

def look {α : Type} : List (Nat × α) → Nat → Option α
  | [], _ => none
  | (a, b) :: l, n => bif Nat.beq a n then some b else look l n

/-- cells of a constant -/
def decI (k : IntKind) : List Value → Option (Int × List Value)
  | .int k' n :: r => if k = k' then some (n, r) else none
  | _ => none
def decB : List Value → Option (Bool × List Value)
  | .bool b :: r => some (b, r)
  | _ => none
def decS : List Value → Option (ByteArray × List Value)
  | .string s :: r => some (s, r)
  | _ => none
def decN : List Value → Option (List Value)
  | .slice none 0 0 :: r => some r
  | _ => none

def decC : (t : Ty) → List Value → Option (t.den × List Value)
  | .int k, l => decI k l
  | .bool, l => decB l
  | .str, l => decS l
  | .sl t, l => (decN l).map fun r => (([] : List t.den), r)
  | .unit, r => some ((), r)
  | .pr a b, l => match decC a l with
    | some (x, r) => match decC b r with
      | some (y, r') => some ((x, y), r')
      | none => none
    | none => none
  | .st t, l => decC t l
  | _, _ => none

def constA (T : Option Ty) (cs : List Value) : Option AV := match T with
  | some (.st t) => match decC t cs with
    | some (x, []) => some ⟨.st t, x⟩
    | _ => none
  | _ => none

def constN (T : Option Ty) : Option AV := match T with
  | some (.sl t) => some ⟨.sl t, ([] : List t.den)⟩
  | _ => none

def constV (T : Option Ty) : Value → Option AV
  | .int k n => some ⟨.int k, n⟩
  | .bool b => some ⟨.bool, b⟩
  | .string b => some ⟨.str, b⟩
  | .slice none 0 0 => constN T
  | .agg cs => constA T cs.toList
  | .nilFunc => some .top
  | _ => none

def opd (s : St) (T : Option Ty) : Operand → Option AV
  | .tmp t => some (s.get t)
  | .const v => constV T v
  | .func f => some ⟨.fn f .unit .unit, ((), ())⟩
  | .global _ => none

def opdCap (s : St) : Operand → Cap
  | .tmp t => .dup (s.cap t)
  | .const _ => .fresh
  | _ => .no

def asB : Option AV → Option Bool
  | some ⟨.bool, q⟩ => some q
  | _ => none

def asN : Option AV → Option (IntKind × Int)
  | some ⟨.int k, n⟩ => some (k, n)
  | _ => none

/-- a chain of values -/
def chain : List AV → AV
  | [] => ⟨.unit, ()⟩
  | [v] => v
  | v :: l => ⟨.pr v.ty (chain l).ty, (v.x, (chain l).x)⟩

def unchain : (t : Ty) → t.den → List AV
  | .unit, _ => []
  | .pr a b, x => ⟨a, x.1⟩ :: unchain b x.2
  | t, x => [⟨t, x⟩]

def bitsOf (op : BinOp) (k : IntKind) (x y : Int) : Option Int :=
  match op with
  | .and => some (k.wrap (BitVec.ofInt k.bits x &&& BitVec.ofInt k.bits y).toNat)
  | .or => some (k.wrap (BitVec.ofInt k.bits x ||| BitVec.ofInt k.bits y).toNat)
  | .xor => some (k.wrap (BitVec.ofInt k.bits x ^^^ BitVec.ofInt k.bits y).toNat)
  | _ => none

def eqI (x y : Int) : Bool := decide (x = y)
def eqB (x y : Bool) : Bool := x == y
def eqS (x y : ByteArray) : Bool := x.toList == y.toList

/-- two values of a type whose cells are numbers, bools, strings: the same? -/
def beqD : (t : Ty) → t.den → t.den → Option Bool
  | .int _, x, y => some (eqI x y)
  | .bool, x, y => some (eqB x y)
  | .str, x, y => some (eqS x y)
  | .pr a b, x, y => match beqD a x.1 y.1, beqD b x.2 y.2 with
    | some p, some q => some (p && q)
    | _, _ => none
  | .st t, x, y => beqD t x y
  | _, _, _ => none

/-- a branch that hangs on what comes in -/
def br {α : Type} (c : Bool) (a b : α) : α := bif c then a else b

section
variable {R : Type}

def AV.int (k : IntKind) (n : Int) : AV := ⟨.int k, n⟩
def AV.bool (b : Bool) : AV := ⟨.bool, b⟩
def AV.str (b : ByteArray) : AV := ⟨.str, b⟩

def shiftK (op : BinOp) (k : IntKind) (x y : Int) (K : AV → Option R) : Option R :=
  match op with
  | .shl => br (decide (y < 0)) none (K (.int k (k.wrap (x * 2 ^ (min y.toNat k.bits)))))
  | .shr => br (decide (y < 0)) none (K (.int k (x.fdiv (2 ^ (min y.toNat k.bits)))))
  | _ => none

def intK (op : BinOp) (k : IntKind) (x y : Int) (K : AV → Option R) : Option R :=
  match op with
  | .add => K (.int k (k.wrap (x + y)))
  | .sub => K (.int k (k.wrap (x - y)))
  | .mul => K (.int k (k.wrap (x * y)))
  | .quo => br (eqI y 0) none (K (.int k (k.wrap (x.tdiv y))))
  | .rem => br (eqI y 0) none (K (.int k (x.tmod y)))
  | .eql => K (.bool (eqI x y))
  | .neq => K (.bool (!eqI x y))
  | .lss => K (.bool (decide (x < y)))
  | .leq => K (.bool (decide (x ≤ y)))
  | .gtr => K (.bool (decide (x > y)))
  | .geq => K (.bool (decide (x ≥ y)))
  | .and => K (.int k (k.wrap (BitVec.ofInt k.bits x &&& BitVec.ofInt k.bits y).toNat))
  | .or => K (.int k (k.wrap (BitVec.ofInt k.bits x ||| BitVec.ofInt k.bits y).toNat))
  | .xor => K (.int k (k.wrap (BitVec.ofInt k.bits x ^^^ BitVec.ofInt k.bits y).toNat))
  | _ => none

def eqK (op : BinOp) (b : Bool) (K : AV → Option R) : Option R :=
  match op with
  | .eql => K (.bool b)
  | .neq => K (.bool (!b))
  | _ => none

def isShift : BinOp → Bool
  | .shl | .shr => true
  | _ => false

def binK (op : BinOp) (a b : AV) (K : AV → Option R) : Option R :=
  match a, b with
  | ⟨.int k, x⟩, ⟨.int k', y⟩ => if isShift op = true then shiftK op k x y K else if k = k' then intK op k x y K else none
  | ⟨.bool, x⟩, ⟨.bool, y⟩ => eqK op (eqB x y) K
  | ⟨.str, x⟩, ⟨.str, y⟩ => eqK op (eqS x y) K
  | ⟨.st t, x⟩, w =>
    match castTo (.st t) w with
    | some y => match beqD t x y with
      | some q => eqK op q K
      | none => none
    | none => none
  | _, _ => none

def isTrueT : Ty → Bool
  | .bool => true
  | _ => false

/-- the bytes of a row of numbers -/
def bytesOf (l : List Int) : ByteArray := ⟨(l.map fun n => UInt8.ofNat n.toNat).toArray⟩

/-- the type table, the contracts, the functions, rounds -/
structure Ctr where
  f : Nat
  a : Ty
  r : Ty
  G : a.den → Option r.den

structure Env where
  tt : List (Nat × Ty)
  ctr : List Ctr
  fns : List (Nat × Func)
  ann : List (Nat × List (Nat × List Nat))
  lim : List (Nat × Nat)       -- slice types: bytes of an element
  strs : List Nat              -- struct types
  arrs : List Nat              -- array types
  eqs : List Nat               -- struct and array types whose values are compared
  k : Nat

def Env.ty (E : Env) (T : Nat) : Option Ty := look E.tt T

/-- a pick of a row by a number -/
def sel {α : Type} (d : α) (l : List α) (i : Nat) : α := nth d l i

def allSome {α β : Type} (f : α → Option β) : List α → Option (List β)
  | [] => some []
  | a :: l => match f a, allSome f l with
    | some b, some m => some (b :: m)
    | _, _ => none

/-- the values that stand at some places of a value, all of one type -/
def getOffs (want : Ty) (c : AV) (offs : List Nat) (t : Ty) : Option (List t.den) :=
  allSome (fun off => match getOff want c.ty c.x off with
    | some v => castTo t v
    | none => none) offs

/-- what a load through a type reads: the type itself, or (a pointer, a function) any one cell -/
def loadK (E : Env) (T : Nat) (s : St) (p : AV) (K : AV → Cap → Option R) : Option R :=
  match E.ty T with
  | none => none
  | some want =>
    match p with
    | ⟨.ref t, x⟩ => bif (decide (want = t)) || ((decide (want = .top)) && t.leaf) then K ⟨t, x⟩ .no else none
    | ⟨.box i off, _⟩ =>
      let c := nth .top s.boxes i
      match getOff want c.ty c.x off with
      | some ⟨t, x⟩ => K ⟨t, x⟩ .no
      | none => none
    | ⟨.boxv i offs, j⟩ =>
      let c := nth .top s.boxes i
      match offs with
      | [] => none
      | o :: _ => match getOff want c.ty c.x o with
        | some ⟨t, x⟩ => match getOffs want c offs t with
          | some l => K ⟨t, sel x l j⟩ .no
          | none => none
        | none => none
    | _ => none

def setOffs (v : AV) (j : Nat) : (c : AV) → (offs : List Nat) → (n : Nat) → Option AV
  | c, [], _ => some c
  | c, o :: l, n => match getOff v.ty c.ty c.x o with
    | some u => match castTo v.ty u with
      | some y => match setOff ⟨v.ty, bif Nat.beq j n then v.x else y⟩ c.ty c.x o with
        | some z => setOffs v j ⟨c.ty, z⟩ l (n + 1)
        | none => none
      | none => none
    | none => none

def storeK (E : Env) (T : Nat) (s : St) (p : AV) (v : AV) (K : St → Option R) : Option R :=
  match E.ty T with
  | none => none
  | some want =>
    bif !((decide (want = v.ty) || (decide (want = .top) && v.ty.leaf)) && v.ty.cellok) then none else
    match p with
    | ⟨.box i off, _⟩ =>
      match setBox v (nth .top s.boxes i) off with
      | some ⟨t, x⟩ => K { s with boxes := setN s.boxes i ⟨t, x⟩ }
      | none => none
    | ⟨.boxv i offs, j⟩ =>
      match setOffs v j (nth .top s.boxes i) offs 0 with
      | some ⟨t, x⟩ => K { s with boxes := setN s.boxes i ⟨t, x⟩ }
      | none => none
    | _ => none
end
end Go.Ev

namespace Go.Ev

def lenI {α : Type} (l : List α) : Int := (l.length : Int)
def lenS (b : ByteArray) : Int := (b.size : Int)
def app {α : Type} (l m : List α) : List α := l ++ m
def fits {α β : Type} (l : List α) (m : List β) (n : Nat) : Bool := decide ((l.length + m.length) * n ≤ 140737488355328)

def chainLen : Ty → Nat
  | .pr _ b => chainLen b + 1
  | .unit => 0
  | _ => 1

/-- the first type of a chain -/
def chainHd : Ty → Ty
  | .pr a _ => a
  | t => t

/-- a chain of one type's values as a list -/
def chainList (e : Ty) : (t : Ty) → t.den → Option (List e.den)
  | .pr a b, x => match castTo e ⟨a, x.1⟩, chainList e b x.2 with
    | some y, some l => some (y :: l)
    | _, _ => none
  | .unit, _ => some []
  | t, x => match castTo e ⟨t, x⟩ with
    | some y => some [y]
    | none => none

def setField : (t : Ty) → t.den → Nat → AV → Option t.den
  | .pr a _, x, 0, v => match castTo a v with
    | some y => some (y, x.2)
    | none => none
  | .pr _ b, x, n + 1, v => match setField b x.2 n v with
    | some y => some (x.1, y)
    | none => none
  | .unit, _, _, _ => none
  | t, _, 0, v => castTo t v
  | _, _, _, _ => none

def setParts (s : St) (t : Ty) : t.den → List (Nat × Operand) → Option t.den
  | x, [] => some x
  | x, (i, o) :: l => bif !(Nat.blt i (chainLen t)) then none else match opd s (fieldTy t i) o with
    | some v => bif v.ty.isTop then none else match setField t x i v with
      | some y => setParts s t y l
      | none => none
    | none => none

def setElems (s : St) (t : Ty) : List t.den → List (Nat × Operand) → Option (List t.den)
  | x, [] => some x
  | x, (i, o) :: l => match opd s (some t) o with
    | some v => match castTo t v with
      | some y => bif Nat.blt i x.length && !t.isTop then setElems s t (setN x i y) l else none
      | none => none
    | none => none

def opds (s : St) (E : Env) : List Operand → List Nat → Option (List AV)
  | [], _ => some []
  | o :: l, T :: Ts => match opd s (E.ty T) o, opds s E l Ts with
    | some v, some vs => some (v :: vs)
    | _, _ => none
  | o :: l, [] => match opd s none o, opds s E l [] with
    | some v, some vs => some (v :: vs)
    | _, _ => none

def isConstInt : Operand → Option Int
  | .const (.int _ n) => some n
  | _ => none

def boxFree (n : Nat) : Ty → Bool
  | .pr a b => boxFree n a && boxFree n b
  | .st t | .sl t | .tup t | .ref t => boxFree n t
  | .fn _ a c => boxFree n a && boxFree n c
  | .box i _ | .boxv i _ | .yld i => Nat.blt i n
  | _ => true

section
variable {R : Type}

abbrev CallSem (R : Type) := Nat → List AV → List AV → (AV → List AV → Option R) → Option R

def ctrK (f : Nat) (a : AV) : List Ctr → (AV → Option R) → Option R → Option R
  | [], _, no => no
  | c :: l, K, no => bif Nat.beq c.f f && boxFree 0 c.a && boxFree 0 c.r then match castTo c.a a with
      | some x => (c.G x).bind fun y => K ⟨c.r, y⟩
      | none => ctrK f a l K no
    else ctrK f a l K no

/-- a number that stands for a loop's yield -/
def isY (f : Nat) : Bool := Nat.ble 1000000 f

def unY (f : Nat) : Option Nat := bif isY f then some (f - 1000000) else none

def callK (E : Env) (C : CallSem R) (f : Nat) (args : List AV) (s : St) (K : AV → Cap → St → Option R) : Option R :=
  ctrK f (chain args) E.ctr (fun v => K v .no s) (bif isY f then none else C f args s.boxes fun v bs => K v .no { s with boxes := bs })

def capP : Cap → Option Cap
  | .dup (some p) => some (.taken p)
  | .fresh => some .fresh
  | _ => none

def minI (x y : Int) : Int := if y < x then y else x
def maxI (x y : Int) : Int := if y > x then y else x

def deadBox (s : St) (i : Nat) : St := { s with boxes := setN s.boxes i .undef }

def sliceK (l h m n : Int) (K : Option R) : Option R :=
  br (decide (0 ≤ l) && decide (l ≤ h) && decide (h ≤ m) && decide (m ≤ n)) K none

def intOf (v : Option AV) : Option Int := match asN v with
  | some (_, n) => some n
  | none => none

def optI (s : St) (d : Int) : Option Operand → Option Int
  | none => some d
  | some o => intOf (opd s none o)

def cut {α : Type} (x : List α) (l h : Int) : List α := (x.take h.toNat).drop l.toNat

/-- what of this type stands at a cell of a value -/
def offSt (t : Ty) (c : AV) (off : Nat) : Option t.den := match getOff (.st t) c.ty c.x off with
  | some v => castTo (.st t) v
  | none => none

/-- an array behind a pointer as a slice: the box that it lies in is fixed for good -/
def slBoxK (E : Env) (T : Nat) (s : St) (i off : Nat) (lo hi mx : Option Operand) (K : AV → Cap → St → Option R) : Option R :=
  match E.ty T, lo, hi, mx with
  | some (.st t), none, none, none =>
    match offSt t (nth .top s.boxes i) off with
    | some y => bif !E.arrs.contains T then none else match chainList (chainHd t) t y with
      | some l => K ⟨.sl (chainHd t), l⟩ .no (deadBox s i)
      | none => none
    | none => none
  | _, _, _, _ => none

/-- a slice expression -/
def slK (E : Env) (T : Nat) (s : St) (x : AV) (lo hi mx : Option Operand) (K : AV → Cap → St → Option R) : Option R :=
  match x with
  | ⟨.sl t, x⟩ =>
    bif decide (E.ty T = some (.sl t)) then
    match optI s 0 lo, optI s (lenI x) hi with
    | some l, some h =>
      match mx with
      | none => sliceK l h h (lenI x) (K ⟨.sl t, cut x l h⟩ .no s)
      | some m => bif !hi.isSome then none else match intOf (opd s none m) with
        | some m => sliceK l h m (lenI x) (br (eqI h m) (K ⟨.sl t, cut x l h⟩ .fresh s) none)
        | none => none
    | _, _ => none
    else none
  | ⟨.str, b⟩ =>
    bif decide (E.ty T = some .str) then
    match mx, optI s 0 lo, optI s (lenS b) hi with
    | none, some l, some h => sliceK l h h (lenS b) (K ⟨.str, ByteArray.extract b l.toNat h.toNat⟩ .no s)
    | _, _, _ => none
    else none
  | ⟨.box i off, _⟩ => slBoxK E T s i off lo hi mx K
  | _ => none

def range0 : Nat → List Nat
  | 0 => []
  | n + 1 => range0 n ++ [n]

def inB (n : Int) (len : Nat) : Bool := decide (0 ≤ n) && decide (n < (len : Int))

def mulAdd (j l : Nat) (n : Int) : Nat := j * l + n.toNat

def idxAddrK (E : Env) (T : Nat) (x : AV) (io : Operand) (i : Option AV) (K : AV → Option R) : Option R :=
  match asN i with
  | some (_, n) =>
    match x with
    | ⟨.sl t, l⟩ => bif decide (E.ty T = some (.sl t)) && Nat.blt 0 t.csize then (idx l n).bind fun y => K ⟨.ref t, y⟩ else none
    | ⟨.box b off, _⟩ =>
      bif !E.arrs.contains T then none else
      match E.ty T with
      | some (.st t) =>
        br (inB n (chainLen t)) (
          match isConstInt io with
          | some m => K ⟨.box b (off + m.toNat * (chainHd t).csize), ()⟩
          | none => K ⟨.boxv b ((range0 (chainLen t)).map fun m => off + m * (chainHd t).csize), Int.toNat n⟩)
          none
      | _ => none
    | ⟨.boxv b offs, j⟩ =>
      bif !E.arrs.contains T then none else
      match E.ty T with
      | some (.st t) =>
        br (inB n (chainLen t))
          (K ⟨.boxv b (offs.flatMap fun off => (range0 (chainLen t)).map fun m => off + m * (chainHd t).csize), mulAdd j (chainLen t) n⟩)
          none
      | _ => none
    | ⟨.ref (.st t), y⟩ =>
      bif !E.arrs.contains T then none else
      match E.ty T with
      | some (.st t') =>
        bif decide (t' = t) && Nat.blt 0 (chainHd t).csize then br (inB n (chainLen t)) (
          match chainList (chainHd t) t y with
          | some (d :: l) => K ⟨.ref (chainHd t), sel d (d :: l) (Int.toNat n)⟩
          | _ => none) none
        else none
      | _ => none
    | _ => none
  | _ => none

def idxK (E : Env) (T : Nat) (x : AV) (i : Option AV) (K : AV → Option R) : Option R :=
  match asN i with
  | some (_, n) =>
    match x with
    | ⟨.st t, y⟩ =>
      bif !(E.arrs.contains T && decide (E.ty T = some (.st t))) then none else
      br (inB n (chainLen t)) (
        match chainList (chainHd t) t y with
        | some (d :: l) => K ⟨chainHd t, sel d (d :: l) (Int.toNat n)⟩
        | _ => none) none
    | _ => none
  | _ => none

def fieldAddrK (E : Env) (S : Nat) (x : AV) (f : Nat) (K : AV → Option R) : Option R :=
  match E.ty S with
  | some (.st t) =>
    bif !(E.strs.contains S && Nat.blt f (chainLen t)) then none else
    match x with
    | ⟨.box i off, _⟩ => K ⟨.box i (off + fieldOff t f), ()⟩
    | ⟨.boxv i offs, j⟩ => K ⟨.boxv i (offs.map fun o => o + fieldOff t f), j⟩
    | ⟨.ref (.st t'), y⟩ => bif decide (t' = t) then match proj t' y f with
        | some ⟨u, z⟩ => K ⟨.ref u, z⟩
        | none => none
      else none
    | _ => none
  | _ => none

def convK (a b : Option Ty) (v : AV) (K : AV → Option R) : Option R :=
  match b, v with
  | some (.int k), ⟨.int _, n⟩ => K ⟨.int k, k.wrap n⟩
  | some .str, ⟨.str, x⟩ => K ⟨.str, x⟩
  | some .str, ⟨.sl (.int .u8), l⟩ => bif decide (a = some (.sl (.int .u8))) then K ⟨.str, bytesOf l⟩ else none
  | _, _ => none

def builtinK (E : Env) (b : Builtin) (Ts : List Nat) (args : List AV) (caps : List Cap) (K : AV → Cap → Option R) : Option R :=
  match b, args with
  | .len, [⟨.sl t, l⟩] => bif decide (Ts.map E.ty = [some (.sl t)]) then K ⟨.int .i64, lenI l⟩ .no else none
  | .len, [⟨.str, b⟩] => bif decide (Ts.map E.ty = [some .str]) then K ⟨.int .i64, lenS b⟩ .no else none
  | .min, [⟨.int k, x⟩, ⟨.int k', y⟩] => if k = k' then K ⟨.int k, minI x y⟩ .no else none
  | .max, [⟨.int k, x⟩, ⟨.int k', y⟩] => if k = k' then K ⟨.int k, maxI x y⟩ .no else none
  | .append, [⟨.sl t, l⟩, ⟨.sl t', m⟩] =>
    match Ts, caps with
    | [T, T2], c :: _ =>
      match look E.lim T, capP c, castTo (.sl t) ⟨.sl t', m⟩ with
      | some n, some c, some m' => bif decide (E.ty T = some (.sl t)) && t.cellok && Nat.beq T T2 && Nat.blt 0 t.csize && (t.zero).isSome then br (fits l m n) (K ⟨.sl t, app l m'⟩ c) none else none
      | _, _, _ => none
    | _, _ => none
  | _, _ => none

def pushBox (s : St) (v : AV) : St := { s with boxes := s.boxes ++ [v] }

def isFn : Ty → Bool
  | .fn _ _ _ | .box _ _ | .boxv _ _ | .ref _ => true
  | _ => false

/-- may values of this type be compared through this type's number? -/
def eqOK (E : Env) (T : Nat) : Ty → Bool
  | .int _ => true
  | .str => true
  | .bool => decide (E.ty T = some .bool)
  | .st t => decide (E.ty T = some (.st t)) && E.eqs.contains T
  | _ => false

def negI (k : IntKind) (n : Int) : Int := k.wrap (0 - n)

def Ty.single : Ty → Bool
  | .pr _ _ | .unit => false
  | _ => true

def opK (E : Env) (C : CallSem R) (s : St) (o : Oper) (K : AV → Cap → St → Option R) : Option R :=
  match o.op with
  | .move x => match opd s (E.ty o.type) x with
    | some ⟨t, y⟩ => K ⟨t, y⟩ (opdCap s x) s
    | none => none
  | .assign x => match opd s (E.ty o.type) x with
    | some ⟨t, y⟩ => K ⟨t, y⟩ (opdCap s x) s
    | none => none
  | .pick c a b => match asB (opd s none c), opd s (E.ty o.type) a, opd s (E.ty o.type) b with
    | some q, some va, some vb =>
      match castTo va.ty vb with
      | some y => K ⟨va.ty, br q va.x y⟩ .no s
      | none => br q (K va .no s) (K vb .no s)
    | _, _, _ => none
  | .alloc T => match E.ty T with
    | some .top => K ⟨.box s.boxes.length 0, ()⟩ .no (pushBox s .top)
    | some t => match t.zero with
      | some z => K ⟨.box s.boxes.length 0, ()⟩ .no (pushBox s ⟨t, z⟩)
      | none => none
    | none => none
  | .box T x => match E.ty T, opd s (E.ty T) x with
    | some t, some ⟨u, y⟩ => bif (decide (t = u) && !u.isTop) || (decide (t = .top) && u.leaf) then K ⟨.box s.boxes.length 0, ()⟩ .no (pushBox s ⟨u, y⟩) else none
    | _, _ => none
  | .build T parts => match E.ty T with
    | some (.st t) => bif !(E.strs.contains T) then none else match t.zero with
      | some z => match setParts s t z parts.toList with
        | some y => K ⟨.st t, y⟩ .no s
        | none => none
      | none => none
    | _ => none
  | .buildSlice T len parts => match E.ty T with
    | some (.sl t) => match t.zero with
      | some z => match setElems s t (List.replicate len z) parts.toList with
        | some y => bif Nat.ble (len * t.csize) 1000 then K ⟨.sl t, y⟩ .fresh s else none
        | none => none
      | none => none
    | _ => none
  | .load T a => match opd s none a with
    | some p => loadK E T s p fun v c => K v c s
    | none => none
  | .store T a x => match opd s none a, opd s (E.ty T) x with
    | some p, some v => storeK E T s p v fun s' => K .undef .no s'
    | _, _ => none
  | .nilCheck x => match opd s none x with
    | some ⟨t, y⟩ => bif isFn t then K ⟨t, y⟩ .no s else none
    | none => none
  | .binOp op xT x y yT => match opd s (E.ty xT) x, opd s (E.ty yT) y with
    | some a, some b => bif eqOK E xT a.ty then binK op a b fun v => K v .no s else none
    | _, _ => none
  | .unOp .not _ x => match asB (opd s none x) with
    | some b => K (.bool !b) .no s
    | none => none
  | .unOp .neg _ x => match asN (opd s none x) with
    | some (k, n) => K (.int k (negI k n)) .no s
    | none => none
  | .convert src dst x => match E.ty src, opd s (E.ty src) x with
    | some ts, some v => convK (some ts) (E.ty dst) v fun v => K v .no s
    | _, _ => none
  | .makeFunc (.func f) first captured => match opds s E first.toList [], opds s E captured.toList [] with
    | some a, some c => K ⟨.fn f (chain a).ty (chain c).ty, ((chain a).x, (chain c).x)⟩ .no s
    | _, _ => none
  | .slice T x lo hi mx => match opd s (E.ty T) x with
    | some v => slK E T s v lo hi mx K
    | none => none
  | .fieldAddr S x f => match opd s none x with
    | some v => fieldAddrK E S v f fun v => K v .no s
    | none => none
  | .field T x f => match opd s (E.ty T) x with
    | some ⟨.st t, y⟩ => bif !(E.strs.contains T && decide (E.ty T = some (.st t)) && Nat.blt f (chainLen t)) then none else match proj t y f with
      | some ⟨u, z⟩ => K ⟨u, z⟩ .no s
      | none => none
    | _ => none
  | .indexAddr T x i => match opd s (E.ty T) x with
    | some v => idxAddrK E T v i (opd s none i) fun v => K v .no s
    | none => none
  | .index T x i => match opd s (E.ty T) x with
    | some v => idxK E T v (opd s none i) fun v => K v .no s
    | none => none
  | .extract x i => match opd s none x with
    | some ⟨.tup t, y⟩ => match proj t y i with
      | some ⟨u, z⟩ => bif u.single then K ⟨u, z⟩ .no s else none
      | none => none
    | _ => none
  | .call c => match opds s E c.args.toList c.argTypes.toList with
    | some args => match c.callee with
      | .builtin b => bif !o.dst.isSome then none else builtinK E b c.argTypes.toList args (c.args.toList.map (opdCap s)) fun v c => K v c s
      | .value g => match opd s none g with
        | some ⟨.fn f a c', x⟩ => bif (unchain a x.1).all (fun v => v.ty.single) && (unchain c' x.2).all (fun v => v.ty.single) then callK E C f (unchain a x.1 ++ args ++ unchain c' x.2) s K else none
        | some ⟨.yld i, _⟩ => C (1000000 + i) args s.boxes fun v bs => K v .no { s with boxes := bs }
        | _ => none
      | _ => none
    | none => none
  | _ => none

/-- lists written out -/
def forceA {β : Type} : List AV → (List AV → β) → β
  | [], k => k []
  | ⟨t, x⟩ :: l, k => forceA l fun l' => k (⟨t, x⟩ :: l')

def forceP {β : Type} : List (Option Nat) → (List (Option Nat) → β) → β
  | [], k => k []
  | none :: l, k => forceP l fun l' => k (none :: l')
  | some i :: l, k => forceP l fun l' => k (some i :: l')

def forceSt (s : St) (K : St → Option R) : Option R :=
  forceA s.tmps fun t => forceA s.boxes fun b => forceP s.cp fun p => K ⟨t, b, p⟩

def putK (s : St) (d : Option Nat) (v : AV) (c : Cap) (K : St → Option R) : Option R := forceSt (s.put d v c) K

def dstAt (ops : Array Oper) (j : Nat) : Option Nat := match ops.toList[j]? with
  | some o => o.dst
  | none => none

def evOper (E : Env) (C : CallSem R) (ops : Array Oper) (o : Oper) (s : St) (K : St → Option R) : Option R :=
  match o.guard with
  | none => opK E C s o fun v c s' => putK s' o.dst v c K
  | some (j, want) =>
    match dstAt ops j with
    | none => none
    | some d =>
      match s.get d with
      | ⟨.bool, b⟩ =>
        let st := { s with tmps := setN s.tmps d (.bool true) }
        let sf := { s with tmps := setN s.tmps d (.bool false) }
        bif want then
          br b (opK E C st o fun v c s' => putK s' o.dst v c K) (putK sf o.dst .undef .no K)
        else
          br b (putK st o.dst .undef .no K) (opK E C sf o fun v c s' => putK s' o.dst v c K)
      | ⟨.undef, _⟩ => putK s o.dst .undef .no K
      | _ => none

def noCall : CallSem R := fun _ _ _ _ => none

/-- two ways to the same end -/
noncomputable def both (a b : Option R) : Option R := open Classical in if a = b then a else none

def isNilC : Operand → Bool
  | .const (.slice none 0 0) => true
  | _ => false

/-- a slice compared with nil: (is it '==', how long is it) -/
def nilOp (E : Env) (s : St) (o : Oper) : Option (Bool × Int) :=
  match o.guard, o.op with
  | none, .binOp op xT x y _ => bif isNilC y then match E.ty xT with
      | some (.sl t) => match opd s (some (.sl t)) x with
        | some v => match castTo (.sl t) v with
          | some l => match op with
            | .eql => some (true, lenI l)
            | .neq => some (false, lenI l)
            | _ => none
          | none => none
        | none => none
      | _ => none
    else none
  | _, _ => none

noncomputable def nilK (eq : Bool) (len : Int) (K : Bool → Option R) : Option R := br (decide (0 < len)) (K (!eq)) (both (K eq) (K (!eq)))

/-- boxes that are never written, as what is fixed: a mark among the notes asks for it -/
def isImm (E : Env) : Bool := match look E.ann 900000 with
  | some _ => true
  | none => false

def immOp (E : Env) (s : St) (o : Oper) : Option AV :=
  match o.guard, o.op with
  | none, .box T x => bif isImm E then match E.ty T, opd s (E.ty T) x with
      | some t, some ⟨u, y⟩ => bif decide (t = u) && !u.isTop then some ⟨.ref u, y⟩ else none
      | _, _ => none
    else none
  | _, _ => none

noncomputable def evOps (E : Env) (C : CallSem R) (ops : Array Oper) : List Oper → St → (St → Option R) → Option R
  | [], s, K => K s
  | o :: l, s, K => match nilOp E s o with
    | some (eq, len) => nilK eq len fun b => putK s o.dst (.bool b) .no fun s' => evOps E C ops l s' K
    | none => match immOp E s o with
      | some ⟨t, x⟩ => putK s o.dst ⟨t, x⟩ .no fun s' => evOps E C ops l s' K
      | none => evOper E C ops o s fun s' => evOps E C ops l s' K

inductive Ex where
  | normal
  | exit (id : Nat)
  | ret

/-- what of memory an operation meets -/
inductive Fp where
  | no
  | rd (i : Nat)
  | wr (i : Nat)
  | al (n : Nat)

def fpPtr (rd : Bool) : Option AV → Fp
  | some ⟨.box i _, _⟩ => bif rd then .rd i else .wr i
  | some ⟨.boxv i _, _⟩ => bif rd then .rd i else .wr i
  | _ => .no

def fpOf (E : Env) (s : St) (o : Oper) : Fp :=
  match o.op with
  | .load _ a => fpPtr true (opd s none a)
  | .store _ a _ => fpPtr false (opd s none a)
  | .alloc _ => .al s.boxes.length
  | .box _ _ => .al s.boxes.length
  | .slice T x _ _ _ => fpPtr false (opd s (E.ty T) x)
  | _ => .no

def compat : Fp → Fp → Bool
  | .no, _ => true
  | _, .no => true
  | .rd _, .rd _ => true
  | .rd i, .wr j => !(Nat.beq i j)
  | .wr j, .rd i => !(Nat.beq i j)
  | .rd i, .al n => Nat.blt i n
  | .al n, .rd i => Nat.blt i n
  | _, _ => false

/-- does an operation wait for that one in whatever order? -/
def bindsOn (o : Oper) (k : Nat) : Bool := o.after.toList.any fun e => Region.binds .any e && Nat.beq e.on k

def opdNames : Operand → List Nat
  | .tmp t => [t]
  | _ => []

def optNames : Option Operand → List Nat
  | some x => opdNames x
  | none => []

def opNames : Op → List Nat
  | .move x => opdNames x
  | .assign x => opdNames x
  | .pick c a b => opdNames c ++ (opdNames a ++ opdNames b)
  | .box _ x => opdNames x
  | .build _ ps => ps.toList.flatMap fun p => opdNames p.2
  | .buildSlice _ _ ps => ps.toList.flatMap fun p => opdNames p.2
  | .load _ a => opdNames a
  | .store _ a x => opdNames a ++ opdNames x
  | .nilCheck x => opdNames x
  | .binOp _ _ x y _ => opdNames x ++ opdNames y
  | .unOp _ _ x => opdNames x
  | .convert _ _ x => opdNames x
  | .makeFunc _ f c => f.toList.flatMap opdNames ++ c.toList.flatMap opdNames
  | .slice _ x lo hi mx => opdNames x ++ (optNames lo ++ (optNames hi ++ optNames mx))
  | .fieldAddr _ x _ => opdNames x
  | .field _ x _ => opdNames x
  | .indexAddr _ x i => opdNames x ++ opdNames i
  | .index _ x i => opdNames x ++ opdNames i
  | .extract x _ => opdNames x
  | .call c => c.args.toList.flatMap opdNames ++ (match c.callee with
    | .value g => opdNames g
    | _ => [])
  | _ => []

def guardNames (ops : Array Oper) (o : Oper) : List Nat := match o.guard with
  | some (j, _) => (dstAt ops j).toList
  | none => []

def operNames (ops : Array Oper) (o : Oper) : List Nat := guardNames ops o ++ opNames o.op

def offDst (d : Option Nat) (l : List Nat) : Bool := match d with
  | some d => l.all fun t => !(Nat.beq t d)
  | none => true

/-- neither writes a slot that the other one names -/
def indep (ops : Array Oper) (o o' : Oper) : Bool := offDst o.dst (operNames ops o') && offDst o'.dst (operNames ops o)

def neDst : Option Nat → Option Nat → Bool
  | some d, some e => !(Nat.beq d e)
  | _, _ => true

def pairOK (ops : Array Oper) (o : Oper) : List Oper → Nat → Nat → Bool
  | [], _, _ => true
  | o' :: l, i, j => neDst o.dst o'.dst && (bindsOn o' i || indep ops o o') && pairOK ops o l i (j + 1)

def drawOK (ops : Array Oper) : List Oper → Nat → Bool
  | [], _ => true
  | o :: l, i => (o.after.toList.all fun e => !(Region.binds .any e) || Nat.blt e.on i) && pairOK ops o l i (i + 1) && drawOK ops l (i + 1)

def chk (o : Oper) (f : Fp) : List (Nat × Fp) → Bool
  | [] => true
  | (k, g) :: l => (bindsOn o k || compat g f) && chk o f l

/-- a region whose operations may stand in any order that its edges allow: in the text's order, and a look at what each meets -/
def evDraw (E : Env) (ops : Array Oper) : List Oper → Nat → List (Nat × Fp) → St → (St → Option R) → Option R
  | [], _, _, s, K => K s
  | o :: l, i, log, s, K => bif chk o (fpOf E s o) log then evOper E noCall ops o s fun s' => evDraw E ops l (i + 1) ((i, fpOf E s o) :: log) s' K else none

def stripP (ops : List Oper) (l : List (Option Nat)) : List (Option Nat) := l.map fun
  | some p => bif ops.all fun o => neDst (some p) o.dst then some p else none
  | none => none

def firstRegion : Code → Nat
  | .region id _ _ => id
  | .seq a _ => firstRegion a
  | .cond _ a _ => firstRegion a
  | .block _ a => firstRegion a
  | .loop a => firstRegion a
  | .scope a => firstRegion a
  | _ => 0

/-- a stop for who reckons: what stands behind is one's own -/
def stall (n : Nat) (f : Unit → Option R) : Option R := match n with
  | 0 => none
  | _ + 1 => f ()

/-- where ways meet -/
def joinAt (b : Code) : Nat := 100000 + firstRegion b

def dropTmps (n : Nat) (drop : List Nat) : List AV → Nat → List AV
  | [], _ => []
  | v :: l, i => (bif drop.contains i || !(boxFree n v.ty) then .top else v) :: dropTmps n drop l (i + 1)

def dropBoxes (n : Nat) (l : List AV) : List AV := (l.take n).map fun v => bif boxFree n v.ty then v else .undef

def dropCp (n : Nat) (drop : List Nat) : List AV → List (Option Nat) → Nat → List (Option Nat)
  | v :: vs, p :: l, i => (bif drop.contains i || !(boxFree n v.ty) then none else p) :: dropCp n drop vs l (i + 1)
  | _, _, _ => []

def firstAt (p : Nat) : List (Option Nat) → Nat → Nat
  | [], i => i
  | q :: l, i => bif isP p q then i else firstAt p l (i + 1)

def canonCp (l : List (Option Nat)) : List (Option Nat) := l.map fun
  | some p => some (firstAt p l 0)
  | none => none

def widen (n : Nat) (drop : List Nat) (s : St) : St :=
  { tmps := dropTmps n drop s.tmps 0
    boxes := dropBoxes n s.boxes
    cp := canonCp (dropCp n drop s.tmps s.cp 0) }

def evLoop (body : St → (Ex → St → Option R) → Option R) (n : Nat) (drop : List Nat) : Nat → St → (Ex → St → Option R) → Option R
  | 0, _, _ => none
  | k + 1, s, K => body s fun e s' => match e with
    | .normal => forceSt (widen n drop s') fun s'' => evLoop body n drop k s'' K
    | e => K e s'

def isTrue : AV → Option Bool
  | ⟨.bool, b⟩ => some b
  | _ => none

noncomputable def evCode (E : Env) (C : CallSem R) (A : List (Nat × List Nat)) : Code → St → (Ex → St → Option R) → Option R
  | .skip, s, K => K .normal s
  | .region _ ops draw, s, K => bif draw then
      bif drawOK ops ops.toList 0 then evDraw E ops ops.toList 0 [] { s with cp := stripP ops.toList s.cp } fun s' => K .normal s' else none
    else evOps E C ops ops.toList s fun s' => K .normal s'
  | .seq a b, s, K => evCode E C A a s fun e s' => match e with
    | .normal => match look A (joinAt b) with
      | some drop => forceSt (widen s'.boxes.length drop s') fun s'' => stall E.k fun _ => evCode E C A b s'' K
      | none => evCode E C A b s' K
    | e => K e s'
  | .cond c a b, s, K => match asB (opd s none c) with
    | some q => br q (evCode E C A a s K) (evCode E C A b s K)
    | none => none
  | .block id b, s, K => evCode E C A b s fun e s' => match e with
    | .exit i => bif Nat.beq i id then K .normal s' else K (.exit i) s'
    | e => K e s'
  | .loop b, s, K =>
    let drop := (look A (firstRegion b)).getD []
    forceSt (widen s.boxes.length drop s) fun s' => evLoop (fun s K => evCode E C A b s K) s.boxes.length drop E.k s' K
  | .exit id, s, K => K (.exit id) s
  | .ret, s, K => K .ret s
  | _, _, _ => none

def resultAVs (E : Env) (s : St) : List ResultVar → Option (List AV)
  | [] => some []
  | .tmp t :: l => match resultAVs E s l with
    | some vs => some (s.get t :: vs)
    | none => none
  | .cell a T :: l => match loadK E T s (s.get a) (fun v _ => some v), resultAVs E s l with
    | some v, some vs => some (v :: vs)
    | _, _ => none

def resultAV : List AV → AV
  | [v] => v
  | l => ⟨.tup (chain l).ty, (chain l).x⟩

/-- a function's own boxes fall at its end, if what it hands back names none -/
def leaveB (n : Nat) (t : Ty) (l : List AV) : List AV := bif boxFree n t then dropBoxes n l else l

noncomputable def evFn (E : Env) (C : CallSem R) (f : Nat) (args : List AV) (boxes : List AV) (K : AV → List AV → Option R) : Option R :=
  bif isY f then none else match look E.fns f with
  | none => none
  | some fn => match fn.body with
    | none => none
    | some c =>
      forceSt { tmps := args ++ List.replicate (fn.ntmps - args.length) .undef, boxes := boxes, cp := List.replicate (args.length + (fn.ntmps - args.length)) none } fun s0 => evCode E C ((look E.ann f).getD []) c s0 fun e s =>
        match e with
        | .exit _ => none
        | _ => match resultAVs E s fn.results.toList with
          | some vs => K (resultAV vs) (leaveB boxes.length (resultAV vs).ty s.boxes)
          | none => none

/-- calls, some deep -/
noncomputable def evCall (E : Env) : Nat → CallSem R
  | 0 => noCall
  | d + 1 => evFn E (evCall E d)

/-- what a function comes to -/
noncomputable def sem (E : Env) (d : Nat) (f : Nat) (a r : Ty) (x : a.den) : Option r.den :=
  evCall E d f (unchain a x) [] fun v _ => castTo r v
end
end Go.Ev

namespace Go.Ev
open Go.RowKit

abbrev Im := Nat → Nat → Prop

def cellsAt (I : Im) (w : World) (a : Addr) (cs : List Value) : Prop :=
  ∀ i v, cs[i]? = some v → w.cell? (a.add i) = some v ∧ I a.block (a.off + i)

def RAll {α : Type} (Q : α → List Value → Prop) : List α → List Value → Prop
  | [], cs => cs = []
  | x :: l, cs => ∃ c1 c2, cs = c1 ++ c2 ∧ Q x c1 ∧ RAll Q l c2

def offAt (offs : List Nat) (j : Nat) : Option Nat := offs[j]?

/-- what of a value's cells (true), or of a chain of values (false) -/
def R (I : Im) (w : World) (μ : List Nat) : (t : Ty) → Bool → t.den → List Value → Prop
  | .top, _, _, cs => ∃ v, cs = [v]
  | .undef, _, _, cs => cs = [undef]
  | .int k, _, x, cs => cs = [.int k x]
  | .bool, _, x, cs => cs = [.bool x]
  | .str, _, x, cs => cs = [.string x]
  | .unit, _, _, cs => cs = []
  | .pr a b, m, x, cs => ∃ c1 c2, cs = c1 ++ c2 ∧ R I w μ a m x.1 c1 ∧ R I w μ b m x.2 c2 ∧ (m = false → c1.length = 1)
  | .st t, true, x, cs => R I w μ t true x cs
  | .st t, false, x, cs => ∃ arr : List Value, cs = [.agg arr.toArray] ∧ R I w μ t true x arr
  | .sl t, _, x, cs => ∃ a n cap cells, cs = [.slice a n cap] ∧ n = List.length x ∧ n ≤ cap ∧ RAll (R I w μ t true) x cells ∧
      (a = none → cap = 0) ∧ ∀ ad, a = some ad → cellsAt I w ad cells
  | .tup t, _, x, cs => ∃ arr : List Value, cs = [.tuple arr.toArray] ∧ R I w μ t false x arr
  | .fn f a c, _, x, cs => ∃ va vc : List Value, cs = [.func (.func f) va.toArray vc.toArray] ∧ R I w μ a false x.1 va ∧ R I w μ c false x.2 vc
  | .box i off, _, _, cs => ∃ b, μ[i]? = some b ∧ cs = [.pointer (some ⟨b, off, none⟩)]
  | .boxv i offs, _, j, cs => ∃ b off, μ[i]? = some b ∧ offAt offs j = some off ∧ cs = [.pointer (some ⟨b, off, none⟩)]
  | .ref t, _, x, cs => ∃ ad cells, cs = [.pointer (some ad)] ∧ cellsAt I w ad cells ∧ R I w μ t true x cells
  | .yld i, _, _, cs => ∃ l, μ[i]? = some l ∧ cs = [.func (.yield l) #[] #[]]
  | .ob, _, _, _ => False

structure Grow (I : Im) (w : World) (μ : List Nat) (I' : Im) (w' : World) (μ' : List Nat) : Prop where
  sub : ∀ b o, I b o → I' b o
  cell : ∀ a : Addr, I a.block a.off → w'.cell? a = w.cell? a
  pre : ∀ (i b : Nat), μ[i]? = some b → μ'[i]? = some b

theorem Grow.refl (I : Im) (w : World) (μ : List Nat) : Grow I w μ I w μ := ⟨fun _ _ h => h, fun _ _ => rfl, fun _ _ h => h⟩
theorem Grow.trans {I I' I'' : Im} {w w' w'' : World} {μ μ' μ'' : List Nat} (h : Grow I w μ I' w' μ') (k : Grow I' w' μ' I'' w'' μ'') : Grow I w μ I'' w'' μ'' :=
  ⟨fun b o q => k.sub b o (h.sub b o q), fun a q => (k.cell a (h.sub _ _ q)).trans (h.cell a q), fun i b q => k.pre i b (h.pre i b q)⟩

theorem Grow.len {I I' : Im} {w w' : World} {μ μ' : List Nat} (h : Grow I w μ I' w' μ') : μ.length ≤ μ'.length := by
  cases hm : μ.length with
  | zero => exact Nat.zero_le _
  | succ j =>
    have h1 : j < μ.length := by omega
    have h2 := h.pre j _ (List.getElem?_eq_getElem h1)
    have := (List.getElem?_eq_some_iff.1 h2).1
    omega

theorem add_block (a : Addr) (n : Nat) : (a.add n).block = a.block := by unfold Addr.add; split <;> rfl
theorem add_off (a : Addr) (n : Nat) : (a.add n).off = a.off + n := by unfold Addr.add; split <;> simp_all

theorem cellsAt.grow {I I' : Im} {w w' : World} {μ μ' : List Nat} (g : Grow I w μ I' w' μ') {a : Addr} {cs : List Value} (h : cellsAt I w a cs) : cellsAt I' w' a cs := by
  intro i v hv
  obtain ⟨h1, h2⟩ := h i v hv
  refine ⟨?_, g.sub _ _ h2⟩
  rw [g.cell (a.add i) (by rw [add_block, add_off]; exact h2), h1]

theorem RAll.mono {α : Type} {Q Q' : α → List Value → Prop} (h : ∀ x cs, Q x cs → Q' x cs) : ∀ (l : List α) cs, RAll Q l cs → RAll Q' l cs
  | [], _, k => k
  | _ :: l, _, ⟨c1, c2, e, q, k⟩ => ⟨c1, c2, e, h _ _ q, RAll.mono h l c2 k⟩

theorem R.grow {I I' : Im} {w w' : World} {μ μ' : List Nat} (g : Grow I w μ I' w' μ') : ∀ (t : Ty) (m : Bool) (x : t.den) (cs : List Value), R I w μ t m x cs → R I' w' μ' t m x cs := by
  intro t
  induction t with
  | top => intro m x cs h; exact h
  | undef => intro m x cs h; exact h
  | int k => intro m x cs h; exact h
  | bool => intro m x cs h; exact h
  | str => intro m x cs h; exact h
  | unit => intro m x cs h; exact h
  | pr a b iha ihb => rintro m x cs ⟨c1, c2, e, h1, h2, h3⟩; exact ⟨c1, c2, e, iha m _ _ h1, ihb m _ _ h2, h3⟩
  | st t ih =>
    intro m x cs h
    cases m with
    | true => exact ih true x cs h
    | false => obtain ⟨arr, e, h⟩ := h; exact ⟨arr, e, ih true x _ h⟩
  | sl t ih =>
    rintro m x cs ⟨a, n, cap, cells, e, hn, hc, hA, h0, h⟩
    exact ⟨a, n, cap, cells, e, hn, hc, RAll.mono (fun x cs => ih true x cs) _ _ hA, h0, fun ad ha => (h ad ha).grow g⟩
  | tup t ih => rintro m x cs ⟨arr, e, h⟩; exact ⟨arr, e, ih false x _ h⟩
  | fn f a c iha ihc => rintro m x cs ⟨va, vc, e, h1, h2⟩; exact ⟨va, vc, e, iha false _ _ h1, ihc false _ _ h2⟩
  | box i off => rintro m x cs ⟨b, hb, e⟩; exact ⟨b, g.pre _ _ hb, e⟩
  | boxv i offs => rintro m x cs ⟨b, off, hb, ho, e⟩; exact ⟨b, off, g.pre _ _ hb, ho, e⟩
  | ref t ih => rintro m x cs ⟨ad, cells, e, hc, h⟩; exact ⟨ad, cells, e, hc.grow g, ih true _ _ h⟩
  | yld i => rintro m x cs ⟨l, hl, e⟩; exact ⟨l, g.pre _ _ hl, e⟩
  | ob => intro m x cs h; exact h

/-- a block of cells -/
def IsC (w : World) (b : Nat) : Prop := ∃ cs et z, w.heap[b]? = some (.cells cs et z)
/-- the cells alone that lie in a block of cells -/
def ImC (I : Im) (w : World) : Im := fun b o => I b o ∧ IsC w b

theorem cellsAt.shrink {I : Im} {w : World} {a : Addr} {cs : List Value} (h : cellsAt I w a cs) : cellsAt (ImC I w) w a cs := by
  intro i v hv
  obtain ⟨h1, h2⟩ := h i v hv
  refine ⟨h1, h2, ?_⟩
  unfold World.cell? at h1
  rw [add_block] at h1
  split at h1
  · rename_i c e z hc; exact ⟨c, e, z, hc⟩
  · cases h1

theorem R.shrink {I : Im} {w : World} {μ : List Nat} : ∀ (t : Ty) (m : Bool) (x : t.den) (cs : List Value), R I w μ t m x cs → R (ImC I w) w μ t m x cs := by
  intro t
  induction t with
  | top => intro m x cs h; exact h
  | undef => intro m x cs h; exact h
  | int k => intro m x cs h; exact h
  | bool => intro m x cs h; exact h
  | str => intro m x cs h; exact h
  | unit => intro m x cs h; exact h
  | pr a b iha ihb => rintro m x cs ⟨c1, c2, e, h1, h2, h3⟩; exact ⟨c1, c2, e, iha m _ _ h1, ihb m _ _ h2, h3⟩
  | st t ih =>
    intro m x cs h
    cases m with
    | true => exact ih true x cs h
    | false => obtain ⟨arr, e, h⟩ := h; exact ⟨arr, e, ih true x _ h⟩
  | sl t ih =>
    rintro m x cs ⟨a, n, cap, cells, e, hn, hc, hA, h0, h⟩
    exact ⟨a, n, cap, cells, e, hn, hc, RAll.mono (fun x cs => ih true x cs) _ _ hA, h0, fun ad ha => (h ad ha).shrink⟩
  | tup t ih => rintro m x cs ⟨arr, e, h⟩; exact ⟨arr, e, ih false x _ h⟩
  | fn f a c iha ihc => rintro m x cs ⟨va, vc, e, h1, h2⟩; exact ⟨va, vc, e, iha false _ _ h1, ihc false _ _ h2⟩
  | box i off => rintro m x cs h; exact h
  | boxv i offs => rintro m x cs h; exact h
  | ref t ih => rintro m x cs ⟨ad, cells, e, hc, h⟩; exact ⟨ad, cells, e, hc.shrink, ih true _ _ h⟩
  | yld i => rintro m x cs h; exact h
  | ob => intro m x cs h; exact h

/-- cut the list of boxes: what names none of those that fall is as it was -/
theorem R.take {I : Im} {w : World} {μ : List Nat} (n : Nat) : ∀ (t : Ty) (m : Bool) (x : t.den) (cs : List Value), boxFree n t = true → R I w μ t m x cs → R I w (μ.take n) t m x cs := by
  intro t
  induction t with
  | top => intro m x cs _ h; exact h
  | undef => intro m x cs _ h; exact h
  | int k => intro m x cs _ h; exact h
  | bool => intro m x cs _ h; exact h
  | str => intro m x cs _ h; exact h
  | unit => intro m x cs _ h; exact h
  | pr a b iha ihb =>
    rintro m x cs hf ⟨c1, c2, e, h1, h2, h3⟩
    simp only [boxFree, Bool.and_eq_true] at hf
    exact ⟨c1, c2, e, iha m _ _ hf.1 h1, ihb m _ _ hf.2 h2, h3⟩
  | st t ih =>
    intro m x cs hf h
    cases m with
    | true => exact ih true x cs hf h
    | false => obtain ⟨arr, e, h⟩ := h; exact ⟨arr, e, ih true x _ hf h⟩
  | sl t ih =>
    rintro m x cs hf ⟨a, k, cap, cells, e, hn, hc, hA, h0, h⟩
    exact ⟨a, k, cap, cells, e, hn, hc, RAll.mono (fun x cs => ih true x cs hf) _ _ hA, h0, h⟩
  | tup t ih => rintro m x cs hf ⟨arr, e, h⟩; exact ⟨arr, e, ih false x _ hf h⟩
  | fn f a c iha ihc =>
    rintro m x cs hf ⟨va, vc, e, h1, h2⟩
    simp only [boxFree, Bool.and_eq_true] at hf
    exact ⟨va, vc, e, iha false _ _ hf.1 h1, ihc false _ _ hf.2 h2⟩
  | box i off =>
    rintro m x cs hf ⟨b, hb, e⟩
    have hf : i < n := by simpa [boxFree, Nat.blt_eq] using hf
    exact ⟨b, by rw [List.getElem?_take, if_pos hf]; exact hb, e⟩
  | boxv i offs =>
    rintro m x cs hf ⟨b, off, hb, ho, e⟩
    have hf : i < n := by simpa [boxFree, Nat.blt_eq] using hf
    exact ⟨b, off, by rw [List.getElem?_take, if_pos hf]; exact hb, ho, e⟩
  | ref t ih => rintro m x cs hf ⟨ad, cells, e, hc, h⟩; exact ⟨ad, cells, e, hc, ih true _ _ hf h⟩
  | yld i =>
    rintro m x cs hf ⟨l, hl, e⟩
    have hf : i < n := by simpa [boxFree, Nat.blt_eq] using hf
    exact ⟨l, by rw [List.getElem?_take, if_pos hf]; exact hl, e⟩
  | ob => intro m x cs _ h; exact h

/-- no boxes named -/
theorem R.size {I : Im} {w : World} {μ : List Nat} : ∀ (t : Ty) (x : t.den) (cs : List Value), R I w μ t true x cs → cs.length = t.csize := by
  intro t
  induction t with
  | pr a b iha ihb => rintro x cs ⟨c1, c2, rfl, h1, h2, _⟩; simp [Ty.csize, iha _ _ h1, ihb _ _ h2]
  | st t ih => intro x cs h; exact ih x cs h
  | unit => intro x cs h; cases h; rfl
  | top => rintro x cs ⟨v, rfl⟩; rfl
  | undef => intro x cs h; cases h; rfl
  | int k => intro x cs h; cases h; rfl
  | bool => intro x cs h; cases h; rfl
  | str => intro x cs h; cases h; rfl
  | sl t _ => rintro x cs ⟨a, k, cap, cells, rfl, _⟩; rfl
  | tup t _ => rintro x cs ⟨a, rfl, _⟩; rfl
  | fn f a c _ _ => rintro x cs ⟨a, c, rfl, _⟩; rfl
  | box i off => rintro x cs ⟨b, _, rfl⟩; rfl
  | boxv i off => rintro x cs ⟨b, _, _, _, rfl⟩; rfl
  | ref t _ => rintro x cs ⟨b, _, rfl, _⟩; rfl
  | yld i => rintro x cs ⟨l, _, rfl⟩; rfl
  | ob => intro x cs h; exact h.elim

def Value.one : Value → Bool
  | .agg _ | .tuple _ => false
  | _ => true

theorem R.leaf {I : Im} {w : World} {μ : List Nat} (t : Ty) (ht : t.leaf = true) (x : t.den) (m : Bool) (cs : List Value) (h : R I w μ t m x cs) :
    ∃ v, cs = [v] ∧ Value.one v = true ∧ ∀ m', R I w μ t m' x cs := by
  cases t with
  | top => cases ht
  | undef => cases ht
  | unit => cases ht
  | pr a b => cases ht
  | st t => cases ht
  | tup t => cases ht
  | int k => exact ⟨_, h, rfl, fun _ => h⟩
  | bool => exact ⟨_, h, rfl, fun _ => h⟩
  | str => exact ⟨_, h, rfl, fun _ => h⟩
  | sl t => have k := h; obtain ⟨a, n, cap, cells, e, _⟩ := h; exact ⟨_, e, rfl, fun _ => k⟩
  | fn f a c => have k := h; obtain ⟨va, vc, e, _⟩ := h; exact ⟨_, e, rfl, fun _ => k⟩
  | box i off => have k := h; obtain ⟨b, _, e⟩ := h; exact ⟨_, e, rfl, fun _ => k⟩
  | boxv i off => have k := h; obtain ⟨b, _, _, _, e⟩ := h; exact ⟨_, e, rfl, fun _ => k⟩
  | ref t => have k := h; obtain ⟨b, _, e, _⟩ := h; exact ⟨_, e, rfl, fun _ => k⟩
  | yld i => have k := h; obtain ⟨l, _, e⟩ := h; exact ⟨_, e, rfl, fun _ => k⟩
  | ob => cases ht

theorem R.single {I : Im} {w : World} {μ : List Nat} (t : Ty) (ht : t.single = true) (x : t.den) (cs : List Value) (h : R I w μ t false x cs) : ∃ v, cs = [v] := by
  cases t with
  | pr a b => cases ht
  | unit => cases ht
  | top => exact h
  | undef => exact ⟨_, h⟩
  | int k => exact ⟨_, h⟩
  | bool => exact ⟨_, h⟩
  | str => exact ⟨_, h⟩
  | st t => obtain ⟨a, e, _⟩ := h; exact ⟨_, e⟩
  | tup t => obtain ⟨a, e, _⟩ := h; exact ⟨_, e⟩
  | sl t => obtain ⟨a, n, cap, cells, e, _⟩ := h; exact ⟨_, e⟩
  | fn f a c => obtain ⟨va, vc, e, _⟩ := h; exact ⟨_, e⟩
  | box i off => obtain ⟨b, _, e⟩ := h; exact ⟨_, e⟩
  | boxv i off => obtain ⟨b, _, _, _, e⟩ := h; exact ⟨_, e⟩
  | ref t => obtain ⟨b, _, e, _⟩ := h; exact ⟨_, e⟩
  | yld i => obtain ⟨l, _, e⟩ := h; exact ⟨_, e⟩
  | ob => exact h.elim

theorem castTo_some {t : Ty} {v : AV} {y : t.den} (h : castTo t v = some y) : v = ⟨t, y⟩ := by
  unfold castTo at h
  split at h
  · rename_i e
    obtain ⟨u, x⟩ := v
    cases e
    cases h
    rfl
  · cases h
theorem castTo_self (t : Ty) (x : t.den) : castTo t ⟨t, x⟩ = some x := by unfold castTo; simp

end Go.Ev

set_option linter.unusedVariables false
namespace Go.Ev
open Go.RowKit

/-- where an outermost loop over a function was entered, and what its blocks hold -/
structure Root where
  I : Im
  w : World
  μ : List Nat
  ob : Nat → Nat → Obj
  noc : ∀ b j cs et z, ob b j ≠ .cells cs et z

/-- a box that is no cells -/
def Idle (rt : Root) (v : AV) (b : Nat) (w : World) : Prop := v.ty = .undef ∨ ∃ j : Nat, v = ⟨.ob, j⟩ ∧ w.heap[b]? = some (rt.ob b j)

theorem Idle.step {rt : Root} {v : AV} {b : Nat} {w w' : World} (h : Idle rt v b w) (e : b < w.heap.size → w'.heap[b]? = w.heap[b]?) : Idle rt v b w' := by
  rcases h with h | ⟨j, h1, h2⟩
  · exact .inl h
  · exact .inr ⟨j, h1, (e (Array.getElem?_eq_some_iff.1 h2).1).trans h2⟩

structure Ctx where
  w0 : World
  F : Nat → Prop
  I0 : Im
  wS : World
  μ0 : List Nat
  ds : List Deferred
  rt : Root

structure Rm where
  a : Option Addr
  n : Nat
  cap : Nat
  sz : Nat

def Room (B : Nat) (F : Nat → Prop) (I : Im) (μ : List Nat) (w : World) (r : Rm) : Prop :=
  r.n = r.cap ∨ ∃ ad cs et, r.a = some ad ∧ ad.spot = none ∧ ad.off = 0 ∧ w.heap[ad.block]? = some (.cells cs et (0, 0)) ∧ ad.off + r.cap * r.sz ≤ cs.size ∧
    B ≤ ad.block ∧ ad.block ∉ μ ∧ ¬ F ad.block ∧ ∀ o, ad.off + r.n * r.sz ≤ o → ¬ I ad.block o

def Apart (r q : Rm) : Prop := r.n = r.cap ∨ q.n = q.cap ∨ ∀ x y, r.a = some x → q.a = some y → x.block ≠ y.block

def Live (s : St) (p : Nat) : Prop := ∃ i : Nat, s.cp[i]? = some (some p)

/-- no living box -/
def Dead (μ : List Nat) (bs : List AV) (b : Nat) : Prop := ∀ (i : Nat) v, μ[i]? = some b → bs[i]? = some v → v.ty = .undef
theorem Dead.of_not {μ : List Nat} {bs : List AV} {b : Nat} (h : b ∉ μ) : Dead μ bs b := fun i v hi _ => absurd (List.mem_of_getElem? hi) h

/-- memory alone -/
structure MemI (c : Ctx) (I : Im) (μ : List Nat) (bs : List AV) (w : World) : Prop where
  below : Below c.w0.heap.size c.w0 w
  base : c.w0.heap.size ≤ c.wS.heap.size
  grow : Grow c.I0 c.wS c.μ0 I w μ
  sizeS : c.wS.heap.size ≤ w.heap.size
  blen : bs.length = μ.length
  boxes : ∀ (i : Nat) v b, bs[i]? = some v → μ[i]? = some b → Idle c.rt v b w ∨ ∃ cs et, w.heap[b]? = some (.cells cs et (0, 0)) ∧ R I w μ v.ty true v.x cs.toList ∧ ∀ o, ¬ I b o
  nodup : μ.Nodup
  mu : ∀ b, b ∈ μ → c.w0.heap.size ≤ b ∧ b < w.heap.size
  munew : ∀ (i b : Nat), μ[i]? = some b → c.μ0[i]? = some b ∨ c.wS.heap.size ≤ b
  imlt : ∀ b o, I b o → b < w.heap.size
  imc : ∀ b o, I b o → IsC w b
  root : Grow c.rt.I c.rt.w c.rt.μ I w μ
  rlen : c.rt.μ.length ≤ c.μ0.length
  fr : ∀ b, c.F b → b < c.wS.heap.size ∧ w.heap[b]? = c.wS.heap[b]? ∧ Dead μ bs b ∧ ∀ o, I b o → c.I0 b o

/-- what waits is no part of memory -/
theorem MemI.cds {c : Ctx} {I : Im} {μ : List Nat} {bs : List AV} {w : World} (h : MemI c I μ bs w) (ds : List Deferred) : MemI { c with ds := ds } I μ bs w :=
  ⟨h.below, h.base, h.grow, h.sizeS, h.blen, h.boxes, h.nodup, h.mu, h.munew, h.imlt, h.imc, h.root, h.rlen, h.fr⟩

theorem nth_get {α : Type} {d : α} : ∀ {l : List α} {i : Nat} {v : α}, l[i]? = some v → nth d l i = v
  | [], _, _, h => by simp at h
  | x :: l, 0, v, h => by simpa [nth] using h
  | x :: l, n + 1, v, h => by simp only [List.getElem?_cons_succ] at h; exact nth_get (l := l) h

theorem nth_none {α : Type} {d : α} : ∀ {l : List α} {i : Nat}, l[i]? = none → nth d l i = d
  | [], _, _ => by simp [nth]
  | x :: l, 0, h => by simp at h
  | x :: l, n + 1, h => by simp only [List.getElem?_cons_succ] at h; exact nth_none (l := l) h

theorem setN_get {α : Type} : ∀ (l : List α) (d : Nat) (v : α) (i : Nat), (setN l d v)[i]? = if i = d ∧ d < l.length then some v else l[i]?
  | [], d, v, i => by simp [setN]
  | x :: l, 0, v, 0 => by simp [setN]
  | x :: l, 0, v, i + 1 => by simp [setN]
  | x :: l, d + 1, v, 0 => by simp [setN]
  | x :: l, d + 1, v, i + 1 => by simp only [setN, List.getElem?_cons_succ, setN_get l d v i, List.length_cons, Nat.add_right_cancel_iff, Nat.add_lt_add_iff_right]

theorem setN_length {α : Type} : ∀ (l : List α) (d : Nat) (v : α), (setN l d v).length = l.length
  | [], _, _ => rfl
  | _ :: _, 0, _ => rfl
  | _ :: l, d + 1, v => by simp [setN, setN_length l d v]

theorem clearP_length (p : Nat) (l : List (Option Nat)) : (clearP p l).length = l.length := by simp [clearP]
theorem clearP_get (p : Nat) (l : List (Option Nat)) (i q : Nat) : (clearP p l)[i]? = some (some q) ↔ l[i]? = some (some q) ∧ q ≠ p := by
  unfold clearP
  rw [List.getElem?_map]
  constructor
  · intro h
    cases hl : l[i]? with
    | none => rw [hl] at h; cases h
    | some o =>
      rw [hl] at h
      cases o with
      | none => simp [isP] at h
      | some q' =>
        simp only [Option.map_some, isP, Option.some.injEq] at h
        by_cases e : q' = p
        · subst e; simp at h
        · have : Nat.beq q' p = false := by rw [Bool.eq_false_iff]; intro h'; exact e (Nat.eq_of_beq_eq_true h')
          rw [this] at h; simp at h; subst h; exact ⟨rfl, e⟩
  · rintro ⟨h, e⟩
    rw [h]
    have : Nat.beq q p = false := by rw [Bool.eq_false_iff]; intro h'; exact e (Nat.eq_of_beq_eq_true h')
    simp [isP, this]

/-- what stands of a value's right to grow -/
def CapAt (c : Ctx) (I : Im) (μ : List Nat) (ρ : Nat → Rm) (s : St) (w : World) (v : AV) (u : Value) : Cap → Prop
  | .no => True
  | .dup none => True
  | .dup (some p) => ∀ t, v.ty = .sl t → Live s p ∧ (ρ p).sz = t.csize ∧ u = .slice (ρ p).a (ρ p).n (ρ p).cap
  | .fresh => ∀ t, v.ty = .sl t → ∃ r : Rm, r.sz = t.csize ∧ u = .slice r.a r.n r.cap ∧ Room c.w0.heap.size c.F I μ w r ∧ ∀ q, Live s q → Apart r (ρ q)
  | .taken p => ∀ t, v.ty = .sl t → ∃ r : Rm, r.sz = t.csize ∧ u = .slice r.a r.n r.cap ∧ Room c.w0.heap.size c.F I μ w r ∧ ∀ q, Live s q → q ≠ p → Apart r (ρ q)

/-- the relation; the rooms are asked of some letters alone -/
structure RelX (X : Nat → Prop) (c : Ctx) (I : Im) (μ : List Nat) (ρ : Nat → Rm) (s : St) (a : Act) (w : World) : Prop where
  mem : MemI c I μ s.boxes w
  len : a.tmps.size = s.tmps.length
  cplen : s.cp.length = s.tmps.length
  slots : ∀ (i : Nat) v, s.tmps[i]? = some v → ∃ u, a.tmps[i]? = some u ∧ R I w μ v.ty false v.x [u]
  caps : ∀ (i p : Nat), s.cp[i]? = some (some p) → ∃ v t u, s.tmps[i]? = some v ∧ v.ty = .sl t ∧ a.tmps[i]? = some u ∧ (ρ p).sz = t.csize ∧ u = .slice (ρ p).a (ρ p).n (ρ p).cap
  rooms : ∀ p, Live s p → X p → Room c.w0.heap.size c.F I μ w (ρ p)
  apart : ∀ p q, Live s p → Live s q → p ≠ q → X p → X q → Apart (ρ p) (ρ q)
  defers : a.defers = c.ds

abbrev RelI (c : Ctx) (I : Im) (μ : List Nat) (ρ : Nat → Rm) (s : St) (a : Act) (w : World) : Prop := RelX (fun _ => True) c I μ ρ s a w

theorem RelI.toX {c : Ctx} {I : Im} {μ : List Nat} {ρ : Nat → Rm} {s : St} {a : Act} {w : World} (h : RelI c I μ ρ s a w) (X : Nat → Prop) : RelX X c I μ ρ s a w :=
  ⟨h.mem, h.len, h.cplen, h.slots, h.caps, fun p hp _ => h.rooms p hp trivial, fun p q hp hq e _ _ => h.apart p q hp hq e trivial trivial, h.defers⟩

def noTake : Cap → Nat → Prop
  | .taken p, q => q ≠ p
  | _, _ => True

theorem put_none (a : Act) (u : Value) : a.put none u = a := rfl

theorem put_get (a : Act) (d : Nat) (u : Value) (i : Nat) : (a.put (some d) u).tmps[i]? = if i = d ∧ d < a.tmps.size then some u else a.tmps[i]? := by
  simp only [Act.put, Array.getElem?_setIfInBounds]
  by_cases h : d = i
  · subst h
    by_cases h2 : d < a.tmps.size
    · simp [h2]
    · simp [h2]
  · have : ¬ i = d := fun e => h e.symm
    simp [h, this]

theorem live_of_set {d : Nat} {o : Option Nat} {l : List (Option Nat)} {p : Nat} (h : ∃ i : Nat, (setN l d o)[i]? = some (some p)) : o = some p ∨ ∃ i : Nat, i ≠ d ∧ l[i]? = some (some p) := by
  obtain ⟨i, hi⟩ := h
  rw [setN_get] at hi
  split at hi
  · left; simpa using hi
  · rename_i hne
    by_cases e : i = d
    · subst e
      have : ¬ i < l.length := fun h => hne ⟨rfl, h⟩
      rw [List.getElem?_eq_none (by omega)] at hi; cases hi
    · exact .inr ⟨i, e, hi⟩

/-- a value is put in its slot -/
theorem RelX.put {c : Ctx} {I : Im} {μ : List Nat} {ρ : Nat → Rm} {s : St} {a : Act} {w : World} {cap : Cap} (h : RelX (noTake cap) c I μ ρ s a w) (d : Option Nat) (v : AV) (u : Value)
    (hu : R I w μ v.ty false v.x [u]) (hc : CapAt c I μ ρ s w v u cap) (hcap : ∀ p, cap = .taken p → v.ty.isSl = true ∧ d.isSome = true) : ∃ ρ', RelI c I μ ρ' (s.put d v cap) (a.put d u) w := by
  cases d with
  | none =>
    have hn : ∀ p, noTake cap p := by
      intro p; cases cap with
      | taken q => exact absurd (hcap q rfl).2 (by simp)
      | _ => trivial
    exact ⟨ρ, ⟨h.mem, h.len, h.cplen, h.slots, h.caps, fun p hp _ => h.rooms p hp (hn p), fun p q hp hq e _ _ => h.apart p q hp hq e (hn p) (hn q), h.defers⟩⟩
  | some d =>
    -- what stands in the slots
    have hslots : ∀ (i : Nat) v', (setN s.tmps d v)[i]? = some v' → ∃ u', (a.put (some d) u).tmps[i]? = some u' ∧ R I w μ v'.ty false v'.x [u'] := by
      intro i v' hv'
      rw [setN_get] at hv'
      rw [put_get]
      split at hv'
      · rename_i hd
        cases hv'
        rw [if_pos ⟨hd.1, by rw [h.len]; exact hd.2⟩]
        exact ⟨u, rfl, hu⟩
      · rename_i hd
        rw [if_neg (by rw [h.len]; exact hd)]
        exact h.slots i v' hv'
    have hlen : (a.put (some d) u).tmps.size = (setN s.tmps d v).length := by simp [Act.put, setN_length, h.len]
    have hdef : (a.put (some d) u).defers = c.ds := h.defers
    -- the letters that stay
    have key : ∀ (cp' : List (Option Nat)) (ρ' : Nat → Rm), cp'.length = s.cp.length →
        (∀ (i p : Nat), cp'[i]? = some (some p) → (i ≠ d ∧ s.cp[i]? = some (some p) ∧ ρ' p = ρ p ∧ noTake cap p) ∨
          (i = d ∧ d < s.tmps.length ∧ (∃ t, v.ty = .sl t ∧ (ρ' p).sz = t.csize ∧ u = .slice (ρ' p).a (ρ' p).n (ρ' p).cap) ∧ Room c.w0.heap.size c.F I μ w (ρ' p) ∧
            ∀ (j q : Nat), j ≠ d → cp'[j]? = some (some q) → q ≠ p → Apart (ρ' p) (ρ q))) →
        RelI c I μ ρ' { s with tmps := setN s.tmps d v, cp := cp' } (a.put (some d) u) w := by
      intro cp' ρ' hl hk
      have hlive : ∀ p, Live { s with tmps := setN s.tmps d v, cp := cp' } p → (Live s p ∧ ρ' p = ρ p ∧ noTake cap p) ∨ (cp'[d]? = some (some p)) := by
        rintro p ⟨i, hi⟩
        rcases hk i p hi with ⟨_, h1, h2, h3⟩ | ⟨rfl, _⟩
        · exact .inl ⟨⟨i, h1⟩, h2, h3⟩
        · exact .inr hi
      refine ⟨h.mem, hlen, by simp [setN_length, hl, h.cplen], hslots, ?_, ?_, ?_, hdef⟩
      · intro i p hi
        rcases hk i p hi with ⟨hne, h1, h2, _⟩ | ⟨rfl, hlt, ⟨t, ht, hsz, hval⟩, _⟩
        · obtain ⟨v', t, u', g1, g2, g3, g4, g5⟩ := h.caps i p h1
          refine ⟨v', t, u', ?_, g2, ?_, by rw [h2]; exact g4, by rw [h2]; exact g5⟩
          · show (setN s.tmps d v)[i]? = _
            rw [setN_get, if_neg (fun e => hne e.1)]; exact g1
          · rw [put_get, if_neg (fun e => hne e.1)]; exact g3
        · refine ⟨v, t, u, ?_, ht, ?_, hsz, hval⟩
          · show (setN s.tmps i v)[i]? = _
            rw [setN_get, if_pos ⟨rfl, hlt⟩]
          · rw [put_get, if_pos ⟨rfl, by rw [h.len]; exact hlt⟩]
      · intro p hp _
        rcases hlive p hp with ⟨h1, h2, h3⟩ | h1
        · rw [h2]; exact h.rooms p h1 h3
        · rcases hk d p h1 with ⟨hne, _⟩ | ⟨_, _, _, hr, _⟩
          · exact absurd rfl hne
          · exact hr
      · intro p q hp hq hpq _ _
        by_cases hpd : cp'[d]? = some (some p)
        · rcases hk d p hpd with ⟨hne, _⟩ | ⟨_, _, _, _, hap⟩
          · exact absurd rfl hne
          obtain ⟨j, hj⟩ := hq
          have hjd : j ≠ d := by rintro rfl; rw [show cp'[j]? = _ from hpd] at hj; simp at hj; exact hpq hj
          rcases hk j q hj with ⟨_, _, h2, _⟩ | ⟨h', _⟩
          · rw [h2]; exact hap j q hjd hj (fun e => hpq e.symm)
          · exact absurd h' hjd
        · by_cases hqd : cp'[d]? = some (some q)
          · rcases hk d q hqd with ⟨hne, _⟩ | ⟨_, _, _, _, hap⟩
            · exact absurd rfl hne
            obtain ⟨j, hj⟩ := hp
            have hjd : j ≠ d := by rintro rfl; exact hpd hj
            rcases hk j p hj with ⟨_, _, h2, _⟩ | ⟨h', _⟩
            · rw [h2]
              rcases hap j p hjd hj hpq with h' | h' | h'
              · exact .inr (.inl h')
              · exact .inl h'
              · exact .inr (.inr fun x y hx hy e => h' y x hy hx e.symm)
            · exact absurd h' hjd
          · rcases hlive p hp with ⟨p1, p2, p3⟩ | p1
            · rcases hlive q hq with ⟨q1, q2, q3⟩ | q1
              · rw [p2, q2]; exact h.apart p q p1 q1 hpq p3 q3
              · exact absurd q1 hqd
            · exact absurd p1 hpd
    -- by the kind of right
    have hset : ∀ (l : List (Option Nat)) (o : Option Nat) (i p : Nat), (setN l d o)[i]? = some (some p) → (i ≠ d ∧ l[i]? = some (some p)) ∨ (i = d ∧ d < l.length ∧ o = some p) := by
      intro l o i p hi
      rw [setN_get] at hi
      split at hi
      · rename_i e; exact .inr ⟨e.1, e.2, by simpa using hi⟩
      · rename_i e
        by_cases e2 : i = d
        · subst e2
          rw [List.getElem?_eq_none (by have : ¬ i < l.length := fun h => e ⟨rfl, h⟩; omega)] at hi; cases hi
        · exact .inl ⟨e2, hi⟩
    by_cases hsl : v.ty.isSl = true
    · obtain ⟨t, ht⟩ : ∃ t, v.ty = .sl t := by cases hv : v.ty <;> simp [hv, Ty.isSl] at hsl; exact ⟨_, rfl⟩
      cases cap with
      | no =>
        refine ⟨ρ, ?_⟩
        have : s.put (some d) v .no = { s with tmps := setN s.tmps d v, cp := setN s.cp d none } := by simp [St.put, hsl]
        rw [this]
        refine key _ _ (by simp [setN_length]) fun i p hi => ?_
        rcases hset _ _ _ _ hi with ⟨h1, h2⟩ | ⟨_, _, h3⟩
        · exact .inl ⟨h1, h2, rfl, trivial⟩
        · cases h3
      | dup p0 =>
        refine ⟨ρ, ?_⟩
        have : s.put (some d) v (.dup p0) = { s with tmps := setN s.tmps d v, cp := setN s.cp d p0 } := by simp [St.put, hsl]
        rw [this]
        refine key _ _ (by simp [setN_length]) fun i p hi => ?_
        rcases hset _ _ _ _ hi with ⟨h1, h2⟩ | ⟨h1, h2, h3⟩
        · exact .inl ⟨h1, h2, rfl, trivial⟩
        · subst h3
          obtain ⟨hl, hsz, hval⟩ := hc t ht
          refine .inr ⟨h1, by rw [← h.cplen]; exact h2, ⟨t, ht, hsz, hval⟩, h.rooms p hl trivial, ?_⟩
          intro j q hj hjq hqp
          rcases hset _ _ _ _ hjq with ⟨_, h5⟩ | ⟨h5, _⟩
          · exact h.apart p q hl ⟨j, h5⟩ (fun e => hqp e.symm) trivial trivial
          · exact absurd h5 hj
      | fresh =>
        obtain ⟨r, hsz, hval, hroom, hap⟩ := hc t ht
        refine ⟨fun p => if p = d then r else ρ p, ?_⟩
        have : s.put (some d) v .fresh = { s with tmps := setN s.tmps d v, cp := setN (clearP d s.cp) d (some d) } := by simp [St.put, hsl]
        rw [this]
        refine key _ _ (by simp [setN_length, clearP_length]) fun i p hi => ?_
        rcases hset _ _ _ _ hi with ⟨h1, h2⟩ | ⟨h1, h2, h3⟩
        · rw [clearP_get] at h2
          exact .inl ⟨h1, h2.1, by simp [h2.2], trivial⟩
        · cases h3
          rw [clearP_length] at h2
          refine .inr ⟨h1, by rw [← h.cplen]; exact h2, ⟨t, ht, by simp [hsz], by simp [hval]⟩, by simpa using hroom, ?_⟩
          intro j q hj hjq hqp
          rcases hset _ _ _ _ hjq with ⟨_, h5⟩ | ⟨h5, _⟩
          · rw [clearP_get] at h5
            simp only [if_true]
            exact hap q ⟨j, h5.1⟩
          · exact absurd h5 hj
      | taken p0 =>
        obtain ⟨r, hsz, hval, hroom, hap⟩ := hc t ht
        refine ⟨fun p => if p = d then r else ρ p, ?_⟩
        have : s.put (some d) v (.taken p0) = { s with tmps := setN s.tmps d v, cp := setN (clearP d (clearP p0 s.cp)) d (some d) } := by simp [St.put, hsl]
        rw [this]
        refine key _ _ (by simp [setN_length, clearP_length]) fun i p hi => ?_
        rcases hset _ _ _ _ hi with ⟨h1, h2⟩ | ⟨h1, h2, h3⟩
        · rw [clearP_get, clearP_get] at h2
          exact .inl ⟨h1, h2.1.1, by simp [h2.2], h2.1.2⟩
        · cases h3
          rw [clearP_length, clearP_length] at h2
          refine .inr ⟨h1, by rw [← h.cplen]; exact h2, ⟨t, ht, by simp [hsz], by simp [hval]⟩, by simpa using hroom, ?_⟩
          intro j q hj hjq hqp
          rcases hset _ _ _ _ hjq with ⟨_, h5⟩ | ⟨h5, _⟩
          · rw [clearP_get, clearP_get] at h5
            simp only [if_true]
            exact hap q ⟨j, h5.1.1⟩ h5.1.2
          · exact absurd h5 hj
    · have hn : ∀ p, noTake cap p := by
        intro p; cases cap with
        | taken q => exact absurd (hcap q rfl).1 hsl
        | _ => trivial
      refine ⟨ρ, ?_⟩
      have : s.put (some d) v cap = { s with tmps := setN s.tmps d v, cp := setN s.cp d none } := by
        have : v.ty.isSl = false := by simpa using hsl
        simp [St.put, this]
      rw [this]
      refine key _ _ (by simp [setN_length]) fun i p hi => ?_
      rcases hset _ _ _ _ hi with ⟨h1, h2⟩ | ⟨_, _, h3⟩
      · exact .inl ⟨h1, h2, rfl, hn p⟩
      · cases h3
end Go.Ev

set_option linter.unusedVariables false
namespace Go.Ev
open Go.RowKit
variable {P : Program} {E : Env} {I : Im} {w : World} {μ : List Nat}

theorem decI_some {k : IntKind} {l : List Value} {n : Int} {r : List Value} (h : decI k l = some (n, r)) : l = .int k n :: r := by
  unfold decI at h
  split at h
  · split at h
    · rename_i e; subst e; cases h; rfl
    · cases h
  · cases h
theorem decB_some {l : List Value} {n : Bool} {r : List Value} (h : decB l = some (n, r)) : l = .bool n :: r := by
  unfold decB at h; split at h <;> cases h; rfl
theorem decS_some {l : List Value} {n : ByteArray} {r : List Value} (h : decS l = some (n, r)) : l = .string n :: r := by
  unfold decS at h; split at h <;> cases h; rfl
theorem decN_some {l : List Value} {r : List Value} (h : decN l = some r) : l = .slice none 0 0 :: r := by
  unfold decN at h; split at h <;> cases h; rfl

theorem R_nilslice (t : Ty) (m : Bool) : R I w μ (.sl t) m ([] : List t.den) [.slice none 0 0] :=
  ⟨none, 0, 0, [], rfl, rfl, Nat.le_refl _, rfl, fun _ => rfl, fun _ h => by cases h⟩

theorem decC_int (k : IntKind) (l : List Value) : decC (.int k) l = decI k l := rfl
theorem decC_bool (l : List Value) : decC .bool l = decB l := rfl
theorem decC_str (l : List Value) : decC .str l = decS l := rfl
theorem decC_unit (l : List Value) : decC .unit l = some ((), l) := rfl
theorem decC_sl (t : Ty) (l : List Value) : decC (.sl t) l = (decN l).map fun r => (([] : List t.den), r) := rfl
theorem decC_st (t : Ty) (l : List Value) : decC (.st t) l = decC t l := rfl
theorem decC_pr (a b : Ty) (l : List Value) : decC (.pr a b) l = (match decC a l with
    | some (x, r) => match decC b r with
      | some (y, r') => some ((x, y), r')
      | none => none
    | none => none) := rfl

theorem decC_sound : ∀ (t : Ty) (l : List Value) (x : t.den) (r : List Value), decC t l = some (x, r) → ∃ c1, l = c1 ++ r ∧ R I w μ t true x c1 := by
  intro t
  induction t with
  | int k => intro l x r h; rw [decC_int] at h; exact ⟨[.int k x], decI_some h, rfl⟩
  | bool => intro l x r h; rw [decC_bool] at h; exact ⟨[.bool x], decB_some h, rfl⟩
  | str => intro l x r h; rw [decC_str] at h; exact ⟨[.string x], decS_some h, rfl⟩
  | sl t ih =>
    intro l x r h
    rw [decC_sl] at h
    cases hq : decN l with
    | none => rw [hq] at h; exact absurd h (by simp)
    | some q =>
    rw [hq] at h
    obtain ⟨rfl, rfl⟩ : ([] : List t.den) = x ∧ q = r := by injection h with h; injection h with h1 h2; exact ⟨h1, h2⟩
    exact ⟨[.slice none 0 0], decN_some hq, R_nilslice t true⟩
  | unit => intro l x r h; rw [decC_unit] at h; injection h with h; injection h with h1 h2; exact ⟨[], h2, rfl⟩
  | pr a b iha ihb =>
    intro l x r h
    rw [decC_pr] at h
    cases ha : decC a l with
    | none => rw [ha] at h; cases h
    | some q =>
      obtain ⟨y, r1⟩ := q
      rw [ha] at h
      simp only at h
      cases hb : decC b r1 with
      | none => rw [hb] at h; cases h
      | some q =>
        obtain ⟨z, r2⟩ := q
        rw [hb] at h
        injection h with h
        injection h with h1 h2
        subst h1 h2
        obtain ⟨c1, e1, h1⟩ := iha _ _ _ ha
        obtain ⟨c2, e2, h2⟩ := ihb _ _ _ hb
        exact ⟨c1 ++ c2, by rw [e1, e2, List.append_assoc], c1, c2, rfl, h1, h2, fun h => by cases h⟩
  | st t ih => intro l x r h; rw [decC_st] at h; exact ih l x r h
  | top => intro l x r h; exact absurd h (by show ¬ (none = _); simp)
  | undef => intro l x r h; exact absurd h (by show ¬ (none = _); simp)
  | tup t _ => intro l x r h; exact absurd h (by show ¬ (none = _); simp)
  | fn f a b _ _ => intro l x r h; exact absurd h (by show ¬ (none = _); simp)
  | box i o => intro l x r h; exact absurd h (by show ¬ (none = _); simp)
  | boxv i o => intro l x r h; exact absurd h (by show ¬ (none = _); simp)
  | ref t _ => intro l x r h; exact absurd h (by show ¬ (none = _); simp)
  | yld i => intro l x r h; exact absurd h (by show ¬ (none = _); simp)
  | ob => intro l x r h; exact absurd h (by show ¬ (none = _); simp)

theorem constV_sound {T : Option Ty} {v : Value} {y : AV} (h : constV T v = some y) : R I w μ y.ty false y.x [v] := by
  unfold constV at h
  split at h
  · cases h; rfl
  · cases h; rfl
  · cases h; rfl
  · unfold constN at h
    split at h <;> cases h
    exact R_nilslice _ _
  · unfold constA at h
    split at h
    · split at h
      · rename_i hd
        cases h
        obtain ⟨c1, e, hr⟩ := decC_sound (I := I) (w := w) (μ := μ) _ _ _ _ hd
        rw [List.append_nil] at e
        exact ⟨c1, by rw [← e, Array.toArray_toList], hr⟩
      · cases h
    · cases h
  · cases h; exact ⟨_, rfl⟩
  · cases h

variable {X : Nat → Prop} {c : Ctx} {ρ : Nat → Rm} {s : St} {a : Act}

theorem get_sound (H : RelX X c I μ ρ s a w) (t : Nat) : R I w μ (s.get t).ty false (s.get t).x [a.eval (.tmp t)] := by
  unfold St.get
  show R I w μ _ _ _ [a.tmps.getD t undef]
  cases h : s.tmps[t]? with
  | none => rw [nth_none h]; exact ⟨_, rfl⟩
  | some v =>
    rw [nth_get h]
    obtain ⟨u, hu, hr⟩ := H.slots t v h
    rw [Array.getD_eq_getD_getElem?, hu]
    exact hr

theorem opd_sound (H : RelX X c I μ ρ s a w) {T : Option Ty} {x : Operand} {y : AV} (h : opd s T x = some y) : R I w μ y.ty false y.x [a.eval x] := by
  cases x with
  | tmp t => simp only [opd] at h; cases h; exact get_sound H t
  | const v => exact constV_sound h
  | func f => simp only [opd] at h; cases h; exact ⟨[], [], rfl, rfl, rfl⟩
  | global g => simp [opd] at h

theorem constV_cap {T : Option Ty} {v : Value} {y : AV} (h : constV T v = some y) (t : Ty) (ht : y.ty = .sl t) : v = .slice none 0 0 := by
  unfold constV at h
  split at h
  · cases h; cases ht
  · cases h; cases ht
  · cases h; cases ht
  · rfl
  · unfold constA at h
    split at h
    · split at h
      · cases h; cases ht
      · cases h
    · cases h
  · cases h; cases ht
  · cases h

theorem opdCap_sound (H : RelI c I μ ρ s a w) {T : Option Ty} {x : Operand} {y : AV} (h : opd s T x = some y) : CapAt c I μ ρ s w y (a.eval x) (opdCap s x) := by
  cases x with
  | tmp t =>
    simp only [opd] at h
    cases h
    show CapAt _ _ _ _ _ _ _ _ (.dup (s.cap t))
    cases hc : s.cap t with
    | none => exact trivial
    | some p =>
      intro u hu
      unfold St.cap at hc
      cases h : s.cp[t]? with
      | none => rw [nth_none h] at hc; cases hc
      | some q =>
        rw [nth_get h] at hc
        subst hc
        obtain ⟨v, t', u', h1, h2, h3, h4, h5⟩ := H.caps t p h
        have e : s.get t = v := nth_get h1
        rw [e, h2] at hu
        cases hu
        refine ⟨⟨t, h⟩, h4, ?_⟩
        show a.tmps.getD t undef = _
        rw [Array.getD_eq_getD_getElem?, h3, ← h5]; rfl
  | const v =>
    intro t ht
    have := constV_cap h t ht
    subst this
    exact ⟨⟨none, 0, 0, t.csize⟩, rfl, rfl, .inl rfl, fun q _ => .inl rfl⟩
  | func f => exact trivial
  | global g => simp [opd] at h

end Go.Ev

set_option linter.unusedVariables false
namespace Go.Ev
open Go.RowKit

def isAggD : TypeDesc → Bool
  | .struct _ | .array _ _ => true
  | _ => false

def okTy (t : Ty) : Bool := t.leaf || t.isTop || t.isSt

structure TyOK (P : Program) (E : Env) (T : Nat) (t : Ty) : Prop where
  ok : okTy t = true
  und : ∃ d, P.underlying T = some d ∧ isAggD d = t.isSt
  info : ∃ i v, P.info? T = some i ∧ i.size = t.csize ∧ i.zero = some v ∧ (t.isTop = true → Value.one v = true) ∧ ∀ z, t.zero = some z → ∀ I w μ, R I w μ t false z [v]
  int : ∀ k, t = .int k → P.underlying T = some (.int k)
  str : t = .str → P.underlying T = some .string
  bool : t = .bool → P.underlying T = some .bool
  sl : ∀ u, t = .sl u → ∃ e, P.underlying T = some (.slice e) ∧ E.ty e = some u
  st : ∀ u, t = .st u → (∃ fs, P.underlying T = some (.struct fs) ∧ fs.size = chainLen u ∧ ∀ f, f < chainLen u → ∃ fd tf, fs[f]? = some fd ∧ fieldTy u f = some tf ∧ fd.offset = fieldOff u f ∧ fd.name ≠ "_" ∧ E.ty fd.type = some tf ∧ 0 < tf.csize) ∨
    (∃ n e, P.underlying T = some (.array n e) ∧ n = chainLen u ∧ 0 < n ∧ E.ty e = some (chainHd u) ∧ ∀ f, f < n → fieldTy u f = some (chainHd u) ∧ fieldOff u f = f * (chainHd u).csize)

structure CtrOK (P : Program) (c : Ctr) : Prop where
  calls : ∀ (I : Im) (w : World) (x : c.a.den) (us : List Value) (y : c.r.den), (∀ b o, I b o → b < w.heap.size) → R I w [] c.a false x us → c.G x = some y →
    Calls P c.f us.toArray w fun e w' => ∃ u, e = .returned u ∧ R (fun b o => I b o ∨ (w.heap.size ≤ b ∧ b < w'.heap.size)) w' [] c.r false y [u] ∧ Below w.heap.size w w'

structure EnvOK (P : Program) (E : Env) : Prop where
  tys : ∀ T t, E.ty T = some t → TyOK P E T t
  lims : ∀ T n e, look E.lim T = some n → P.underlying T = some (.slice e) → ∃ i, P.info? e = some i ∧ i.bytes = n ∧ 0 < n
  ctrs : ∀ c, c ∈ E.ctr → CtrOK P c
  fns : ∀ f fn, look E.fns f = some fn → P.funcs[f]? = some fn ∧ fn.name ≠ "runtime.NumGoroutine"
  strs : ∀ S, S ∈ E.strs → ∃ fs, P.underlying S = some (.struct fs)
  arrs : ∀ S, S ∈ E.arrs → ∃ n e, P.underlying S = some (.array n e)
  eqst : ∀ S t, S ∈ E.eqs → E.ty S = some (.st t) → P.eqGuardType P.depth S = false ∧ ∀ (I : Im) (w : World) (μ : List Nat) (x y : t.den) (u v : Value) (q : Bool), R I w μ (.st t) false x [u] → R I w μ (.st t) false y [v] → beqD t x y = some q → (Op.equalIn 10000 S u v).run P w = .ok q w
  cfns : ∀ c, c ∈ E.ctr → ∃ fn, P.funcs[c.f]? = some fn ∧ fn.name ≠ "runtime.NumGoroutine" ∧ fn.body.isSome = true

variable {P : Program} {E : Env} {I : Im} {w : World} {μ : List Nat}

theorem run_isAgg {T : Nat} {d : TypeDesc} (h : P.underlying T = some d) : (isAgg T).run P w = .ok (isAggD d) w := by
  unfold isAgg
  simp only [Sem.run_bind, run_underlying h, Result.andThen_ok]
  cases d <;> rfl

theorem run_typeInfo {T : Nat} {i : TypeInfo} (h : P.info? T = some i) : (typeInfo T).run P w = .ok i w := by
  unfold typeInfo
  simp [program, Sem.run, h]

theorem run_sizeOf {T : Nat} {i : TypeInfo} (h : P.info? T = some i) : (sizeOf T).run P w = .ok i.size w := by
  unfold sizeOf
  simp only [Sem.run_bind, run_typeInfo h, Result.andThen_ok]; rfl

theorem run_zeroValue {T : Nat} {i : TypeInfo} {v : Value} (h : P.info? T = some i) (hz : i.zero = some v) : (zeroValue T).run P w = .ok v w := by
  unfold zeroValue
  simp only [Sem.run_bind, run_typeInfo h, Result.andThen_ok, hz]; rfl

theorem run_load_some {a : Addr} {v : Value} (h : w.cell? a = some v) : (load a).run P w = .ok v w := by
  simp only [run_load, h]

/-- a load of a whole value -/
theorem run_loadVar_at {T : Nat} {t : Ty} (ht : TyOK P E T t) {u : Ty} (hu : t = u ∨ (t = .top ∧ u.leaf = true)) {ad : Addr} {cs : List Value} {x : u.den} (hr : R I w μ u true x cs)
    (hc : ∀ (j : Nat) v, cs[j]? = some v → w.cell? (ad.add j) = some v) : ∃ v, (loadVar T ad).run P w = .ok v w ∧ R I w μ u false x [v] := by
  obtain ⟨d, hd, hag⟩ := ht.und
  obtain ⟨i, z, hi, hsz, _⟩ := ht.info
  have hlen := R.size u x cs hr
  unfold loadVar
  simp only [Sem.run_bind, run_isAgg hd, Result.andThen_ok, hag]
  by_cases hst : t.isSt = true
  · -- an aggregate
    obtain rfl : t = u := by
      rcases hu with h | ⟨h, _⟩
      · exact h
      · rw [h] at hst; cases hst
    have hcs : (loadCells ad t.csize).run P w = .ok cs.toArray w := by
      have := run_loadCells_list (P := P) (w := w) ad cs hc
      rw [hlen] at this; exact this
    rw [hst]
    simp only [if_true, Sem.run_bind, run_sizeOf hi, Result.andThen_ok, hsz, hcs]
    refine ⟨_, rfl, ?_⟩
    cases t <;> simp [Ty.isSt] at hst
    exact ⟨cs, rfl, hr⟩
  · obtain ⟨v, rfl, h2⟩ : ∃ v, cs = [v] ∧ R I w μ u false x [v] := by
      by_cases hleaf : u.leaf = true
      · obtain ⟨v, e, h1, h2⟩ := R.leaf u hleaf x true cs hr
        subst e
        exact ⟨v, rfl, h2 false⟩
      · rcases hu with h | ⟨_, h⟩
        · subst h
          have := ht.ok
          unfold okTy at this
          simp only [Bool.or_eq_true] at this
          rcases this with (h | h) | h
          · exact absurd h hleaf
          · cases t <;> simp [Ty.isTop] at h
            obtain ⟨v, e⟩ := hr
            exact ⟨v, e, v, rfl⟩
          · exact absurd h hst
        · exact absurd h hleaf
    have : t.isSt = false := by simpa using hst
    rw [this]
    have hc0 := hc 0 v rfl
    rw [Addr.add_zero'] at hc0
    simp only [Bool.false_eq_true, if_false, run_load_some hc0]
    exact ⟨v, rfl, h2⟩

theorem proj_pr_zero (a b : Ty) (x : (Ty.pr a b).den) : proj (.pr a b) x 0 = some ⟨a, x.1⟩ := rfl
theorem proj_pr_succ (a b : Ty) (x : (Ty.pr a b).den) (n : Nat) : proj (.pr a b) x (n + 1) = proj b x.2 n := rfl
theorem fieldTy_pr_zero (a b : Ty) : fieldTy (.pr a b) 0 = some a := rfl
theorem fieldTy_pr_succ (a b : Ty) (n : Nat) : fieldTy (.pr a b) (n + 1) = fieldTy b n := rfl
theorem fieldOff_pr_succ (a b : Ty) (n : Nat) : fieldOff (.pr a b) (n + 1) = a.csize + fieldOff b n := rfl
theorem fieldOff_zero (a : Ty) : fieldOff a 0 = 0 := by cases a <;> rfl

def isPr : Ty → Bool
  | .pr _ _ => true
  | _ => false
theorem proj_other {t : Ty} (h : isPr t = false) (x : t.den) (n : Nat) (y : AV) (e : proj t x n = some y) : n = 0 ∧ y = ⟨t, x⟩ := by
  cases n with
  | zero => cases t <;> first | exact ⟨rfl, by injection e with e; exact e.symm⟩ | exact absurd h (by simp [isPr])
  | succ n => cases t <;> first | exact absurd e (by show ¬ (none = _); simp) | exact absurd h (by simp [isPr])

/-- a part of a value's cells -/
theorem proj_cells : ∀ (t : Ty) (x : t.den) (cs : List Value) (n : Nat) (y : AV), R I w μ t true x cs → proj t x n = some y →
    fieldTy t n = some y.ty ∧ ∃ c1 c2 c3, cs = c1 ++ c2 ++ c3 ∧ c1.length = fieldOff t n ∧ R I w μ y.ty true y.x c2 := by
  intro t
  induction t with
  | pr a b iha ihb =>
    rintro x cs n y ⟨d1, d2, rfl, h1, h2, _⟩ hp
    cases n with
    | zero =>
      rw [proj_pr_zero] at hp
      injection hp with hp; subst hp
      exact ⟨rfl, [], d1, d2, rfl, (fieldOff_zero _).symm, h1⟩
    | succ n =>
      rw [proj_pr_succ] at hp
      obtain ⟨e, c1, c2, c3, e1, e2, e3⟩ := ihb x.2 d2 n y h2 hp
      refine ⟨e, d1 ++ c1, c2, c3, by rw [e1]; simp, ?_, e3⟩
      rw [List.length_append, R.size _ _ _ h1, e2, fieldOff_pr_succ]
  | _ =>
    intro x cs n y hr hp
    obtain ⟨rfl, rfl⟩ := proj_other rfl x n y hp
    exact ⟨rfl, [], cs, [], by simp, (fieldOff_zero _).symm, hr⟩

/-- a component of a tuple -/
theorem proj_vals : ∀ (t : Ty) (x : t.den) (cs : List Value) (n : Nat) (y : AV), R I w μ t false x cs → proj t x n = some y → y.ty.single = true →
    ∃ v, cs[n]? = some v ∧ R I w μ y.ty false y.x [v] := by
  intro t
  induction t with
  | pr a b iha ihb =>
    rintro x cs n y ⟨d1, d2, rfl, h1, h2, h3⟩ hp hs
    have h3 := h3 rfl
    obtain ⟨v, rfl⟩ : ∃ v, d1 = [v] := by
      cases d1 with
      | nil => cases h3
      | cons v l => cases l with
        | nil => exact ⟨v, rfl⟩
        | cons _ _ => simp at h3
    cases n with
    | zero =>
      rw [proj_pr_zero] at hp
      injection hp with hp; subst hp
      exact ⟨v, rfl, h1⟩
    | succ n =>
      rw [proj_pr_succ] at hp
      obtain ⟨u, e1, e3⟩ := ihb x.2 d2 n y h2 hp hs
      exact ⟨u, by simpa using e1, e3⟩
  | _ =>
    intro x cs n y hr hp hs
    obtain ⟨rfl, rfl⟩ := proj_other rfl x n y hp
    obtain ⟨v, rfl⟩ := R.single _ hs _ _ hr
    exact ⟨v, rfl, hr⟩
end Go.Ev

set_option linter.unusedVariables false
namespace Go.Ev
open Go.RowKit
variable {P : Program} {E : Env} {I : Im} {w : World} {μ : List Nat}

theorem getOff_st (want t : Ty) (x : (Ty.st t).den) (off : Nat) : getOff want (.st t) x off = if off = 0 ∧ want = .st t then some ⟨.st t, x⟩ else getOff want t (x : t.den) off := rfl
theorem getOff_pr (want a b : Ty) (x : (Ty.pr a b).den) (off : Nat) : getOff want (.pr a b) x off = if off < a.csize then getOff want a x.1 off else getOff want b x.2 (off - a.csize) := rfl
def isStPr : Ty → Bool
  | .pr _ _ | .st _ => true
  | _ => false
theorem getOff_other (want t : Ty) (h : isStPr t = false) (x : t.den) (off : Nat) : getOff want t x off = if off = 0 ∧ t.leaf = true ∧ (want = .top ∨ want = t) then some ⟨t, x⟩ else none := by
  cases t <;> first | rfl | cases h

theorem getOff_sound (want : Ty) : ∀ (t : Ty) (x : t.den) (cs : List Value) (off : Nat) (v : AV), R I w μ t true x cs → getOff want t x off = some v →
    (want = v.ty ∨ (want = .top ∧ v.ty.leaf = true)) ∧ ∃ c1 c2 c3, cs = c1 ++ c2 ++ c3 ∧ c1.length = off ∧ R I w μ v.ty true v.x c2 := by
  intro t
  induction t with
  | pr a b iha ihb =>
    rintro x cs off v ⟨d1, d2, rfl, h1, h2, _⟩ hg
    rw [getOff_pr] at hg
    have hl := R.size _ _ _ h1
    split at hg
    · obtain ⟨e, c1, c2, c3, e1, e2, e3⟩ := iha x.1 d1 off v h1 hg
      exact ⟨e, c1, c2, c3 ++ d2, by rw [e1]; simp, e2, e3⟩
    · obtain ⟨e, c1, c2, c3, e1, e2, e3⟩ := ihb x.2 d2 _ v h2 hg
      exact ⟨e, d1 ++ c1, c2, c3, by rw [e1]; simp, by rw [List.length_append]; omega, e3⟩
  | st t ih =>
    intro x cs off v hr hg
    rw [getOff_st] at hg
    split at hg
    · rename_i hc
      injection hg with hg; subst hg
      exact ⟨.inl hc.2, [], cs, [], by simp, by simp [hc.1], hr⟩
    · exact ih x cs off v hr hg
  | _ =>
    intro x cs off v hr hg
    rw [getOff_other _ _ rfl] at hg
    split at hg
    · rename_i hc
      injection hg with hg; subst hg
      refine ⟨?_, [], cs, [], by simp, by simp [hc.1], hr⟩
      rcases hc.2.2 with h | h
      · exact .inr ⟨h, hc.2.1⟩
      · exact .inl h
    · cases hg

theorem setOff_st (v : AV) (t : Ty) (x y : t.den) (off : Nat) (h : setOff v (.st t) x off = some y) : (off = 0 ∧ castTo (.st t) v = some y) ∨ setOff v t x off = some y := by
  have k : ∀ (p : Prop) (i : Decidable p) (A B C : Option t.den), @ite _ p i A B = C → (p ∧ A = C) ∨ B = C := by
    intro p i A B C hh
    by_cases hp : p
    · rw [if_pos hp] at hh; exact .inl ⟨hp, hh⟩
    · rw [if_neg hp] at hh; exact .inr hh
  rcases k _ _ (castTo (.st t) v) (setOff v t x off) (some y) h with h | h
  · exact .inl ⟨h.1.1, h.2⟩
  · exact .inr h
theorem setOff_pr (v : AV) (a b : Ty) (x : (Ty.pr a b).den) (off : Nat) : setOff v (.pr a b) x off =
    if off < a.csize then (setOff v a x.1 off).map fun y => (y, x.2) else (setOff v b x.2 (off - a.csize)).map fun y => (x.1, y) := rfl
theorem setOff_other (v : AV) (t : Ty) (h : isStPr t = false) (x : t.den) (off : Nat) : setOff v t x off = if off = 0 ∧ t.leaf = true then castTo t v else none := by
  cases t <;> first | rfl | cases h

theorem setOff_sound (v : AV) (vs : List Value) (hv : R I w μ v.ty true v.x vs) : ∀ (t : Ty) (x y : t.den) (cs : List Value) (off : Nat), R I w μ t true x cs → setOff v t x off = some y →
    ∃ c1 c2 c3, cs = c1 ++ c2 ++ c3 ∧ c1.length = off ∧ c2.length = vs.length ∧ R I w μ t true y (c1 ++ vs ++ c3) := by
  intro t
  induction t with
  | pr a b iha ihb =>
    rintro x y cs off ⟨d1, d2, rfl, h1, h2, _⟩ hg
    rw [setOff_pr] at hg
    have hl := R.size _ _ _ h1
    split at hg
    · cases hs : setOff v a x.1 off with
      | none => rw [hs] at hg; cases hg
      | some z =>
        rw [hs] at hg
        have e : (z, x.2) = y := by injection hg
        subst e
        obtain ⟨c1, c2, c3, e1, e2, e3, e4⟩ := iha _ _ _ _ h1 hs
        exact ⟨c1, c2, c3 ++ d2, by rw [e1]; simp, e2, e3, c1 ++ vs ++ c3, d2, by simp, e4, h2, fun h => by cases h⟩
    · cases hs : setOff v b x.2 (off - a.csize) with
      | none => rw [hs] at hg; cases hg
      | some z =>
        rw [hs] at hg
        have e : (x.1, z) = y := by injection hg
        subst e
        obtain ⟨c1, c2, c3, e1, e2, e3, e4⟩ := ihb _ _ _ _ h2 hs
        exact ⟨d1 ++ c1, c2, c3, by rw [e1]; simp, by rw [List.length_append]; omega, e3, d1, c1 ++ vs ++ c3, by simp, h1, e4, fun h => by cases h⟩
  | st t ih =>
    intro x y cs off hr hg
    rcases setOff_st v t x y off hg with ⟨h0, hc⟩ | hg
    · have e := castTo_some hc
      subst e
      exact ⟨[], cs, [], by simp, by simp [h0], by rw [R.size _ _ _ hr, R.size _ _ _ hv], by simpa using hv⟩
    · exact ih x y cs off hr hg
  | _ =>
    intro x y cs off hr hg
    rw [setOff_other _ _ rfl] at hg
    split at hg
    · rename_i hc
      have e := castTo_some hg
      subst e
      exact ⟨[], cs, [], by simp, by simp [hc.1], by rw [R.size _ _ _ hr, R.size _ _ _ hv], by simpa using hv⟩
    · cases hg

/-- values that are one cell, or an aggregate: their cells -/
theorem R_cells {t : Ty} {x : t.den} {u : Value} (h : R I w μ t false x [u]) (ht : t.leaf = true ∨ t.isSt = true) : R I w μ t true x u.cells.toList := by
  rcases ht with ht | ht
  · obtain ⟨v, e, h1, h2⟩ := R.leaf t ht x false [u] h
    cases e
    have : u.cells.toList = [u] := by cases u <;> first | rfl | cases h1
    rw [this]; exact h2 true
  · cases t <;> simp [Ty.isSt] at ht
    obtain ⟨arr, e, h⟩ := h
    cases e
    have e : (Value.agg arr.toArray).cells.toList = arr := by simp [Value.cells]
    rw [e]
    exact h

theorem one_oneCell' {v : Value} (h : Value.one v = true) : v.oneCell' = true := by cases v <;> first | rfl | cases h

theorem R_ones : ∀ (t : Ty) (x : t.den) (cs : List Value), t.cellok = true → R I w μ t true x cs → ∀ v, v ∈ cs → v.oneCell' = true := by
  intro t
  induction t with
  | pr a b iha ihb =>
    rintro x cs ht ⟨c1, c2, rfl, h1, h2, _⟩ v hv
    simp only [Ty.cellok, Bool.and_eq_true] at ht
    rcases List.mem_append.1 hv with h | h
    · exact iha _ _ ht.1 h1 v h
    · exact ihb _ _ ht.2 h2 v h
  | st t ih => intro x cs ht h v hv; exact ih x cs ht h v hv
  | unit => intro x cs ht h v hv; cases h; cases hv
  | top => intro x cs ht; cases ht
  | undef => intro x cs ht; cases ht
  | tup t _ => intro x cs ht; cases ht
  | ob => intro x cs ht; cases ht
  | _ =>
    intro x cs ht h v hv
    obtain ⟨u, rfl, h1, _⟩ := R.leaf _ rfl x true cs h
    simp at hv; subst hv
    exact one_oneCell' h1

theorem RAll_ones (t : Ty) (ht : t.cellok = true) : ∀ (l : List t.den) (cs : List Value), RAll (R I w μ t true) l cs → ∀ v, v ∈ cs → v.oneCell' = true
  | [], cs, h, v, hv => by cases h; cases hv
  | x :: l, cs, ⟨c1, c2, e, h1, h2⟩, v, hv => by
    subst e
    rcases List.mem_append.1 hv with h | h
    · exact R_ones t x c1 ht h1 v h
    · exact RAll_ones t ht l c2 h2 v h

theorem RAll_size (t : Ty) : ∀ (l : List t.den) (cs : List Value), RAll (R I w μ t true) l cs → cs.length = l.length * t.csize
  | [], cs, h => by cases h; simp
  | x :: l, cs, ⟨c1, c2, e, h1, h2⟩ => by
    subst e
    rw [List.length_append, R.size _ _ _ h1, RAll_size t l c2 h2, List.length_cons, Nat.add_mul, Nat.one_mul, Nat.add_comm]

theorem RAll_append {α : Type} {Q : α → List Value → Prop} : ∀ (l m : List α) (c d : List Value), RAll Q l c → RAll Q m d → RAll Q (l ++ m) (c ++ d)
  | [], m, c, d, h, k => by cases h; exact k
  | x :: l, m, c, d, ⟨c1, c2, e, h1, h2⟩, k => ⟨c1, c2 ++ d, by rw [e, List.append_assoc], h1, RAll_append l m c2 d h2 k⟩

theorem RAll_split {α : Type} {Q : α → List Value → Prop} : ∀ (l m : List α) (c : List Value), RAll Q (l ++ m) c → ∃ c1 c2, c = c1 ++ c2 ∧ RAll Q l c1 ∧ RAll Q m c2
  | [], m, c, h => ⟨[], c, rfl, rfl, h⟩
  | x :: l, m, c, ⟨c1, c2, e, h1, h2⟩ => by
    obtain ⟨d1, d2, e2, h3, h4⟩ := RAll_split l m c2 h2
    exact ⟨c1 ++ d1, d2, by rw [e, e2, List.append_assoc], ⟨c1, d1, rfl, h1, h3⟩, h4⟩

/-- the i-th of a row -/
theorem RAll_get (t : Ty) (l : List t.den) (cs : List Value) (h : RAll (R I w μ t true) l cs) (i : Nat) (y : t.den) (hy : l[i]? = some y) :
    ∃ c1 c2 c3, cs = c1 ++ c2 ++ c3 ∧ c1.length = i * t.csize ∧ R I w μ t true y c2 := by
  have hl : i < l.length := (List.getElem?_eq_some_iff.1 hy).1
  have e : l = l.take i ++ y :: l.drop (i + 1) := by
    have : l.drop i = y :: l.drop (i + 1) := by
      rw [List.drop_eq_getElem_cons hl, (List.getElem?_eq_some_iff.1 hy).2]
    rw [← this, List.take_append_drop]
  rw [e] at h
  obtain ⟨c1, c2, e1, h1, d1, d2, e2, h2, h3⟩ := RAll_split _ _ _ h
  refine ⟨c1, d1, d2, by rw [e1, e2, List.append_assoc], ?_, h2⟩
  rw [RAll_size t _ _ h1, List.length_take, Nat.min_eq_left (Nat.le_of_lt hl)]
end Go.Ev

set_option linter.unusedVariables false
namespace Go.Ev
open Go.RowKit
variable {P : Program} {E : Env} {I : Im} {w : World} {μ : List Nat} {c : Ctx} {ρ : Nat → Rm} {s : St} {a : Act} {o : Oper} {T : Type}

/-- a frame's fence: its own, or a round's of a loop over a function -/
def FR (ro : Option Nat) : Fence := { Fence.wide with round := ro }

def Yields (P : Program) (o : Oper) (a : Act) (w : World) (Q : Value → World → Prop) : Prop :=
  match (execOp a.eval o).run P w with
  | .ok (.value u) w' => Q u w'
  | .ok .skip w' => Q undef w'
  | .ok (.enter f args) w' => Calls P f args w' fun e w'' => ∃ u, e = .returned u ∧ Q u w''
  | .ok (.round l f tmps assign body) w' => ∀ (ro : Option Nat) (m : Nat), RoundIn (FR ro) m P l f tmps assign body w' fun e w'' => ∃ u, e = .returned u ∧ Q u w''
  | _ => False

theorem FR_none : FR none = Fence.wide := rfl
theorem callsIn_FR {ro : Option Nat} {n f : Nat} {args : Array Value} {R : Ending → World → Prop} (h : Calls P f args w R) : CallsIn (FR ro) n P f args w R := by
  have h := (callsIn_wide (n := n)).2 h
  cases ro with
  | none => exact h
  | some l => exact CallsIn.inRound l h

theorem wpIn_of_yields {ro : Option Nat} {n : Nat} {Q : Value → World → Prop} {next : Act → World → Prop} {Qx : Exit → Act → World → Prop} (hd : ∀ cl, o.op ≠ .defer cl) (h : Yields P o a w Q) (hn : ∀ u w', Q u w' → next (a.put o.dst u) w') : o.wpIn (FR ro) n P a w next Qx := by
  refine ⟨fun _ _ => trivial, ?_⟩
  rw [Oper.semAt_eq _ _ _ hd]
  unfold Oper.uponIn
  unfold Yields at h
  split at h
  · rename_i h1; rw [h1]; exact hn _ _ h
  · rename_i h1; rw [h1]; exact hn _ _ h
  · rename_i h1
    rw [h1]
    refine ⟨(by intro k; cases k), callsIn_FR (h.mono ?_)⟩
    rintro e w'' ⟨u, rfl, hq⟩
    exact hn _ _ hq
  · rename_i h1
    rw [h1]
    refine ⟨(by intro k; cases k), (h ro _).mono ?_⟩
    rintro e w'' ⟨u, rfl, hq⟩
    exact hn _ _ hq
  · exact h.elim

def Out (K : AV → Cap → St → Option T) (r : T) (c : Ctx) (a : Act) (dst : Option Nat) (u : Value) (w' : World) : Prop :=
  ∃ v cap s' I' μ' ρ', K v cap s' = some r ∧ RelX (noTake cap) c I' μ' ρ' s' a w' ∧ R I' w' μ' v.ty false v.x [u] ∧ CapAt c I' μ' ρ' s' w' v u cap ∧
    (∀ p, cap = .taken p → v.ty.isSl = true ∧ dst.isSome = true)

theorem yields_value {Q : Value → World → Prop} {u : Value} {w' : World} (h : (execOp a.eval o).run P w = .ok (.value u) w') (hq : Q u w') : Yields P o a w Q := by
  unfold Yields; rw [h]; exact hq

theorem Out.no {K : AV → Cap → St → Option T} {r : T} {dst : Option Nat} {u : Value} {v : AV} (h : K v .no s = some r) (H : RelI c I μ ρ s a w) (hr : R I w μ v.ty false v.x [u]) : Out K r c a dst u w :=
  ⟨v, .no, s, I, μ, ρ, h, H.toX _, hr, trivial, fun p e => by cases e⟩

theorem opdCap_not_taken {x : Operand} (p : Nat) : opdCap s x ≠ .taken p := by cases x <;> simp [opdCap]

theorem move_sound {K : AV → Cap → St → Option T} {r : T} {x : Operand} (H : RelI c I μ ρ s a w) (ho : o.op = .move x ∨ o.op = .assign x)
    (h : (match opd s (E.ty o.type) x with | some ⟨t, y⟩ => K ⟨t, y⟩ (opdCap s x) s | none => none) = some r) : Yields P o a w (Out K r c a o.dst) := by
  cases hx : opd s (E.ty o.type) x with
  | none => rw [hx] at h; cases h
  | some v =>
    rw [hx] at h
    have hrun : (execOp a.eval o).run P w = .ok (.value (a.eval x)) w := by
      rcases ho with ho | ho <;> (unfold execOp; rw [ho]; rfl)
    refine yields_value hrun ⟨v, opdCap s x, s, I, μ, ρ, h, H.toX _, opd_sound H hx, opdCap_sound H hx, fun p e => absurd e (opdCap_not_taken p)⟩

theorem bool_of_R {x : Bool} {u : Value} (h : R I w μ .bool false x [u]) : u = .bool x := by cases h; rfl
theorem int_of_R {k : IntKind} {x : Int} {u : Value} (h : R I w μ (.int k) false x [u]) : u = .int k x := by cases h; rfl
theorem str_of_R {x : ByteArray} {u : Value} (h : R I w μ .str false x [u]) : u = .string x := by cases h; rfl

theorem br_some {α : Type} {c : Bool} {x y : Option α} {r : α} (h : br c x y = some r) : (c = true ∧ x = some r) ∨ (c = false ∧ y = some r) := by
  cases c
  · exact .inr ⟨rfl, h⟩
  · exact .inl ⟨rfl, h⟩

theorem R_br {t : Ty} {q : Bool} {x y : t.den} {u v : Value} (h1 : R I w μ t false x [u]) (h2 : R I w μ t false y [v]) : R I w μ t false (br q x y) [br q u v] := by
  cases q
  · exact h2
  · exact h1

theorem asB_some {v : Option AV} {q : Bool} (h : asB v = some q) : v = some (.bool q) := by
  unfold asB at h
  split at h
  · injection h with h; subst h; rfl
  · cases h
theorem asN_some {v : Option AV} {k : IntKind} {n : Int} (h : asN v = some (k, n)) : v = some (.int k n) := by
  unfold asN at h
  split at h
  · injection h with h; injection h with h1 h2; subst h1; subst h2; rfl
  · cases h

theorem opd_bool (H : RelI c I μ ρ s a w) {T : Option Ty} {x : Operand} {q : Bool} (h : asB (opd s T x) = some q) : a.eval x = .bool q :=
  bool_of_R (opd_sound H (asB_some h))
theorem opd_int (H : RelI c I μ ρ s a w) {T : Option Ty} {x : Operand} {k : IntKind} {q : Int} (h : asN (opd s T x) = some (k, q)) : a.eval x = .int k q :=
  int_of_R (opd_sound H (asN_some h))

theorem pick_sound {K : AV → Cap → St → Option T} {r : T} {x y z : Operand} (H : RelI c I μ ρ s a w) (ho : o.op = .pick x y z)
    (h : (match asB (opd s none x), opd s (E.ty o.type) y, opd s (E.ty o.type) z with
    | some q, some va, some vb =>
      match castTo va.ty vb with
      | some y => K ⟨va.ty, br q va.x y⟩ .no s
      | none => br q (K va .no s) (K vb .no s)
    | _, _, _ => none) = some r) : Yields P o a w (Out K r c a o.dst) := by
  cases hx : asB (opd s none x) with
  | none => rw [hx] at h; cases h
  | some q =>
  cases hy : opd s (E.ty o.type) y with
  | none => rw [hx, hy] at h; cases h
  | some va =>
  cases hz : opd s (E.ty o.type) z with
  | none => rw [hx, hy, hz] at h; cases h
  | some vb =>
    rw [hx, hy, hz] at h
    simp only at h
    have ry := opd_sound H hy
    have rz := opd_sound H hz
    have hrun : (execOp a.eval o).run P w = .ok (.value (br q (a.eval y) (a.eval z))) w := by
      unfold execOp; rw [ho]
      simp only [Sem.run_bind, opd_bool H hx, asBool, Sem.run_pure, Result.andThen_ok]
      cases q <;> rfl
    refine yields_value hrun ?_
    cases hc : castTo va.ty vb with
    | some y' =>
      rw [hc] at h
      have := castTo_some hc
      subst this
      exact Out.no h H (R_br ry rz)
    | none =>
      rw [hc] at h
      rcases br_some h with ⟨hq, h⟩ | ⟨hq, h⟩
      · subst hq; exact Out.no h H ry
      · subst hq; exact Out.no h H rz

theorem not_sound {K : AV → Cap → St → Option T} {r : T} {t : Nat} {x : Operand} {b : Bool} (H : RelI c I μ ρ s a w) (ho : o.op = .unOp .not t x)
    (hx : asB (opd s none x) = some b) (h : K (.bool !b) .no s = some r) : Yields P o a w (Out K r c a o.dst) := by
  refine yields_value (u := .bool !b) (w' := w) ?_ (Out.no h H rfl)
  unfold execOp; rw [ho]
  simp only [Sem.run_bind, opd_bool H hx, Op.unary, Sem.run_pure, Result.andThen_ok]

theorem neg_sound {K : AV → Cap → St → Option T} {r : T} {t : Nat} {x : Operand} {k : IntKind} {n : Int} (H : RelI c I μ ρ s a w) (ho : o.op = .unOp .neg t x)
    (hx : asN (opd s none x) = some (k, n)) (h : K (.int k (negI k n)) .no s = some r) : Yields P o a w (Out K r c a o.dst) := by
  refine yields_value (u := .int k (negI k n)) (w' := w) ?_ (Out.no h H rfl)
  unfold execOp; rw [ho]
  simp only [Sem.run_bind, opd_int H hx, Op.unary, Op.intArith, Sem.run_pure, Result.andThen_ok, negI]

theorem isFn_sound {t : Ty} (ht : isFn t = true) {x : t.den} {u : Value} (h : R I w μ t false x [u]) :
    (∃ f va vc, u = .func (.func f) va vc) ∨ ∃ ad, u = .pointer (some ad) := by
  cases t with
  | fn f a b => obtain ⟨va, vc, e, _⟩ := h; cases e; exact .inl ⟨_, _, _, rfl⟩
  | box i off => obtain ⟨b, _, e⟩ := h; cases e; exact .inr ⟨_, rfl⟩
  | boxv i off => obtain ⟨b, _, _, _, e⟩ := h; cases e; exact .inr ⟨_, rfl⟩
  | ref t => obtain ⟨b, _, e, _⟩ := h; cases e; exact .inr ⟨_, rfl⟩
  | _ => cases ht

theorem nilCheck_sound {K : AV → Cap → St → Option T} {r : T} {x : Operand} (H : RelI c I μ ρ s a w) (ho : o.op = .nilCheck x)
    (h : (match opd s none x with | some ⟨t, y⟩ => bif isFn t then K ⟨t, y⟩ .no s else none | none => none) = some r) : Yields P o a w (Out K r c a o.dst) := by
  cases hx : opd s none x with
  | none => rw [hx] at h; cases h
  | some v =>
    rw [hx] at h
    obtain ⟨t, y⟩ := v
    simp only at h
    cases ht : isFn t with
    | false => rw [ht] at h; cases h
    | true =>
      rw [ht] at h
      have hr := opd_sound H hx
      refine yields_value (u := a.eval x) (w' := w) ?_ (Out.no h H hr)
      unfold execOp; rw [ho]
      rcases isFn_sound ht hr with ⟨f, va, vc, e⟩ | ⟨ad, e⟩ <;> (simp only [e]; rfl)

/-- a pointer's place: the block and the offset, and what is read there -/
theorem ptr_box {i off : Nat} {u : Value} (h : R I w μ (.box i off) false () [u]) : ∃ b, μ[i]? = some b ∧ u = .pointer (some ⟨b, off, none⟩) := by
  obtain ⟨b, hb, e⟩ := h; cases e; exact ⟨b, hb, rfl⟩
theorem ptr_boxv {i : Nat} {offs : List Nat} {j : Nat} {u : Value} (h : R I w μ (.boxv i offs) false j [u]) : ∃ b off, μ[i]? = some b ∧ offs[j]? = some off ∧ u = .pointer (some ⟨b, off, none⟩) := by
  obtain ⟨b, off, hb, ho, e⟩ := h; cases e; exact ⟨b, off, hb, ho, rfl⟩

theorem cell_at {b off : Nat} {cs : Array Value} {et : Nat} {fr : Nat × Nat} (h : w.heap[b]? = some (.cells cs et fr)) {c1 c2 c3 : List Value} (e : cs.toList = c1 ++ c2 ++ c3) (hl : c1.length = off) :
    ∀ (j : Nat) v, c2[j]? = some v → w.cell? ((⟨b, off, none⟩ : Addr).add j) = some v := by
  intro j v hv
  have : ((⟨b, off, none⟩ : Addr).add j) = ⟨b, off + j, none⟩ := by unfold Addr.add; split <;> simp_all
  rw [this]
  simp only [World.cell?, h]
  have : cs[off + j]? = some v := by
    rw [← Array.getElem?_toList, e, List.append_assoc, List.getElem?_append_right (by omega), hl, Nat.add_sub_cancel_left,
      List.getElem?_append_left (List.getElem?_eq_some_iff.1 hv).1]
    exact hv
  simpa using this

theorem fieldPlace_run {E : Env} (ad : Addr) (f : Field) {t : Ty} (ht : TyOK P E f.type t) (h : 0 < t.csize) : (fieldPlace ad f).run P w = .ok (ad.add f.offset) w := by
  obtain ⟨i, v, hi, hs, _⟩ := ht.info
  unfold fieldPlace
  simp only [Sem.run_bind, run_sizeOf hi, Result.andThen_ok, hs]
  rw [if_neg (by omega)]
  rfl
end Go.Ev

set_option linter.unusedVariables false
namespace Go.Ev
open Go.RowKit
variable {P : Program} {E : Env} {I : Im} {w : World} {μ : List Nat} {c : Ctx} {ρ : Nat → Rm} {s : St} {a : Act} {o : Oper} {T : Type}

theorem box_content {bs : List AV} (H : MemI c I μ bs w) {i b : Nat} (hb : μ[i]? = some b) : ∃ v, bs[i]? = some v ∧ nth .top bs i = v ∧
    (Idle c.rt v b w ∨ ∃ cs et, w.heap[b]? = some (.cells cs et (0, 0)) ∧ R I w μ v.ty true v.x cs.toList ∧ ∀ o, ¬ I b o) := by
  have hl : i < bs.length := by rw [H.blen]; exact (List.getElem?_eq_some_iff.1 hb).1
  refine ⟨bs[i], List.getElem?_eq_getElem hl, nth_get (List.getElem?_eq_getElem hl), H.boxes i _ b (List.getElem?_eq_getElem hl) hb⟩

theorem box_live {A B : Prop} (h : A ∨ B) : A ∨ (¬ A ∧ B) := by
  by_cases ha : A
  · exact .inl ha
  · exact .inr ⟨ha, h.resolve_left ha⟩

theorem getOff_undef (want : Ty) (v : AV) (off : Nat) (h : v.ty = .undef) : getOff want v.ty v.x off = none := by
  obtain ⟨vt, vx⟩ := v
  simp only at h; subst h
  show (if _ then _ else none) = none
  rw [if_neg (by simp [Ty.leaf])]

theorem getOff_idle {rt : Root} {v : AV} {b : Nat} (h : Idle rt v b w) (want : Ty) (off : Nat) : getOff want v.ty v.x off = none := by
  rcases h with h | ⟨j, rfl, _⟩
  · exact getOff_undef _ _ _ h
  · show (if _ then _ else none) = none
    rw [if_neg (by simp [Ty.leaf])]

theorem allSome_cons {α β : Type} (f : α → Option β) (a : α) (l : List α) : allSome f (a :: l) = (f a).bind fun b => (allSome f l).map fun m => b :: m := by
  show (match f a, allSome f l with | some b, some m => some (b :: m) | _, _ => none) = _
  cases f a <;> cases allSome f l <;> rfl

theorem getOffs_spec {want : Ty} {v : AV} {t : Ty} : ∀ (offs : List Nat) (l : List t.den), getOffs want v offs t = some l → ∀ (j : Nat) off, offs[j]? = some off → ∃ y, l[j]? = some y ∧ getOff want v.ty v.x off = some ⟨t, y⟩
  | [], l, h, j, off, hj => by simp at hj
  | o :: offs, l, h, j, off, hj => by
    unfold getOffs at h
    rw [allSome_cons] at h
    have h' := h
    cases hg : getOff want v.ty v.x o with
    | none => rw [hg] at h'; cases h'
    | some u =>
      rw [hg] at h'
      simp only at h'
      cases hc : castTo t u with
      | none => rw [hc] at h'; cases h'
      | some y =>
        rw [hc] at h'
        simp only [Option.bind_some] at h'
        cases hm : getOffs want v offs t with
        | none => unfold getOffs at hm; rw [hm] at h'; cases h'
        | some m =>
          have hm' := hm
          unfold getOffs at hm'; rw [hm'] at h'
          simp only [Option.map_some] at h'
          injection h' with h'; subst h'
          cases j with
          | zero =>
            simp at hj; subst hj
            exact ⟨y, rfl, by rw [hg, castTo_some hc]⟩
          | succ j => simp at hj; exact getOffs_spec offs _ hm j off hj

theorem run_loadAt_ptr {U : Nat} {ad : Addr} : (Instr.loadAt U (.pointer (some ad))).run P w = (loadVar U ad).run P w := by
  unfold Instr.loadAt
  simp only [Instr.sureAddr, Sem.run_bind, Sem.run_pure, Result.andThen_ok]

theorem loadK_sound (hE : EnvOK P E) (H : MemI c I μ s.boxes w) {U : Nat} {p : AV} {u : Value} {K : AV → Cap → Option T} {r : T} (hp : R I w μ p.ty false p.x [u]) (h : loadK E U s p K = some r) :
    ∃ v x, (Instr.loadAt U u).run P w = .ok v w ∧ R I w μ x.ty false x.x [v] ∧ K x .no = some r := by
  unfold loadK at h
  cases hU : E.ty U with
  | none => rw [hU] at h; cases h
  | some want =>
    rw [hU] at h
    simp only at h
    have ht := hE.tys U want hU
    obtain ⟨pt, px⟩ := p
    cases pt with
    | ref t =>
      simp only at h
      obtain ⟨ad, cells, e, hc, hr⟩ := hp
      cases e
      cases hb : (decide (want = t) || (decide (want = .top) && t.leaf)) with
      | false => rw [hb] at h; cases h
      | true =>
        rw [hb] at h
        have hu : want = t ∨ (want = .top ∧ t.leaf = true) := by simpa using hb
        obtain ⟨v, hv, hr'⟩ := run_loadVar_at ht hu hr (fun j v hj => (hc j v hj).1)
        exact ⟨v, ⟨t, px⟩, by rw [run_loadAt_ptr]; exact hv, hr', h⟩
    | box i off =>
      simp only at h
      obtain ⟨b, hb, rfl⟩ := ptr_box hp
      obtain ⟨v, _, hn, hv⟩ := box_content H hb
      rw [hn] at h
      cases hg : getOff want v.ty v.x off with
      | none => rw [hg] at h; cases h
      | some y =>
        rw [hg] at h
        rcases hv with hv | ⟨cs, et, hh, hr, _⟩
        · rw [getOff_idle hv] at hg; cases hg
        · obtain ⟨e, c1, c2, c3, e1, e2, e3⟩ := getOff_sound want v.ty v.x cs.toList off y hr hg
          obtain ⟨u, hu, hr'⟩ := run_loadVar_at ht e e3 (cell_at hh e1 e2)
          exact ⟨u, y, by rw [run_loadAt_ptr]; exact hu, hr', h⟩
    | boxv i offs =>
      simp only at h
      obtain ⟨b, off, hb, ho, rfl⟩ := ptr_boxv hp
      obtain ⟨v, _, hn, hv⟩ := box_content H hb
      rw [hn] at h
      cases offs with
      | nil => cases h
      | cons o1 ol =>
        simp only at h
        cases hg : getOff want v.ty v.x o1 with
        | none => rw [hg] at h; cases h
        | some y =>
          rw [hg] at h
          obtain ⟨t, y⟩ := y
          simp only at h
          cases hl : getOffs want v (o1 :: ol) t with
          | none => rw [hl] at h; cases h
          | some l =>
            rw [hl] at h
            simp only at h
            rcases hv with hv | ⟨cs, et, hh, hr, _⟩
            · rw [getOff_idle hv] at hg; cases hg
            · obtain ⟨z, hz, hgz⟩ := getOffs_spec _ _ hl _ _ ho
              obtain ⟨e, c1, c2, c3, e1, e2, e3⟩ := getOff_sound want v.ty v.x cs.toList off _ hr hgz
              obtain ⟨u, hu, hr'⟩ := run_loadVar_at ht e e3 (cell_at hh e1 e2)
              refine ⟨u, ⟨t, sel y l px⟩, by rw [run_loadAt_ptr]; exact hu, ?_, h⟩
              unfold sel
              rw [nth_get hz]
              exact hr'
    | _ => simp only at h; cases h

theorem load_sound (hE : EnvOK P E) {K : AV → Cap → St → Option T} {r : T} {U : Nat} {x : Operand} (H : RelI c I μ ρ s a w) (ho : o.op = .load U x)
    (h : (match opd s none x with | some p => loadK E U s p fun v c => K v c s | none => none) = some r) : Yields P o a w (Out K r c a o.dst) := by
  cases hx : opd s none x with
  | none => rw [hx] at h; cases h
  | some p =>
    rw [hx] at h
    obtain ⟨v, y, hv, hr, hK⟩ := loadK_sound hE H.mem (opd_sound H hx) h
    refine yields_value (u := v) (w' := w) ?_ (Out.no hK H hr)
    unfold execOp; rw [ho]
    simp only [Sem.run_bind, hv, Result.andThen_ok]; rfl

theorem extract_sound {K : AV → Cap → St → Option T} {r : T} {i : Nat} {x : Operand} (H : RelI c I μ ρ s a w) (ho : o.op = .extract x i)
    (h : (match opd s none x with
    | some ⟨.tup t, y⟩ => match proj t y i with
      | some ⟨u, z⟩ => bif u.single then K ⟨u, z⟩ .no s else none
      | none => none
    | _ => none) = some r) : Yields P o a w (Out K r c a o.dst) := by
  cases hx : opd s none x with
  | none => rw [hx] at h; cases h
  | some p =>
    rw [hx] at h
    have hr := opd_sound H hx
    obtain ⟨pt, px⟩ := p
    cases pt with
    | tup t =>
      simp only at h
      cases hp : proj t px i with
      | none => rw [hp] at h; cases h
      | some y =>
        rw [hp] at h
        obtain ⟨u, z⟩ := y
        simp only at h
        cases hs : u.single with
        | false => rw [hs] at h; cases h
        | true =>
          rw [hs] at h
          obtain ⟨arr, e, hr⟩ := hr
          obtain ⟨v, hv, hr'⟩ := proj_vals t px arr i ⟨u, z⟩ hr hp hs
          have e : a.eval x = .tuple arr.toArray := by injection e
          refine yields_value (u := v) (w' := w) ?_ (Out.no h H hr')
          unfold execOp; rw [ho]
          have : (arr.toArray)[i]? = some v := by simpa using hv
          simp only [Sem.run_bind, e, Instr.extract, this, Sem.run_pure, Result.andThen_ok]
    | _ => simp only at h; cases h

theorem fieldAt_run {S f : Nat} {fs : Array Field} {fd : Field} {t : Ty} {ad : Addr} (hS : P.underlying S = some (.struct fs)) (hf : fs[f]? = some fd) (ht : TyOK P E fd.type t) (hz : 0 < t.csize) :
    (Instr.fieldAt S (.pointer (some ad)) f).run P w = .ok (.pointer (some (ad.add fd.offset))) w := by
  unfold Instr.fieldAt
  simp only [Sem.run_bind, run_underlying hS, Result.andThen_ok, hf, Instr.sureAddr, Sem.run_pure, fieldPlace_run ad fd ht hz]

theorem add_lit (b o n : Nat) : Addr.add ⟨b, o, none⟩ n = ⟨b, o + n, none⟩ := by unfold Addr.add; split <;> simp_all

theorem cellsAt_part {ad : Addr} {cs c1 c2 c3 : List Value} {n : Nat} (h : cellsAt I w ad cs) (e : cs = c1 ++ c2 ++ c3) (hl : c1.length = n) (hne : 0 < c2.length) : cellsAt I w (ad.add n) c2 := by
  intro j v hv
  have hj : cs[n + j]? = some v := by
    rw [e, List.append_assoc, List.getElem?_append_right (by omega), hl, Nat.add_sub_cancel_left, List.getElem?_append_left (List.getElem?_eq_some_iff.1 hv).1]
    exact hv
  obtain ⟨h1, h2⟩ := h _ _ hj
  have e2 : (ad.add n).add j = ad.add (n + j) := by
    unfold Addr.add
    by_cases hn : n = 0
    · subst hn; simp
    · by_cases hj0 : j = 0
      · subst hj0; simp [hn]
      · simp [hn, hj0, Nat.add_assoc]
  rw [e2]
  refine ⟨h1, ?_⟩
  rw [add_block, add_off, Nat.add_assoc]
  exact h2

theorem fieldAddr_sound (hE : EnvOK P E) {K : AV → Cap → St → Option T} {r : T} {S f : Nat} {x : Operand} (H : RelI c I μ ρ s a w) (ho : o.op = .fieldAddr S x f)
    (h : (match opd s none x with | some v => fieldAddrK E S v f fun v => K v .no s | none => none) = some r) : Yields P o a w (Out K r c a o.dst) := by
  cases hx : opd s none x with
  | none => rw [hx] at h; cases h
  | some p =>
    rw [hx] at h
    have hr := opd_sound H hx
    simp only at h
    unfold fieldAddrK at h
    cases hS : E.ty S with
    | none => rw [hS] at h; cases h
    | some st =>
      rw [hS] at h
      cases st with
      | st t =>
        simp only at h
        have ht := hE.tys S _ hS
        cases hfl : (E.strs.contains S && Nat.blt f (chainLen t)) with
        | false => rw [hfl] at h; cases h
        | true =>
          rw [hfl] at h
          simp only [Bool.not_true, cond_false] at h
          simp only [Bool.and_eq_true, List.contains_iff_mem, Nat.blt_eq] at hfl
          obtain ⟨hst, hfl⟩ := hfl
          rcases ht.st t rfl with ⟨fs, hfs, _, hfd⟩ | ⟨n, e, harr, _⟩
          · obtain ⟨fd, tf, h1, h2, h3, _, h4, h5⟩ := hfd f hfl
            have htf := hE.tys _ _ h4
            have run : ∀ ad : Addr, (execOp a.eval o).run P w = (do pure (.value (← Instr.fieldAt S (a.eval x) f)) : Sem Next).run P w := by
              intro _; unfold execOp; rw [ho]
            obtain ⟨pt, px⟩ := p
            cases pt with
            | box i off =>
              obtain ⟨b, hb, e⟩ := ptr_box hr
              refine yields_value (u := .pointer (some ⟨b, off + fieldOff t f, none⟩)) (w' := w) ?_ (Out.no h H ⟨b, hb, rfl⟩)
              rw [run ⟨0, 0, none⟩, e]
              simp only [Sem.run_bind, fieldAt_run hfs h1 htf h5, Result.andThen_ok, Sem.run_pure, add_lit, h3]
            | boxv i offs =>
              obtain ⟨b, off, hb, ho', e⟩ := ptr_boxv hr
              refine yields_value (u := .pointer (some ⟨b, off + fieldOff t f, none⟩)) (w' := w) ?_ (Out.no h H ⟨b, off + fieldOff t f, hb, ?_, rfl⟩)
              · rw [run ⟨0, 0, none⟩, e]
                simp only [Sem.run_bind, fieldAt_run hfs h1 htf h5, Result.andThen_ok, Sem.run_pure, add_lit, h3]
              · have k : ∀ j : Nat, offs[j]? = some off → (offs.map fun o => o + fieldOff t f)[j]? = some (off + fieldOff t f) := fun j hj => by rw [List.getElem?_map, hj]; rfl
                exact k px ho'
            | ref t' =>
              cases t' with
              | st t' =>
                simp only at h
                cases hd : decide (t' = t) with
                | false => rw [hd] at h; cases h
                | true =>
                  have : t' = t := of_decide_eq_true hd
                  subst this
                  rw [hd] at h
                  simp only [cond_true] at h
                  cases hp : proj t' px f with
                  | none => rw [hp] at h; cases h
                  | some y =>
                    rw [hp] at h
                    obtain ⟨u, z⟩ := y
                    obtain ⟨ad, cells, e, hc, hrr⟩ := hr
                    have e : a.eval x = .pointer (some ad) := by injection e
                    obtain ⟨g1, c1, c2, c3, g2, g3, g4⟩ := proj_cells t' px cells f ⟨u, z⟩ hrr hp
                    have hu : u = tf := by rw [h2] at g1; injection g1 with g1; exact g1.symm
                    refine yields_value (u := .pointer (some (ad.add (fieldOff t' f)))) (w' := w) ?_ (Out.no h H ⟨ad.add (fieldOff t' f), c2, rfl, cellsAt_part hc g2 g3 ?_, g4⟩)
                    · rw [run ⟨0, 0, none⟩, e]
                      simp only [Sem.run_bind, fieldAt_run hfs h1 htf h5, Result.andThen_ok, Sem.run_pure, h3]
                    · rw [R.size _ _ _ g4]; show 0 < u.csize; rw [hu]; exact h5
              | _ => simp only at h; cases h
            | _ => simp only at h; cases h
          · -- an array has no fields
            obtain ⟨fs, hfs⟩ := hE.strs S hst
            rw [harr] at hfs; cases hfs
      | _ => simp only at h; cases h
end Go.Ev

set_option linter.unusedVariables false
namespace Go.Ev
open Go.RowKit
variable {P : Program} {E : Env} {I : Im} {w : World} {μ : List Nat} {c : Ctx} {ρ : Nat → Rm} {s : St} {a : Act} {o : Oper} {T : Type}

theorem run_indexAt_arr {U : Nat} {len e : Nat} {i : TypeInfo} {ad : Addr} {k : IntKind} {n : Int} (hU : P.underlying U = some (.array len e)) (hi : P.info? e = some i) (h0 : 0 ≤ n) (h1 : n < len) :
    (Instr.indexAt U (.pointer (some ad)) (.int k n)).run P w = .ok (.pointer (some (ad.add (n.toNat * i.size)))) w := by
  unfold Instr.indexAt
  simp only [asIntOf, Instr.sureAddr, Sem.run_bind, Sem.run_pure, Result.andThen_ok, run_underlying hU, run_sizeOf hi, Sem.run_ite, h0, h1, and_self, if_true]

theorem run_indexAt_sl {U : Nat} {len cap e : Nat} {i : TypeInfo} {ad : Addr} {k : IntKind} {n : Int} (hU : P.underlying U = some (.slice e)) (hi : P.info? e = some i) (h0 : 0 ≤ n) (h1 : n < len) :
    (Instr.indexAt U (.slice (some ad) len cap) (.int k n)).run P w = .ok (.pointer (some (ad.add (n.toNat * i.size)))) w := by
  unfold Instr.indexAt
  simp only [asIntOf, Instr.sureAddr, Sem.run_bind, Sem.run_pure, Result.andThen_ok, run_underlying hU, run_sizeOf hi, Sem.run_ite, h0, h1, and_self, if_true]

theorem idx_some {α : Type} {l : List α} {n : Int} {y : α} (h : idx l n = some y) : 0 ≤ n ∧ n < l.length ∧ l[n.toNat]? = some y := by
  unfold idx at h
  split at h
  · rename_i h0
    have := (List.getElem?_eq_some_iff.1 h).1
    exact ⟨h0, by omega, h⟩
  · cases h

theorem inB_true {n : Int} {l : Nat} (h : inB n l = true) : 0 ≤ n ∧ n < l := by
  unfold inB at h
  simpa using h

theorem range0_len : ∀ k, (range0 k).length = k := by intro k; induction k with | zero => rfl | succ k ih => unfold range0; simp [ih]
theorem range0_get (n m : Nat) (h : m < n) : (range0 n)[m]? = some m := by
  induction n with
  | zero => omega
  | succ n ih =>
    unfold range0
    by_cases e : m < n
    · rw [List.getElem?_append_left (by rw [range0_len]; exact e)]
      exact ih e
    · have hm : m = n := by omega
      subst hm
      rw [List.getElem?_append_right (by rw [range0_len]; omega), range0_len, Nat.sub_self]; rfl

theorem arr_ty (hE : EnvOK P E) {U : Nat} {t : Ty} (hU : E.ty U = some (.st t)) (ha : U ∈ E.arrs) :
    ∃ e, P.underlying U = some (.array (chainLen t) e) ∧ E.ty e = some (chainHd t) ∧ 0 < chainLen t ∧ ∀ f, f < chainLen t → fieldTy t f = some (chainHd t) ∧ fieldOff t f = f * (chainHd t).csize := by
  obtain ⟨n, e, hn⟩ := hE.arrs U ha
  rcases (hE.tys U _ hU).st t rfl with ⟨fs, hfs, _⟩ | ⟨n', e', h1, h2, h3, h4, h5⟩
  · rw [hfs] at hn; cases hn
  · subst h2; exact ⟨e', h1, h4, h3, h5⟩

theorem chainList_pr (e a b : Ty) (x : (Ty.pr a b).den) : chainList e (.pr a b) x = (match castTo e ⟨a, x.1⟩, chainList e b x.2 with
    | some y, some l => some (y :: l)
    | _, _ => none) := rfl
theorem chainList_other (e t : Ty) (h : isPr t = false) (hu : t ≠ .unit) (x : t.den) : chainList e t x = (match castTo e ⟨t, x⟩ with
    | some y => some [y]
    | none => none) := by
  cases t <;> first | exact absurd rfl hu | rfl | (exact absurd h (by simp [isPr]))

/-- a chain of one type as a list -/
theorem chainList_spec (e : Ty) : ∀ (t : Ty) (x : t.den) (l : List e.den) (cs : List Value), chainList e t x = some l → R I w μ t true x cs → RAll (R I w μ e true) l cs ∧ l.length = chainLen t := by
  intro t
  induction t with
  | pr a b iha ihb =>
    rintro x l cs h ⟨c1, c2, rfl, h1, h2, _⟩
    rw [chainList_pr] at h
    cases hc : castTo e ⟨a, x.1⟩ with
    | none => rw [hc] at h; cases h
    | some y =>
      cases hl : chainList e b x.2 with
      | none => rw [hc, hl] at h; cases h
      | some m =>
        rw [hc, hl] at h
        simp only at h
        injection h with h; subst h
        obtain ⟨g1, g2⟩ := ihb _ _ _ hl h2
        have k := castTo_some hc
        refine ⟨⟨c1, c2, rfl, ?_, g1⟩, by show _ = chainLen b + 1; rw [List.length_cons, g2]⟩
        obtain ⟨rfl, k⟩ : a = e ∧ HEq x.1 y := by injection k with k1 k2; exact ⟨k1, k2⟩
        cases k
        exact h1
  | unit =>
    intro x l cs h hr
    have : ([] : List e.den) = l := by injection h
    subst this
    exact ⟨hr, rfl⟩
  | _ =>
    intro x l cs h hr
    rw [chainList_other _ _ rfl (by simp)] at h
    split at h
    · rename_i y hc
      injection h with h; subst h
      have k := castTo_some hc
      obtain ⟨k1, k2⟩ : _ = e ∧ HEq x y := by injection k with k1 k2; exact ⟨k1, k2⟩
      subst k1
      cases k2
      exact ⟨⟨cs, [], by simp, hr, rfl⟩, rfl⟩
    · cases h

theorem idx_run (H : RelI c I μ ρ s a w) {U : Nat} {x i : Operand} (ho : o.op = .indexAddr U x i) : (execOp a.eval o).run P w = ((Instr.indexAt U (a.eval x) (a.eval i)).run P w).andThen fun v w' => .ok (.value v) w' := by
  unfold execOp; rw [ho]
  simp only [Sem.run_bind]; rfl

theorem indexAddr_sound (hE : EnvOK P E) {K : AV → Cap → St → Option T} {r : T} {U : Nat} {x i : Operand} (H : RelI c I μ ρ s a w) (ho : o.op = .indexAddr U x i)
    (h : (match opd s (E.ty U) x with | some v => idxAddrK E U v i (opd s none i) fun v => K v .no s | none => none) = some r) : Yields P o a w (Out K r c a o.dst) := by
  cases hx : opd s (E.ty U) x with
  | none => rw [hx] at h; cases h
  | some p =>
    rw [hx] at h
    have hr := opd_sound H hx
    simp only at h
    unfold idxAddrK at h
    cases hi : asN (opd s none i) with
    | none => rw [hi] at h; cases h
    | some kn =>
      obtain ⟨k, n⟩ := kn
      rw [hi] at h
      simp only at h
      have ei := opd_int H hi
      have run := idx_run (P := P) H ho
      obtain ⟨pt, px⟩ := p
      cases pt with
      | sl t =>
        simp only at h
        cases hd : (decide (E.ty U = some (.sl t)) && Nat.blt 0 t.csize) with
        | false => rw [hd] at h; cases h
        | true =>
          rw [hd] at h
          simp only [cond_true] at h
          simp only [Bool.and_eq_true, decide_eq_true_eq, Nat.blt_eq] at hd
          obtain ⟨hU, hz⟩ := hd
          obtain ⟨e, hue, hte⟩ := (hE.tys U _ hU).sl t rfl
          obtain ⟨ie, _, hie, hse, _⟩ := (hE.tys e _ hte).info
          cases hid : idx px n with
          | none => rw [hid] at h; cases h
          | some y =>
            rw [hid] at h
            simp only [Option.bind_some] at h
            obtain ⟨h0, h1, h2⟩ := idx_some hid
            obtain ⟨ad, m, cap, cells, ev, hm, hcap, hall, hnone, hcells⟩ := hr
            have ev : a.eval x = .slice ad m cap := by injection ev
            subst hm
            cases ad with
            | none =>
              have h4 : (List.length px : Int) ≤ (cap : Int) := Int.ofNat_le.2 hcap
              rw [hnone rfl] at h4
              exact absurd (Int.lt_of_lt_of_le h1 h4) (by omega)
            | some ad =>
              obtain ⟨c1, c2, c3, g1, g2, g3⟩ := RAll_get t px cells hall n.toNat y h2
              refine yields_value (u := .pointer (some (ad.add (n.toNat * t.csize)))) (w' := w) ?_ (Out.no h H ⟨_, c2, rfl, cellsAt_part (hcells ad rfl) g1 g2 (by rw [R.size _ _ _ g3]; exact hz), g3⟩)
              rw [run, ev, ei, run_indexAt_sl hue hie h0 h1, hse]
              rfl
      | box b off =>
        simp only at h
        cases ha : E.arrs.contains U with
        | false => rw [ha] at h; cases h
        | true =>
          rw [ha] at h
          simp only [Bool.not_true, cond_false] at h
          have ha : U ∈ E.arrs := by simpa using ha
          cases hU : E.ty U with
          | none => rw [hU] at h; cases h
          | some st =>
            rw [hU] at h
            cases st with
            | st t =>
              simp only at h
              obtain ⟨e, hue, hte, _, hf⟩ := arr_ty hE hU ha
              obtain ⟨ie, _, hie, hse, _⟩ := (hE.tys e _ hte).info
              rcases br_some h with ⟨hb, h⟩ | ⟨_, h⟩
              · obtain ⟨h0, h1⟩ := inB_true hb
                obtain ⟨bl, hbl, ev⟩ := ptr_box hr
                have hrun : (execOp a.eval o).run P w = .ok (.value (.pointer (some ⟨bl, off + n.toNat * (chainHd t).csize, none⟩))) w := by
                  rw [run, ev, ei, run_indexAt_arr hue hie h0 h1, hse, add_lit]; rfl
                cases hc : isConstInt i with
                | some m =>
                  rw [hc] at h
                  simp only at h
                  have hm : m = n := by
                    cases i with
                    | const v =>
                      cases v <;> simp [isConstInt] at hc
                      subst hc
                      have : asN (opd s none (.const (.int _ _))) = _ := hi
                      simp only [opd, constV, asN] at this
                      injection this with this; injection this
                    | _ => simp [isConstInt] at hc
                  rw [hm] at h
                  exact yields_value hrun (Out.no h H ⟨bl, hbl, rfl⟩)
                | none =>
                  rw [hc] at h
                  simp only at h
                  refine yields_value hrun (Out.no h H ⟨bl, _, hbl, ?_, rfl⟩)
                  show ((range0 (chainLen t)).map fun m => off + m * (chainHd t).csize)[n.toNat]? = _
                  rw [List.getElem?_map, range0_get _ _ (by omega)]; rfl
              · cases h
            | _ => simp only at h; cases h
      | boxv b offs =>
        simp only at h
        cases ha : E.arrs.contains U with
        | false => rw [ha] at h; cases h
        | true =>
          rw [ha] at h
          simp only [Bool.not_true, cond_false] at h
          have ha : U ∈ E.arrs := by simpa using ha
          cases hU : E.ty U with
          | none => rw [hU] at h; cases h
          | some st =>
            rw [hU] at h
            cases st with
            | st t =>
              simp only at h
              obtain ⟨e, hue, hte, _, hf⟩ := arr_ty hE hU ha
              obtain ⟨ie, _, hie, hse, _⟩ := (hE.tys e _ hte).info
              rcases br_some h with ⟨hb, h⟩ | ⟨_, h⟩
              · obtain ⟨h0, h1⟩ := inB_true hb
                obtain ⟨bl, off, hbl, hoff, ev⟩ := ptr_boxv hr
                have hrun : (execOp a.eval o).run P w = .ok (.value (.pointer (some ⟨bl, off + n.toNat * (chainHd t).csize, none⟩))) w := by
                  rw [run, ev, ei, run_indexAt_arr hue hie h0 h1, hse, add_lit]; rfl
                refine yields_value hrun (Out.no h H ⟨bl, _, hbl, ?_, rfl⟩)
                have k : ∀ (offs : List Nat) (j : Nat), offs[j]? = some off → (offs.flatMap fun off => (range0 (chainLen t)).map fun m => off + m * (chainHd t).csize)[mulAdd j (chainLen t) n]? = some (off + n.toNat * (chainHd t).csize) := by
                  intro offs
                  induction offs with
                  | nil => intro j hj; simp at hj
                  | cons o1 ol ih =>
                    intro j hj
                    rw [List.flatMap_cons]
                    have hl : ((range0 (chainLen t)).map fun m => o1 + m * (chainHd t).csize).length = chainLen t := by rw [List.length_map, range0_len]
                    cases j with
                    | zero =>
                      simp at hj; subst hj
                      unfold mulAdd
                      rw [List.getElem?_append_left (by rw [hl]; omega), List.getElem?_map, Nat.zero_mul, Nat.zero_add, range0_get _ _ (by omega)]; rfl
                    | succ j =>
                      simp at hj
                      rw [List.getElem?_append_right (by rw [hl]; unfold mulAdd; rw [Nat.add_mul]; omega), hl]
                      have e2 : mulAdd (j + 1) (chainLen t) n - chainLen t = mulAdd j (chainLen t) n := by unfold mulAdd; rw [Nat.add_mul]; omega
                      rw [e2]
                      exact ih j hj
                exact k offs px hoff
              · cases h
            | _ => simp only at h; cases h
      | ref t =>
        cases t with
        | st t =>
          simp only at h
          cases ha : E.arrs.contains U with
          | false => rw [ha] at h; cases h
          | true =>
            rw [ha] at h
            simp only [Bool.not_true, cond_false] at h
            have ha : U ∈ E.arrs := by simpa using ha
            cases hU : E.ty U with
            | none => rw [hU] at h; cases h
            | some st =>
              rw [hU] at h
              cases st with
              | st t' =>
                simp only at h
                cases hd : (decide (t' = t) && Nat.blt 0 (chainHd t).csize) with
                | false => rw [hd] at h; cases h
                | true =>
                  rw [hd] at h
                  simp only [cond_true] at h
                  simp only [Bool.and_eq_true, decide_eq_true_eq, Nat.blt_eq] at hd
                  obtain ⟨rfl, hz⟩ := hd
                  obtain ⟨e, hue, hte, _, hf⟩ := arr_ty hE hU ha
                  obtain ⟨ie, _, hie, hse, _⟩ := (hE.tys e _ hte).info
                  rcases br_some h with ⟨hb, h⟩ | ⟨_, h⟩
                  · obtain ⟨h0, h1⟩ := inB_true hb
                    cases hl : chainList (chainHd t') t' px with
                    | none => rw [hl] at h; cases h
                    | some l =>
                      rw [hl] at h
                      cases l with
                      | nil => cases h
                      | cons d l =>
                        simp only at h
                        obtain ⟨ad, cells, ev, hc, hrr⟩ := hr
                        have ev : a.eval x = .pointer (some ad) := by injection ev
                        obtain ⟨g1, g2⟩ := chainList_spec _ _ _ _ _ hl hrr
                        have hz2 : (d :: l)[n.toNat]? = some (sel d (d :: l) (Int.toNat n)) := by
                          have e1 : (d :: l)[n.toNat]? = some ((d :: l)[n.toNat]'(by rw [g2]; omega)) := List.getElem?_eq_getElem (by rw [g2]; omega)
                          rw [e1]; exact congrArg some (nth_get e1).symm
                        obtain ⟨c1, c2, c3, k1, k2, k3⟩ := RAll_get _ _ cells g1 n.toNat _ hz2
                        refine yields_value (u := .pointer (some (ad.add (n.toNat * (chainHd t').csize)))) (w' := w) ?_ (Out.no h H ⟨_, c2, rfl, cellsAt_part hc k1 k2 (by rw [R.size _ _ _ k3]; exact hz), k3⟩)
                        rw [run, ev, ei, run_indexAt_arr hue hie h0 h1, hse]; rfl
                  · cases h
              | _ => simp only at h; cases h
        | _ => simp only at h; cases h
      | _ => simp only at h; cases h
end Go.Ev

set_option linter.unusedVariables false
namespace Go.Ev
open Go.RowKit
variable {P : Program} {E : Env} {I : Im} {w : World} {μ : List Nat} {c : Ctx} {ρ : Nat → Rm} {s : St} {a : Act} {o : Oper} {T : Type}

theorem run_part_at {U : Nat} {t : Ty} (ht : TyOK P E U t) {cs : Array Value} {off : Nat} {x : t.den} {c1 c2 c3 : List Value} (e : cs.toList = c1 ++ c2 ++ c3) (hl : c1.length = off) (hr : R I w μ t true x c2) :
    ∃ v, (part U cs off).run P w = .ok v w ∧ R I w μ t false x [v] := by
  obtain ⟨d, hd, hag⟩ := ht.und
  obtain ⟨i, z, hi, hsz, _⟩ := ht.info
  have hlen := R.size t x c2 hr
  unfold part
  simp only [Sem.run_bind, run_isAgg hd, Result.andThen_ok, hag]
  by_cases hst : t.isSt = true
  · rw [hst]
    simp only [if_true, Sem.run_bind, run_sizeOf hi, Result.andThen_ok, hsz]
    refine ⟨_, rfl, ?_⟩
    have e2 : cs.extract off (off + t.csize) = c2.toArray := by
      apply Array.toList_inj.1
      rw [Array.toList_extract, e]
      simp only [List.extract_eq_take_drop, List.append_assoc]
      rw [List.drop_append_of_le_length (by omega), ← hl, List.drop_length, List.nil_append, ← hlen, Nat.add_sub_cancel_left, List.take_append_of_le_length (Nat.le_refl _), List.take_length]
    rw [e2]
    cases t <;> simp [Ty.isSt] at hst
    exact ⟨c2, rfl, hr⟩
  · have : t.isSt = false := by simpa using hst
    rw [this]
    obtain ⟨v, rfl, h2⟩ : ∃ v, c2 = [v] ∧ R I w μ t false x [v] := by
      by_cases hleaf : t.leaf = true
      · obtain ⟨v, e, h1, h2⟩ := R.leaf t hleaf x true c2 hr
        subst e; exact ⟨v, rfl, h2 false⟩
      · have := ht.ok
        unfold okTy at this
        simp only [Bool.or_eq_true] at this
        rcases this with (h | h) | h
        · exact absurd h hleaf
        · cases t <;> simp [Ty.isTop] at h
          obtain ⟨v, e⟩ := hr; exact ⟨v, e, v, rfl⟩
        · exact absurd h hst
    have e3 : cs[off]? = some v := by
      rw [← Array.getElem?_toList, e, List.append_assoc, List.getElem?_append_right (by omega), hl, Nat.sub_self]; rfl
    simp only [Bool.false_eq_true, if_false, e3]
    exact ⟨v, rfl, h2⟩

theorem field_sound (hE : EnvOK P E) {K : AV → Cap → St → Option T} {r : T} {U f : Nat} {x : Operand} (H : RelI c I μ ρ s a w) (ho : o.op = .field U x f)
    (h : (match opd s (E.ty U) x with
    | some ⟨.st t, y⟩ => bif !(E.strs.contains U && decide (E.ty U = some (.st t)) && Nat.blt f (chainLen t)) then none else match proj t y f with
      | some ⟨u, z⟩ => K ⟨u, z⟩ .no s
      | none => none
    | _ => none) = some r) : Yields P o a w (Out K r c a o.dst) := by
  cases hx : opd s (E.ty U) x with
  | none => rw [hx] at h; cases h
  | some p =>
    rw [hx] at h
    have hr := opd_sound H hx
    obtain ⟨pt, px⟩ := p
    cases pt with
    | st t =>
      simp only at h
      cases hd : (E.strs.contains U && decide (E.ty U = some (.st t)) && Nat.blt f (chainLen t)) with
      | false => rw [hd] at h; cases h
      | true =>
        rw [hd] at h
        simp only [Bool.not_true, cond_false] at h
        simp only [Bool.and_eq_true, List.contains_iff_mem, decide_eq_true_eq, Nat.blt_eq] at hd
        obtain ⟨⟨hst, hU⟩, hfl⟩ := hd
        cases hp : proj t px f with
        | none => rw [hp] at h; cases h
        | some y =>
          rw [hp] at h
          obtain ⟨u, z⟩ := y
          obtain ⟨arr, e, hrr⟩ := hr
          have e : a.eval x = .agg arr.toArray := by injection e
          obtain ⟨g1, c1, c2, c3, g2, g3, g4⟩ := proj_cells t px arr f ⟨u, z⟩ hrr hp
          rcases (hE.tys U _ hU).st t rfl with ⟨fs, hfs, _, hfd⟩ | ⟨n, e', harr, _⟩
          · obtain ⟨fd, tf, h1, h2, h3, _, h4, h5⟩ := hfd f hfl
            have hu : u = tf := by rw [h2] at g1; injection g1 with g1; exact g1.symm
            subst hu
            obtain ⟨v, hv, hr'⟩ := run_part_at (hE.tys _ _ h4) (cs := arr.toArray) (by simpa using g2) g3 g4
            refine yields_value (u := v) (w' := w) ?_ (Out.no h H hr')
            unfold execOp; rw [ho]
            simp only [Sem.run_bind, e, Instr.field, run_underlying hfs, Result.andThen_ok, h1, asAgg, Sem.run_pure, h3, hv]
          · obtain ⟨fs, hfs⟩ := hE.strs U hst
            rw [harr] at hfs; cases hfs
    | _ => simp only at h; cases h

theorem toList_data (b : ByteArray) : b.toList = b.data.toList := by rw [ByteArray.toList_eq]

theorem index_sound (hE : EnvOK P E) {K : AV → Cap → St → Option T} {r : T} {U : Nat} {x i : Operand} (H : RelI c I μ ρ s a w) (ho : o.op = .index U x i)
    (h : (match opd s (E.ty U) x with | some v => idxK E U v (opd s none i) fun v => K v .no s | none => none) = some r) : Yields P o a w (Out K r c a o.dst) := by
  cases hx : opd s (E.ty U) x with
  | none => rw [hx] at h; cases h
  | some p =>
    rw [hx] at h
    have hr := opd_sound H hx
    simp only at h
    unfold idxK at h
    cases hi : asN (opd s none i) with
    | none => rw [hi] at h; cases h
    | some kn =>
      obtain ⟨k, n⟩ := kn
      rw [hi] at h
      simp only at h
      have ei := opd_int H hi
      obtain ⟨pt, px⟩ := p
      cases pt with
      | st t =>
        simp only at h
        cases hd : (E.arrs.contains U && decide (E.ty U = some (.st t))) with
        | false => rw [hd] at h; cases h
        | true =>
          rw [hd] at h
          simp only [Bool.not_true, cond_false] at h
          simp only [Bool.and_eq_true, List.contains_iff_mem, decide_eq_true_eq] at hd
          obtain ⟨ha, hU⟩ := hd
          obtain ⟨e, hue, hte, _, hf⟩ := arr_ty hE hU ha
          obtain ⟨ie, _, hie, hse, _⟩ := (hE.tys e _ hte).info
          rcases br_some h with ⟨hb, h⟩ | ⟨_, h⟩
          · obtain ⟨h0, h1⟩ := inB_true hb
            cases hl : chainList (chainHd t) t px with
            | none => rw [hl] at h; cases h
            | some l =>
              rw [hl] at h
              cases l with
              | nil => cases h
              | cons d l =>
                simp only at h
                obtain ⟨arr, ev, hrr⟩ := hr
                have ev : a.eval x = .agg arr.toArray := by injection ev
                obtain ⟨g1, g2⟩ := chainList_spec _ _ _ _ _ hl hrr
                have hz2 : (d :: l)[n.toNat]? = some (sel d (d :: l) (Int.toNat n)) := by
                  have e1 : (d :: l)[n.toNat]? = some ((d :: l)[n.toNat]'(by rw [g2]; omega)) := List.getElem?_eq_getElem (by rw [g2]; omega)
                  rw [e1]; exact congrArg some (nth_get e1).symm
                obtain ⟨c1, c2, c3, k1, k2, k3⟩ := RAll_get _ _ arr g1 n.toNat _ hz2
                obtain ⟨v, hv, hr'⟩ := run_part_at (hE.tys _ _ hte) (cs := arr.toArray) (by simpa using k1) k2 k3
                refine yields_value (u := v) (w' := w) ?_ (Out.no h H hr')
                unfold execOp; rw [ho]
                simp only [Sem.run_bind, ev, ei, Instr.index, asIntOf, Sem.run_pure, run_underlying hue, Result.andThen_ok, h0, h1, and_self, if_true, run_sizeOf hie, hse, hv]
          · cases h
      | _ => simp only at h; cases h

theorem binOp_run {op : BinOp} {xT yT : Nat} {x y : Operand} (ho : o.op = .binOp op xT x y yT) : (execOp a.eval o).run P w =
    (((eqGuard op xT x y (a.eval x) (a.eval y)).run P w).andThen fun _ w' => (binOp op xT (a.eval x) (a.eval y)).run P w').andThen fun v w' => .ok (.value v) w' := by
  unfold execOp; rw [ho]
  simp only [Sem.run_bind]; rfl

theorem intK_sound {K : AV → Option T} {r : T} {op : BinOp} {k : IntKind} {x y : Int} (t : Nat) (hs : isShift op = false) (h : intK op k x y K = some r) :
    ∃ v z, (binOp op t (.int k x) (.int k y)).run P w = .ok v w ∧ R I w μ z.ty false z.x [v] ∧ K z = some r := by
  cases op with
  | add => exact ⟨_, .int k (k.wrap (x + y)), by rw [binOp_add]; rfl, rfl, h⟩
  | sub => exact ⟨_, .int k (k.wrap (x - y)), by rw [binOp_sub]; rfl, rfl, h⟩
  | mul => exact ⟨_, .int k (k.wrap (x * y)), by rw [binOp_mul]; rfl, rfl, h⟩
  | quo =>
    rcases br_some h with ⟨_, h⟩ | ⟨hy, h⟩
    · cases h
    · have : y ≠ 0 := by simpa [eqI] using hy
      exact ⟨_, .int k (k.wrap (x.tdiv y)), by rw [binOp_quo]; unfold Op.intDiv; rw [if_neg this]; rfl, rfl, h⟩
  | rem =>
    rcases br_some h with ⟨_, h⟩ | ⟨hy, h⟩
    · cases h
    · have : y ≠ 0 := by simpa [eqI] using hy
      exact ⟨_, .int k (x.tmod y), by rw [binOp_rem]; unfold Op.intDiv; rw [if_neg this]; rfl, rfl, h⟩
  | and => exact ⟨_, .int k (k.wrap (BitVec.ofInt k.bits x &&& BitVec.ofInt k.bits y).toNat), by rw [binOp_and]; rfl, rfl, h⟩
  | or => exact ⟨_, .int k (k.wrap (BitVec.ofInt k.bits x ||| BitVec.ofInt k.bits y).toNat), by rw [binOp_or]; rfl, rfl, h⟩
  | xor => exact ⟨_, .int k (k.wrap (BitVec.ofInt k.bits x ^^^ BitVec.ofInt k.bits y).toNat), by rw [binOp_xor]; rfl, rfl, h⟩
  | andNot => cases h
  | shl => cases hs
  | shr => cases hs
  | eql => exact ⟨_, .bool (eqI x y), by rw [binOp_eql]; rfl, rfl, h⟩
  | neq => exact ⟨_, .bool (!eqI x y), by rw [binOp_neq]; rfl, rfl, h⟩
  | lss => exact ⟨_, .bool (decide (x < y)), by rw [binOp_lss]; rfl, rfl, h⟩
  | leq => exact ⟨_, .bool (decide (x ≤ y)), by rw [binOp_leq]; rfl, rfl, h⟩
  | gtr => exact ⟨_, .bool (decide (x > y)), by rw [binOp_gtr]; rfl, rfl, h⟩
  | geq => exact ⟨_, .bool (decide (x ≥ y)), by rw [binOp_geq]; rfl, rfl, h⟩

theorem shiftK_sound {K : AV → Option T} {r : T} {op : BinOp} {k k' : IntKind} {x y : Int} (t : Nat) (h : shiftK op k x y K = some r) :
    ∃ v z, (binOp op t (.int k x) (.int k' y)).run P w = .ok v w ∧ R I w μ z.ty false z.x [v] ∧ K z = some r := by
  cases op with
  | shl =>
    rcases br_some h with ⟨_, h⟩ | ⟨hy, h⟩
    · cases h
    · have : ¬ y < 0 := by simpa using hy
      exact ⟨_, .int k (k.wrap (x * 2 ^ (min y.toNat k.bits))), by rw [binOp_shl]; unfold Op.shift; rw [if_neg this]; rfl, rfl, h⟩
  | shr =>
    rcases br_some h with ⟨_, h⟩ | ⟨hy, h⟩
    · cases h
    · have : ¬ y < 0 := by simpa using hy
      exact ⟨_, .int k (x.fdiv (2 ^ (min y.toNat k.bits))), by rw [binOp_shr]; unfold Op.shift; rw [if_neg this]; rfl, rfl, h⟩
  | _ => cases h

theorem eqK_sound {K : AV → Option T} {r : T} {op : BinOp} {b : Bool} (h : eqK op b K = some r) : (op = .eql ∧ K (.bool b) = some r) ∨ (op = .neq ∧ K (.bool !b) = some r) := by
  cases op <;> first | exact .inl ⟨rfl, h⟩ | exact .inr ⟨rfl, h⟩ | cases h

theorem run_eqGuard_not {op : BinOp} {t : Nat} {x y : Operand} {u v : Value} (h : eqGuard op t x y u v = pure ()) : (eqGuard op t x y u v).run P w = .ok () w := by rw [h]; rfl

theorem binOp_sound (hE : EnvOK P E) {K : AV → Cap → St → Option T} {r : T} {op : BinOp} {xT yT : Nat} {x y : Operand} (H : RelI c I μ ρ s a w) (ho : o.op = .binOp op xT x y yT)
    (h : (match opd s (E.ty xT) x, opd s (E.ty yT) y with
    | some a, some b => bif eqOK E xT a.ty then binK op a b fun v => K v .no s else none
    | _, _ => none) = some r) : Yields P o a w (Out K r c a o.dst) := by
  cases hx : opd s (E.ty xT) x with
  | none => rw [hx] at h; cases h
  | some p =>
  cases hy : opd s (E.ty yT) y with
  | none => rw [hx, hy] at h; cases h
  | some q =>
    rw [hx, hy] at h
    simp only at h
    have rx := opd_sound H hx
    have ry := opd_sound H hy
    cases hok : eqOK E xT p.ty with
    | false => rw [hok] at h; cases h
    | true =>
      rw [hok] at h
      simp only [cond_true] at h
      obtain ⟨pt, px⟩ := p
      obtain ⟨qt, qx⟩ := q
      have run := binOp_run (P := P) (a := a) (w := w) ho
      cases pt with
      | int k =>
        cases qt with
        | int k' =>
          have ex := int_of_R rx
          have ey := int_of_R ry
          have hg : (eqGuard op xT x y (a.eval x) (a.eval y)).run P w = .ok () w := by rw [ex]; exact run_eqGuard_not (eqGuard_at_int ..)
          have h' : (if isShift op = true then shiftK op k px qx (fun v => K v .no s) else if k = k' then intK op k px qx (fun v => K v .no s) else none) = some r := h
          by_cases hs : isShift op = true
          · rw [if_pos hs] at h'
            obtain ⟨v, z, g1, g2, g3⟩ := shiftK_sound (P := P) (I := I) (w := w) (μ := μ) (k' := k') xT h'
            refine yields_value (u := v) (w' := w) ?_ (Out.no g3 H g2)
            rw [run, hg, ex, ey]
            simp only [Result.andThen_ok, g1]
          · rw [if_neg hs] at h'
            by_cases hk : k = k'
            · subst hk
              rw [if_pos rfl] at h'
              obtain ⟨v, z, g1, g2, g3⟩ := intK_sound (P := P) (I := I) (w := w) (μ := μ) xT (by simpa using hs) h'
              refine yields_value (u := v) (w' := w) ?_ (Out.no g3 H g2)
              rw [run, hg, ex, ey]
              simp only [Result.andThen_ok, g1]
            · rw [if_neg hk] at h'; cases h'
        | _ => cases h
      | bool =>
        cases qt with
        | bool =>
          have ex := bool_of_R rx
          have ey := bool_of_R ry
          have hg : (eqGuard op xT x y (a.eval x) (a.eval y)).run P w = .ok () w := by rw [ex]; exact run_eqGuard_not (eqGuard_at_bool ..)
          have hU : E.ty xT = some .bool := by simpa [eqOK] using hok
          have hb := (hE.tys _ _ hU).bool rfl
          have hrun : ∀ bb : Bool, bb = eqB px qx → (Op.equal xT (.bool px) (.bool qx)).run P w = .ok bb w := by
            intro bb hbb; subst hbb
            exact run_equalIn_bool' w 9999 xT px qx hb
          have h : eqK op (eqB px qx) (fun v => K v .no s) = some r := h
          rcases eqK_sound h with ⟨rfl, h⟩ | ⟨rfl, h⟩
          · refine yields_value (u := .bool (eqB px qx)) (w' := w) ?_ (Out.no h H rfl)
            rw [run, hg, ex, ey]
            simp only [Result.andThen_ok, binOp, Sem.run_bind, hrun _ rfl, Sem.run_pure]
          · refine yields_value (u := .bool (!eqB px qx)) (w' := w) ?_ (Out.no h H rfl)
            rw [run, hg, ex, ey]
            simp only [Result.andThen_ok, binOp, Sem.run_bind, hrun _ rfl, Sem.run_pure]
        | _ => cases h
      | str =>
        cases qt with
        | str =>
          have ex := str_of_R rx
          have ey := str_of_R ry
          have hg : (eqGuard op xT x y (a.eval x) (a.eval y)).run P w = .ok () w := by rw [ex]; exact run_eqGuard_not (eqGuard_at_string ..)
          have h : eqK op (eqS px qx) (fun v => K v .no s) = some r := h
          rcases eqK_sound h with ⟨rfl, h⟩ | ⟨rfl, h⟩
          · refine yields_value (u := .bool (eqS px qx)) (w' := w) ?_ (Out.no h H rfl)
            rw [run, hg, ex, ey]; rfl
          · refine yields_value (u := .bool (!eqS px qx)) (w' := w) ?_ (Out.no h H rfl)
            rw [run, hg, ex, ey]; rfl
        | _ => cases h
      | st t =>
        have h' : (match castTo (.st t) ⟨qt, qx⟩ with
          | some y => match beqD t px y with
            | some q => eqK op q (fun v => K v .no s)
            | none => none
          | none => none) = some r := h
        cases hc : castTo (.st t) ⟨qt, qx⟩ with
        | none => rw [hc] at h'; cases h'
        | some z =>
          rw [hc] at h'
          simp only at h'
          have e := castTo_some hc
          cases hq : beqD t px z with
          | none => rw [hq] at h'; cases h'
          | some bq =>
            rw [hq] at h'
            simp only at h'
            have hok : E.ty xT = some (.st t) ∧ xT ∈ E.eqs := by simpa [eqOK] using hok
            obtain ⟨hgt, heq⟩ := hE.eqst xT t hok.2 hok.1
            have ry' : R I w μ (.st t) false z [a.eval y] := by
              have : (⟨qt, qx⟩ : AV).ty = .st t := by rw [e]
              cases e; exact ry
            have hrun := heq I w μ px z (a.eval x) (a.eval y) bq rx ry' hq
            obtain ⟨ax, ex, _⟩ := rx
            obtain ⟨ay, ey, _⟩ := ry'
            have ex : a.eval x = .agg ax.toArray := by injection ex
            have ey : a.eval y = .agg ay.toArray := by injection ey
            have hg : (eqGuard op xT x y (a.eval x) (a.eval y)).run P w = .ok () w := by rw [ex, ey]; exact run_eqGuard_agg w op xT x y _ _ hgt
            rw [ex, ey] at hrun
            rcases eqK_sound h' with ⟨e1, h2⟩ | ⟨e1, h2⟩
            · subst e1
              refine yields_value (u := .bool bq) (w' := w) ?_ (Out.no h2 H rfl)
              rw [run, hg, ex, ey]
              simp only [Result.andThen_ok, run_eql_struct, hrun]
            · subst e1
              refine yields_value (u := .bool (!bq)) (w' := w) ?_ (Out.no h2 H rfl)
              rw [run, hg, ex, ey]
              simp only [Result.andThen_ok, run_neq_struct, hrun]
      | _ => cases h
end Go.Ev

set_option linter.unusedVariables false
namespace Go.Ev
open Go.RowKit
variable {P : Program} {E : Env} {I : Im} {w : World} {μ : List Nat} {c : Ctx} {ρ : Nat → Rm} {s : St} {a : Act} {o : Oper} {T : Type}

theorem run_convert_to_int (src dst : Nat) (k k' : IntKind) (n : Int) {d : TypeDesc} (hs : P.underlying src = some d) (hd : P.underlying dst = some (.int k)) : (convert src dst (.int k' n)).run P w = .ok (.int k (k.wrap n)) w := by
  unfold convert
  simp only [Sem.run_bind, run_underlying hs, run_underlying hd, Result.andThen_ok]
  rfl

theorem run_convert_to_str (src dst : Nat) (b : ByteArray) {d : TypeDesc} (hs : P.underlying src = some d) (hd : P.underlying dst = some .string) : (convert src dst (.string b)).run P w = .ok (.string b) w := by
  unfold convert
  simp only [Sem.run_bind, run_underlying hs, run_underlying hd, Result.andThen_ok]
  rfl

theorem RAll_bytes : ∀ (l : List Int) (cs : List Value), RAll (R I w μ (.int .u8) true) l cs → cs = l.map (Value.int .u8)
  | [], cs, h => h
  | x :: l, cs, ⟨c1, c2, e, h1, h2⟩ => by
    have h1 : c1 = [.int .u8 x] := h1
    rw [e, h1, RAll_bytes l c2 h2]; rfl

theorem run_convert_bytes (src dst : Nat) (e : Nat) (hs : P.underlying src = some (.slice e)) (he : P.underlying e = some (.int .u8)) (hd : P.underlying dst = some .string) {l : List Int} {u : Value}
    (hr : R I w μ (.sl (.int .u8)) false l [u]) : (convert src dst u).run P w = .ok (.string (bytesOf l)) w := by
  obtain ⟨ad, n, cap, cells, ev, hn, hcap, hall, hnone, hcells⟩ := hr
  have ev : u = .slice ad n cap := by injection ev
  subst ev
  have hcs := RAll_bytes l cells hall
  have hn : n = l.length := hn
  rw [run_convert_bytes_string w src dst e _ n cap hs he hd]
  cases ad with
  | none =>
    have h0 := hnone rfl
    subst h0
    have : l = [] := List.eq_nil_of_length_eq_zero (by omega)
    subst this
    rfl
  | some ad =>
    have hl : (loadCells ad n).run P w = .ok (l.map (Value.int .u8)).toArray w := by
      have := run_loadCells_list (P := P) (w := w) ad cells (fun j v hj => (hcells ad rfl j v hj).1)
      rw [hcs] at this
      simpa [hn] using this
    rw [run_bytesToString w ad n cap l hl, foldl_push_bytes]
    simp [bytesOf, ByteArray.empty, ByteArray.emptyWithCapacity]
    rfl

theorem convert_sound (hE : EnvOK P E) {K : AV → Cap → St → Option T} {r : T} {src dst : Nat} {x : Operand} (H : RelI c I μ ρ s a w) (ho : o.op = .convert src dst x)
    (h : (match E.ty src, opd s (E.ty src) x with | some ts, some v => convK (some ts) (E.ty dst) v fun v => K v .no s | _, _ => none) = some r) : Yields P o a w (Out K r c a o.dst) := by
  cases hs : E.ty src with
  | none => rw [hs] at h; cases h
  | some ts =>
  cases hx : opd s (E.ty src) x with
  | none => rw [hs] at hx; rw [hs, hx] at h; cases h
  | some p =>
    have hr := opd_sound H hx
    rw [hs] at hx
    rw [hs, hx] at h
    simp only at h
    have run : (execOp a.eval o).run P w = ((convert src dst (a.eval x)).run P w).andThen fun v w' => .ok (.value v) w' := by
      unfold execOp; rw [ho]; simp only [Sem.run_bind]; rfl
    obtain ⟨ds, hds, _⟩ := (hE.tys _ _ hs).und
    cases hd : E.ty dst with
    | none => rw [hd] at h; cases h
    | some td =>
      rw [hd] at h
      obtain ⟨pt, px⟩ := p
      cases td with
      | int k =>
        cases pt with
        | int k' =>
          have ex := int_of_R hr
          refine yields_value (u := .int k (k.wrap px)) (w' := w) ?_ (Out.no h H rfl)
          rw [run, ex, run_convert_to_int src dst k k' px hds ((hE.tys _ _ hd).int k rfl)]; rfl
        | _ => cases h
      | str =>
        cases pt with
        | str =>
          have ex := str_of_R hr
          refine yields_value (u := .string px) (w' := w) ?_ (Out.no h H rfl)
          rw [run, ex, run_convert_to_str src dst px hds ((hE.tys _ _ hd).str rfl)]; rfl
        | sl t =>
          cases t with
          | int k =>
            cases k with
            | u8 =>
              have h' : (bif decide (some ts = some (Ty.sl (.int .u8))) then K ⟨.str, bytesOf px⟩ .no s else none) = some r := h
              cases hdd : decide (some ts = some (Ty.sl (.int .u8))) with
              | false => rw [hdd] at h'; cases h'
              | true =>
                rw [hdd] at h'
                have e : ts = .sl (.int .u8) := by simpa using hdd
                subst e
                obtain ⟨e, h1, h2⟩ := (hE.tys _ _ hs).sl _ rfl
                refine yields_value (u := .string (bytesOf px)) (w' := w) ?_ (Out.no h' H rfl)
                rw [run, run_convert_bytes src dst e h1 ((hE.tys _ _ h2).int _ rfl) ((hE.tys _ _ hd).str rfl) hr]; rfl
            | _ => cases h
          | _ => cases h
        | _ => cases h
      | _ => cases h

/-- several operands -/
inductive RL (I : Im) (w : World) (μ : List Nat) : List AV → List Value → Prop
  | nil : RL I w μ [] []
  | cons {v : AV} {u : Value} {vs : List AV} {us : List Value} (h : R I w μ v.ty false v.x [u]) (k : RL I w μ vs us) : RL I w μ (v :: vs) (u :: us)

theorem opds_sound (H : RelI c I μ ρ s a w) : ∀ (l : List Operand) (Ts : List Nat) (vs : List AV), opds s E l Ts = some vs → RL I w μ vs (l.map a.eval)
  | [], Ts, vs, h => by unfold opds at h; injection h with h; subst h; exact .nil
  | x :: l, U :: Ts, vs, h => by
    unfold opds at h
    cases hx : opd s (E.ty U) x with
    | none => rw [hx] at h; cases h
    | some v =>
      cases hl : opds s E l Ts with
      | none => rw [hx, hl] at h; cases h
      | some m =>
        rw [hx, hl] at h
        simp only at h
        injection h with h; subst h
        exact .cons (opd_sound H hx) (opds_sound H l Ts m hl)
  | x :: l, [], vs, h => by
    unfold opds at h
    cases hx : opd s none x with
    | none => rw [hx] at h; cases h
    | some v =>
      cases hl : opds s E l [] with
      | none => rw [hx, hl] at h; cases h
      | some m =>
        rw [hx, hl] at h
        simp only at h
        injection h with h; subst h
        exact .cons (opd_sound H hx) (opds_sound H l [] m hl)

theorem chain_R : ∀ (vs : List AV) (us : List Value), RL I w μ vs us → R I w μ (chain vs).ty false (chain vs).x us
  | [], _, .nil => rfl
  | [v], _, .cons h .nil => h
  | v :: v2 :: l, _, .cons (u := u) h k => ⟨[u], _, rfl, h, chain_R (v2 :: l) _ k, fun _ => rfl⟩

theorem unchain_R : ∀ (t : Ty) (x : t.den) (us : List Value), R I w μ t false x us → t.single = true ∨ isPr t = true ∨ t = .unit → (∀ v, v ∈ unchain t x → v.ty.single = true) → RL I w μ (unchain t x) us := by
  intro t
  induction t with
  | pr a b iha ihb =>
    rintro x us ⟨c1, c2, rfl, h1, h2, h3⟩ _ hs
    have h3 := h3 rfl
    obtain ⟨v, rfl⟩ : ∃ v, c1 = [v] := by
      cases c1 with
      | nil => cases h3
      | cons v l => cases l with
        | nil => exact ⟨v, rfl⟩
        | cons _ _ => simp at h3
    have hs' : ∀ v, v ∈ unchain b x.2 → v.ty.single = true := fun v hv => hs v (List.mem_cons_of_mem _ hv)
    refine .cons h1 (ihb x.2 c2 h2 ?_ hs')
    cases b <;> simp [Ty.single, isPr]
  | unit => intro x us h _ _; cases h; exact .nil
  | _ =>
    intro x us h _ hs
    obtain ⟨v, rfl⟩ := R.single _ rfl _ _ h
    exact .cons h .nil

theorem makeFunc_sound {K : AV → Cap → St → Option T} {r : T} {f : Nat} {first captured : Array Operand} (H : RelI c I μ ρ s a w) (ho : o.op = .makeFunc (.func f) first captured)
    (h : (match opds s E first.toList [], opds s E captured.toList [] with
    | some a, some c => K ⟨.fn f (chain a).ty (chain c).ty, ((chain a).x, (chain c).x)⟩ .no s
    | _, _ => none) = some r) : Yields P o a w (Out K r c a o.dst) := by
  cases h1 : opds s E first.toList [] with
  | none => rw [h1] at h; cases h
  | some va =>
  cases h2 : opds s E captured.toList [] with
  | none => rw [h1, h2] at h; cases h
  | some vc =>
    rw [h1, h2] at h
    simp only at h
    have r1 := chain_R _ _ (opds_sound H _ _ _ h1)
    have r2 := chain_R _ _ (opds_sound H _ _ _ h2)
    refine yields_value (u := .func (.func f) (first.map a.eval) (captured.map a.eval)) (w' := w) ?_ (Out.no h H ⟨_, _, ?_, r1, r2⟩)
    · unfold execOp; rw [ho]; rfl
    · have e1 : ∀ l : Array Operand, (l.toList.map a.eval).toArray = l.map a.eval := fun l => by rw [← Array.toList_map, Array.toArray_toList]
      rw [e1, e1]

end Go.Ev

set_option linter.unusedVariables false
namespace Go.Ev
open Go.RowKit
variable {P : Program} {E : Env} {I : Im} {w : World} {μ : List Nat} {c : Ctx} {ρ : Nat → Rm} {s : St} {a : Act} {o : Oper} {T : Type}

/-- a bound that may be left out -/
def BoundIs (v : Option Value) (d l : Int) : Prop := (v = none ∧ l = d) ∨ ∃ k, v = some (.int k l)

theorem intOf_some {v : Option AV} {n : Int} (h : intOf v = some n) : ∃ k, asN v = some (k, n) := by
  unfold intOf at h
  split at h
  · rename_i k n' e; injection h with h; subst h; exact ⟨k, e⟩
  · cases h

theorem optI_sound (H : RelI c I μ ρ s a w) {d l : Int} {x : Option Operand} (h : optI s d x = some l) : BoundIs (x.map a.eval) d l := by
  cases x with
  | none => injection h with h; subst h; exact .inl ⟨rfl, rfl⟩
  | some x =>
    obtain ⟨k, hk⟩ := intOf_some h
    exact .inr ⟨k, by simp [opd_int H hk]⟩

theorem run_bound {k : IntKind} {i : Int} {y : Nat} {code : BoundsCode} (h0 : 0 ≤ i) (h1 : i ≤ y) : (Instr.sliceBound (.int k i) y code).run P w = .ok i.toNat w := by
  unfold Instr.sliceBound
  simp only [asIntOf, Sem.run_bind, Sem.run_pure, Result.andThen_ok, Sem.run_ite, h0, h1, and_self, if_true]

theorem run_bounds2 {isSl : Bool} {len cap : Nat} {lo hi : Option Value} {l h : Int} (hl : BoundIs lo 0 l) (hh : BoundIs hi len h) (h0 : 0 ≤ l) (h1 : l ≤ h) (h2 : h ≤ len) (hc : len ≤ cap) :
    (Instr.sliceBounds isSl len cap lo hi none).run P w = .ok (l.toNat, h.toNat, cap) w := by
  have b1 : ∀ k code, (Instr.sliceBound (.int k h) cap code).run P w = .ok h.toNat w := fun k code => run_bound (by omega) (by omega)
  have b2 : ∀ k code, (Instr.sliceBound (.int k l) h.toNat code).run P w = .ok l.toNat w := fun k code => run_bound (by omega) (by omega)
  rcases hh with ⟨rfl, rfl⟩ | ⟨k, rfl⟩ <;> rcases hl with ⟨rfl, rfl⟩ | ⟨k', rfl⟩
  · unfold Instr.sliceBounds; simp [Sem.run_pure]
  · unfold Instr.sliceBounds
    have b3 : ∀ code, (Instr.sliceBound (.int k' l) len code).run P w = .ok l.toNat w := fun code => run_bound (by omega) (by omega)
    simp only [Sem.run_bind, Sem.run_pure, Result.andThen_ok, b3, Int.toNat_natCast]
  · unfold Instr.sliceBounds
    simp only [Sem.run_bind, Sem.run_pure, Result.andThen_ok, b1]; rfl
  · unfold Instr.sliceBounds
    simp only [Sem.run_bind, Sem.run_pure, Result.andThen_ok, b1, b2]

theorem run_bounds3 {len cap : Nat} {lo hi : Option Value} {k : IntKind} {l h m : Int} (hl : BoundIs lo 0 l) (hh : ∃ k, hi = some (.int k h)) (h0 : 0 ≤ l) (h1 : l ≤ h) (h2 : h ≤ m) (hc : m ≤ cap) :
    (Instr.sliceBounds true len cap lo hi (some (.int k m))).run P w = .ok (l.toNat, h.toNat, m.toNat) w := by
  unfold Instr.sliceBounds
  obtain ⟨k2, rfl⟩ := hh
  simp only [Sem.run_bind, run_bound (P := P) (w := w) (k := k) (code := _) (show 0 ≤ m by omega) (show m ≤ (cap : Int) by omega), Result.andThen_ok,
    run_bound (P := P) (w := w) (k := k2) (code := _) (show 0 ≤ h by omega) (show h ≤ (m.toNat : Int) by omega)]
  rcases hl with ⟨rfl, rfl⟩ | ⟨k, rfl⟩
  · simp [Sem.run_pure]
  · have b2 : ∀ code, (Instr.sliceBound (.int k l) h.toNat code).run P w = .ok l.toNat w := fun code => run_bound (by omega) (by omega)
    simp only [Sem.run_bind, b2, Result.andThen_ok, Sem.run_pure]

/-- a part of a row -/
theorem R_cut {t : Ty} {x : List t.den} {ad : Option Addr} {n cap m : Nat} {cells : List Value} {l h : Int} (hn : n = x.length) (hall : RAll (R I w μ t true) x cells) (hnone : ad = none → cap = 0)
    (hc : ∀ d, ad = some d → cellsAt I w d cells) (h0 : 0 ≤ l) (h1 : l ≤ h) (h2 : h ≤ x.length) (h3 : h ≤ m) (hm : m ≤ cap) :
    R I w μ (.sl t) false (cut x l h) [.slice (if m = l.toNat then ad else ad.map (·.add (l.toNat * t.csize))) (h.toNat - l.toNat) (m - l.toNat)] := by
  have e : x = x.take l.toNat ++ (cut x l h ++ x.drop h.toNat) := by
    unfold cut
    have e1 : x.take l.toNat = (x.take h.toNat).take l.toNat := by rw [List.take_take, Nat.min_eq_left (by omega)]
    rw [e1, ← List.append_assoc, List.take_append_drop, List.take_append_drop]
  have hall' := hall
  rw [e] at hall'
  obtain ⟨c1, c2, e1, g1, g2⟩ := RAll_split _ _ _ hall'
  obtain ⟨d1, d2, e2, g3, g4⟩ := RAll_split _ _ _ g2
  have hlen : (cut x l h).length = h.toNat - l.toNat := by unfold cut; rw [List.length_drop, List.length_take]; omega
  refine ⟨_, _, _, d1, rfl, hlen.symm, by omega, g3, ?_, ?_⟩
  · intro hn
    by_cases hml : m = l.toNat
    · omega
    · rw [if_neg hml] at hn
      have : ad = none := by cases ad <;> simp at hn; rfl
      have := hnone this; omega
  · intro d hd
    by_cases hml : m = l.toNat
    · have : d1 = [] := by
        have := RAll_size t _ _ g3
        have h4 : (cut x l h).length = 0 := by rw [hlen]; omega
        rw [h4] at this; exact List.eq_nil_of_length_eq_zero (by simpa using this)
      subst this
      intro i v hv; simp at hv
    · rw [if_neg hml] at hd
      cases ad with
      | none => cases hd
      | some ad =>
        simp only [Option.map_some] at hd
        injection hd with hd; subst hd
        by_cases hne : 0 < d1.length
        · refine cellsAt_part (hc ad rfl) (c1 := c1) (c3 := d2) (by rw [e1, e2, List.append_assoc]) ?_ hne
          rw [RAll_size t _ _ g1, List.length_take, Nat.min_eq_left (by omega)]
        · have : d1 = [] := List.eq_nil_of_length_eq_zero (by omega)
          subst this
          intro i v hv; simp at hv

theorem sliceK_some {l h m n : Int} {K : Option T} {r : T} (e : sliceK l h m n K = some r) : 0 ≤ l ∧ l ≤ h ∧ h ≤ m ∧ m ≤ n ∧ K = some r := by
  unfold sliceK at e
  rcases br_some e with ⟨hb, e⟩ | ⟨_, e⟩
  · simp only [Bool.and_eq_true, decide_eq_true_eq] at hb
    exact ⟨hb.1.1.1, hb.1.1.2, hb.1.2, hb.2, e⟩
  · cases e

theorem slice_run {U : Nat} {x : Operand} {lo hi mx : Option Operand} (ho : o.op = .slice U x lo hi mx) : (execOp a.eval o).run P w =
    ((Instr.sliceAt U (a.eval x) (lo.map a.eval) (hi.map a.eval) (mx.map a.eval)).run P w).andThen fun v w' => .ok (.value v) w' := by
  unfold execOp; rw [ho]; simp only [Sem.run_bind]; rfl

theorem run_sliceAt_sl {U e : Nat} {i : TypeInfo} {ad : Option Addr} {len cap : Nat} {lo hi mx : Option Value} {l h m : Nat} (hU : P.underlying U = some (.slice e)) (hi' : P.info? e = some i)
    (hb : (Instr.sliceBounds true len cap lo hi mx).run P w = .ok (l, h, m) w) :
    (Instr.sliceAt U (.slice ad len cap) lo hi mx).run P w = .ok (.slice (if m = l then ad else ad.map (·.add (l * i.size))) (h - l) (m - l)) w := by
  unfold Instr.sliceAt
  simp only [Sem.run_bind, run_underlying hU, Result.andThen_ok]
  unfold Instr.slice
  simp only [Sem.run_bind, run_underlying hU, Result.andThen_ok, hb, run_sizeOf hi', Sem.run_pure]

theorem run_sliceAt_str {U : Nat} {b : ByteArray} {lo hi : Option Value} {l h m : Nat} (hU : P.underlying U = some .string)
    (hb : (Instr.sliceBounds false b.size b.size lo hi none).run P w = .ok (l, h, m) w) :
    (Instr.sliceAt U (.string b) lo hi none).run P w = .ok (.string (b.extract l h)) w := by
  unfold Instr.sliceAt
  simp only [Sem.run_bind, run_underlying hU, Result.andThen_ok]
  unfold Instr.slice
  simp only [Sem.run_bind, run_underlying hU, Result.andThen_ok, hb, Sem.run_pure, Option.isSome_none, Bool.false_eq_true, if_false]

theorem slice_sound (hE : EnvOK P E) {K : AV → Cap → St → Option T} {r : T} {U : Nat} {x : Operand} {lo hi mx : Option Operand} (H : RelI c I μ ρ s a w) (ho : o.op = .slice U x lo hi mx)
    (h : (match opd s (E.ty U) x with | some v => slK E U s v lo hi mx K | none => none) = some r)
    (hbox : ∀ i off y, opd s (E.ty U) x = some ⟨.box i off, y⟩ → slK E U s ⟨.box i off, y⟩ lo hi mx K = some r → Yields P o a w (Out K r c a o.dst)) : Yields P o a w (Out K r c a o.dst) := by
  cases hx : opd s (E.ty U) x with
  | none => rw [hx] at h; cases h
  | some p =>
    rw [hx] at h
    have hr := opd_sound H hx
    simp only at h
    have run := slice_run (P := P) (a := a) (w := w) ho
    obtain ⟨pt, px⟩ := p
    cases pt with
    | sl t =>
      have h' : (bif decide (E.ty U = some (.sl t)) then
        match optI s 0 lo, optI s (lenI px) hi with
        | some l, some h =>
          match mx with
          | none => sliceK l h h (lenI px) (K ⟨.sl t, cut px l h⟩ .no s)
          | some m => bif !hi.isSome then none else match intOf (opd s none m) with
            | some m => sliceK l h m (lenI px) (br (eqI h m) (K ⟨.sl t, cut px l h⟩ .fresh s) none)
            | none => none
        | _, _ => none else none) = some r := h
      cases hU : decide (E.ty U = some (.sl t)) with
      | false => rw [hU] at h'; cases h'
      | true =>
      rw [hU] at h'
      simp only [cond_true] at h'
      have hU : E.ty U = some (.sl t) := of_decide_eq_true hU
      obtain ⟨e, hue, hte⟩ := (hE.tys _ _ hU).sl t rfl
      obtain ⟨ie, _, hie, hse, _⟩ := (hE.tys e _ hte).info
      cases hl : optI s 0 lo with
      | none => rw [hl] at h'; cases h'
      | some l =>
      cases hh : optI s (lenI px) hi with
      | none => rw [hl, hh] at h'; cases h'
      | some hv =>
        rw [hl, hh] at h'
        simp only at h'
        have bl := optI_sound H hl
        have bh := optI_sound H hh
        obtain ⟨ad, n, cap, cells, ev, hn, hcap, hall, hnone, hcells⟩ := hr
        have ev : a.eval x = .slice ad n cap := by injection ev
        have hlen : lenI px = (n : Int) := by unfold lenI; rw [hn]
        cases mx with
        | none =>
          simp only at h'
          obtain ⟨g0, g1, g2, g3, hK⟩ := sliceK_some h'
          rw [hlen] at g3 bh
          have hb := run_bounds2 (P := P) (w := w) (isSl := true) bl bh g0 g1 g3 hcap
          have hR := R_cut (m := cap) (l := l) (h := hv) hn hall hnone hcells g0 g1 (by have : n = px.length := hn; omega) (by omega) (Nat.le_refl _)
          refine yields_value ?_ (Out.no hK H hR)
          rw [run, ev, Option.map_none, run_sliceAt_sl hue hie hb, hse]; rfl
        | some mo =>
          simp only at h'
          cases his : hi.isSome with
          | false => rw [his] at h'; cases h'
          | true =>
          rw [his] at h'
          simp only [Bool.not_true, cond_false] at h'
          cases hm : intOf (opd s none mo) with
          | none => rw [hm] at h'; cases h'
          | some m =>
            rw [hm] at h'
            obtain ⟨g0, g1, g2, g3, h2⟩ := sliceK_some h'
            rw [hlen] at g3 bh
            obtain ⟨km, hkm⟩ := intOf_some hm
            rcases br_some h2 with ⟨he, hK⟩ | ⟨_, h2⟩
            · have he : hv = m := by simpa [eqI] using he
              have hh' : ∃ k, hi.map a.eval = some (.int k hv) := by
                rcases bh with ⟨b1, b2⟩ | b1
                · -- no upper bound beside a third one: it is the length
                  cases hi with
                  | none => cases his
                  | some x => simp at b1
                · exact b1
              have hb := run_bounds3 (P := P) (w := w) (cap := cap) (len := n) (k := km) bl hh' g0 g1 g2 (by omega)
              have hR := R_cut (m := m.toNat) (l := l) (h := hv) hn hall hnone hcells g0 g1 (by have : n = px.length := hn; omega) (by omega) (by omega)
              have hrun : (execOp a.eval o).run P w = .ok (.value (.slice (if m.toNat = l.toNat then ad else ad.map (·.add (l.toNat * t.csize))) (hv.toNat - l.toNat) (m.toNat - l.toNat))) w := by
                rw [run, ev]
                simp only [Option.map_some, opd_int H hkm]
                rw [run_sliceAt_sl hue hie hb, hse]; rfl
              refine yields_value hrun ⟨_, .fresh, s, I, μ, ρ, hK, H.toX _, hR, ?_, fun p e => by cases e⟩
              intro t' ht'
              have ht' : t = t' := by injection ht'
              subst ht'
              exact ⟨⟨_, hv.toNat - l.toNat, m.toNat - l.toNat, t.csize⟩, rfl, rfl, .inl (by show hv.toNat - l.toNat = m.toNat - l.toNat; rw [he]), fun q _ => .inl (by show hv.toNat - l.toNat = m.toNat - l.toNat; rw [he])⟩
            · cases h2
    | str =>
      have h' : (bif decide (E.ty U = some .str) then
        match mx, optI s 0 lo, optI s (lenS px) hi with
        | none, some l, some h => sliceK l h h (lenS px) (K ⟨.str, ByteArray.extract px l.toNat h.toNat⟩ .no s)
        | _, _, _ => none else none) = some r := h
      cases hU : decide (E.ty U = some .str) with
      | false => rw [hU] at h'; cases h'
      | true =>
      rw [hU] at h'
      simp only [cond_true] at h'
      have hU : E.ty U = some .str := of_decide_eq_true hU
      have hus := (hE.tys _ _ hU).str rfl
      cases mx with
      | some _ => cases h'
      | none =>
      cases hl : optI s 0 lo with
      | none => rw [hl] at h'; cases h'
      | some l =>
      cases hh : optI s (lenS px) hi with
      | none => rw [hl, hh] at h'; cases h'
      | some hv =>
        rw [hl, hh] at h'
        simp only at h'
        obtain ⟨g0, g1, g2, g3, hK⟩ := sliceK_some h'
        have ex := str_of_R hr
        have hb := run_bounds2 (P := P) (w := w) (isSl := false) (cap := ByteArray.size px) (optI_sound H hl) (optI_sound H hh) g0 g1 g3 (Nat.le_refl _)
        refine yields_value (u := .string (ByteArray.extract px l.toNat hv.toNat)) ?_ (Out.no hK H rfl)
        rw [run, ex, Option.map_none, run_sliceAt_str hus hb]; rfl
    | box i off => exact hbox i off px hx h
    | _ => cases h
end Go.Ev
