import Derived.Calls
import Derived.KernelRfl
namespace Go.Ev

inductive Ty where
  | top | undef | int (k : IntKind) | bool | str | unit
  | pr (a b : Ty) | st (t : Ty) | sl (t : Ty) | tup (t : Ty)
  | fn (f : Nat) (a c : Ty) | box (i off : Nat) | boxv (i : Nat) (offs : List Nat) | ref (t : Ty)

def natsBeq : List Nat → List Nat → Bool
  | [], [] => true
  | a :: l, b :: m => Nat.beq a b && natsBeq l m
  | _, _ => false

theorem natsBeq_eq : ∀ (l m : List Nat), natsBeq l m = true ↔ l = m
  | [], [] => by simp [natsBeq]
  | [], _ :: _ => by simp [natsBeq]
  | _ :: _, [] => by simp [natsBeq]
  | a :: l, b :: m => by simp only [natsBeq, Bool.and_eq_true, natsBeq_eq l m, Nat.beq_eq, List.cons.injEq]

def Ty.beq (a : Ty) : Ty → Bool := match a with
  | .top => fun | .top => true | _ => false
  | .undef => fun | .undef => true | _ => false
  | .bool => fun | .bool => true | _ => false
  | .str => fun | .str => true | _ => false
  | .unit => fun | .unit => true | _ => false
  | .int k => fun | .int k' => decide (k = k') | _ => false
  | .pr a b => fun | .pr c d => a.beq c && b.beq d | _ => false
  | .st a => fun | .st b => a.beq b | _ => false
  | .sl a => fun | .sl b => a.beq b | _ => false
  | .tup a => fun | .tup b => a.beq b | _ => false
  | .ref a => fun | .ref b => a.beq b | _ => false
  | .fn f a c => fun | .fn g b d => Nat.beq f g && (a.beq b && c.beq d) | _ => false
  | .box i o => fun | .box j p => Nat.beq i j && Nat.beq o p | _ => false
  | .boxv i l => fun | .boxv j m => Nat.beq i j && natsBeq l m | _ => false

theorem Ty.beq_eq : ∀ (a b : Ty), a.beq b = true ↔ a = b := by
  intro a
  induction a with
  | pr a b iha ihb => intro t; cases t <;> simp [Ty.beq, iha, ihb]
  | st a ih | sl a ih | tup a ih | ref a ih => intro t; cases t <;> simp [Ty.beq, ih]
  | fn f a c iha ihc => intro t; cases t <;> simp [Ty.beq, iha, ihc, Nat.beq_eq]
  | box i o => intro t; cases t <;> simp [Ty.beq, Nat.beq_eq]
  | boxv i l => intro t; cases t <;> simp [Ty.beq, Nat.beq_eq, natsBeq_eq]
  | _ => intro t; cases t <;> simp [Ty.beq]

instance : DecidableEq Ty := fun a b => match h : a.beq b with
  | true => .isTrue ((Ty.beq_eq a b).1 h)
  | false => .isFalse fun e => by rw [(Ty.beq_eq a b).2 e] at h; cases h

def Ty.den : Ty → Type
  | .top => Unit | .undef => Unit | .int _ => Int | .bool => Bool | .str => ByteArray | .unit => Unit
  | .pr a b => a.den × b.den | .st t => t.den | .sl t => List t.den | .tup t => t.den
  | .fn _ a c => a.den × c.den | .box _ _ => Unit | .boxv _ _ => Nat | .ref t => t.den

structure AV where
  ty : Ty
  x : ty.den

def AV.top : AV := ⟨.top, ()⟩
def AV.undef : AV := ⟨.undef, ()⟩

def castTo (t : Ty) (v : AV) : Option t.den := if h : v.ty = t then some (cast (congrArg Ty.den h) v.x) else none

def idx {α : Type} (l : List α) (i : Int) : Option α := if 0 ≤ i then l[i.toNat]? else none

def Ty.csize : Ty → Nat
  | .unit => 0
  | .pr a b => a.csize + b.csize
  | .st t => t.csize
  | _ => 1

def Ty.isSt : Ty → Bool
  | .st _ => true
  | _ => false

/-- one cell, and no aggregate -/
def Ty.leaf : Ty → Bool
  | .unit | .pr _ _ | .st _ | .tup _ | .undef | .top => false
  | _ => true

/-- its cells are single cells that are known -/
def Ty.cellok : Ty → Bool
  | .top | .undef | .tup _ => false
  | .pr a b => a.cellok && b.cellok
  | .st t => t.cellok
  | _ => true

def Ty.isTop : Ty → Bool
  | .top => true
  | _ => false

def Ty.isSl : Ty → Bool
  | .sl _ => true
  | _ => false

def Ty.zero : (t : Ty) → Option t.den
  | .int _ => some (0 : Int)
  | .bool => some false
  | .str => some ByteArray.empty
  | .unit => some ()
  | .pr a b => match a.zero, b.zero with
    | some x, some y => some (x, y)
    | _, _ => none
  | .st t => t.zero
  | .sl t => some ([] : List t.den)
  | _ => none

def proj : (t : Ty) → t.den → Nat → Option AV
  | .pr a _, x, 0 => some ⟨a, x.1⟩
  | .pr _ b, x, n + 1 => proj b x.2 n
  | t, x, 0 => some ⟨t, x⟩
  | _, _, _ => none

def fieldOff : Ty → Nat → Nat
  | .pr a b, n + 1 => a.csize + fieldOff b n
  | _, _ => 0

def fieldTy : Ty → Nat → Option Ty
  | .pr a _, 0 => some a
  | .pr _ b, n + 1 => fieldTy b n
  | t, 0 => some t
  | _, _ => none

/-- what stands at a cell of a value -/
def getOff (want : Ty) : (t : Ty) → t.den → Nat → Option AV
  | .st t, x, off => if off = 0 ∧ want = .st t then some ⟨.st t, x⟩ else getOff want t x off
  | .pr a b, x, off => if off < a.csize then getOff want a x.1 off else getOff want b x.2 (off - a.csize)
  | t, x, off => if off = 0 ∧ t.leaf = true ∧ (want = .top ∨ want = t) then some ⟨t, x⟩ else none

def setOff (v : AV) : (t : Ty) → t.den → Nat → Option t.den
  | .st t, x, off => if off = 0 ∧ v.ty = .st t then castTo (.st t) v else setOff v t x off
  | .pr a b, x, off =>
    if off < a.csize then (setOff v a x.1 off).map fun y => (y, x.2) else (setOff v b x.2 (off - a.csize)).map fun y => (x.1, y)
  | t, _, off => if off = 0 ∧ t.leaf = true then castTo t v else none

def setBox (v : AV) (c : AV) (off : Nat) : Option AV :=
  if off = 0 ∧ (c.ty.leaf || c.ty.isTop) = true ∧ v.ty.leaf = true then some v else (setOff v c.ty c.x off).map fun y => ⟨c.ty, y⟩

structure St where
  tmps : List AV
  boxes : List AV
  cp : List (Option Nat)

def nth {α : Type} (d : α) : List α → Nat → α
  | [], _ => d
  | x :: _, 0 => x
  | _ :: l, n + 1 => nth d l n

def setN {α : Type} : List α → Nat → α → List α
  | [], _, _ => []
  | _ :: l, 0, v => v :: l
  | x :: l, n + 1, v => x :: setN l n v

def St.get (s : St) (i : Nat) : AV := nth .top s.tmps i
def St.cap (s : St) (i : Nat) : Option Nat := nth none s.cp i

def isP (p : Nat) : Option Nat → Bool
  | some q => Nat.beq q p
  | none => false

def clearP (p : Nat) (l : List (Option Nat)) : List (Option Nat) := l.map fun o => bif isP p o then none else o

/-- what an operation does to who may append in place -/
inductive Cap where
  | no                       -- none
  | dup (p : Option Nat)   -- as another one has it
  | fresh                    -- anew
  | taken (p : Nat)        -- taken from p, and had anew

def St.put (s : St) (d : Option Nat) (v : AV) (c : Cap) : St :=
  match d with
  | none => s
  | some d =>
    { s with
      tmps := setN s.tmps d v
      cp := match (bif v.ty.isSl then c else .no) with
        | .no => setN s.cp d none
        | .dup p => setN s.cp d p
        | .fresh => setN (clearP d s.cp) d (some d)
        | .taken p => setN (clearP d (clearP p s.cp)) d (some d) }

def look {α : Type} : List (Nat × α) → Nat → Option α
  | [], _ => none
  | (a, b) :: l, n => bif Nat.beq a n then some b else look l n

/-- cells of a constant -/
def decI (k : IntKind) : List Value → Option (Int × List Value)
  | .int k' n :: r => if k = k' then some (n, r) else none
  | _ => none
def decB : List Value → Option (Bool × List Value)
  | .bool b :: r => some (b, r)
  | _ => none
def decS : List Value → Option (ByteArray × List Value)
  | .string s :: r => some (s, r)
  | _ => none
def decN : List Value → Option (List Value)
  | .slice none 0 0 :: r => some r
  | _ => none

def decC : (t : Ty) → List Value → Option (t.den × List Value)
  | .int k, l => decI k l
  | .bool, l => decB l
  | .str, l => decS l
  | .sl t, l => (decN l).map fun r => (([] : List t.den), r)
  | .unit, r => some ((), r)
  | .pr a b, l => match decC a l with
    | some (x, r) => match decC b r with
      | some (y, r') => some ((x, y), r')
      | none => none
    | none => none
  | .st t, l => decC t l
  | _, _ => none

def constA (T : Option Ty) (cs : List Value) : Option AV := match T with
  | some (.st t) => match decC t cs with
    | some (x, []) => some ⟨.st t, x⟩
    | _ => none
  | _ => none

def constN (T : Option Ty) : Option AV := match T with
  | some (.sl t) => some ⟨.sl t, ([] : List t.den)⟩
  | _ => none

def constV (T : Option Ty) : Value → Option AV
  | .int k n => some ⟨.int k, n⟩
  | .bool b => some ⟨.bool, b⟩
  | .string b => some ⟨.str, b⟩
  | .slice none 0 0 => constN T
  | .agg cs => constA T cs.toList
  | _ => none

def opd (s : St) (T : Option Ty) : Operand → Option AV
  | .tmp t => some (s.get t)
  | .const v => constV T v
  | .func f => some ⟨.fn f .unit .unit, ((), ())⟩
  | .global _ => none

def opdCap (s : St) : Operand → Cap
  | .tmp t => .dup (s.cap t)
  | .const _ => .fresh
  | _ => .no

def asB : Option AV → Option Bool
  | some ⟨.bool, q⟩ => some q
  | _ => none

def asN : Option AV → Option (IntKind × Int)
  | some ⟨.int k, n⟩ => some (k, n)
  | _ => none

/-- a chain of values -/
def chain : List AV → AV
  | [] => ⟨.unit, ()⟩
  | [v] => v
  | v :: l => ⟨.pr v.ty (chain l).ty, (v.x, (chain l).x)⟩

def unchain : (t : Ty) → t.den → List AV
  | .unit, _ => []
  | .pr a b, x => ⟨a, x.1⟩ :: unchain b x.2
  | t, x => [⟨t, x⟩]

def bitsOf (op : BinOp) (k : IntKind) (x y : Int) : Option Int :=
  match op with
  | .and => some (k.wrap (BitVec.ofInt k.bits x &&& BitVec.ofInt k.bits y).toNat)
  | .or => some (k.wrap (BitVec.ofInt k.bits x ||| BitVec.ofInt k.bits y).toNat)
  | .xor => some (k.wrap (BitVec.ofInt k.bits x ^^^ BitVec.ofInt k.bits y).toNat)
  | _ => none

def eqI (x y : Int) : Bool := decide (x = y)
def eqB (x y : Bool) : Bool := x == y
def eqS (x y : ByteArray) : Bool := x.toList == y.toList

/-- two values of a type whose cells are numbers, bools, strings: the same? -/
def beqD : (t : Ty) → t.den → t.den → Option Bool
  | .int _, x, y => some (eqI x y)
  | .bool, x, y => some (eqB x y)
  | .str, x, y => some (eqS x y)
  | .pr a b, x, y => match beqD a x.1 y.1, beqD b x.2 y.2 with
    | some p, some q => some (p && q)
    | _, _ => none
  | .st t, x, y => beqD t x y
  | _, _, _ => none

/-- a branch that hangs on what comes in -/
def br {α : Type} (c : Bool) (a b : α) : α := bif c then a else b

section
variable {R : Type}

def AV.int (k : IntKind) (n : Int) : AV := ⟨.int k, n⟩
def AV.bool (b : Bool) : AV := ⟨.bool, b⟩
def AV.str (b : ByteArray) : AV := ⟨.str, b⟩

def shiftK (op : BinOp) (k : IntKind) (x y : Int) (K : AV → Option R) : Option R :=
  match op with
  | .shl => br (decide (y < 0)) none (K (.int k (k.wrap (x * 2 ^ (min y.toNat k.bits)))))
  | .shr => br (decide (y < 0)) none (K (.int k (x.fdiv (2 ^ (min y.toNat k.bits)))))
  | _ => none

def intK (op : BinOp) (k : IntKind) (x y : Int) (K : AV → Option R) : Option R :=
  match op with
  | .add => K (.int k (k.wrap (x + y)))
  | .sub => K (.int k (k.wrap (x - y)))
  | .mul => K (.int k (k.wrap (x * y)))
  | .quo => br (eqI y 0) none (K (.int k (k.wrap (x.tdiv y))))
  | .rem => br (eqI y 0) none (K (.int k (x.tmod y)))
  | .eql => K (.bool (eqI x y))
  | .neq => K (.bool (!eqI x y))
  | .lss => K (.bool (decide (x < y)))
  | .leq => K (.bool (decide (x ≤ y)))
  | .gtr => K (.bool (decide (x > y)))
  | .geq => K (.bool (decide (x ≥ y)))
  | .and => K (.int k (k.wrap (BitVec.ofInt k.bits x &&& BitVec.ofInt k.bits y).toNat))
  | .or => K (.int k (k.wrap (BitVec.ofInt k.bits x ||| BitVec.ofInt k.bits y).toNat))
  | .xor => K (.int k (k.wrap (BitVec.ofInt k.bits x ^^^ BitVec.ofInt k.bits y).toNat))
  | _ => none

def eqK (op : BinOp) (b : Bool) (K : AV → Option R) : Option R :=
  match op with
  | .eql => K (.bool b)
  | .neq => K (.bool (!b))
  | _ => none

def isShift : BinOp → Bool
  | .shl | .shr => true
  | _ => false

def binK (op : BinOp) (a b : AV) (K : AV → Option R) : Option R :=
  match a, b with
  | ⟨.int k, x⟩, ⟨.int k', y⟩ => if isShift op = true then shiftK op k x y K else if k = k' then intK op k x y K else none
  | ⟨.bool, x⟩, ⟨.bool, y⟩ => eqK op (eqB x y) K
  | ⟨.str, x⟩, ⟨.str, y⟩ => eqK op (eqS x y) K
  | ⟨.st t, x⟩, w =>
    match castTo (.st t) w with
    | some y => match beqD t x y with
      | some q => eqK op q K
      | none => none
    | none => none
  | _, _ => none

def isTrueT : Ty → Bool
  | .bool => true
  | _ => false

/-- the bytes of a row of numbers -/
def bytesOf (l : List Int) : ByteArray := ⟨(l.map fun n => UInt8.ofNat n.toNat).toArray⟩

/-- the type table, the contracts, the functions, rounds -/
structure Ctr where
  f : Nat
  a : Ty
  r : Ty
  G : a.den → Option r.den

structure Env where
  tt : List (Nat × Ty)
  ctr : List Ctr
  fns : List (Nat × Func)
  ann : List (Nat × List (Nat × List Nat))
  lim : List (Nat × Nat)       -- slice types: bytes of an element
  strs : List Nat              -- struct types
  arrs : List Nat              -- array types
  eqs : List Nat               -- struct and array types whose values are compared
  k : Nat

def Env.ty (E : Env) (T : Nat) : Option Ty := look E.tt T

/-- a pick of a row by a number -/
def sel {α : Type} (d : α) (l : List α) (i : Nat) : α := nth d l i

def allSome {α β : Type} (f : α → Option β) : List α → Option (List β)
  | [] => some []
  | a :: l => match f a, allSome f l with
    | some b, some m => some (b :: m)
    | _, _ => none

/-- the values that stand at some places of a value, all of one type -/
def getOffs (want : Ty) (c : AV) (offs : List Nat) (t : Ty) : Option (List t.den) :=
  allSome (fun off => match getOff want c.ty c.x off with
    | some v => castTo t v
    | none => none) offs

/-- what a load through a type reads: the type itself, or (a pointer, a function) any one cell -/
def loadK (E : Env) (T : Nat) (s : St) (p : AV) (K : AV → Cap → Option R) : Option R :=
  match E.ty T with
  | none => none
  | some want =>
    match p with
    | ⟨.ref t, x⟩ => bif (decide (want = t)) || ((decide (want = .top)) && t.leaf) then K ⟨t, x⟩ .no else none
    | ⟨.box i off, _⟩ =>
      let c := nth .top s.boxes i
      match getOff want c.ty c.x off with
      | some ⟨t, x⟩ => K ⟨t, x⟩ .no
      | none => none
    | ⟨.boxv i offs, j⟩ =>
      let c := nth .top s.boxes i
      match offs with
      | [] => none
      | o :: _ => match getOff want c.ty c.x o with
        | some ⟨t, x⟩ => match getOffs want c offs t with
          | some l => K ⟨t, sel x l j⟩ .no
          | none => none
        | none => none
    | _ => none

def setOffs (v : AV) (j : Nat) : (c : AV) → (offs : List Nat) → (n : Nat) → Option AV
  | c, [], _ => some c
  | c, o :: l, n => match getOff v.ty c.ty c.x o with
    | some u => match castTo v.ty u with
      | some y => match setOff ⟨v.ty, bif Nat.beq j n then v.x else y⟩ c.ty c.x o with
        | some z => setOffs v j ⟨c.ty, z⟩ l (n + 1)
        | none => none
      | none => none
    | none => none

def storeK (E : Env) (T : Nat) (s : St) (p : AV) (v : AV) (K : St → Option R) : Option R :=
  match E.ty T with
  | none => none
  | some want =>
    bif !((decide (want = v.ty) || (decide (want = .top) && v.ty.leaf)) && v.ty.cellok) then none else
    match p with
    | ⟨.box i off, _⟩ =>
      match setBox v (nth .top s.boxes i) off with
      | some ⟨t, x⟩ => K { s with boxes := setN s.boxes i ⟨t, x⟩ }
      | none => none
    | ⟨.boxv i offs, j⟩ =>
      match setOffs v j (nth .top s.boxes i) offs 0 with
      | some ⟨t, x⟩ => K { s with boxes := setN s.boxes i ⟨t, x⟩ }
      | none => none
    | _ => none
end
end Go.Ev
