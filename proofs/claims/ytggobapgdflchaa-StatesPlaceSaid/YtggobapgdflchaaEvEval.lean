import Derived.Test.YtggobapgdflchaaEvDefs
namespace Go.Ev

def lenI {α : Type} (l : List α) : Int := (l.length : Int)
def lenS (b : ByteArray) : Int := (b.size : Int)
def app {α : Type} (l m : List α) : List α := l ++ m
def fits {α β : Type} (l : List α) (m : List β) (n : Nat) : Bool := decide ((l.length + m.length) * n ≤ 140737488355328)

def chainLen : Ty → Nat
  | .pr _ b => chainLen b + 1
  | .unit => 0
  | _ => 1

/-- the first type of a chain -/
def chainHd : Ty → Ty
  | .pr a _ => a
  | t => t

/-- a chain of one type's values as a list -/
def chainList (e : Ty) : (t : Ty) → t.den → Option (List e.den)
  | .pr a b, x => match castTo e ⟨a, x.1⟩, chainList e b x.2 with
    | some y, some l => some (y :: l)
    | _, _ => none
  | .unit, _ => some []
  | t, x => match castTo e ⟨t, x⟩ with
    | some y => some [y]
    | none => none

def setField : (t : Ty) → t.den → Nat → AV → Option t.den
  | .pr a _, x, 0, v => match castTo a v with
    | some y => some (y, x.2)
    | none => none
  | .pr _ b, x, n + 1, v => match setField b x.2 n v with
    | some y => some (x.1, y)
    | none => none
  | .unit, _, _, _ => none
  | t, _, 0, v => castTo t v
  | _, _, _, _ => none

def setParts (s : St) (t : Ty) : t.den → List (Nat × Operand) → Option t.den
  | x, [] => some x
  | x, (i, o) :: l => bif !(Nat.blt i (chainLen t)) then none else match opd s (fieldTy t i) o with
    | some v => bif v.ty.isTop then none else match setField t x i v with
      | some y => setParts s t y l
      | none => none
    | none => none

def setElems (s : St) (t : Ty) : List t.den → List (Nat × Operand) → Option (List t.den)
  | x, [] => some x
  | x, (i, o) :: l => match opd s (some t) o with
    | some v => match castTo t v with
      | some y => bif Nat.blt i x.length && !t.isTop then setElems s t (setN x i y) l else none
      | none => none
    | none => none

def opds (s : St) (E : Env) : List Operand → List Nat → Option (List AV)
  | [], _ => some []
  | o :: l, T :: Ts => match opd s (E.ty T) o, opds s E l Ts with
    | some v, some vs => some (v :: vs)
    | _, _ => none
  | o :: l, [] => match opd s none o, opds s E l [] with
    | some v, some vs => some (v :: vs)
    | _, _ => none

def isConstInt : Operand → Option Int
  | .const (.int _ n) => some n
  | _ => none

def boxFree (n : Nat) : Ty → Bool
  | .pr a b => boxFree n a && boxFree n b
  | .st t | .sl t | .tup t | .ref t => boxFree n t
  | .fn _ a c => boxFree n a && boxFree n c
  | .box i _ | .boxv i _ => Nat.blt i n
  | _ => true

section
variable {R : Type}

abbrev CallSem (R : Type) := Nat → List AV → List AV → (AV → List AV → Option R) → Option R

def ctrK (f : Nat) (a : AV) : List Ctr → (AV → Option R) → Option R → Option R
  | [], _, no => no
  | c :: l, K, no => bif Nat.beq c.f f && boxFree 0 c.a && boxFree 0 c.r then match castTo c.a a with
      | some x => (c.G x).bind fun y => K ⟨c.r, y⟩
      | none => ctrK f a l K no
    else ctrK f a l K no

def callK (E : Env) (C : CallSem R) (f : Nat) (args : List AV) (s : St) (K : AV → Cap → St → Option R) : Option R :=
  ctrK f (chain args) E.ctr (fun v => K v .no s) (C f args s.boxes fun v bs => K v .no { s with boxes := bs })

def capP : Cap → Option Cap
  | .dup (some p) => some (.taken p)
  | .fresh => some .fresh
  | _ => none

def minI (x y : Int) : Int := if y < x then y else x
def maxI (x y : Int) : Int := if y > x then y else x

def deadBox (s : St) (i : Nat) : St := { s with boxes := setN s.boxes i .undef }

def sliceK (l h m n : Int) (K : Option R) : Option R :=
  br (decide (0 ≤ l) && decide (l ≤ h) && decide (h ≤ m) && decide (m ≤ n)) K none

def intOf (v : Option AV) : Option Int := match asN v with
  | some (_, n) => some n
  | none => none

def optI (s : St) (d : Int) : Option Operand → Option Int
  | none => some d
  | some o => intOf (opd s none o)

def cut {α : Type} (x : List α) (l h : Int) : List α := (x.take h.toNat).drop l.toNat

/-- a whole array behind a pointer as a slice: the array is fixed for good -/
def slBoxK (E : Env) (T : Nat) (s : St) (i : Nat) (lo hi mx : Option Operand) (K : AV → Cap → St → Option R) : Option R :=
  match E.ty T, lo, hi, mx with
  | some (.st t), none, none, none =>
    match castTo (.st t) (nth .top s.boxes i) with
    | some y => bif !E.arrs.contains T then none else match chainList (chainHd t) t y with
      | some l => K ⟨.sl (chainHd t), l⟩ .no (deadBox s i)
      | none => none
    | none => none
  | _, _, _, _ => none

/-- a slice expression -/
def slK (E : Env) (T : Nat) (s : St) (x : AV) (lo hi mx : Option Operand) (K : AV → Cap → St → Option R) : Option R :=
  match x with
  | ⟨.sl t, x⟩ =>
    bif decide (E.ty T = some (.sl t)) then
    match optI s 0 lo, optI s (lenI x) hi with
    | some l, some h =>
      match mx with
      | none => sliceK l h h (lenI x) (K ⟨.sl t, cut x l h⟩ .no s)
      | some m => bif !hi.isSome then none else match intOf (opd s none m) with
        | some m => sliceK l h m (lenI x) (br (eqI h m) (K ⟨.sl t, cut x l h⟩ .fresh s) none)
        | none => none
    | _, _ => none
    else none
  | ⟨.str, b⟩ =>
    bif decide (E.ty T = some .str) then
    match mx, optI s 0 lo, optI s (lenS b) hi with
    | none, some l, some h => sliceK l h h (lenS b) (K ⟨.str, ByteArray.extract b l.toNat h.toNat⟩ .no s)
    | _, _, _ => none
    else none
  | ⟨.box i 0, _⟩ => slBoxK E T s i lo hi mx K
  | _ => none

def range0 : Nat → List Nat
  | 0 => []
  | n + 1 => range0 n ++ [n]

def inB (n : Int) (len : Nat) : Bool := decide (0 ≤ n) && decide (n < (len : Int))

def mulAdd (j l : Nat) (n : Int) : Nat := j * l + n.toNat

def idxAddrK (E : Env) (T : Nat) (x : AV) (io : Operand) (i : Option AV) (K : AV → Option R) : Option R :=
  match asN i with
  | some (_, n) =>
    match x with
    | ⟨.sl t, l⟩ => bif decide (E.ty T = some (.sl t)) && Nat.blt 0 t.csize then (idx l n).bind fun y => K ⟨.ref t, y⟩ else none
    | ⟨.box b off, _⟩ =>
      bif !E.arrs.contains T then none else
      match E.ty T with
      | some (.st t) =>
        br (inB n (chainLen t)) (
          match isConstInt io with
          | some m => K ⟨.box b (off + m.toNat * (chainHd t).csize), ()⟩
          | none => K ⟨.boxv b ((range0 (chainLen t)).map fun m => off + m * (chainHd t).csize), Int.toNat n⟩)
          none
      | _ => none
    | ⟨.boxv b offs, j⟩ =>
      bif !E.arrs.contains T then none else
      match E.ty T with
      | some (.st t) =>
        br (inB n (chainLen t))
          (K ⟨.boxv b (offs.flatMap fun off => (range0 (chainLen t)).map fun m => off + m * (chainHd t).csize), mulAdd j (chainLen t) n⟩)
          none
      | _ => none
    | ⟨.ref (.st t), y⟩ =>
      bif !E.arrs.contains T then none else
      match E.ty T with
      | some (.st t') =>
        bif decide (t' = t) && Nat.blt 0 (chainHd t).csize then br (inB n (chainLen t)) (
          match chainList (chainHd t) t y with
          | some (d :: l) => K ⟨.ref (chainHd t), sel d (d :: l) (Int.toNat n)⟩
          | _ => none) none
        else none
      | _ => none
    | _ => none
  | _ => none

def idxK (E : Env) (T : Nat) (x : AV) (i : Option AV) (K : AV → Option R) : Option R :=
  match asN i with
  | some (_, n) =>
    match x with
    | ⟨.st t, y⟩ =>
      bif !(E.arrs.contains T && decide (E.ty T = some (.st t))) then none else
      br (inB n (chainLen t)) (
        match chainList (chainHd t) t y with
        | some (d :: l) => K ⟨chainHd t, sel d (d :: l) (Int.toNat n)⟩
        | _ => none) none
    | _ => none
  | _ => none

def fieldAddrK (E : Env) (S : Nat) (x : AV) (f : Nat) (K : AV → Option R) : Option R :=
  match E.ty S with
  | some (.st t) =>
    bif !(E.strs.contains S && Nat.blt f (chainLen t)) then none else
    match x with
    | ⟨.box i off, _⟩ => K ⟨.box i (off + fieldOff t f), ()⟩
    | ⟨.boxv i offs, j⟩ => K ⟨.boxv i (offs.map fun o => o + fieldOff t f), j⟩
    | ⟨.ref (.st t'), y⟩ => bif decide (t' = t) then match proj t' y f with
        | some ⟨u, z⟩ => K ⟨.ref u, z⟩
        | none => none
      else none
    | _ => none
  | _ => none

def convK (a b : Option Ty) (v : AV) (K : AV → Option R) : Option R :=
  match b, v with
  | some (.int k), ⟨.int _, n⟩ => K ⟨.int k, k.wrap n⟩
  | some .str, ⟨.str, x⟩ => K ⟨.str, x⟩
  | some .str, ⟨.sl (.int .u8), l⟩ => bif decide (a = some (.sl (.int .u8))) then K ⟨.str, bytesOf l⟩ else none
  | _, _ => none

def builtinK (E : Env) (b : Builtin) (Ts : List Nat) (args : List AV) (caps : List Cap) (K : AV → Cap → Option R) : Option R :=
  match b, args with
  | .len, [⟨.sl t, l⟩] => bif decide (Ts.map E.ty = [some (.sl t)]) then K ⟨.int .i64, lenI l⟩ .no else none
  | .len, [⟨.str, b⟩] => bif decide (Ts.map E.ty = [some .str]) then K ⟨.int .i64, lenS b⟩ .no else none
  | .min, [⟨.int k, x⟩, ⟨.int k', y⟩] => if k = k' then K ⟨.int k, minI x y⟩ .no else none
  | .max, [⟨.int k, x⟩, ⟨.int k', y⟩] => if k = k' then K ⟨.int k, maxI x y⟩ .no else none
  | .append, [⟨.sl t, l⟩, ⟨.sl t', m⟩] =>
    match Ts, caps with
    | [T, T2], c :: _ =>
      match look E.lim T, capP c, castTo (.sl t) ⟨.sl t', m⟩ with
      | some n, some c, some m' => bif decide (E.ty T = some (.sl t)) && t.cellok && Nat.beq T T2 && Nat.blt 0 t.csize && (t.zero).isSome then br (fits l m n) (K ⟨.sl t, app l m'⟩ c) none else none
      | _, _, _ => none
    | _, _ => none
  | _, _ => none

def pushBox (s : St) (v : AV) : St := { s with boxes := s.boxes ++ [v] }

def isFn : Ty → Bool
  | .fn _ _ _ | .box _ _ | .boxv _ _ | .ref _ => true
  | _ => false

/-- may values of this type be compared through this type's number? -/
def eqOK (E : Env) (T : Nat) : Ty → Bool
  | .int _ => true
  | .str => true
  | .bool => decide (E.ty T = some .bool)
  | .st t => decide (E.ty T = some (.st t)) && E.eqs.contains T
  | _ => false

def negI (k : IntKind) (n : Int) : Int := k.wrap (0 - n)

def Ty.single : Ty → Bool
  | .pr _ _ | .unit => false
  | _ => true

def opK (E : Env) (C : CallSem R) (s : St) (o : Oper) (K : AV → Cap → St → Option R) : Option R :=
  match o.op with
  | .move x => match opd s (E.ty o.type) x with
    | some ⟨t, y⟩ => K ⟨t, y⟩ (opdCap s x) s
    | none => none
  | .assign x => match opd s (E.ty o.type) x with
    | some ⟨t, y⟩ => K ⟨t, y⟩ (opdCap s x) s
    | none => none
  | .pick c a b => match asB (opd s none c), opd s (E.ty o.type) a, opd s (E.ty o.type) b with
    | some q, some va, some vb =>
      match castTo va.ty vb with
      | some y => K ⟨va.ty, br q va.x y⟩ .no s
      | none => br q (K va .no s) (K vb .no s)
    | _, _, _ => none
  | .alloc T => match E.ty T with
    | some .top => K ⟨.box s.boxes.length 0, ()⟩ .no (pushBox s .top)
    | some t => match t.zero with
      | some z => K ⟨.box s.boxes.length 0, ()⟩ .no (pushBox s ⟨t, z⟩)
      | none => none
    | none => none
  | .box T x => match E.ty T, opd s (E.ty T) x with
    | some t, some ⟨u, y⟩ => bif (decide (t = u) && !u.isTop) || (decide (t = .top) && u.leaf) then K ⟨.box s.boxes.length 0, ()⟩ .no (pushBox s ⟨u, y⟩) else none
    | _, _ => none
  | .build T parts => match E.ty T with
    | some (.st t) => bif !(E.strs.contains T) then none else match t.zero with
      | some z => match setParts s t z parts.toList with
        | some y => K ⟨.st t, y⟩ .no s
        | none => none
      | none => none
    | _ => none
  | .buildSlice T len parts => match E.ty T with
    | some (.sl t) => match t.zero with
      | some z => match setElems s t (List.replicate len z) parts.toList with
        | some y => bif Nat.ble (len * t.csize) 1000 then K ⟨.sl t, y⟩ .fresh s else none
        | none => none
      | none => none
    | _ => none
  | .load T a => match opd s none a with
    | some p => loadK E T s p fun v c => K v c s
    | none => none
  | .store T a x => match opd s none a, opd s (E.ty T) x with
    | some p, some v => storeK E T s p v fun s' => K .undef .no s'
    | _, _ => none
  | .nilCheck x => match opd s none x with
    | some ⟨t, y⟩ => bif isFn t then K ⟨t, y⟩ .no s else none
    | none => none
  | .binOp op xT x y yT => match opd s (E.ty xT) x, opd s (E.ty yT) y with
    | some a, some b => bif eqOK E xT a.ty then binK op a b fun v => K v .no s else none
    | _, _ => none
  | .unOp .not _ x => match asB (opd s none x) with
    | some b => K (.bool !b) .no s
    | none => none
  | .unOp .neg _ x => match asN (opd s none x) with
    | some (k, n) => K (.int k (negI k n)) .no s
    | none => none
  | .convert src dst x => match E.ty src, opd s (E.ty src) x with
    | some ts, some v => convK (some ts) (E.ty dst) v fun v => K v .no s
    | _, _ => none
  | .makeFunc (.func f) first captured => match opds s E first.toList [], opds s E captured.toList [] with
    | some a, some c => K ⟨.fn f (chain a).ty (chain c).ty, ((chain a).x, (chain c).x)⟩ .no s
    | _, _ => none
  | .slice T x lo hi mx => match opd s (E.ty T) x with
    | some v => slK E T s v lo hi mx K
    | none => none
  | .fieldAddr S x f => match opd s none x with
    | some v => fieldAddrK E S v f fun v => K v .no s
    | none => none
  | .field T x f => match opd s (E.ty T) x with
    | some ⟨.st t, y⟩ => bif !(E.strs.contains T && decide (E.ty T = some (.st t)) && Nat.blt f (chainLen t)) then none else match proj t y f with
      | some ⟨u, z⟩ => K ⟨u, z⟩ .no s
      | none => none
    | _ => none
  | .indexAddr T x i => match opd s (E.ty T) x with
    | some v => idxAddrK E T v i (opd s none i) fun v => K v .no s
    | none => none
  | .index T x i => match opd s (E.ty T) x with
    | some v => idxK E T v (opd s none i) fun v => K v .no s
    | none => none
  | .extract x i => match opd s none x with
    | some ⟨.tup t, y⟩ => match proj t y i with
      | some ⟨u, z⟩ => bif u.single then K ⟨u, z⟩ .no s else none
      | none => none
    | _ => none
  | .call c => match opds s E c.args.toList c.argTypes.toList with
    | some args => match c.callee with
      | .builtin b => bif !o.dst.isSome then none else builtinK E b c.argTypes.toList args (c.args.toList.map (opdCap s)) fun v c => K v c s
      | .value g => match opd s none g with
        | some ⟨.fn f a c', x⟩ => bif (unchain a x.1).all (fun v => v.ty.single) && (unchain c' x.2).all (fun v => v.ty.single) then callK E C f (unchain a x.1 ++ args ++ unchain c' x.2) s K else none
        | _ => none
      | _ => none
    | none => none
  | _ => none

/-- lists written out -/
def forceA {β : Type} : List AV → (List AV → β) → β
  | [], k => k []
  | ⟨t, x⟩ :: l, k => forceA l fun l' => k (⟨t, x⟩ :: l')

def forceP {β : Type} : List (Option Nat) → (List (Option Nat) → β) → β
  | [], k => k []
  | none :: l, k => forceP l fun l' => k (none :: l')
  | some i :: l, k => forceP l fun l' => k (some i :: l')

def forceSt (s : St) (K : St → Option R) : Option R :=
  forceA s.tmps fun t => forceA s.boxes fun b => forceP s.cp fun p => K ⟨t, b, p⟩

def putK (s : St) (d : Option Nat) (v : AV) (c : Cap) (K : St → Option R) : Option R := forceSt (s.put d v c) K

def dstAt (ops : Array Oper) (j : Nat) : Option Nat := match ops.toList[j]? with
  | some o => o.dst
  | none => none

def evOper (E : Env) (C : CallSem R) (ops : Array Oper) (o : Oper) (s : St) (K : St → Option R) : Option R :=
  match o.guard with
  | none => opK E C s o fun v c s' => putK s' o.dst v c K
  | some (j, want) =>
    match dstAt ops j with
    | none => none
    | some d =>
      match s.get d with
      | ⟨.bool, b⟩ =>
        let st := { s with tmps := setN s.tmps d (.bool true) }
        let sf := { s with tmps := setN s.tmps d (.bool false) }
        bif want then
          br b (opK E C st o fun v c s' => putK s' o.dst v c K) (putK sf o.dst .undef .no K)
        else
          br b (putK st o.dst .undef .no K) (opK E C sf o fun v c s' => putK s' o.dst v c K)
      | ⟨.undef, _⟩ => putK s o.dst .undef .no K
      | _ => none

def noCall : CallSem R := fun _ _ _ _ => none

/-- two ways to the same end -/
noncomputable def both (a b : Option R) : Option R := open Classical in if a = b then a else none

def isNilC : Operand → Bool
  | .const (.slice none 0 0) => true
  | _ => false

/-- a slice compared with nil: (is it '==', how long is it) -/
def nilOp (E : Env) (s : St) (o : Oper) : Option (Bool × Int) :=
  match o.guard, o.op with
  | none, .binOp op xT x y _ => bif isNilC y then match E.ty xT with
      | some (.sl t) => match opd s (some (.sl t)) x with
        | some v => match castTo (.sl t) v with
          | some l => match op with
            | .eql => some (true, lenI l)
            | .neq => some (false, lenI l)
            | _ => none
          | none => none
        | none => none
      | _ => none
    else none
  | _, _ => none

noncomputable def nilK (eq : Bool) (len : Int) (K : Bool → Option R) : Option R := br (decide (0 < len)) (K (!eq)) (both (K eq) (K (!eq)))

noncomputable def evOps (E : Env) (C : CallSem R) (ops : Array Oper) : List Oper → St → (St → Option R) → Option R
  | [], s, K => K s
  | o :: l, s, K => match nilOp E s o with
    | some (eq, len) => nilK eq len fun b => putK s o.dst (.bool b) .no fun s' => evOps E C ops l s' K
    | none => evOper E C ops o s fun s' => evOps E C ops l s' K

inductive Ex where
  | normal
  | exit (id : Nat)
  | ret

/-- what of memory an operation meets -/
inductive Fp where
  | no
  | rd (i : Nat)
  | wr (i : Nat)
  | al (n : Nat)

def fpPtr (rd : Bool) : Option AV → Fp
  | some ⟨.box i _, _⟩ => bif rd then .rd i else .wr i
  | some ⟨.boxv i _, _⟩ => bif rd then .rd i else .wr i
  | _ => .no

def fpOf (E : Env) (s : St) (o : Oper) : Fp :=
  match o.op with
  | .load _ a => fpPtr true (opd s none a)
  | .store _ a _ => fpPtr false (opd s none a)
  | .alloc _ => .al s.boxes.length
  | .box _ _ => .al s.boxes.length
  | .slice T x _ _ _ => fpPtr false (opd s (E.ty T) x)
  | _ => .no

def compat : Fp → Fp → Bool
  | .no, _ => true
  | _, .no => true
  | .rd _, .rd _ => true
  | .rd i, .wr j => !(Nat.beq i j)
  | .wr j, .rd i => !(Nat.beq i j)
  | .rd i, .al n => Nat.blt i n
  | .al n, .rd i => Nat.blt i n
  | _, _ => false

/-- does an operation wait for that one in whatever order? -/
def bindsOn (o : Oper) (k : Nat) : Bool := o.after.toList.any fun e => Region.binds .any e && Nat.beq e.on k

def opdNames : Operand → List Nat
  | .tmp t => [t]
  | _ => []

def optNames : Option Operand → List Nat
  | some x => opdNames x
  | none => []

def opNames : Op → List Nat
  | .move x => opdNames x
  | .assign x => opdNames x
  | .pick c a b => opdNames c ++ (opdNames a ++ opdNames b)
  | .box _ x => opdNames x
  | .build _ ps => ps.toList.flatMap fun p => opdNames p.2
  | .buildSlice _ _ ps => ps.toList.flatMap fun p => opdNames p.2
  | .load _ a => opdNames a
  | .store _ a x => opdNames a ++ opdNames x
  | .nilCheck x => opdNames x
  | .binOp _ _ x y _ => opdNames x ++ opdNames y
  | .unOp _ _ x => opdNames x
  | .convert _ _ x => opdNames x
  | .makeFunc _ f c => f.toList.flatMap opdNames ++ c.toList.flatMap opdNames
  | .slice _ x lo hi mx => opdNames x ++ (optNames lo ++ (optNames hi ++ optNames mx))
  | .fieldAddr _ x _ => opdNames x
  | .field _ x _ => opdNames x
  | .indexAddr _ x i => opdNames x ++ opdNames i
  | .index _ x i => opdNames x ++ opdNames i
  | .extract x _ => opdNames x
  | .call c => c.args.toList.flatMap opdNames ++ (match c.callee with
    | .value g => opdNames g
    | _ => [])
  | _ => []

def guardNames (ops : Array Oper) (o : Oper) : List Nat := match o.guard with
  | some (j, _) => (dstAt ops j).toList
  | none => []

def operNames (ops : Array Oper) (o : Oper) : List Nat := guardNames ops o ++ opNames o.op

def offDst (d : Option Nat) (l : List Nat) : Bool := match d with
  | some d => l.all fun t => !(Nat.beq t d)
  | none => true

/-- neither writes a slot that the other one names -/
def indep (ops : Array Oper) (o o' : Oper) : Bool := offDst o.dst (operNames ops o') && offDst o'.dst (operNames ops o)

def neDst : Option Nat → Option Nat → Bool
  | some d, some e => !(Nat.beq d e)
  | _, _ => true

def pairOK (ops : Array Oper) (o : Oper) : List Oper → Nat → Nat → Bool
  | [], _, _ => true
  | o' :: l, i, j => neDst o.dst o'.dst && (bindsOn o' i || indep ops o o') && pairOK ops o l i (j + 1)

def drawOK (ops : Array Oper) : List Oper → Nat → Bool
  | [], _ => true
  | o :: l, i => (o.after.toList.all fun e => !(Region.binds .any e) || Nat.blt e.on i) && pairOK ops o l i (i + 1) && drawOK ops l (i + 1)

def chk (o : Oper) (f : Fp) : List (Nat × Fp) → Bool
  | [] => true
  | (k, g) :: l => (bindsOn o k || compat g f) && chk o f l

/-- a region whose operations may stand in any order that its edges allow: in the text's order, and a look at what each meets -/
def evDraw (E : Env) (ops : Array Oper) : List Oper → Nat → List (Nat × Fp) → St → (St → Option R) → Option R
  | [], _, _, s, K => K s
  | o :: l, i, log, s, K => bif chk o (fpOf E s o) log then evOper E noCall ops o s fun s' => evDraw E ops l (i + 1) ((i, fpOf E s o) :: log) s' K else none

def stripP (ops : List Oper) (l : List (Option Nat)) : List (Option Nat) := l.map fun
  | some p => bif ops.all fun o => neDst (some p) o.dst then some p else none
  | none => none

def firstRegion : Code → Nat
  | .region id _ _ => id
  | .seq a _ => firstRegion a
  | .cond _ a _ => firstRegion a
  | .block _ a => firstRegion a
  | .loop a => firstRegion a
  | .scope a => firstRegion a
  | _ => 0

/-- a stop for who reckons: what stands behind is one's own -/
def stall (n : Nat) (f : Unit → Option R) : Option R := match n with
  | 0 => none
  | _ + 1 => f ()

/-- where ways meet -/
def joinAt (b : Code) : Nat := 100000 + firstRegion b

def dropTmps (n : Nat) (drop : List Nat) : List AV → Nat → List AV
  | [], _ => []
  | v :: l, i => (bif drop.contains i || !(boxFree n v.ty) then .top else v) :: dropTmps n drop l (i + 1)

def dropBoxes (n : Nat) (l : List AV) : List AV := (l.take n).map fun v => bif boxFree n v.ty then v else .undef

def dropCp (n : Nat) (drop : List Nat) : List AV → List (Option Nat) → Nat → List (Option Nat)
  | v :: vs, p :: l, i => (bif drop.contains i || !(boxFree n v.ty) then none else p) :: dropCp n drop vs l (i + 1)
  | _, _, _ => []

def firstAt (p : Nat) : List (Option Nat) → Nat → Nat
  | [], i => i
  | q :: l, i => bif isP p q then i else firstAt p l (i + 1)

def canonCp (l : List (Option Nat)) : List (Option Nat) := l.map fun
  | some p => some (firstAt p l 0)
  | none => none

def widen (n : Nat) (drop : List Nat) (s : St) : St :=
  { tmps := dropTmps n drop s.tmps 0
    boxes := dropBoxes n s.boxes
    cp := canonCp (dropCp n drop s.tmps s.cp 0) }

def evLoop (body : St → (Ex → St → Option R) → Option R) (n : Nat) (drop : List Nat) : Nat → St → (Ex → St → Option R) → Option R
  | 0, _, _ => none
  | k + 1, s, K => body s fun e s' => match e with
    | .normal => forceSt (widen n drop s') fun s'' => evLoop body n drop k s'' K
    | e => K e s'

def isTrue : AV → Option Bool
  | ⟨.bool, b⟩ => some b
  | _ => none

noncomputable def evCode (E : Env) (C : CallSem R) (A : List (Nat × List Nat)) : Code → St → (Ex → St → Option R) → Option R
  | .skip, s, K => K .normal s
  | .region _ ops draw, s, K => bif draw then
      bif drawOK ops ops.toList 0 then evDraw E ops ops.toList 0 [] { s with cp := stripP ops.toList s.cp } fun s' => K .normal s' else none
    else evOps E C ops ops.toList s fun s' => K .normal s'
  | .seq a b, s, K => evCode E C A a s fun e s' => match e with
    | .normal => match look A (joinAt b) with
      | some drop => forceSt (widen s'.boxes.length drop s') fun s'' => stall E.k fun _ => evCode E C A b s'' K
      | none => evCode E C A b s' K
    | e => K e s'
  | .cond c a b, s, K => match asB (opd s none c) with
    | some q => br q (evCode E C A a s K) (evCode E C A b s K)
    | none => none
  | .block id b, s, K => evCode E C A b s fun e s' => match e with
    | .exit i => bif Nat.beq i id then K .normal s' else K (.exit i) s'
    | e => K e s'
  | .loop b, s, K =>
    let drop := (look A (firstRegion b)).getD []
    forceSt (widen s.boxes.length drop s) fun s' => evLoop (fun s K => evCode E C A b s K) s.boxes.length drop E.k s' K
  | .exit id, s, K => K (.exit id) s
  | .ret, s, K => K .ret s
  | _, _, _ => none

def resultAVs (E : Env) (s : St) : List ResultVar → Option (List AV)
  | [] => some []
  | .tmp t :: l => match resultAVs E s l with
    | some vs => some (s.get t :: vs)
    | none => none
  | .cell a T :: l => match loadK E T s (s.get a) (fun v _ => some v), resultAVs E s l with
    | some v, some vs => some (v :: vs)
    | _, _ => none

def resultAV : List AV → AV
  | [v] => v
  | l => ⟨.tup (chain l).ty, (chain l).x⟩

/-- a function's own boxes fall at its end, if what it hands back names none -/
def leaveB (n : Nat) (t : Ty) (l : List AV) : List AV := bif boxFree n t then dropBoxes n l else l

noncomputable def evFn (E : Env) (C : CallSem R) (f : Nat) (args : List AV) (boxes : List AV) (K : AV → List AV → Option R) : Option R :=
  match look E.fns f with
  | none => none
  | some fn => match fn.body with
    | none => none
    | some c =>
      forceSt { tmps := args ++ List.replicate (fn.ntmps - args.length) .undef, boxes := boxes, cp := List.replicate (args.length + (fn.ntmps - args.length)) none } fun s0 => evCode E C ((look E.ann f).getD []) c s0 fun e s =>
        match e with
        | .exit _ => none
        | _ => match resultAVs E s fn.results.toList with
          | some vs => K (resultAV vs) (leaveB boxes.length (resultAV vs).ty s.boxes)
          | none => none

/-- calls, some deep -/
noncomputable def evCall (E : Env) : Nat → CallSem R
  | 0 => noCall
  | d + 1 => evFn E (evCall E d)

/-- what a function comes to -/
noncomputable def sem (E : Env) (d : Nat) (f : Nat) (a r : Ty) (x : a.den) : Option r.den :=
  evCall E d f (unchain a x) [] fun v _ => castTo r v
end
end Go.Ev
