import Derived.Test.YtnpcihnfiffghaaEvR1i
set_option linter.unusedVariables false
set_option maxRecDepth 100000
namespace Go.Ev.R1
open Go.Proofs
abbrev intsT : Ty := .sl (.int .i64)
def tIs (l : List Int) : AV := ⟨intsT, l⟩

/-! varint.Row -/
noncomputable def E16 (Gp : PutF) (k : Nat) : Env := mk [cPut 10 Gp] [(16, Try.f16), (22, Try.f22)] k
def A16 : List (Nat × List Nat) := (look ann 16).getD []
def S16 (l : List Int) (len i : Int) (b : List Int) (e : Int) : St :=
  ⟨[t0, t0, t0, t0, ⟨.box 0 0, ()⟩, ⟨.box 1 0, ()⟩, ⟨.fn 22 .unit (.pr (.box 1 0) (.box 0 0)), ((), ((), ()))⟩] ++ tops 9 ++ [tIs l, tI .i64 len, tI .i64 i] ++ tops 9, [tBy b, tI .i64 e], List.replicate 28 none⟩
noncomputable def L16 (Gp : PutF) (k0 k : Nat) (l : List Int) (len i : Int) (b : List Int) (e : Int) : Option putR.den :=
  lp (E16 Gp k0) (evCall (E16 Gp k0) 1) A16 (sub [1, 1, 1, 0, 1, 0, 0] (bodyOf Try.f16)) 2 k (S16 l len i b e)
    (blockK 0 (seqK (E16 Gp k0) (evCall (E16 Gp k0) 1) A16 (sub [1, 1, 1, 1] (bodyOf Try.f16)) (retK (E16 Gp k0) Try.f16.results.toList K10)))
noncomputable def F16 (Gp : PutF) (k0 : Nat) (l : List Int) : Option putR.den := sem (E16 Gp k0) 2 16 intsT putR l

/-! rovingref01.Row -/
noncomputable def E17 (Gp : PutF) (k : Nat) : Env := mk [cPut 11 Gp] [(17, Try.f17)] k
def A17 : List (Nat × List Nat) := (look ann 17).getD []
noncomputable def F17 (Gp : PutF) (k0 : Nat) (l : List Int) : Option putR.den := sem (E17 Gp k0) 1 17 intsT putR l
noncomputable def F20 (k0 : Nat) (l m : List Int) : Option Bool := sem (mk [] [(20, Try.f20)] k0) 1 20 (.pr intsT intsT) .bool ((l, m) : List Int × List Int)

theorem L16_step (Gp : PutF) (k0 k : Nat) (l : List Int) (len i : Int) (b : List Int) (e : Int) : L16 Gp k0 (k + 1) l len i b e =
    br (decide (i < len)) ((idx l i).bind fun y => br (eqI e 0) ((Gp (b, y)).bind fun z => L16 Gp k0 k l len (IntKind.i64.wrap (i + 1)) z.1 z.2) (L16 Gp k0 k l len (IntKind.i64.wrap (i + 1)) b e)) (pv b e) := by kernel_rfl
theorem F16_eq (Gp : PutF) (k0 : Nat) (l : List Int) : F16 Gp k0 l = (Gp ([], lenI l)).bind fun y => L16 Gp k0 k0 l (lenI l) 0 y.1 y.2 := by kernel_rfl

def S17 (l : List Int) (b : List Int) (i : Int) : St := ⟨[tIs l, t0, t0, t0, tBy b, t0, tI .i64 i] ++ tops 28, [], List.replicate 35 none⟩
noncomputable def L17 (Gp : PutF) (k0 k : Nat) (l : List Int) (b : List Int) (i : Int) : Option putR.den :=
  lp (E17 Gp k0) (evCall (E17 Gp k0) 0) A17 (sub [1, 1, 0, 1, 0, 0] (bodyOf Try.f17)) 0 k (S17 l b i)
    (blockK 0 (seqK (E17 Gp k0) (evCall (E17 Gp k0) 0) A17 (sub [1, 1, 1] (bodyOf Try.f17)) (retK (E17 Gp k0) Try.f17.results.toList K10)))
theorem F17_eq (Gp : PutF) (k0 : Nat) (l : List Int) : F17 Gp k0 l = (Gp ([], lenI l)).bind fun y => L17 Gp k0 k0 l y.1 0 := by kernel_rfl

noncomputable def E20 (k : Nat) : Env := mk [] [(20, Try.f20)] k
def A20 : List (Nat × List Nat) := (look ann 20).getD []
def S20 (l m : List Int) (i : Int) : St := ⟨[tIs l, tIs m, t0, t0, t0, tI .i64 i] ++ tops 20, [], List.replicate 26 none⟩
noncomputable def L20 (k0 k : Nat) (l m : List Int) (i : Int) : Option Bool :=
  lp (E20 k0) (evCall (E20 k0) 0) A20 (sub [1, 1, 0, 1, 0, 0] (bodyOf Try.f20)) 0 k (S20 l m i)
    (blockK 0 (seqK (E20 k0) (evCall (E20 k0) 0) A20 (sub [1, 1, 1] (bodyOf Try.f20)) (retK (E20 k0) Try.f20.results.toList fun v _ => castTo .bool v)))
theorem F20_eq (k0 : Nat) (l m : List Int) : F20 k0 l m = br (!eqI (lenI l) (lenI m)) (some false) (L20 k0 k0 l m 0) := by kernel_rfl
end Go.Ev.R1
