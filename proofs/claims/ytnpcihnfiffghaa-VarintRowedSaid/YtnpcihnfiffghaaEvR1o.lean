import Derived.Test.YtnpcihnfiffghaaEvR1n
set_option linter.unusedVariables false
set_option maxRecDepth 100000
namespace Go.Ev.R1
open Go.Proofs
abbrev NextF := Unit × (List Int × Int) → Option ((Int × Bool) × (List Int × Int))
abbrev rowR : Ty := .tup (.pr intsT (.int .i64))
def K18 : AV → List AV → Option rowR.den := fun v _ => castTo rowR v
noncomputable def E18 (k : Nat) : Env := mk [] [(18, Try.f18)] k
def A18 : List (Nat × List Nat) := (look ann 18).getD []
noncomputable def F18 (G : NextF) (k0 : Nat) (b : List Int) : Option rowR.den := semC (E18 k0) (a := bytesT) (pC ⟨21, .box 0 0, rdT, nextR, G⟩) 18 b
noncomputable def E19 (Gg : GetF) (k : Nat) : Env := mk [cGet 13 Gg] [(19, Try.f19)] k
def A19 : List (Nat × List Nat) := (look ann 19).getD []
noncomputable def F19 (Gg : GetF) (k0 : Nat) (b : List Int) : Option rowR.den := sem (E19 Gg k0) 1 19 bytesT rowR b

def S18 (b l : List Int) (n : Int) (ok : Bool) (b2 : List Int) (at_ : Int) : St :=
  ⟨[tBy b, t0, tIs l, t0, ⟨.box 0 0, ()⟩, ⟨.fn 21 (.box 0 0) .unit, ((), ())⟩, tI .i64 n, tB ok] ++ tops 43, [tRd b2 at_], setN (List.replicate 51 none) 2 (some 2)⟩
noncomputable def L18 (G : NextF) (k0 k : Nat) (b l : List Int) (n : Int) (ok : Bool) (b2 : List Int) (at_ : Int) : Option rowR.den :=
  lp (E18 k0) (pC ⟨21, .box 0 0, rdT, nextR, G⟩) A18 (sub [1, 1, 1, 1, 1, 0, 0, 0] (bodyOf Try.f18)) 1 k (S18 b l n ok b2 at_)
    (blockK 0 (seqK (E18 k0) (pC ⟨21, .box 0 0, rdT, nextR, G⟩) A18 (sub [1, 1, 1, 1, 1, 1] (bodyOf Try.f18)) (retK (E18 k0) Try.f18.results.toList K18)))
def rrv (l : List Int) (e : Int) : Option rowR.den := some ((l, e) : List Int × Int)
theorem F18_eq (G : NextF) (k0 : Nat) (b : List Int) : F18 G k0 b = (G ((), (b, 0))).bind fun z => br (decide (z.1.1 > lenI b)) (rrv [] 70) (L18 G k0 k0 b [] z.1.1 z.1.2 z.2.1 z.2.2) := by kernel_rfl

def S19 (b : List Int) (n at_ : Int) (l : List Int) (i : Int) : St :=
  ⟨[tBy b, t0, t0, t0, tI .i64 n, tI .i64 at_, t0, tIs l, tI .i64 i] ++ tops 42, [], setN (List.replicate 51 none) 7 (some 7)⟩
noncomputable def L19 (G : GetF) (k0 k : Nat) (b : List Int) (n at_ : Int) (l : List Int) (i : Int) : Option rowR.den :=
  lp (E19 G k0) (evCall (E19 G k0) 0) A19 (sub [1, 1, 1, 1, 0, 1, 0, 0] (bodyOf Try.f19)) 0 k (S19 b n at_ l i)
    (blockK 0 (seqK (E19 G k0) (evCall (E19 G k0) 0) A19 (sub [1, 1, 1, 1, 1] (bodyOf Try.f19)) (retK (E19 G k0) Try.f19.results.toList K18)))
theorem F19_eq (G : GetF) (k0 : Nat) (b : List Int) : F19 G k0 b = (G (b, 0)).bind fun y => br (!eqI y.2.2 0) (rrv [] 70) (br (decide (y.1 > lenI b)) (rrv [] 70) (L19 G k0 k0 b y.1 y.2.1 [] 0)) := by kernel_rfl
end Go.Ev.R1
