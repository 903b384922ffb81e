import Derived.Test.YtnpcihnfiffghaaEvR1c
set_option linter.unusedVariables false
set_option maxRecDepth 100000
namespace Go.Ev.R1
open Go.Proofs

/-! varint.Get -/
noncomputable def E12 : Env := mk [] [(12, Try.f12)] 0
abbrev getR : Ty := .tup (.pr (.int .i64) (.pr (.int .i64) (.int .i64)))
noncomputable def F12 (G : Unit × (List Int × Int) → Option ((Int × Bool) × (List Int × Int))) (b : List Int) (at_ : Int) : Option getR.den := semC E12 (a := .pr bytesT (.int .i64)) (pC ⟨21, .box 0 0, rdT, nextR, G⟩) 12 ((b, at_) : List Int × Int)

theorem F12_eq (G : Unit × (List Int × Int) → Option ((Int × Bool) × (List Int × Int))) (b : List Int) (at_ : Int) : F12 G b at_ =
    br (decide (at_ < 0)) (some ((0, 0, 70) : Int × Int × Int)) (br (decide (at_ > lenI b)) (some ((0, 0, 70) : Int × Int × Int))
      ((G ((), (b, at_))).bind fun z => br (!z.1.2) (some ((0, 0, 70) : Int × Int × Int)) (some ((z.1.1, z.2.2, 0) : Int × Int × Int)))) := by kernel_rfl

/-- what Get answers -/
def get (b : List Int) (at_ : Int) : Int × Int × Int :=
  if at_ < 0 ∨ at_ > b.length then (0, 0, 70)
  else if (nx 6 b at_.toNat 0 0).1.2 = true then ((nx 6 b at_.toNat 0 0).1.1, ((nx 6 b at_.toNat 0 0).2 : Int), 0) else (0, 0, 70)

open Classical in
noncomputable def getG (x : List Int × Int) : Option (Int × Int × Int) := if Bytes x.1 ∧ x.1.length ≤ 1099511627776 then some (get x.1 x.2) else none

theorem get_spec (b : List Int) (at_ : Int) (h1 : Bytes b) (h2 : b.length ≤ 1099511627776) : F12 nextG b at_ = some (get b at_) := by
  rw [F12_eq]
  unfold get
  by_cases q1 : at_ < 0
  · have d : decide (at_ < 0) = true := by simp [q1]
    rw [d, if_pos (.inl q1)]; rfl
  · have d : decide (at_ < 0) = false := by simp; omega
    rw [d]
    by_cases q2 : at_ > b.length
    · have d2 : decide (at_ > lenI b) = true := by simp [lenI, q2]
      rw [d2, if_pos (.inr q2)]; rfl
    · have d2 : decide (at_ > lenI b) = false := by simp [lenI]; omega
      rw [d2, if_neg (by omega)]
      have hg : nextG ((), (b, at_)) = some ((nx 6 b at_.toNat 0 0).1, (b, ((nx 6 b at_.toNat 0 0).2 : Int))) := by
        unfold nextG
        rw [if_pos ⟨h1, h2, by show 0 ≤ at_; omega⟩]
      rw [hg]
      show br (!(nx 6 b at_.toNat 0 0).1.2) _ _ = _
      cases (nx 6 b at_.toNat 0 0).1.2 <;> rfl

noncomputable def getC : Ctr := ⟨12, .pr bytesT (.int .i64), getR, getG⟩
theorem fn12 : FnsOK Try.prog [(12, Try.f12)] := ⟨⟨Try.func12, by decide⟩, trivial⟩
theorem getC_ok : CtrAll Try.prog getC := by
  refine ctrC_of mixed ⟨Try.f12, Try.func12, by decide, rfl⟩ rfl rfl ?_
  rintro ⟨b, at_⟩ y h
  refine ⟨E12, pC nextC, base.env (trivial : CtrsOK Try.prog []) fn12, nextC_ok, ?_⟩
  have h : getG (b, at_) = some y := h
  unfold getG at h
  split at h
  · rename_i hb
    exact (get_spec b at_ hb.1 hb.2).trans h
  · cases h

/-! rovingref01.Put -/
noncomputable def E11 (k : Nat) : Env := mk [] [(11, Try.f11)] k
def A11 : List (Nat × List Nat) := (look ann 11).getD []
def S11 (n : Int) (l : List Int) : St := ⟨[t0, tI .i64 n, t0, t0, t0, t0, tBy l] ++ tops 25, [], setN (List.replicate 32 none) 6 (some 6)⟩
noncomputable def L11 (k0 k : Nat) (n : Int) (l : List Int) : Option putR.den :=
  lp (E11 k0) (evCall (E11 k0) 0) A11 (sub [1, 1, 1, 1, 0, 0, 0] (bodyOf Try.f11)) 0 k (S11 n l)
    (blockK 0 (seqK (E11 k0) (evCall (E11 k0) 0) A11 (sub [1, 1, 1, 1, 1] (bodyOf Try.f11)) (retK (E11 k0) Try.f11.results.toList K10)))
noncomputable def F11 (k0 : Nat) (l : List Int) (n : Int) : Option putR.den := sem (E11 k0) 1 11 (.pr bytesT (.int .i64)) putR ((l, n) : List Int × Int)

/-! rovingref01.Get -/
noncomputable def E13 (k : Nat) : Env := mk [] [(13, Try.f13)] k
noncomputable def F13 (k0 : Nat) (b : List Int) (at_ : Int) : Option getR.den := sem (E13 k0) 1 13 (.pr bytesT (.int .i64)) getR ((b, at_) : List Int × Int)
def A13 : List (Nat × List Nat) := (look ann 13).getD []
def K13 : AV → List AV → Option getR.den := fun v _ => castTo getR v
def S13 (b : List Int) (at_ n u i : Int) : St := ⟨[tBy b, tI .i64 at_, t0, t0, t0, t0, t0, tI .i64 n, tI .i64 u, tI .i64 i] ++ tops 55, [], List.replicate 65 none⟩
noncomputable def L13 (k0 k : Nat) (b : List Int) (at_ n u i : Int) : Option getR.den :=
  lp (E13 k0) (evCall (E13 k0) 0) A13 (sub [1, 1, 1, 0, 1, 0, 0] (bodyOf Try.f13)) 0 k (S13 b at_ n u i)
    (blockK 0 (seqK (E13 k0) (evCall (E13 k0) 0) A13 (sub [1, 1, 1, 1] (bodyOf Try.f13)) (retK (E13 k0) Try.f13.results.toList K13)))
def pv (l : List Int) (e : Int) : Option putR.den := some ((l, e) : List Int × Int)
def gv (n p e : Int) : Option getR.den := some ((n, p, e) : Int × Int × Int)

theorem L11_step (k0 k : Nat) (n : Int) (l : List Int) : L11 k0 (k + 1) n l =
    br (decide (n ≥ 128)) (br (fits l [IntKind.u8.wrap (IntKind.i64.wrap (128 + n.tmod 128))] 1) (L11 k0 k (IntKind.i64.wrap (n.tdiv 128)) (app l [IntKind.u8.wrap (IntKind.i64.wrap (128 + n.tmod 128))])) none)
      (br (fits l [IntKind.u8.wrap n] 1) (pv (app l [IntKind.u8.wrap n]) 0) none) := by kernel_rfl
theorem F11_eq (k0 : Nat) (l : List Int) (n : Int) : F11 k0 l n = br (decide (n < 0)) (pv [] 2) (br (decide (n > 1099511627776)) (pv [] 2) (br (fits ([] : List Int) l 1) (L11 k0 k0 n (app [] l)) none)) := by kernel_rfl
theorem F13_eq (k0 : Nat) (b : List Int) (at_ : Int) : F13 k0 b at_ = br (decide (at_ < 0)) (gv 0 0 70) (br (decide (at_ > lenI b)) (gv 0 0 70) (L13 k0 k0 b at_ 0 1 at_)) := by kernel_rfl
end Go.Ev.R1
