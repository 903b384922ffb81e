import Derived.Test.YtnpcihnfiffghaaEvR1e
set_option linter.unusedVariables false
set_option maxRecDepth 100000
namespace Go.Ev.R1
open Go.Proofs

abbrev PutF := List Int × Int → Option (List Int × Int)
abbrev GetF := List Int × Int → Option (Int × Int × Int)
abbrev LenF := Int → Option Int
def cPut (f : Nat) (G : PutF) : Ctr := ⟨f, .pr bytesT (.int .i64), putR, G⟩
def cGet (f : Nat) (G : GetF) : Ctr := ⟨f, .pr bytesT (.int .i64), getR, G⟩
def cLen (f : Nat) (G : LenF) : Ctr := ⟨f, .int .i64, .int .i64, G⟩

noncomputable def F15 (G : PutF) (n : Int) : Option Int := sem (mk [cPut 11 G] [(15, Try.f15)] 0) 1 15 (.int .i64) (.int .i64) n
noncomputable def F9 (Gp : PutF) (Gg : GetF) (Gl : LenF) : Option Bool := sem (mk [cPut 10 Gp, cGet 12 Gg, cLen 14 Gl] [(9, Try.f9)] 0) 1 9 .unit .bool ()
noncomputable def F3 (Gp Gp' : PutF) (Gg Gg' : GetF) (Gl Gl' : LenF) (Gw : Unit → Option Bool) (b : List Int) (n at_ : Int) : Option Bool :=
  sem (mk [cPut 10 Gp, cPut 11 Gp', cGet 12 Gg, cGet 13 Gg', cLen 14 Gl, cLen 15 Gl', ⟨9, .unit, .bool, Gw⟩] [(3, Try.f3)] 0) 1 3 (.pr bytesT (.pr (.int .i64) (.int .i64))) .bool ((b, n, at_) : List Int × Int × Int)

theorem F15_eq (G : PutF) (n : Int) : F15 G n = (G ([], n)).bind fun y => some (lenI y.1) := by kernel_rfl
theorem F9_eq (Gp : PutF) (Gg : GetF) (Gl : LenF) : F9 Gp Gg Gl =
    (Gp ([], 300)).bind fun y => (Gg ([128, 0], 0)).bind fun y1 => (Gg ([9, 172, 2], 1)).bind fun y2 =>
      br (eqI y.2 0) (br (eqS (bytesOf y.1) ⟨⟨[172, 2]⟩⟩) (br (eqI y1.2.2 70) (br (eqI y2.1 300) (br (eqI y2.2.1 3)
        (br (eqI y2.2.2 0) ((Gl 0).bind fun y => some (eqI y 1)) (some false)) (some false)) (some false)) (some false)) (some false)) (some false) := by kernel_rfl
theorem F3_eq (Gp Gp' : PutF) (Gg Gg' : GetF) (Gl Gl' : LenF) (Gw : Unit → Option Bool) (b : List Int) (n at_ : Int) : F3 Gp Gp' Gg Gg' Gl Gl' Gw b n at_ =
    br (decide (lenI b > 2000)) ((Gw ()).bind fun y => some y)
      ((Gp (b, n)).bind fun y => (Gp' (b, n)).bind fun y1 => (Gg (b, at_)).bind fun y2 => (Gg' (b, at_)).bind fun y3 =>
        br (eqS (bytesOf y.1) (bytesOf y1.1)) (br (eqI y.2 y1.2) (br (eqI y2.1 y3.1) (br (eqI y2.2.1 y3.2.1) (br (eqI y2.2.2 y3.2.2)
          ((Gl n).bind fun y => (Gl' n).bind fun y4 => br (eqI y y4) ((Gw ()).bind fun y => some y) (some false)) (some false)) (some false)) (some false)) (some false)) (some false)) := by kernel_rfl

theorem refLen_spec (n : Int) : F15 putG n = some (vlen n) := by
  rw [F15_eq]
  have : putG ([], n) = some (put [] n) := by unfold putG; rw [if_pos (by simp)]
  rw [this]
  show some (lenI (put [] n).1) = _
  unfold put vlen lenI
  split <;> simp

def refLenC : Ctr := cLen 15 fun n => some (vlen n)
theorem fn15 : FnsOK Try.prog [(15, Try.f15)] := ⟨⟨Try.func15, by decide⟩, trivial⟩
theorem refLenC_ok : CtrAll Try.prog refLenC := by
  refine ctr_of mixed ⟨Try.f15, Try.func15, by decide, rfl⟩ rfl rfl ?_
  intro x y h
  refine ⟨mk [cPut 11 putG] [(15, Try.f15)] 0, 1, base.env (⟨refPutC_ok, trivial⟩ : CtrsOK Try.prog [refPutC]) fn15, ?_⟩
  exact (refLen_spec x).trans h

theorem get1 : get [128, 0] 0 = (0, 0, 70) := by kernel_rfl
theorem get2 : get [9, 172, 2] 1 = (300, 3, 0) := by kernel_rfl
theorem put1 : put [] 300 = ([172, 2], 0) := by
  unfold put
  rw [if_neg (by omega), show (300 : Int).toNat = 300 from rfl, enc_ge (by omega), show 300 / 128 = 2 from rfl, enc_lt (by omega)]; rfl

theorem eqI_refl (x : Int) : eqI x x = true := by simp [eqI]
theorem eqS_refl (x : ByteArray) : eqS x x = true := by simp [eqS]

theorem wakes_spec : F9 putG getG (fun n => some (vlen n)) = some true := by
  rw [F9_eq]
  have p : putG ([], 300) = some ([172, 2], 0) := by unfold putG; rw [if_pos (by simp), ← put1]
  have g1 : getG ([128, 0], 0) = some (0, 0, 70) := by
    unfold getG
    rw [if_pos ⟨by intro y hy; simp at hy; omega, by simp⟩, ← get1]
  have g2 : getG ([9, 172, 2], 1) = some (300, 3, 0) := by
    unfold getG
    rw [if_pos ⟨by intro y hy; simp at hy; omega, by simp⟩, ← get2]
  have l : vlen 0 = 1 := by unfold vlen; rw [if_neg (by omega), show (0 : Int).toNat = 0 from rfl, enc_lt (by omega)]; rfl
  rw [p, g1, g2]
  have e : eqS (bytesOf [172, 2]) ⟨⟨[172, 2]⟩⟩ = true := by kernel_rfl
  simp only [Option.bind_some, l, eqI_refl, e]
  rfl

def wakesC : Ctr := ⟨9, .unit, .bool, fun _ => some true⟩
theorem fn9 : FnsOK Try.prog [(9, Try.f9)] := ⟨⟨Try.func9, by decide⟩, trivial⟩
theorem wakesC_ok : CtrAll Try.prog wakesC := by
  refine ctr_of mixed ⟨Try.f9, Try.func9, by decide, rfl⟩ rfl rfl ?_
  intro x y h
  refine ⟨mk [cPut 10 putG, cGet 12 getG, cLen 14 fun n => some (vlen n)] [(9, Try.f9)] 0, 1, base.env (⟨putC_ok, getC_ok, lenC_ok, trivial⟩ : CtrsOK Try.prog [putC, getC, lenC]) fn9, ?_⟩
  exact wakes_spec.trans h

/-! VarintTells -/
theorem tells_spec (b : List Int) (n at_ : Int) (hb : Bytes b) : F3 putG putG getG getG (fun n => some (vlen n)) (fun n => some (vlen n)) (fun _ => some true) b n at_ = some true := by
  rw [F3_eq]
  by_cases h : lenI b > 2000
  · have d : decide (lenI b > 2000) = true := by rw [decide_eq_true_iff]; exact h
    rw [d]; rfl
  · have d : decide (lenI b > 2000) = false := by rw [decide_eq_false_iff_not]; exact h
    unfold lenI at h
    have p : putG (b, n) = some (put b n) := by unfold putG; rw [if_pos (by show b.length ≤ _; omega)]
    have g : getG (b, at_) = some (get b at_) := by unfold getG; rw [if_pos ⟨hb, by show b.length ≤ _; omega⟩]
    rw [d, p, g]
    simp only [Option.bind_some, eqI_refl, eqS_refl]
    rfl

open Classical in
noncomputable def tellsG (x : List Int × Int × Int) : Option Bool := if Bytes x.1 then some true else none
noncomputable def tellsC : Ctr := ⟨3, .pr bytesT (.pr (.int .i64) (.int .i64)), .bool, tellsG⟩
theorem fn3 : FnsOK Try.prog [(3, Try.f3)] := ⟨⟨Try.func3, by decide⟩, trivial⟩
theorem tellsC_ok : CtrAll Try.prog tellsC := by
  refine ctr_of mixed ⟨Try.f3, Try.func3, by decide, rfl⟩ rfl rfl ?_
  rintro ⟨b, n, at_⟩ y h
  refine ⟨mk [cPut 10 putG, cPut 11 putG, cGet 12 getG, cGet 13 getG, cLen 14 fun n => some (vlen n), cLen 15 fun n => some (vlen n), ⟨9, .unit, .bool, fun _ => some true⟩] [(3, Try.f3)] 0, 1,
    base.env (⟨putC_ok, refPutC_ok, getC_ok, refGetC_ok, lenC_ok, refLenC_ok, wakesC_ok, trivial⟩ : CtrsOK Try.prog [putC, refPutC, getC, refGetC, lenC, refLenC, wakesC]) fn3, ?_⟩
  have h : tellsG (b, n, at_) = some y := h
  unfold tellsG at h
  split at h
  · rename_i hb
    exact (tells_spec b n at_ hb).trans h
  · cases h
end Go.Ev.R1
