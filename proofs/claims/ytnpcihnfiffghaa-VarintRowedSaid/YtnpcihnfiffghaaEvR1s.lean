import Derived.Test.YtnpcihnfiffghaaEvR1q
set_option linter.unusedVariables false
set_option maxRecDepth 100000
namespace Go.Ev.R1
open Go.Proofs
abbrev RowF := List Int → Option (List Int × Int)
abbrev IntsF := List Int × List Int → Option Bool
def cRow (f : Nat) (G : RowF) : Ctr := ⟨f, intsT, putR, G⟩
def cRead (f : Nat) (G : RowF) : Ctr := ⟨f, bytesT, rowR, G⟩
def cInts (G : IntsF) : Ctr := ⟨20, .pr intsT intsT, .bool, G⟩
noncomputable def F7 (Gr Gr' Gd Gd' : RowF) (Gi : IntsF) (Gw : WkF) (l b : List Int) : Option Bool :=
  sem (mk [cRow 16 Gr, cRow 17 Gr', cRead 18 Gd, cRead 19 Gd', cInts Gi, cWk Gw] [(7, Try.f7)] 0) 1 7 (.pr intsT bytesT) .bool ((l, b) : List Int × List Int)
noncomputable def F8 (Gr Gd : RowF) (Gi : IntsF) (Gw : WkF) (l : List Int) (y : Int) : Option Bool :=
  sem (mk [cRow 16 Gr, cRead 18 Gd, cInts Gi, cWk Gw] [(8, Try.f8)] 0) 1 8 (.pr intsT (.int .u8)) .bool ((l, y) : List Int × Int)

theorem F7_eq (Gr Gr' Gd Gd' : RowF) (Gi : IntsF) (Gw : WkF) (l b : List Int) : F7 Gr Gr' Gd Gd' Gi Gw l b =
    br (decide (lenI l > 300)) (wk Gw) (br (decide (lenI b > 2000)) (wk Gw) ((Gr l).bind fun y => (Gr' l).bind fun y1 => (Gd b).bind fun y2 => (Gd' b).bind fun y3 =>
      br (eqS (bytesOf y.1) (bytesOf y1.1)) (br (eqI y.2 y1.2) ((Gi (y2.1, y3.1)).bind fun y => br y (br (eqI y2.2 y3.2) (wk Gw) sF) sF) sF) sF)) := by kernel_rfl

theorem F8_eq (Gr Gd : RowF) (Gi : IntsF) (Gw : WkF) (l : List Int) (m : Int) : F8 Gr Gd Gi Gw l m =
    br (decide (lenI l > 300)) (wk Gw) ((Gr l).bind fun y1 => br (!eqI y1.2 0) (br (eqI (lenI y1.1) 0) (wk Gw) sF)
      ((Gd y1.1).bind fun y2 => br (!eqI y2.2 0) sF ((Gi (y2.1, l)).bind fun y3 => br (!y3) sF (br (eqI (lenI y1.1) 0) sF
        (br (decide (0 ≤ (0 : Int)) && decide (0 ≤ IntKind.i64.wrap (lenI y1.1 - 1)) && decide (IntKind.i64.wrap (lenI y1.1 - 1) ≤ IntKind.i64.wrap (lenI y1.1 - 1)) && decide (IntKind.i64.wrap (lenI y1.1 - 1) ≤ lenI y1.1))
          ((Gd (cut y1.1 0 (IntKind.i64.wrap (lenI y1.1 - 1)))).bind fun y4 => br (fits ([] : List Int) y1.1 1) (br (fits (app [] y1.1) [m] 1)
            ((Gd (app (app [] y1.1) [m])).bind fun y => br (eqI y4.2 70) (br (eqI y.2 70) (wk Gw) sF) sF) none) none) none))))) := by kernel_rfl

def rowG : RowF := fun l => if l.length ≤ 100000 then some (row l) else none
open Classical in
noncomputable def readG : RowF := fun b => if Bytes b ∧ b.length ≤ 100000 then some (readRow b) else none
def intsG : IntsF := fun x => if x.1.length ≤ 100000 then some (decide (x.1 = x.2)) else none

theorem fn16 : FnsOK Try.prog [(16, Try.f16), (22, Try.f22)] := ⟨⟨Try.func16, by decide⟩, ⟨Try.func22, by decide⟩, trivial⟩
theorem fn17 : FnsOK Try.prog [(17, Try.f17)] := ⟨⟨Try.func17, by decide⟩, trivial⟩
theorem fn18 : FnsOK Try.prog [(18, Try.f18)] := ⟨⟨Try.func18, by decide⟩, trivial⟩
theorem fn19 : FnsOK Try.prog [(19, Try.f19)] := ⟨⟨Try.func19, by decide⟩, trivial⟩
theorem fn20 : FnsOK Try.prog [(20, Try.f20)] := ⟨⟨Try.func20, by decide⟩, trivial⟩

theorem rowC_ok : CtrAll Try.prog (cRow 16 rowG) := by
  refine ctr_of mixed ⟨Try.f16, Try.func16, by decide, rfl⟩ rfl rfl ?_
  intro l y h
  refine ⟨E16 putG 200000, 2, base.env (⟨putC_ok, trivial⟩ : CtrsOK Try.prog [putC]) fn16, ?_⟩
  have h : rowG l = some y := h
  unfold rowG at h
  split at h
  · rename_i hb
    exact (row_spec l hb).trans h
  · cases h
theorem refRowC_ok : CtrAll Try.prog (cRow 17 rowG) := by
  refine ctr_of mixed ⟨Try.f17, Try.func17, by decide, rfl⟩ rfl rfl ?_
  intro l y h
  refine ⟨E17 putG 200000, 1, base.env (⟨refPutC_ok, trivial⟩ : CtrsOK Try.prog [refPutC]) fn17, ?_⟩
  have h : rowG l = some y := h
  unfold rowG at h
  split at h
  · rename_i hb
    exact (refRow_spec l hb).trans h
  · cases h
theorem readC_ok : CtrAll Try.prog (cRead 18 readG) := by
  refine ctrC_of mixed ⟨Try.f18, Try.func18, by decide, rfl⟩ rfl rfl ?_
  intro b y h
  refine ⟨E18 200000, pC nextC, base.env (trivial : CtrsOK Try.prog []) fn18, nextC_ok, ?_⟩
  have h : readG b = some y := h
  unfold readG at h
  split at h
  · rename_i hb
    exact (readRow_spec 200000 (Nat.le_refl _) b hb.1 hb.2).trans h
  · cases h
theorem refReadC_ok : CtrAll Try.prog (cRead 19 readG) := by
  refine ctr_of mixed ⟨Try.f19, Try.func19, by decide, rfl⟩ rfl rfl ?_
  intro b y h
  refine ⟨E19 getG 200000, 1, base.env (⟨refGetC_ok, trivial⟩ : CtrsOK Try.prog [refGetC]) fn19, ?_⟩
  have h : readG b = some y := h
  unfold readG at h
  split at h
  · rename_i hb
    exact (refReadRow_spec 200000 (Nat.le_refl _) b hb.1 hb.2).trans h
  · cases h
theorem intsC_ok : CtrAll Try.prog (cInts intsG) := by
  refine ctr_of mixed ⟨Try.f20, Try.func20, by decide, rfl⟩ rfl rfl ?_
  rintro ⟨l, m⟩ y h
  refine ⟨E20 200000, 1, base.env (trivial : CtrsOK Try.prog []) fn20, ?_⟩
  have h : intsG (l, m) = some y := h
  unfold intsG at h
  split at h
  · rename_i hb
    exact (ints_spec l m hb).trans h
  · cases h

theorem goRd_len (b : List Int) : ∀ (c at_ : Nat) (l : List Int), (goRd b c at_ l).1.length ≤ l.length + c
  | 0, at_, l => by unfold goRd; split <;> simp
  | c + 1, at_, l => by
    unfold goRd
    split
    · have := goRd_len b c (nx 6 b at_ 0 0).2 (l ++ [(nx 6 b at_ 0 0).1.1])
      simp only [List.length_append, List.length_singleton] at this
      omega
    · simp
theorem readRow_len (b : List Int) : (readRow b).1.length ≤ b.length := by
  have hn := nx_nonneg 6 b 0 0 0
  unfold readRow
  split
  · rename_i h
    have := goRd_len b (nx 6 b 0 0 0).1.1.toNat (nx 6 b 0 0 0).2 []
    simp only [List.length_nil] at this
    omega
  · simp

theorem rows_spec (l b : List Int) (hb : Bytes b) : F7 rowG rowG readG readG intsG gw l b = some true := by
  rw [F7_eq]
  by_cases h1 : lenI l > 300
  · rw [dT h1]; rfl
  rw [dF h1]
  by_cases h2 : lenI b > 2000
  · rw [dT h2]; rfl
  rw [dF h2]
  unfold lenI at h1 h2
  have e1 : rowG l = some (row l) := if_pos (by omega)
  have e2 : readG b = some (readRow b) := if_pos ⟨hb, by omega⟩
  have e3 : intsG ((readRow b).1, (readRow b).1) = some true := by
    unfold intsG
    have := readRow_len b
    rw [if_pos (by show (readRow b).1.length ≤ _; omega)]
    simp
  rw [e1, e2]
  simp only [Option.bind_some, eqS_refl, eqI_refl, e3]
  rfl

open Classical in
noncomputable def rowsG (x : List Int × List Int) : Option Bool := if Bytes x.2 then some true else none
noncomputable def rowsC : Ctr := ⟨7, .pr intsT bytesT, .bool, rowsG⟩
theorem fn7 : FnsOK Try.prog [(7, Try.f7)] := ⟨⟨Try.func7, by decide⟩, trivial⟩
theorem rowsC_ok : CtrAll Try.prog rowsC := by
  refine ctr_of mixed ⟨Try.f7, Try.func7, by decide, rfl⟩ rfl rfl ?_
  rintro ⟨l, b⟩ y h
  refine ⟨mk [cRow 16 rowG, cRow 17 rowG, cRead 18 readG, cRead 19 readG, cInts intsG, cWk gw] [(7, Try.f7)] 0, 1,
    base.env (⟨rowC_ok, refRowC_ok, readC_ok, refReadC_ok, intsC_ok, wakesC_ok, trivial⟩ : CtrsOK Try.prog [cRow 16 rowG, cRow 17 rowG, cRead 18 readG, cRead 19 readG, cInts intsG, wakesC]) fn7, ?_⟩
  have h : rowsG (l, b) = some y := h
  unfold rowsG at h
  split at h
  · rename_i hb
    exact (rows_spec l b hb).trans h
  · cases h
end Go.Ev.R1
