import Derived.Test.YtggobapgdflchaaEvS5
import Derived.Test.YtggobapgdflchaaEvS6
set_option linter.unusedVariables false
set_option maxRecDepth 100000
namespace Go.Ev.R3
open Go.Proofs

/-! The moves of 'states'. -/


theorem may_state {c : Coord} (h : MayP c) : 0 ≤ c.1 ∧ c.1 ≤ 6 := by
  rcases h with rfl | h
  · decide
  · have := h.1; omega
theorem may_zero {c : Coord} (h : MayP c) (h0 : c.1 = 0) : c = coord0 := by
  rcases h with h | h
  · exact h
  · have := h.1; omega
theorem may_epoch {c : Coord} (h : MayP c) : 0 ≤ c.2.2.1 ∧ c.2.2.1 ≤ 100 := by
  rcases h with rfl | h
  · decide
  · exact h.2.2.1
theorem what_cases (s : Int) : (whatM s = 1 ∧ (s = 1 ∨ s = 5 ∨ s = 6)) ∨ (whatM s = 3 ∧ (s = 3 ∨ s = 4)) ∨ (whatM s = 2 ∧ s = 2) ∨ (whatM s = 0 ∧ ¬ (1 ≤ s ∧ s ≤ 6)) := by
  unfold whatM
  (repeat' split) <;> omega

open Classical in
noncomputable def initM (c : Coord) (p t : Int) : Coord × Int :=
  br (mayM c) (if 1 ≤ p ∧ p ≤ 8 ∧ 1 ≤ t ∧ t ≤ 20 then
    (if c.1 = 0 then ((1, p, 0, t, 0, [], [], 0), 0)
    else if c.1 = 2 ∨ c.1 = 3 ∨ c.1 = 4 then (coord0, 180)
    else if c.2.2.1 = 100 then (coord0, 102)
    else ((1, c.2.1, c.2.2.1 + 1, t, 0, [], [], 0), 0)) else (coord0, 2)) (coord0, 2)

noncomputable def G35 : T35 → Option U35 := fun x => if Fit x.1 then some (initM x.1 x.2.1 x.2.2) else none
theorem g21 {c : Coord} (h : Fit c) : G21 c = some (mayM c) := if_pos h
theorem init_eq (k : Nat) (c : Coord) (p t : Int) (hf : Fit c) : F35 G21 G62 (k + 1) c p t = some (initM c p t) := by
  simp only [F35_eq, J35_3_eq, J35_9_eq, J35_11_eq, g21 hf, G62, Option.bind_some, br_dec, br_ndec, eqI]
  unfold initM
  cases hm : mayM c with
  | false => rfl
  | true =>
    have h := mayM_iff.1 hm
    have hs := may_state h
    have he := may_epoch h
    rw [w64 (by omega) (by omega)]
    have hw := what_cases c.1
    simp only [brT, brF, Bool.not_true]
    generalize whatM c.1 = m at *
    (repeat' split) <;> first | rfl | omega
theorem c35 : CtrAll Try.prog ⟨35, A35, R35, G35⟩ := C35 c21 c62 fun x y h => by
  unfold G35 at h
  split at h
  · rename_i hb; exact ⟨1, (init_eq 0 x.1 x.2.1 x.2.2 hb).trans h⟩
  · cases h

/-! moves -/
def movesM (c : Coord) : Coord × Int := if whatM c.1 = 0 ∨ whatM c.1 = 3 then (coord0, 180) else ((2, c.2), 0)
def G88 : T88 → Option U88 := fun c => some (movesM c)
theorem moves_eq (c : Coord) : F88 G62 0 c = some (movesM c) := by
  simp only [F88_eq, G62, Option.bind_some, br_dec, eqI]
  unfold movesM
  (repeat' split) <;> first | rfl | omega
theorem c88 : CtrAll Try.prog ⟨88, A88, R88, G88⟩ := C88 c62 fun x y h => ⟨0, (moves_eq x).trans h⟩

/-! Add -/
noncomputable def addM (c : Coord) (q : Int) : Coord × Int :=
  br (mayM c) (if 0 ≤ q ∧ q ≤ 2 then
    (if (movesM c).2 = 0 then (((movesM c).1.1, (movesM c).1.2.1, (movesM c).1.2.2.1, (movesM c).1.2.2.2.1, (movesM c).1.2.2.2.2.1, putM lessB q (movesM c).1.2.2.2.2.2.1, (movesM c).1.2.2.2.2.2.2), 0) else movesM c) else (coord0, 2)) (coord0, 2)
theorem moves_fit {c : Coord} (h : Fit c) : Fit (movesM c).1 := by
  unfold movesM
  split
  · exact ⟨by decide, by decide⟩
  · exact h
noncomputable def G36 : T36 → Option U36 := fun x => if Fit x.1 then some (addM x.1 x.2) else none
theorem add_eq (c : Coord) (q : Int) (hf : Fit c) : F36 G21 G88 G89 0 c q = some (addM c q) := by
  have g89 : G89 ((movesM c).1.2.2.2.2.2.1, q, (), ()) = some (putM lessB q (movesM c).1.2.2.2.2.2.1) := if_pos (moves_fit hf).1
  simp only [F36_eq, g21 hf, G88, g89, Option.bind_some, br_dec, br_ndec, eqI]
  unfold addM
  cases hm : mayM c with
  | false => rfl
  | true =>
    simp only [brT, brF, Bool.not_true]
    generalize movesM c = w
    obtain ⟨d, e⟩ := w
    (repeat' split) <;> first | rfl | omega | (simp_all; done)
theorem c36 : CtrAll Try.prog ⟨36, A36, R36, G36⟩ := C36 c21 c88 c89 fun x y h => by
  unfold G36 at h
  split at h
  · rename_i hb; exact ⟨0, (add_eq x.1 x.2 hb).trans h⟩
  · cases h

/-! Set -/
noncomputable def setM (c : Coord) (p : Pend) : Coord × Int :=
  br (mayM c) (br (pendB p)
    (if (movesM c).2 = 0 then (((movesM c).1.1, (movesM c).1.2.1, (movesM c).1.2.2.1, (movesM c).1.2.2.2.1, (movesM c).1.2.2.2.2.1, (movesM c).1.2.2.2.2.2.1, putM aheadB p (movesM c).1.2.2.2.2.2.2.1, (movesM c).1.2.2.2.2.2.2.2), 0) else movesM c) (coord0, 2)) (coord0, 2)
noncomputable def G79 : T79 → Option U79 := fun x => if Fit x.1 then some (setM x.1 x.2) else none
theorem set_eq (c : Coord) (p : Pend) (hf : Fit c) : F79 G21 G88 G103 G69 0 c p = some (setM c p) := by
  have g103 : G103 ((movesM c).1.2.2.2.2.2.2.1, p, (), ()) = some (putM aheadB p (movesM c).1.2.2.2.2.2.2.1) := if_pos (moves_fit hf).2
  simp only [F79_eq, g21 hf, G88, G69, g103, Option.bind_some, br_dec, eqI]
  unfold setM
  cases hm : mayM c with
  | false => rfl
  | true =>
    cases hp : pendB p with
    | false => rfl
    | true =>
      simp only [brT, brF, Bool.not_true]
      generalize movesM c = w
      obtain ⟨d, e⟩ := w
      (repeat' split) <;> first | rfl | omega | (simp_all; done)
theorem c79 : CtrAll Try.prog ⟨79, A79, R79, G79⟩ := C79 c21 c88 c103 c69 fun x y h => by
  unfold G79 at h
  split at h
  · rename_i hb; exact ⟨0, (set_eq x.1 x.2 hb).trans h⟩
  · cases h

/-! Prepare -/
noncomputable def prepM (c : Coord) (yes : Bool) (th : Int) : Coord × Int :=
  br (mayM c) (if 0 ≤ th ∧ th ≤ 20 ∧ ¬ (yes = true ∧ th > 0) then
    (if (movesM c).2 = 0 then (if th > 0 ∧ c.2.2.1 = 100 then (coord0, 102) else
      (((if yes = true then 3 else 4 : Int), (movesM c).1.2.1, (movesM c).1.2.2.1, (movesM c).1.2.2.2.1, th, (movesM c).1.2.2.2.2.2), 0)) else movesM c) else (coord0, 2)) (coord0, 2)
noncomputable def G80 : T80 → Option U80 := fun x => if Fit x.1 then some (prepM x.1 x.2.1 x.2.2) else none
theorem prep_eq (k : Nat) (c : Coord) (yes : Bool) (th : Int) (hf : Fit c) : F80 G21 G88 (k + 1) c yes th = some (prepM c yes th) := by
  simp only [F80_eq, J80_3_eq, J80_6_eq, J80_8_eq, g21 hf, G88, Option.bind_some, br_dec, br_ndec, eqI]
  unfold prepM
  cases hm : mayM c with
  | false => rfl
  | true =>
    generalize movesM c = w
    obtain ⟨d, e⟩ := w
    cases yes <;> simp only [brT, brF, Bool.not_true, Bool.false_eq_true, false_and, not_false_eq_true, and_true, true_and, if_true, if_false] <;> (repeat' split) <;> first | rfl | omega | (simp_all; done)
theorem c80 : CtrAll Try.prog ⟨80, A80, R80, G80⟩ := C80 c21 c88 fun x y h => by
  unfold G80 at h
  split at h
  · rename_i hb; exact ⟨1, (prep_eq 0 x.1 x.2.1 x.2.2 hb).trans h⟩
  · cases h

/-! Complete -/
noncomputable def compM (c : Coord) : Coord × Int :=
  br (mayM c) (if c.1 = 3 then ((5, c.2.1, c.2.2.1, c.2.2.2.1, 0, [], [], 0), 0)
  else if c.1 = 4 then (if c.2.2.2.2.1 > 0 then ((1, c.2.1, c.2.2.1 + 1, c.2.2.2.2.1, 0, [], [], 0), 0) else ((6, c.2.1, c.2.2.1, c.2.2.2.1, 0, [], [], 0), 0)) else (coord0, 180)) (coord0, 2)
noncomputable def G81 : T81 → Option U81 := fun c => if Fit c then some (compM c) else none
theorem comp_eq (c : Coord) (hf : Fit c) : F81 G21 G62 0 c = some (compM c) := by
  simp only [F81_eq, g21 hf, G62, Option.bind_some, br_dec, br_ndec, eqI]
  unfold compM
  cases hm : mayM c with
  | false => rfl
  | true =>
    have h := mayM_iff.1 hm
    have hs := may_state h
    have he := may_epoch h
    rw [w64 (by omega) (by omega)]
    have hw := what_cases c.1
    simp only [brT, brF, Bool.not_true]
    generalize whatM c.1 = m at *
    (repeat' split) <;> first | rfl | omega
theorem c81 : CtrAll Try.prog ⟨81, A81, R81, G81⟩ := C81 c21 c62 fun x y h => by
  unfold G81 at h
  split at h
  · rename_i hb; exact ⟨0, (comp_eq x hb).trans h⟩
  · cases h

/-! Tick, Due, Ended, Has -/
noncomputable def tickM (c : Coord) : Coord := br (mayM c) (if c.1 = 2 ∧ c.2.2.2.2.2.2.2 < 1048576 then (c.1, c.2.1, c.2.2.1, c.2.2.2.1, c.2.2.2.2.1, c.2.2.2.2.2.1, c.2.2.2.2.2.2.1, c.2.2.2.2.2.2.2 + 1) else c) c
noncomputable def G38 : T38 → Option U38 := fun c => if Fit c then some (tickM c) else none
theorem may_age {c : Coord} (h : MayP c) : 0 ≤ c.2.2.2.2.2.2.2 ∧ c.2.2.2.2.2.2.2 ≤ 1048576 := by
  rcases h with rfl | h
  · decide
  · exact h.2.2.2.2.1
theorem tick_eq (c : Coord) (hf : Fit c) : F38 G21 0 c = some (tickM c) := by
  simp only [F38_eq, g21 hf, Option.bind_some, br_dec, eqI]
  unfold tickM
  cases hm : mayM c with
  | false => rfl
  | true =>
    have h := may_age (mayM_iff.1 hm)
    rw [w64 (by omega) (by omega)]
    simp only [brT]
    (repeat' split) <;> first | rfl | omega
theorem c38 : CtrAll Try.prog ⟨38, A38, R38, G38⟩ := C38 c21 fun x y h => by
  unfold G38 at h
  split at h
  · rename_i hb; exact ⟨0, (tick_eq x hb).trans h⟩
  · cases h
def dueM (c : Coord) : Bool := decide (c.1 = 2) && decide (c.2.2.2.2.2.2.2 ≥ c.2.2.2.1)
def G37 : T37 → Option U37 := fun c => some (dueM c)
theorem c37 : CtrAll Try.prog ⟨37, A37, R37, G37⟩ := C37 fun x y h => ⟨0, by
  rw [F37_eq, ← h]
  unfold G37 dueM eqI
  cases decide (x.1 = 2) <;> rfl⟩
def endedM (c : Coord) (yes : Bool) : Bool := if yes = true then decide (c.1 = 5) else decide (c.1 = 6)
def G39 : T39 → Option U39 := fun x => some (endedM x.1 x.2)
theorem c39 : CtrAll Try.prog ⟨39, A39, R39, G39⟩ := C39 fun x y h => ⟨0, by
  rw [F39_eq, ← h]
  unfold G39 endedM eqI
  cases x.2 <;> rfl⟩
def G22 : T22 → Option U22 := fun x => if Fit x.1 then some (decide (x.2 ∈ x.1.2.2.2.2.2.1)) else none
theorem c22 : CtrAll Try.prog ⟨22, A22, R22, G22⟩ := C22 c71 fun x y h => by
  unfold G22 at h
  split at h
  · rename_i hb
    refine ⟨0, ?_⟩
    rw [F22_eq, ← h]
    have : G71 (x.1.2.2.2.2.2.1, x.2) = some (decide (x.2 ∈ x.1.2.2.2.2.2.1)) := if_pos hb.1
    rw [this]; rfl
  · cases h

/-! Place -/
noncomputable def placeM (c : Coord) (l : Ints) : Coord × Int :=
  br (mayM c) (br (riseI (-1) l) (if c.1 = 0 then (if l = [] then (c, 0) else (coord0, 180))
  else if c.1 = 2 ∧ l = [] ∧ c.2.2.2.2.2.2.1 = [] then ((1, c.2.1, c.2.2.1, c.2.2.2.1, 0, [], [], 0), 0)
  else (((if c.1 ≠ 3 ∧ c.1 ≠ 4 ∧ ¬ l = [] then 2 else c.1 : Int), c.2.1, c.2.2.1, c.2.2.2.1, c.2.2.2.2.1, l, c.2.2.2.2.2.2), 0)) (coord0, 2)) (coord0, 2)
noncomputable def G19 : T19 → Option U19 := fun x => if Fit x.1 ∧ x.2.length ≤ 1000000 then some (placeM x.1 x.2) else none
theorem place_eq (k : Nat) (c : Coord) (l : Ints) (hf : Fit c) (hl : l.length ≤ 1000000) : F19 G21 G59 G62 G64 (k + 1) c l = some (placeM c l) := by
  have g59 : G59 (l, ((), ()), (), ()) = some (riseI (-1) l) := if_pos hl
  have hL : (0 : Int) ≤ lenI l := by unfold lenI; omega
  have hcut : cut l 0 (lenI l) = l := by rw [lenI_nat, cut_to, List.take_length]
  have g64 : G64 l = some l := if_pos hl
  simp only [F19_eq, J19_3_eq, J19_6_eq, J19_10_eq, J19_13_eq, g21 hf, g59, G62, g64, hcut, hL, Int.le_refl, decide_true, Bool.and_self, brT, brF, Option.bind_some, br_dec, br_ndec, eqI, lenI_zero, lenI_pos]
  unfold placeM
  cases hm : mayM c with
  | false => rfl
  | true =>
    cases hr : riseI (-1) l with
    | false => rfl
    | true =>
      have hs := may_state (mayM_iff.1 hm)
      have hw := what_cases c.1
      simp only [brT, brF, Bool.not_true]
      obtain ⟨s, pid, ep, to, th, parts, pends, age⟩ := c
      simp only at hs hw ⊢
      generalize whatM s = m at *
      by_cases h1 : l = [] <;> by_cases h2 : pends = [] <;> simp only [h1, h2, not_true_eq_false, not_false_eq_true, and_true, and_false, and_self, if_true, if_false] <;> (repeat' split) <;> first | rfl | omega | (exfalso; omega)
theorem c19 : CtrAll Try.prog ⟨19, A19, R19, G19⟩ := C19 c21 c59 c62 c64 fun x y h => by
  unfold G19 at h
  split at h
  · rename_i hb; exact ⟨1, (place_eq 0 x.1 x.2 hb.1 hb.2).trans h⟩
  · cases h
end Go.Ev.R3
