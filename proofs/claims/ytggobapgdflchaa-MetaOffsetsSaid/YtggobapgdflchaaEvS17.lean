import Derived.Test.YtggobapgdflchaaEvS14
import Derived.Test.YtggobapgdflchaaEvS16
set_option linter.unusedVariables false
set_option maxRecDepth 100000
namespace Go.Ev.R3
open Go.Proofs

/-! The document's May of an entry. -/
theorem mayE49 (e : MetaE) (hf : FitE e) : F49 G97 G98 G99 G100 G17 8 e = some (mayE e) := by
  have g97 : ∀ g, G97 (e, g) = some (decide (e = g)) := fun g => if_pos hf.1
  have g98 : G98 e = some (keptM e) := rfl
  rw [F49_eq]
  simp only [G99, G100, g97, g98, g17 hf.1 hf.2.1, Option.bind_some]
  unfold mayE
  by_cases he : e = keptM e
  · rw [dT he, Bool.not_true, brF]
    by_cases ht : 0 ≤ e.2.1 ∧ e.2.1 ≤ 2
    · rw [within_iff.2 ht, Bool.not_true, brF]
      have hn : e.1 ≠ 7 → e.2.2.2.2.2.2.2 = 0 := fun h => by
        have := congrArg (fun g : MetaE => g.2.2.2.2.2.2.2) he
        simpa [keptM, h] using this
      have hB : 0 ≤ e.1 ∧ e.1 ≤ 7 → B (MayE e) = B ((e.1 = 1 → 1 ≤ e.2.2.1 ∧ e.2.2.1 ≤ 20) ∧ (e.1 = 2 ∨ e.1 = 5 → pendB e.2.2.2.1 = true) ∧ (e.1 = 3 → (0 ≤ e.2.2.2.2.2.1 ∧ e.2.2.2.2.2.1 ≤ 20) ∧ ¬ (e.2.2.2.2.1 = true ∧ e.2.2.2.2.2.1 > 0)) ∧ (e.1 = 6 → e.2.2.2.2.2.2.1.2.2.2.2.2.1 = [] ∧ MayP e.2.2.2.2.2.2.1) ∧ (e.1 = 7 → 0 ≤ e.2.2.2.2.2.2.2 ∧ e.2.2.2.2.2.2.2 ≤ 8)) :=
        fun hk => B_congr ⟨fun h => h.2.2.2, fun h => ⟨hk, he, ht, h⟩⟩
      by_cases hk : 0 ≤ e.1 ∧ e.1 ≤ 7
      · rw [hB hk]
        obtain ⟨k, r⟩ := e
        have hk : 0 ≤ k ∧ k ≤ 7 := hk
        simp only at hn ⊢
        have hc : k = 0 ∨ k = 1 ∨ k = 2 ∨ k = 3 ∨ k = 4 ∨ k = 5 ∨ k = 6 ∨ k = 7 := by omega
        rcases hc with rfl | rfl | rfl | rfl | rfl | rfl | rfl | rfl
        · exact some_B (b := true) (by simp)
        · exact some_B (by rw [within_iff]; simp)
        · exact some_B (by simp)
        · show br (withinM r.2.2.2.2.1 0 20) (br (!r.2.2.2.1) (some true) (some (eqI r.2.2.2.2.1 0))) (some false) = _
          by_cases hw : 0 ≤ r.2.2.2.2.1 ∧ r.2.2.2.2.1 ≤ 20
          · rw [within_iff.2 hw, brT]
            cases hy : r.2.2.2.1 with
            | true => exact some_B (by unfold eqI; simp; omega)
            | false => exact some_B (b := true) (by simp; omega)
          · rw [show withinM r.2.2.2.2.1 0 20 = false from by rw [← Bool.not_eq_true, within_iff]; exact hw, brF]
            exact some_B (by simp; intro a b; omega)
        · exact some_B (b := true) (by simp)
        · exact some_B (by simp)
        · show br (mayM r.2.2.2.2.2.1) (some (eqI (lenI r.2.2.2.2.2.1.2.2.2.2.2.1) 0)) (some false) = _
          by_cases hm : MayP r.2.2.2.2.2.1
          · rw [mayT hm, brT]
            exact some_B (by unfold eqI; rw [decide_eq_true_eq, lenI_zero]; simp [hm])
          · rw [mayF hm, brF]
            exact some_B (by simp [hm])
        · exact some_B (by rw [within_iff]; simp)
      · rw [B_false (show ¬ MayE e from fun h => hk h.1)]
        obtain ⟨k, r⟩ := e
        have hk : ¬ (0 ≤ k ∧ k ≤ 7) := hk
        simp only
        rw [eqI_ne (show k ≠ 0 by omega), eqI_ne (show k ≠ 4 by omega), eqI_ne (show k ≠ 3 by omega), eqI_ne (show k ≠ 1 by omega), eqI_ne (show k ≠ 2 by omega), eqI_ne (show k ≠ 5 by omega), eqI_ne (show k ≠ 6 by omega), eqI_ne (show k ≠ 7 by omega)]
        rfl
    · rw [show withinM e.2.1 0 2 = false from by rw [← Bool.not_eq_true, within_iff]; exact ht, Bool.not_false, brT, B_false fun h => ht h.2.2.1]
  · rw [dF he, Bool.not_false, brT, B_false fun h => he h.2.1]
noncomputable def G49 : T49 → Option U49 := fun e => if FitE e then some (mayE e) else none
theorem c49 : CtrAll Try.prog ⟨49, A49, R49, G49⟩ := C49 c97 c98 c99 c100 c17 fun x y h => by
  unfold G49 at h
  split at h
  · rename_i hb; exact ⟨8, (mayE49 x hb).trans h⟩
  · cases h

/-! A move of a state. -/
def zeroS : State := (0, ((0, 0, 0, 0, 0, [], [], 0), (0, 0, 0, 0, 0, [], [], 0), 0, 0, 0, 0, 0, [], [], 0), (0, 0, 0), 0, 0, 0)
/-- another transactional id in its place -/
def setC (s : State) (i : Nat) (c : Coord) : State := (s.1, (cond (Nat.beq i 0) c s.2.1.1, cond (Nat.beq i 1) c s.2.1.2.1, cond (Nat.beq i 2) c s.2.1.2.2), s.2.2)
def setG (g : Groups) (p : Pend) : Groups :=
  ((cond (Nat.beq (mulAdd p.1.toNat 3 p.2.1) 0) p.2.2 g.1.1, cond (Nat.beq (mulAdd p.1.toNat 3 p.2.1) 1) p.2.2 g.1.2.1, cond (Nat.beq (mulAdd p.1.toNat 3 p.2.1) 2) p.2.2 g.1.2.2),
    (cond (Nat.beq (mulAdd p.1.toNat 3 p.2.1) 3) p.2.2 g.2.1, cond (Nat.beq (mulAdd p.1.toNat 3 p.2.1) 4) p.2.2 g.2.2.1, cond (Nat.beq (mulAdd p.1.toNat 3 p.2.1) 5) p.2.2 g.2.2.2))
def setsG (g : Groups) (l : Pends) : Groups := l.foldl setG g
def groupS (s : State) (g : Groups) : State := (s.1, s.2.1, g)
/-- what becomes of a transactional id -/
noncomputable def mvC (c : Coord) (x : MetaE) : Coord × Int :=
  if x.1 = 1 then initM c c.2.1 x.2.2.1 else if x.1 = 2 then setM c x.2.2.2.1 else if x.1 = 3 then prepM c x.2.2.2.2.1 x.2.2.2.2.2.1 else if x.1 = 4 then compM c else if x.1 = 6 then (x.2.2.2.2.2.2.1, 0) else (c, 0)
/-- the groups behind a move -/
def mvG (s : State) (c : Coord) (x : MetaE) : Groups := if x.1 = 4 ∧ c.1 = 3 then setsG s.2.2 c.2.2.2.2.2.2.1 else if x.1 = 5 then setG s.2.2 x.2.2.2.1 else s.2.2
noncomputable def moveS (s : State) (x : MetaE) : State × Int :=
  if x.1 = 0 ∨ (x.1 = 1 ∧ (nthC s x.2.1.toNat).1 = 0) then
    (if s.1 = 8 then ((9, s.2), 102) else (if x.1 = 0 then (s.1 + 1, s.2) else setC (s.1 + 1, s.2) x.2.1.toNat (1, s.1 + 1, 0, x.2.2.1, 0, [], [], 0), 0))
  else (setC (if x.1 = 7 then x.2.2.2.2.2.2.2 else s.1, s.2.1, mvG s (nthC s x.2.1.toNat) x) x.2.1.toNat (mvC (nthC s x.2.1.toNat) x).1, (mvC (nthC s x.2.1.toNat) x).2)

theorem beq_ne {i j : Nat} (h : i ≠ j) : Nat.beq i j = false := by
  cases hb : Nat.beq i j with
  | false => rfl
  | true => exact absurd (Nat.eq_of_beq_eq_true hb) h
theorem lt3m {i : Nat} (h : i < 3) : i = 0 ∨ i = 1 ∨ i = 2 := by omega
theorem setC_own (s : State) {i : Nat} (h : i < 3) : setC s i (nthC s i) = s := by
  rcases lt3m h with rfl | rfl | rfl <;> rfl
theorem inB_of {n : Int} {k : Nat} (h : 0 ≤ n ∧ n < (k : Int)) : inB n k = true := by unfold inB; rw [dT h.1, dT h.2]; rfl
theorem tid_of {x : MetaE} (h : MayE x) : inB x.2.1 3 = true ∧ x.2.1.toNat < 3 := ⟨inB_of (by have := h.2.2.1; omega), by have := h.2.2.1; omega⟩
theorem pend_inB {p : Pend} (h : pendB p = true) : inB p.1 2 = true ∧ inB p.2.1 3 = true := by
  have := pend_iff.1 h
  exact ⟨inB_of (by omega), inB_of (by omega)⟩
theorem riseP_mem : ∀ (l : Pends) (q : Option Pend), riseP q l = true → ∀ z, z ∈ l → pendB z = true
  | [], _, _, z, hz => by cases hz
  | x :: l, q, h, z, hz => by
    rw [riseP_cons] at h
    simp only [Bool.and_eq_true] at h
    rcases List.mem_cons.1 hz with rfl | hz
    · exact h.1
    · exact riseP_mem l (some x) h.2.2 z hz
theorem may_pends {c : Coord} (h : MayP c) : ∀ z, z ∈ c.2.2.2.2.2.2.1 → pendB z = true := by
  rcases h with rfl | h
  · intro z hz; cases hz
  · exact riseP_mem _ none h.2.2.2.2.2.2.1

theorem J93_30_sp (K k : Nat) (e : Int) (s : State) (x : MetaE) (z : State) (c : Coord) (h : MayE x) : J93_30 G35 G79 G80 G81 K (k + 1) e s x z c = some (setC s x.2.1.toNat c, e) := by
  rw [J93_30_eq, (tid_of h).1, brT]; rfl
theorem J93_30v_sp (K k : Nat) (e : Int) (s : State) (x : MetaE) (z : State) (c d : Coord) (h : MayE x) : J93_30v2 G35 G79 G80 G81 K (k + 1) e s x z c d = some (setC s x.2.1.toNat c, e) := by
  rw [J93_30v2_eq, (tid_of h).1, brT]; rfl
theorem L93_spec (K : Nat) (e : Int) (x : MetaE) (z : State) (c d : Coord) (l : Pends) (hl : l.length ≤ 1000000) (hp : ∀ z, z ∈ l → pendB z = true) (hx : MayE x) : ∀ (k i : Nat) (s : State), l.length < k + i → i ≤ l.length →
    L93_23 G35 G79 G80 G81 (K + 1) k e l (lenI l) (i : Int) s x z c d = some (setC (groupS s (setsG s.2.2 (l.drop i))) x.2.1.toNat c, e)
  | 0, i, s, h, hi => by omega
  | k + 1, i, s, h, hi => by
    rw [L93_23_step]
    cases hy : l[i]? with
    | none =>
      have := List.getElem?_eq_none_iff.1 hy
      rw [dF (show ¬ ((i : Int) < lenI l) by unfold lenI; omega), List.drop_eq_nil_of_le this, brF, J93_30v_sp _ _ _ _ _ _ _ _ hx]
      rfl
    | some y =>
      have hlt := (List.getElem?_eq_some_iff.1 hy).1
      obtain ⟨p1, p2⟩ := pend_inB (hp y (List.mem_of_getElem? hy))
      rw [dT (show (i : Int) < lenI l by unfold lenI; omega), brT, J93_24_eq, idxN, hy, Option.bind_some, p1, p2, brT, brT, w1 (by omega), drop_consN hy]
      exact L93_spec K e x z c d l hl hp hx k (i + 1) (groupS s (setG s.2.2 y)) (by omega) (by omega)
end Go.Ev.R3

set_option linter.unusedVariables false
set_option maxRecDepth 100000
namespace Go.Ev.R3
open Go.Proofs

theorem nthC_mayM {s : State} (h : MayS s) {i : Nat} (hi : i < 3) : MayP (nthC s i) := by
  rcases lt3m hi with rfl | rfl | rfl
  · exact h.1.2.1.1
  · exact h.1.2.2.1.1
  · exact h.1.2.2.2.1.1
theorem mayFitS {s : State} (h : MayS s) : FitS s := ⟨may_fit h.1.2.1.1, may_fit h.1.2.2.1.1, may_fit h.1.2.2.2.1.1⟩
theorem mayI8 {c : Coord} (h : MayP c) : I8 c := by
  have := may_state h
  constructor <;> omega
theorem mayI8S {s : State} (h : MayS s) : I8S s := ⟨mayI8 h.1.2.1.1, mayI8 h.1.2.2.1.1, mayI8 h.1.2.2.2.1.1⟩
theorem mayS_F' {s : State} (h : ¬ MayS s) : mayS s = false := by rw [← Bool.not_eq_true, mayS_iff]; exact h

theorem move_eq (K : Nat) (s : State) (x : MetaE) (hs : MayS s) (hx : MayE x) (hK : 1000000 < K) : F93 G35 G79 G80 G81 (K + 1) s x = some (moveS s x) := by
  obtain ⟨t1, t2⟩ := tid_of hx
  have hm : 0 ≤ s.1 ∧ s.1 ≤ 8 := hs.1.1
  have hc := nthC_mayM hs t2
  have hf := may_fit hc
  rw [F93_eq, t1, brT, show sel s.2.1.1 [s.2.1.1, s.2.1.2.1, s.2.1.2.2] (Int.toNat x.2.1) = nthC s x.2.1.toNat from rfl]
  have e2 : ∀ (c : Coord), setC (s.1 + 1, s.2) x.2.1.toNat c = (s.1 + 1, (setC s x.2.1.toNat c).2) := fun c => rfl
  have e3 : setC (s.1 + 1, s.2) x.2.1.toNat (nthC s x.2.1.toNat) = (s.1 + 1, s.2) := setC_own (s.1 + 1, s.2) t2
  generalize hcc : nthC s x.2.1.toNat = c at *
  have g35 : ∀ p t, G35 (c, p, t) = some (initM c p t) := fun p t => if_pos hf
  have g79 : ∀ p, G79 (c, p) = some (setM c p) := fun p => if_pos hf
  have g80 : ∀ y t, G80 (c, y, t) = some (prepM c y t) := fun y t => if_pos hf
  have g81 : G81 c = some (compM c) := if_pos hf
  by_cases h1 : x.1 = 1
  · rw [h1, eqI_refl, brT, J93_11_eq]
    by_cases h0 : c.1 = 0
    · rw [h0, eqI_refl, Bool.not_true, brF, w64 (by omega) (by omega)]
      by_cases h8 : s.1 = 8
      · rw [dT (by omega), brT]
        unfold moveS
        rw [hcc, if_pos (Or.inr ⟨h1, h0⟩), if_pos h8, h8]
        rfl
      · rw [dF (by omega), brF, J93_30_sp _ _ _ _ _ _ _ hx]
        unfold moveS
        rw [hcc, if_pos (Or.inr ⟨h1, h0⟩), if_neg h8, if_neg (by omega)]
    · rw [eqI_ne h0, Bool.not_false, brT, g35, Option.bind_some, J93_30_sp _ _ _ _ _ _ _ hx]
      unfold moveS mvC mvG
      rw [hcc, if_neg (by omega), if_neg (by omega), if_pos h1, if_neg (by omega), if_neg (by omega)]
  · rw [eqI_ne h1, brF, J93_4_eq]
    by_cases k0 : x.1 = 0
    · rw [k0, eqI_refl, brT, w64 (by omega) (by omega)]
      by_cases h8 : s.1 = 8
      · rw [dT (by omega), brT]
        unfold moveS
        rw [if_pos (Or.inl k0), if_pos h8, h8]
        rfl
      · rw [dF (by omega), brF, J93_30_sp _ _ _ _ _ _ _ hx, e3]
        unfold moveS
        rw [if_pos (Or.inl k0), if_neg h8, if_pos k0]
    · rw [eqI_ne k0, brF, J93_5_eq]
      have hno : ¬ (x.1 = 0 ∨ (x.1 = 1 ∧ c.1 = 0)) := by omega
      by_cases k2 : x.1 = 2
      · rw [k2, eqI_refl, brT, J93_17_eq, g79, Option.bind_some, J93_30_sp _ _ _ _ _ _ _ hx]
        unfold moveS mvC mvG
        rw [hcc, if_neg hno, if_neg (by omega), if_neg h1, if_pos k2, if_neg (by omega), if_neg (by omega)]
      · rw [eqI_ne k2, brF, J93_6_eq]
        by_cases k3 : x.1 = 3
        · rw [k3, eqI_refl, brT, J93_18_eq, g80, Option.bind_some, J93_30_sp _ _ _ _ _ _ _ hx]
          unfold moveS mvC mvG
          rw [hcc, if_neg hno, if_neg (by omega), if_neg h1, if_neg k2, if_pos k3, if_neg (by omega), if_neg (by omega)]
        · rw [eqI_ne k3, brF, J93_7_eq]
          by_cases k4 : x.1 = 4
          · rw [k4, eqI_refl, brT, J93_19_eq, g81, Option.bind_some]
            by_cases h3 : c.1 = 3
            · rw [h3, eqI_refl, Bool.not_true, brF, J93_22_eq]
              have := L93_spec K (compM c).2 x zeroS (compM c).1 c c.2.2.2.2.2.2.1 hf.2 (may_pends hc) hx (K + 1) 0 s (by have := hf.2; omega) (by omega)
              rw [List.drop_zero, show ((0 : Nat) : Int) = 0 from rfl] at this
              refine Eq.trans this ?_
              unfold moveS mvC mvG
              rw [hcc, if_neg hno, if_neg (by omega), if_neg h1, if_neg k2, if_neg k3, if_pos k4, if_pos ⟨k4, h3⟩]
              rfl
            · rw [eqI_ne h3, Bool.not_false, brT, J93_30v_sp _ _ _ _ _ _ _ _ hx]
              unfold moveS mvC mvG
              rw [hcc, if_neg hno, if_neg (by omega), if_neg h1, if_neg k2, if_neg k3, if_pos k4, if_neg (fun k => h3 k.2), if_neg (by omega)]
          · rw [eqI_ne k4, brF, J93_8_eq]
            have hmv : x.1 ≠ 6 → mvC c x = (c, 0) := fun k6 => by unfold mvC; rw [if_neg h1, if_neg k2, if_neg k3, if_neg k4, if_neg k6]
            by_cases k5 : x.1 = 5
            · have hp := hx.2.2.2.2.1 (Or.inr k5)
              obtain ⟨p1, p2⟩ := pend_inB hp
              rw [k5, eqI_refl, brT, J93_27_eq, p1, p2, brT, brT, J93_30_sp _ _ _ _ _ _ _ hx]
              unfold moveS mvG
              rw [hcc, if_neg hno, hmv (by omega), if_neg (by omega), if_neg (by omega), if_pos k5]
              rfl
            · rw [eqI_ne k5, brF]
              have hg : mvG s c x = s.2.2 := by unfold mvG; rw [if_neg (by omega), if_neg k5]
              by_cases k6 : x.1 = 6
              · rw [k6, eqI_refl, brT, J93_30_sp _ _ _ _ _ _ _ hx]
                unfold moveS mvC
                rw [hcc, if_neg hno, hg, if_neg (by omega), if_neg h1, if_neg k2, if_neg k3, if_neg k4, if_pos k6]
              · rw [eqI_ne k6, brF]
                by_cases k7 : x.1 = 7
                · rw [k7, eqI_refl, brT, J93_30_sp _ _ _ _ _ _ _ hx]
                  unfold moveS
                  rw [hcc, if_neg hno, hg, hmv k6, if_pos k7]
                · exfalso
                  have := hx.1
                  omega
open Classical in
noncomputable def G93 : T93 → Option U93 := fun x => if MayS x.1 ∧ MayE x.2 then some (moveS x.1 x.2) else none
theorem c93 : CtrAll Try.prog ⟨93, A93, R93, G93⟩ := C93 c35 c79 c80 c81 fun x y h => by
  unfold G93 at h
  split at h
  · rename_i hb; exact ⟨1000002, (move_eq 1000001 x.1 x.2 hb.1 hb.2 (by omega)).trans h⟩
  · cases h

/-! Next -/
open Classical in
noncomputable def nextM (s : State) (x : MetaE) : State × Int :=
  if MayS s ∧ MayE x then (if (moveS s x).2 = 0 then (if MayS (moveS s x).1 then ((moveS s x).1, 0) else (zeroS, 2)) else (zeroS, (moveS s x).2)) else (zeroS, 2)
end Go.Ev.R3

set_option linter.unusedVariables false
set_option maxRecDepth 100000
namespace Go.Ev.R3
open Go.Proofs

theorem mvC_may {c : Coord} {x : MetaE} (hc : MayP c) (hx : MayE x) (h : (mvC c x).2 = 0) : MayP (mvC c x).1 := by
  unfold mvC at h ⊢
  split
  · rename_i k
    rw [if_pos k] at h
    exact (init_ok (d := (initM c c.2.1 x.2.2.1).1) hc (Prod.ext rfl h)).1
  · rename_i k1
    rw [if_neg k1] at h
    split
    · rename_i k
      rw [if_pos k] at h
      exact (set_ok (d := (setM c x.2.2.2.1).1) hc (Prod.ext rfl h)).1
    · rename_i k2
      rw [if_neg k2] at h
      split
      · rename_i k
        rw [if_pos k] at h
        exact (prep_ok (d := (prepM c x.2.2.2.2.1 x.2.2.2.2.2.1).1) hc (Prod.ext rfl h)).1
      · rename_i k3
        rw [if_neg k3] at h
        split
        · rename_i k
          rw [if_pos k] at h
          exact (comp_ok (d := (compM c).1) hc (Prod.ext rfl h)).1
        · split
          · rename_i k
            exact (hx.2.2.2.2.2.2.1 k).2
          · exact hc

theorem setC_fit {s : State} {c : Coord} (i : Nat) (hs : FitS s) (hc : Fit c) : FitS (setC s i c) := by
  obtain ⟨h1, h2, h3⟩ := hs
  refine ⟨?_, ?_, ?_⟩
  · show Fit (cond (Nat.beq i 0) c s.2.1.1)
    cases Nat.beq i 0 <;> assumption
  · show Fit (cond (Nat.beq i 1) c s.2.1.2.1)
    cases Nat.beq i 1 <;> assumption
  · show Fit (cond (Nat.beq i 2) c s.2.1.2.2)
    cases Nat.beq i 2 <;> assumption
theorem setC_i8 {s : State} {c : Coord} (i : Nat) (hs : I8S s) (hc : I8 c) : I8S (setC s i c) := by
  obtain ⟨h1, h2, h3⟩ := hs
  refine ⟨?_, ?_, ?_⟩
  · show I8 (cond (Nat.beq i 0) c s.2.1.1)
    cases Nat.beq i 0 <;> assumption
  · show I8 (cond (Nat.beq i 1) c s.2.1.2.1)
    cases Nat.beq i 1 <;> assumption
  · show I8 (cond (Nat.beq i 2) c s.2.1.2.2)
    cases Nat.beq i 2 <;> assumption

theorem may_new {s : State} (h : MayS s) (h8 : s.1 ≠ 8) : MayS (s.1 + 1, s.2) := by
  obtain ⟨⟨h1, ⟨h2, h3⟩, ⟨h4, h5⟩, ⟨h6, h7⟩, hd⟩, h11⟩ := h
  exact ⟨⟨by show 0 ≤ s.1 + 1 ∧ s.1 + 1 ≤ 8; omega, ⟨h2, Int.le_trans h3 (by show s.1 ≤ s.1 + 1; omega)⟩, ⟨h4, Int.le_trans h5 (by show s.1 ≤ s.1 + 1; omega)⟩, ⟨h6, Int.le_trans h7 (by show s.1 ≤ s.1 + 1; omega)⟩, hd⟩, h11⟩
theorem may_begun {n t : Int} (hn : 0 ≤ n ∧ n < 8) (ht : 1 ≤ t ∧ t ≤ 20) : MayP (1, n + 1, 0, t, 0, [], [], 0) := by
  refine .inr ⟨?_, ?_, ?_, ht, ?_, rfl, rfl, fun _ => ⟨rfl, rfl, rfl⟩, ?_, .inl rfl⟩
  · show (1 : Int) ≤ 1 ∧ (1 : Int) ≤ 6; omega
  · show 1 ≤ n + 1 ∧ n + 1 ≤ 8; omega
  · show (0 : Int) ≤ 0 ∧ (0 : Int) ≤ 100; omega
  · show (0 : Int) ≤ 0 ∧ (0 : Int) ≤ 1048576; omega
  · intro (k : (1 : Int) = 2); omega
theorem may_init {s : State} (h : MayS s) (h8 : s.1 ≠ 8) {i : Nat} (hi : i < 3) {t : Int} (ht : 1 ≤ t ∧ t ≤ 20) : MayS (setC (s.1 + 1, s.2) i (1, s.1 + 1, 0, t, 0, [], [], 0)) := by
  obtain ⟨⟨h1, ⟨h2, h3⟩, ⟨h4, h5⟩, ⟨h6, h7⟩, h8', h9, h10⟩, h11⟩ := h
  have hb := may_begun (n := s.1) (t := t) (by omega) ht
  have up : ∀ {a : Int}, a ≤ s.1 → a ≤ s.1 + 1 := fun h => by omega
  rcases lt3m hi with rfl | rfl | rfl
  · refine ⟨⟨?_, ⟨hb, ?_⟩, ⟨h4, up h5⟩, ⟨h6, up h7⟩, ?_, ?_, h10⟩, h11⟩
    · show 0 ≤ s.1 + 1 ∧ s.1 + 1 ≤ 8; omega
    · show s.1 + 1 ≤ s.1 + 1; omega
    · show ¬ (s.2.1.2.1.2.1 > 0 ∧ s.1 + 1 = s.2.1.2.1.2.1); omega
    · show ¬ (s.2.1.2.2.2.1 > 0 ∧ s.1 + 1 = s.2.1.2.2.2.1); omega
  · refine ⟨⟨?_, ⟨h2, up h3⟩, ⟨hb, ?_⟩, ⟨h6, up h7⟩, ?_, h9, ?_⟩, h11⟩
    · show 0 ≤ s.1 + 1 ∧ s.1 + 1 ≤ 8; omega
    · show s.1 + 1 ≤ s.1 + 1; omega
    · show ¬ (s.1 + 1 > 0 ∧ s.2.1.1.2.1 = s.1 + 1); omega
    · show ¬ (s.2.1.2.2.2.1 > 0 ∧ s.1 + 1 = s.2.1.2.2.2.1); omega
  · refine ⟨⟨?_, ⟨h2, up h3⟩, ⟨h4, up h5⟩, ⟨hb, ?_⟩, h8', ?_, ?_⟩, h11⟩
    · show 0 ≤ s.1 + 1 ∧ s.1 + 1 ≤ 8; omega
    · show s.1 + 1 ≤ s.1 + 1; omega
    · show ¬ (s.1 + 1 > 0 ∧ s.2.1.1.2.1 = s.1 + 1); omega
    · show ¬ (s.1 + 1 > 0 ∧ s.2.1.2.1.2.1 = s.1 + 1); omega
theorem cond_le {b : Bool} {x y l u : Int} (hx : l ≤ x ∧ x ≤ u) (hy : l ≤ y ∧ y ≤ u) : l ≤ cond b x y ∧ cond b x y ≤ u := by cases b <;> assumption
theorem may_group {s : State} (h : MayS s) {p : Pend} (hp : pendB p = true) : MayS (groupS s (setG s.2.2 p)) := by
  obtain ⟨h1, ⟨⟨g1, g2, g3⟩, g4, g5, g6⟩⟩ := h
  have := pend_iff.1 hp
  have hr : -1 ≤ p.2.2 ∧ p.2.2 ≤ 1048576 := by omega
  exact ⟨h1, ⟨⟨cond_le hr g1, cond_le hr g2, cond_le hr g3⟩, cond_le hr g4, cond_le hr g5, cond_le hr g6⟩⟩

open Classical in
noncomputable def nextT (t : State) : State × Int := if MayS t then (t, 0) else (zeroS, 2)
theorem nextM_eq {s : State} {x : MetaE} (hs : MayS s) (hx : MayE x) : nextM s x = if (moveS s x).2 = 0 then nextT (moveS s x).1 else (zeroS, (moveS s x).2) := by
  unfold nextM nextT
  rw [if_pos ⟨hs, hx⟩]

theorem move_fit {s : State} {x : MetaE} (hs : MayS s) (hx : MayE x) (h : (moveS s x).2 = 0) : FitS (moveS s x).1 ∧ I8S (moveS s x).1 := by
  obtain ⟨t1, t2⟩ := tid_of hx
  have hc := nthC_mayM hs t2
  have f0 := mayFitS hs
  have i0 := mayI8S hs
  unfold moveS at h ⊢
  split
  · rename_i hk
    rw [if_pos hk] at h
    split
    · rename_i h8
      rw [if_pos h8] at h
      exact absurd h (by show ¬ (102 : Int) = 0; omega)
    · split
      · exact ⟨f0, i0⟩
      · refine ⟨setC_fit _ f0 ⟨Nat.zero_le _, Nat.zero_le _⟩, setC_i8 _ i0 ⟨by show (-128 : Int) ≤ 1; omega, by show (1 : Int) ≤ 127; omega⟩⟩
  · rename_i hk
    rw [if_neg hk] at h
    have hm := mvC_may hc hx h
    exact ⟨setC_fit (s := (_, s.2.1, _)) _ f0 (may_fit hm), setC_i8 (s := (_, s.2.1, _)) _ i0 (mayI8 hm)⟩

theorem next43 (K : Nat) (s : State) (x : MetaE) (hf : FitS s) (hx : FitE x) : F43 G74 G92 G93 (K + 1) s x = some (nextM s x) := by
  have g92 : G92 x = some (mayE x) := if_pos hx
  rw [F43_eq, g74 hf, Option.bind_some]
  by_cases hs : MayS s
  · rw [mayS_iff.2 hs, Bool.not_true, brF, g92, Option.bind_some]
    by_cases he : MayE x
    · have g93 : G93 (s, x) = some (moveS s x) := if_pos ⟨hs, he⟩
      rw [mayE_iff.2 he, Bool.not_true, brF, J43_3_eq, g93, Option.bind_some, nextM_eq hs he]
      by_cases h0 : (moveS s x).2 = 0
      · rw [h0, eqI_refl, Bool.not_true, brF, g74 (move_fit hs he h0).1, Option.bind_some, if_pos rfl]
        unfold nextT
        by_cases hm : MayS (moveS s x).1
        · rw [mayS_iff.2 hm, if_pos hm]; rfl
        · rw [mayS_F' hm, if_neg hm]; rfl
      · rw [eqI_ne h0, Bool.not_false, brT, if_neg h0]; rfl
    · rw [show mayE x = false from B_false he, Bool.not_false, brT]
      unfold nextM
      rw [if_neg (fun k => he k.2)]; rfl
  · rw [mayS_F' hs, Bool.not_false, brT]
    unfold nextM
    rw [if_neg (fun k => hs k.1)]; rfl
noncomputable def G43 : T43 → Option U43 := fun x => if FitS x.1 ∧ FitE x.2 then some (nextM x.1 x.2) else none
theorem c43 : CtrAll Try.prog ⟨43, A43, R43, G43⟩ := C43 c74 c92 c93 fun x y h => by
  unfold G43 at h
  split at h
  · rename_i hb; exact ⟨1, (next43 0 x.1 x.2 hb.1 hb.2).trans h⟩
  · cases h

/-! The document's Next. -/
theorem init_any {c : Coord} (hc : MayP c) (h0 : c.1 ≠ 0) {p q t : Int} (hp : 1 ≤ p ∧ p ≤ 8) (hq : 1 ≤ q ∧ q ≤ 8) : initM c p t = initM c q t := by
  unfold initM
  rw [mayT hc, brT, brT, if_neg h0, if_neg h0]
  by_cases ht : 1 ≤ t ∧ t ≤ 20
  · rw [if_pos (show 1 ≤ p ∧ p ≤ 8 ∧ 1 ≤ t ∧ t ≤ 20 from ⟨hp.1, hp.2, ht⟩), if_pos (show 1 ≤ q ∧ q ≤ 8 ∧ 1 ≤ t ∧ t ≤ 20 from ⟨hq.1, hq.2, ht⟩)]
  · rw [if_neg (show ¬ (1 ≤ p ∧ p ≤ 8 ∧ 1 ≤ t ∧ t ≤ 20) from fun k => ht k.2.2), if_neg (show ¬ (1 ≤ q ∧ q ≤ 8 ∧ 1 ≤ t ∧ t ≤ 20) from fun k => ht k.2.2)]
theorem init_new {c : Coord} (hc : MayP c) (h0 : c.1 = 0) {p t : Int} (hp : 1 ≤ p ∧ p ≤ 8) (ht : 1 ≤ t ∧ t ≤ 20) : initM c p t = ((1, p, 0, t, 0, [], [], 0), 0) := by
  unfold initM
  rw [mayT hc, brT, if_pos ⟨hp.1, hp.2, ht⟩, if_pos h0]
open Classical in
noncomputable def G94 : T94 → Option U94 := fun x => if MayP x.1 ∧ (x.2.1.1 = 1 → x.1.1 ≠ 0) ∧ (0 ≤ x.2.2 ∧ x.2.2 ≤ 8) ∧ (x.2.1.1 = 1 ∨ x.2.1.1 = 2 ∨ x.2.1.1 = 3 ∨ x.2.1.1 = 4 ∨ x.2.1.1 = 6) then some (mvC x.1 x.2.1) else none
theorem mv94 (c : Coord) (x : MetaE) (m : Int) (hc : MayP c) (h1 : x.1 = 1 → c.1 ≠ 0) (hm : 0 ≤ m ∧ m ≤ 8) (hk : x.1 = 1 ∨ x.1 = 2 ∨ x.1 = 3 ∨ x.1 = 4 ∨ x.1 = 6) : F94 G82 G84 G85 G86 8 c x m = some (mvC c x) := by
  have hf := may_fit hc
  have hi := mayI8 hc
  have g82 : ∀ p t, G82 (c, p, t) = some (initM c p t) := fun p t => if_pos ⟨hf, hi⟩
  have g84 : ∀ p, G84 (c, p) = some (setM c p) := fun p => if_pos ⟨hf, hi⟩
  have g85 : ∀ y t, G85 (c, y, t) = some (prepM c y t) := fun y t => if_pos ⟨hf, hi⟩
  have g86 : G86 c = some (compM c) := if_pos ⟨hf, hi⟩
  rw [F94_eq, w64 (by omega) (by omega)]
  unfold mvC
  by_cases k1 : x.1 = 1
  · rw [k1, eqI_refl, brT, g82, Option.bind_some, if_pos rfl]
    have hp : 1 ≤ c.2.1 ∧ c.2.1 ≤ 8 := by
      rcases hc with rfl | h
      · exact absurd rfl (h1 k1)
      · exact h.2.1
    rw [init_any hc (h1 k1) (p := minI (m + 1) 8) (by unfold minI; split <;> omega) hp]
  · rw [eqI_ne k1, brF, if_neg k1]
    by_cases k2 : x.1 = 2
    · rw [k2, eqI_refl, brT, g84, Option.bind_some, if_pos rfl]
    · rw [eqI_ne k2, brF, if_neg k2]
      by_cases k3 : x.1 = 3
      · rw [k3, eqI_refl, brT, g85, Option.bind_some, if_pos rfl]
      · rw [eqI_ne k3, brF, if_neg k3]
        by_cases k4 : x.1 = 4
        · rw [k4, eqI_refl, brT, g86, Option.bind_some, if_pos rfl]
        · rw [eqI_ne k4, brF, if_neg k4, if_pos (by omega)]
theorem c94 : CtrAll Try.prog ⟨94, A94, R94, G94⟩ := C94 c82 c84 c85 c86 fun x y h => by
  unfold G94 at h
  split at h
  · rename_i hb; exact ⟨8, (mv94 x.1 x.2.1 x.2.2 hb.1 hb.2.1 hb.2.2.1 hb.2.2.2).trans h⟩
  · cases h
theorem g24m {t : State} (hf : FitS t) (hi : I8S t) (a : Option U44) (hz : a = some (nextT t)) : a = some (nextT t) := hz
theorem J44_32_sp (K k : Nat) (s : State) (x : MetaE) (z : State) (c d : Coord) (hx : MayE x) (hf : FitS (setC s x.2.1.toNat d)) (hi : I8S (setC s x.2.1.toNat d)) :
    J44_32 G24 G49 G82 G94 K (k + 1) s x z c d = some (nextT (setC s x.2.1.toNat d)) := by
  have g24 : G24 (setC s x.2.1.toNat d) = some (mayS (setC s x.2.1.toNat d)) := if_pos ⟨hf, hi⟩
  rw [J44_32_eq, (tid_of hx).1, brT]
  have e : (s.1, (cond (Nat.beq (Int.toNat x.2.1) 0) d s.2.1.1, cond (Nat.beq (Int.toNat x.2.1) 1) d s.2.1.2.1, cond (Nat.beq (Int.toNat x.2.1) 2) d s.2.1.2.2), s.2.2) = setC s x.2.1.toNat d := rfl
  rw [e, g24, Option.bind_some]
  unfold nextT
  by_cases hm : MayS (setC s x.2.1.toNat d)
  · rw [mayS_iff.2 hm, if_pos hm]; rfl
  · rw [mayS_F' hm, if_neg hm]; rfl
theorem L44_spec (K : Nat) (x : MetaE) (z : State) (c d : Coord) (hl : c.2.2.2.2.2.2.1.length ≤ 1000000) (hp : ∀ z, z ∈ c.2.2.2.2.2.2.1 → pendB z = true) (hx : MayE x) (k4 : x.1 = 4) (h3 : c.1 = 3) : ∀ (k i : Nat) (s : State), c.2.2.2.2.2.2.1.length < k + i → i ≤ c.2.2.2.2.2.2.1.length →
    FitS (setC s x.2.1.toNat d) → I8S (setC s x.2.1.toNat d) →
    L44_29 G24 G49 G82 G94 (K + 1) k (i : Int) s x z c d = some (nextT (setC (groupS s (setsG s.2.2 (c.2.2.2.2.2.2.1.drop i))) x.2.1.toNat d))
  | 0, i, s, h, hi, _, _ => by omega
  | k + 1, i, s, h, hi, hf, h8 => by
    rw [L44_29_step, k4, h3, eqI_refl, eqI_refl, brT, brT]
    cases hy : c.2.2.2.2.2.2.1[i]? with
    | none =>
      have := List.getElem?_eq_none_iff.1 hy
      rw [dF (show ¬ ((i : Int) < lenI c.2.2.2.2.2.2.1) by unfold lenI; omega), List.drop_eq_nil_of_le this, brF, J44_32_sp _ _ _ _ _ _ _ hx hf h8]
      rfl
    | some y =>
      have hlt := (List.getElem?_eq_some_iff.1 hy).1
      obtain ⟨p1, p2⟩ := pend_inB (hp y (List.mem_of_getElem? hy))
      rw [dT (show (i : Int) < lenI c.2.2.2.2.2.2.1 by unfold lenI; omega), brT, J44_31_eq, idxN, hy, Option.bind_some, Option.bind_some, Option.bind_some, p1, p2, brT, brT, w1 (by omega), drop_consN hy]
      exact L44_spec K x z c d hl hp hx k4 h3 k (i + 1) (groupS s (setG s.2.2 y)) (by omega) (by omega) hf h8
theorem L44_no (K k : Nat) (s : State) (x : MetaE) (z : State) (c d : Coord) (hx : MayE x) (hf : FitS (setC s x.2.1.toNat d)) (hi : I8S (setC s x.2.1.toNat d)) (hno : ¬ (x.1 = 4 ∧ c.1 = 3)) :
    L44_29 G24 G49 G82 G94 (K + 1) (k + 1) 0 s x z c d = some (nextT (setC s x.2.1.toNat d)) := by
  rw [L44_29_step, J44_32_sp _ _ _ _ _ _ _ hx hf hi]
  by_cases h4 : x.1 = 4
  · rw [h4, eqI_refl, brT, eqI_ne (fun k => hno ⟨h4, k⟩), brF]
    cases decide (0 < lenI c.2.2.2.2.2.2.1) <;> rfl
  · rw [eqI_ne h4, brF]
    cases decide (0 < lenI c.2.2.2.2.2.2.1) <;> rfl

theorem next44 (K : Nat) (s : State) (x : MetaE) (hf : FitS s) (h8 : I8S s) (hx : FitE x) (hK : 1000000 < K) : F44 G24 G49 G82 G94 (K + 1) s x = some (nextM s x) := by
  have g49 : G49 x = some (mayE x) := if_pos hx
  have g24 : G24 s = some (mayS s) := if_pos ⟨hf, h8⟩
  rw [F44_eq, g24, Option.bind_some]
  by_cases hs : MayS s
  · rw [mayS_iff.2 hs, Bool.not_true, brF, g49, Option.bind_some]
    by_cases he : MayE x
    · rw [mayE_iff.2 he, Bool.not_true, brF, J44_3_eq, nextM_eq hs he]
      obtain ⟨t1, t2⟩ := tid_of he
      have hm : 0 ≤ s.1 ∧ s.1 ≤ 8 := hs.1.1
      have hc := nthC_mayM hs t2
      have e3 : ∀ n : Int, setC (n, s.2) x.2.1.toNat (nthC s x.2.1.toNat) = (n, s.2) := fun n => setC_own (n, s.2) t2
      have e4 : ∀ g : Groups, setC (groupS s g) x.2.1.toNat (nthC s x.2.1.toNat) = groupS s g := fun g => setC_own (groupS s g) t2
      have fx := move_fit hs he
      by_cases k0 : x.1 = 0
      · have hmv : moveS s x = if s.1 = 8 then ((9, s.2), 102) else ((s.1 + 1, s.2), 0) := by
          unfold moveS
          rw [if_pos (Or.inl k0), if_pos k0]
        rw [hmv, k0, eqI_refl, brT]
        by_cases h : s.1 = 8
        · rw [h, eqI_refl, brT, if_pos rfl, if_neg (show ¬ (((9, s.2), 102) : State × Int).2 = 0 by show ¬ (102 : Int) = 0; omega)]; rfl
        · rw [eqI_ne h, brF, J44_7_eq, w64 (by omega) (by omega), if_neg h, if_pos rfl]
          unfold nextT
          rw [if_pos (may_new hs h)]
      · rw [eqI_ne k0, brF]
        by_cases k5 : x.1 = 5
        · have hp := he.2.2.2.2.1 (Or.inr k5)
          obtain ⟨p1, p2⟩ := pend_inB hp
          have hmv : moveS s x = (groupS s (setG s.2.2 x.2.2.2.1), 0) := by
            unfold moveS mvC mvG
            rw [if_neg (by omega), if_neg (by omega), if_neg (by omega), if_pos k5, if_neg (by omega), if_neg (by omega), if_neg (by omega), if_neg (by omega), if_neg (by omega)]
            exact congrArg (fun t => (t, (0 : Int))) (e4 _)
          rw [hmv, k5, eqI_refl, brT, p1, p2, brT, brT, if_pos rfl]
          unfold nextT
          rw [if_pos (may_group hs hp)]
          rfl
        · rw [eqI_ne k5, brF]
          by_cases k7 : x.1 = 7
          · have hmv : moveS s x = ((x.2.2.2.2.2.2.2, s.2), 0) := by
              unfold moveS mvC mvG
              rw [if_neg (by omega), if_pos k7, if_neg (by omega), if_neg k5, if_neg (by omega), if_neg (by omega), if_neg (by omega), if_neg (by omega), if_neg (by omega)]
              exact congrArg (fun t => (t, (0 : Int))) (e3 _)
            have g24' : G24 (x.2.2.2.2.2.2.2, s.2) = some (mayS (x.2.2.2.2.2.2.2, s.2)) := if_pos ⟨hf, h8⟩
            rw [hmv, k7, eqI_refl, brT, g24', Option.bind_some, if_pos rfl]
            unfold nextT
            by_cases hq : MayS (x.2.2.2.2.2.2.2, s.2)
            · rw [mayS_iff.2 hq, if_pos hq]; rfl
            · rw [mayS_F' hq, if_neg hq]; rfl
          · rw [eqI_ne k7, brF, J44_17_eq, t1, brT, show sel s.2.1.1 [s.2.1.1, s.2.1.2.1, s.2.1.2.2] (Int.toNat x.2.1) = nthC s x.2.1.toNat from rfl]
            have hks : x.1 = 1 ∨ x.1 = 2 ∨ x.1 = 3 ∨ x.1 = 4 ∨ x.1 = 6 := by have := he.1; omega
            -- the common end
            have fin : ∀ z, ¬ (x.1 = 1 ∧ (nthC s x.2.1.toNat).1 = 0) → J44_25 G24 G49 G82 G94 (K + 1) (K + 1) s x z (nthC s x.2.1.toNat) = some (if (moveS s x).2 = 0 then nextT (moveS s x).1 else (zeroS, (moveS s x).2)) := by
              intro z hn
              have hmv : moveS s x = (setC (groupS s (mvG s (nthC s x.2.1.toNat) x)) x.2.1.toNat (mvC (nthC s x.2.1.toNat) x).1, (mvC (nthC s x.2.1.toNat) x).2) := by
                unfold moveS
                rw [if_neg (by omega), if_neg k7]
                rfl
              have g94 : G94 (nthC s x.2.1.toNat, x, s.1) = some (mvC (nthC s x.2.1.toNat) x) := if_pos ⟨hc, fun h => fun h' => hn ⟨h, h'⟩, hm, hks⟩
              have hcm := mvC_may hc he
              rw [J44_25_eq, g94, Option.bind_some, hmv]
              generalize mvC (nthC s x.2.1.toNat) x = r at *
              obtain ⟨d, f⟩ := r
              simp only at hcm
              by_cases h0 : f = 0
              · have hd := hcm h0
                subst h0
                rw [eqI_refl, Bool.not_true, brF, J44_28_eq, if_pos rfl]
                have hfd := setC_fit x.2.1.toNat hf (may_fit hd)
                have hid := setC_i8 x.2.1.toNat h8 (mayI8 hd)
                by_cases h43 : x.1 = 4 ∧ (nthC s x.2.1.toNat).1 = 3
                · have := L44_spec K x z (nthC s x.2.1.toNat) d (may_fit hc).2 (may_pends hc) he h43.1 h43.2 (K + 1) 0 s (by have := (may_fit hc).2; omega) (by omega) hfd hid
                  rw [List.drop_zero, show ((0 : Nat) : Int) = 0 from rfl] at this
                  rw [this]
                  unfold mvG
                  rw [if_pos h43]
                · rw [L44_no _ _ _ _ _ _ _ he hfd hid h43]
                  unfold mvG
                  rw [if_neg h43, if_neg k5]
                  rfl
              · rw [eqI_ne h0, Bool.not_false, brT, if_neg h0]; rfl
            by_cases k1 : x.1 = 1
            · rw [k1, eqI_refl, brT, J44_19_eq]
              by_cases h0 : (nthC s x.2.1.toNat).1 = 0
              · rw [h0, eqI_refl, brT]
                have hmv : moveS s x = if s.1 = 8 then ((9, s.2), 102) else (setC (s.1 + 1, s.2) x.2.1.toNat (1, s.1 + 1, 0, x.2.2.1, 0, [], [], 0), 0) := by
                  unfold moveS
                  rw [if_pos (Or.inr ⟨k1, h0⟩), if_neg k0]
                rw [hmv]
                by_cases h : s.1 = 8
                · rw [h, eqI_refl, brT, if_pos rfl, if_neg (show ¬ (((9, s.2), 102) : State × Int).2 = 0 by show ¬ (102 : Int) = 0; omega)]; rfl
                · have ht := he.2.2.2.1 k1
                  have g82 : G82 (nthC s x.2.1.toNat, s.1 + 1, x.2.2.1) = some (initM (nthC s x.2.1.toNat) (s.1 + 1) x.2.2.1) := if_pos ⟨may_fit hc, mayI8 hc⟩
                  rw [eqI_ne h, brF, J44_21_eq, w64 (by omega) (by omega), g82, Option.bind_some, init_new hc h0 (by omega) ht, t1, brT, if_neg h, if_pos rfl]
                  unfold nextT
                  rw [if_pos (may_init hs h t2 ht)]
                  rfl
              · rw [eqI_ne h0, brF]
                exact fin _ (fun k => h0 k.2)
            · rw [eqI_ne k1, brF, J44_19_eq, brF]
              exact fin _ (fun k => k1 k.1)
    · rw [show mayE x = false from B_false he, Bool.not_false, brT]
      unfold nextM
      rw [if_neg (fun k => he k.2)]; rfl
  · rw [mayS_F' hs, Bool.not_false, brT]
    unfold nextM
    rw [if_neg (fun k => hs k.1)]; rfl
noncomputable def G44 : T44 → Option U44 := fun x => if FitS x.1 ∧ I8S x.1 ∧ FitE x.2 then some (nextM x.1 x.2) else none
theorem c44 : CtrAll Try.prog ⟨44, A44, R44, G44⟩ := C44 c24 c49 c82 c94 fun x y h => by
  unfold G44 at h
  split at h
  · rename_i hb; exact ⟨1000002, (next44 1000001 x.1 x.2 hb.1 hb.2.1 hb.2.2 (by omega)).trans h⟩
  · cases h
end Go.Ev.R3
