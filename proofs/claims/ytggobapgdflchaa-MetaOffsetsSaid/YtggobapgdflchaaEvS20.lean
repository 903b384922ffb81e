import Derived.Test.YtggobapgdflchaaEvS18
import Derived.Test.YtggobapgdflchaaEvS19
import Derived.Test.YtggobapgdflchaaEvS10
set_option linter.unusedVariables false
set_option maxRecDepth 100000
namespace Go.Ev.R3
open Go.Proofs

/-! What the groups should have committed: the loops. -/
abbrev Waits : Type := Groups × Groups × Groups
abbrev Yeses : Type := Bool × Bool × Bool
def look6 (g : Groups) (i : Nat) : Int := sel g.1.1 [g.1.1, g.1.2.1, g.1.2.2, g.2.1, g.2.2.1, g.2.2.2] i
def setI (g : Groups) (i : Nat) (v : Int) : Groups :=
  ((cond (Nat.beq i 0) v g.1.1, cond (Nat.beq i 1) v g.1.2.1, cond (Nat.beq i 2) v g.1.2.2), (cond (Nat.beq i 3) v g.2.1, cond (Nat.beq i 4) v g.2.2.1, cond (Nat.beq i 5) v g.2.2.2))
def selW (w : Waits) (j : Nat) : Int := sel w.1.1.1 [w.1.1.1, w.1.1.2.1, w.1.1.2.2, w.1.2.1, w.1.2.2.1, w.1.2.2.2, w.2.1.1.1, w.2.1.1.2.1, w.2.1.1.2.2, w.2.1.2.1, w.2.1.2.2.1, w.2.1.2.2.2, w.2.2.1.1, w.2.2.1.2.1, w.2.2.1.2.2, w.2.2.2.1, w.2.2.2.2.1, w.2.2.2.2.2] j
def setW (w : Waits) (j : Nat) (v : Int) : Waits :=
  (((cond (Nat.beq j 0) v w.1.1.1, cond (Nat.beq j 1) v w.1.1.2.1, cond (Nat.beq j 2) v w.1.1.2.2), (cond (Nat.beq j 3) v w.1.2.1, cond (Nat.beq j 4) v w.1.2.2.1, cond (Nat.beq j 5) v w.1.2.2.2)),
   ((cond (Nat.beq j 6) v w.2.1.1.1, cond (Nat.beq j 7) v w.2.1.1.2.1, cond (Nat.beq j 8) v w.2.1.1.2.2), (cond (Nat.beq j 9) v w.2.1.2.1, cond (Nat.beq j 10) v w.2.1.2.2.1, cond (Nat.beq j 11) v w.2.1.2.2.2)),
   ((cond (Nat.beq j 12) v w.2.2.1.1, cond (Nat.beq j 13) v w.2.2.1.2.1, cond (Nat.beq j 14) v w.2.2.1.2.2), (cond (Nat.beq j 15) v w.2.2.2.1, cond (Nat.beq j 16) v w.2.2.2.2.1, cond (Nat.beq j 17) v w.2.2.2.2.2)))
def getW (w : Waits) (t : Nat) : Groups := sel w.1 [w.1, w.2.1, w.2.2] t
def putW (w : Waits) (t : Nat) (g : Groups) : Waits := (cond (Nat.beq t 0) g w.1, cond (Nat.beq t 1) g w.2.1, cond (Nat.beq t 2) g w.2.2)
def getY (w : Yeses) (t : Nat) : Bool := sel w.1 [w.1, w.2.1, w.2.2] t
def putY (w : Yeses) (t : Nat) (g : Bool) : Yeses := (cond (Nat.beq t 0) g w.1, cond (Nat.beq t 1) g w.2.1, cond (Nat.beq t 2) g w.2.2)
def un (y : Bool) (v b : Int) : Int := if y = true ∧ v > 0 then IntKind.wrap .i64 (v - 1) else b
def upd (y : Bool) (g w : Groups) : Groups :=
  ((un y w.1.1 g.1.1, un y w.1.2.1 g.1.2.1, un y w.1.2.2 g.1.2.2), (un y w.2.1 g.2.1, un y w.2.2.1 g.2.2.1, un y w.2.2.2 g.2.2.2))
def zero6 : Groups := ((0, 0, 0), 0, 0, 0)
theorem lt6 {i : Nat} (h : i < 6) : i = 0 ∨ i = 1 ∨ i = 2 ∨ i = 3 ∨ i = 4 ∨ i = 5 := by omega
theorem setI_own (g : Groups) {i : Nat} (h : i < 6) : setI g i (look6 g i) = g := by
  rcases lt6 h with rfl | rfl | rfl | rfl | rfl | rfl <;> rfl
abbrev ix (t g q : Int) : Nat := mulAdd (mulAdd (Int.toNat t) 2 g) 3 q
theorem st40 (K ko1 ko2 ko3 k : Nat) (t0 : Metas) (t9 g q : Int) (p : Bool) (b0 : Groups) (b1 : Waits) (b2 : Yeses) (b3 : State) (x : MetaE) (b5 : State) (ht : inB x.2.1 3 = true) (hg : inB g 2 = true) (hq : inB q 3 = true) :
    J13_40 G45 G42 G48 G43 G49 (K + 1) ko1 ko2 ko3 (k + 1) t0 t9 g q p b0 b1 b2 b3 x b5 =
      L13_37 G45 G42 G48 G43 G49 (K + 1) ko1 ko2 ko3 t0 t9 g (IntKind.wrap .i64 (q + 1)) (if p = true then setI b0 (mulAdd (Int.toNat g) 3 q) (IntKind.wrap .i64 (selW b1 (ix x.2.1 g q) - 1)) else b0) (setW b1 (ix x.2.1 g q) 0) b2 b3 x b5 := by
  rw [J13_40_eq, ht, hg, hq]
  cases p with
  | true =>
    rw [brT, brT, brT, brT, brT, brT, J13_41_eq, ht, hg, hq, brT, brT, brT, if_pos rfl]
    rfl
  | false =>
    rw [brF, J13_41_eq, ht, hg, hq, brT, brT, brT, if_neg (by decide)]
    rfl
theorem st39 (K ko1 ko2 ko3 k : Nat) (t0 : Metas) (t9 g q : Int) (b0 : Groups) (b1 : Waits) (b2 : Yeses) (b3 : State) (x : MetaE) (b5 : State) (ht : inB x.2.1 3 = true) (hg : inB g 2 = true) (hq : inB q 3 = true) (h6 : mulAdd (Int.toNat g) 3 q < 6) :
    J13_39 G45 G42 G48 G43 G49 (K + 1) ko1 ko2 ko3 (k + 1) t0 t9 g q b0 b1 b2 b3 x b5 =
      L13_37 G45 G42 G48 G43 G49 (K + 1) ko1 ko2 ko3 t0 t9 g (IntKind.wrap .i64 (q + 1)) (setI b0 (mulAdd (Int.toNat g) 3 q) (un (getY b2 x.2.1.toNat) (selW b1 (ix x.2.1 g q)) (look6 b0 (mulAdd (Int.toNat g) 3 q)))) (setW b1 (ix x.2.1 g q) 0) b2 b3 x b5 := by
  rw [J13_39_eq, ht, hg, hq, brT, show sel b2.1 [b2.1, b2.2.1, b2.2.2] (Int.toNat x.2.1) = getY b2 x.2.1.toNat from rfl]
  cases hy : getY b2 x.2.1.toNat with
  | false =>
    rw [brF, st40 _ _ _ _ _ _ _ _ _ _ _ _ _ _ _ _ ht hg hq, if_neg (by decide)]
    unfold un
    rw [if_neg (fun k => absurd k.1 (by decide)), setI_own _ h6]
  | true =>
    rw [brT, brT, brT, brT]
    refine (st40 _ _ _ _ _ _ _ _ _ (decide (selW b1 (ix x.2.1 g q) > 0)) _ _ _ _ _ _ ht hg hq).trans ?_
    unfold un
    by_cases hv : selW b1 (ix x.2.1 g q) > 0
    · rw [if_pos (decide_eq_true hv), if_pos ⟨rfl, hv⟩]
    · rw [if_neg (fun k => hv (of_decide_eq_true k)), if_neg (fun k => hv k.2), setI_own _ h6]
theorem row37 (K ko1 ko2 k : Nat) (t0 : Metas) (t9 g : Int) (b0 : Groups) (b1 : Waits) (b2 : Yeses) (b3 : State) (x : MetaE) (b5 : State) (ht : inB x.2.1 3 = true) (hg : inB g 2 = true) (h6 : mulAdd (Int.toNat g) 3 2 < 6) (h7 : mulAdd (Int.toNat g) 3 1 < 6) (h8 : mulAdd (Int.toNat g) 3 0 < 6) :
    L13_37 G45 G42 G48 G43 G49 (K + 1) ko1 ko2 (k + 4) t0 t9 g 0 b0 b1 b2 b3 x b5 =
      L13_34 G45 G42 G48 G43 G49 (K + 1) ko1 ko2 t0 t9 (IntKind.wrap .i64 (g + 1))
        (setI (setI (setI b0 (mulAdd (Int.toNat g) 3 0) (un (getY b2 x.2.1.toNat) (selW b1 (ix x.2.1 g 0)) (look6 b0 (mulAdd (Int.toNat g) 3 0))))
          (mulAdd (Int.toNat g) 3 1) (un (getY b2 x.2.1.toNat) (selW (setW b1 (ix x.2.1 g 0) 0) (ix x.2.1 g 1)) (look6 (setI b0 (mulAdd (Int.toNat g) 3 0) (un (getY b2 x.2.1.toNat) (selW b1 (ix x.2.1 g 0)) (look6 b0 (mulAdd (Int.toNat g) 3 0)))) (mulAdd (Int.toNat g) 3 1))))
          (mulAdd (Int.toNat g) 3 2) (un (getY b2 x.2.1.toNat) (selW (setW (setW b1 (ix x.2.1 g 0) 0) (ix x.2.1 g 1) 0) (ix x.2.1 g 2)) (look6 (setI (setI b0 (mulAdd (Int.toNat g) 3 0) (un (getY b2 x.2.1.toNat) (selW b1 (ix x.2.1 g 0)) (look6 b0 (mulAdd (Int.toNat g) 3 0))))
          (mulAdd (Int.toNat g) 3 1) (un (getY b2 x.2.1.toNat) (selW (setW b1 (ix x.2.1 g 0) 0) (ix x.2.1 g 1)) (look6 (setI b0 (mulAdd (Int.toNat g) 3 0) (un (getY b2 x.2.1.toNat) (selW b1 (ix x.2.1 g 0)) (look6 b0 (mulAdd (Int.toNat g) 3 0)))) (mulAdd (Int.toNat g) 3 1)))) (mulAdd (Int.toNat g) 3 2))))
        (setW (setW (setW b1 (ix x.2.1 g 0) 0) (ix x.2.1 g 1) 0) (ix x.2.1 g 2) 0) b2 b3 x b5 := by
  have d0 : decide ((0 : Int) < 3) = true := rfl
  have d1 : decide ((1 : Int) < 3) = true := rfl
  have d2 : decide ((2 : Int) < 3) = true := rfl
  have d3 : decide ((3 : Int) < 3) = false := rfl
  have e0 : IntKind.wrap IntKind.i64 (0 + 1) = 1 := rfl
  have e1 : IntKind.wrap IntKind.i64 (1 + 1) = 2 := rfl
  have e2 : IntKind.wrap IntKind.i64 (2 + 1) = 3 := rfl
  rw [L13_37_step, d0, brT, st39 _ _ _ _ _ _ _ _ _ _ _ _ _ _ _ ht hg rfl h8, e0, L13_37_step, d1, brT, st39 _ _ _ _ _ _ _ _ _ _ _ _ _ _ _ ht hg rfl h7, e1, L13_37_step, d2, brT, st39 _ _ _ _ _ _ _ _ _ _ _ _ _ _ _ ht hg rfl h6, e2, L13_37_step, d3, brF]
theorem loop34 (K ko1 : Nat) (t0 : Metas) (t9 : Int) (b0 : Groups) (b1 : Waits) (b2 : Yeses) (b3 : State) (x : MetaE) (b5 : State) (h : 0 ≤ x.2.1 ∧ x.2.1 ≤ 2) :
    L13_34 G45 G42 G48 G43 G49 (K + 4) ko1 (K + 4) t0 t9 0 b0 b1 b2 b3 x b5 =
      L13_15 G45 G42 G48 G43 G49 (K + 4) ko1 t0 (IntKind.wrap .i64 (t9 + 1)) (upd (getY b2 x.2.1.toNat) b0 (getW b1 x.2.1.toNat)) (putW b1 x.2.1.toNat zero6) b2 b3 := by
  have d0 : decide ((0 : Int) < 2) = true := rfl
  have d1 : decide ((1 : Int) < 2) = true := rfl
  have d2 : decide ((2 : Int) < 2) = false := rfl
  have e0 : IntKind.wrap IntKind.i64 (0 + 1) = 1 := rfl
  have e1 : IntKind.wrap IntKind.i64 (1 + 1) = 2 := rfl
  have ht : inB x.2.1 3 = true := inB_of (by omega)
  rw [L13_34_step, d0, brT, J13_36_eq, row37 _ _ _ _ _ _ _ _ _ _ _ _ _ ht rfl (by decide) (by decide) (by decide), e0, L13_34_step, d1, brT, J13_36_eq, row37 _ _ _ _ _ _ _ _ _ _ _ _ _ ht rfl (by decide) (by decide) (by decide), e1, L13_34_step, d2, brF]
  generalize getY b2 x.2.1.toNat = y
  have h3 : x.2.1 = 0 ∨ x.2.1 = 1 ∨ x.2.1 = 2 := by omega
  generalize x.2.1 = t at h3
  rcases h3 with rfl | rfl | rfl
  · rfl
  · rfl
  · rfl
end Go.Ev.R3

set_option linter.unusedVariables false
set_option maxRecDepth 100000
namespace Go.Ev.R3
open Go.Proofs

/-! What the groups should have committed: the law. -/
abbrev keyP (p : Pend) : Nat := mulAdd p.1.toNat 3 p.2.1
def valL : Pends → Nat → Int
  | [], _ => 0
  | p :: l, i => if keyP p = i then p.2.2 + 1 else valL l i
theorem key_eq (p : Pend) : keyP p = p.1.toNat * 3 + p.2.1.toNat := rfl
theorem key_lt {p : Pend} (h : pendB p = true) : keyP p < 6 := by
  have := pend_iff.1 h
  rw [key_eq]; omega
theorem key_ahead {p q : Pend} (hp : pendB p = true) (hq : pendB q = true) : aheadB p q = true ↔ keyP p < keyP q := by
  have := pend_iff.1 hp
  have := pend_iff.1 hq
  rw [ahead_iff, key_eq, key_eq]; omega
theorem val_put : ∀ (l : Pends) (o : Option Pend) (p : Pend) (i : Nat), riseP o l = true → pendB p = true → valL (putM aheadB p l) i = if keyP p = i then p.2.2 + 1 else valL l i
  | [], o, p, i, _, _ => rfl
  | y :: l, o, p, i, h, hp => by
    rw [riseP_iff] at h
    unfold putM
    by_cases ha : aheadB y p = true
    · rw [if_pos ha]
      have hk := (key_ahead h.1 hp).1 ha
      unfold valL
      rw [val_put l (some y) p i h.2.2 hp]
      by_cases hi : keyP p = i
      · rw [if_pos hi, if_pos hi, if_neg (by omega)]
      · rw [if_neg hi, if_neg hi]
    · rw [if_neg ha]
      by_cases hb : aheadB p y = true
      · rw [if_pos hb]; rfl
      · rw [if_neg hb]
        rw [key_ahead h.1 hp] at ha
        rw [key_ahead hp h.1] at hb
        have : keyP p = keyP y := by omega
        unfold valL
        rw [this]
        by_cases hi : keyP y = i
        · rw [if_pos hi, if_pos hi]
        · rw [if_neg hi, if_neg hi, if_neg hi]
theorem val_low : ∀ (l : Pends) (q : Pend) (i : Nat), riseP (some q) l = true → pendB q = true → i ≤ keyP q → valL l i = 0
  | [], _, _, _, _, _ => rfl
  | y :: l, q, i, h, hq, hi => by
    rw [riseP_iff] at h
    have hk := (key_ahead hq h.1).1 h.2.1
    unfold valL
    rw [if_neg (by omega)]
    exact val_low l y i h.2.2 h.1 (by omega)
theorem val_range : ∀ (l : Pends) (i : Nat), (∀ z, z ∈ l → pendB z = true) → 0 ≤ valL l i ∧ valL l i ≤ 1048577
  | [], _, _ => ⟨by show (0 : Int) ≤ 0; omega, by show (0 : Int) ≤ 1048577; omega⟩
  | y :: l, i, h => by
    have hy := pend_iff.1 (h y (List.mem_cons_self ..))
    unfold valL
    split
    · omega
    · exact val_range l i fun z hz => h z (List.mem_cons_of_mem _ hz)
theorem look_set (g : Groups) (k : Nat) (v : Int) {i : Nat} (hi : i < 6) : look6 (setI g k v) i = if k = i then v else look6 g i := by
  by_cases h : k = i
  · subst h
    rw [if_pos rfl]
    rcases lt6 hi with rfl | rfl | rfl | rfl | rfl | rfl <;> rfl
  · rw [if_neg h]
    rcases lt6 hi with rfl | rfl | rfl | rfl | rfl | rfl <;> simp only [look6, setI, sel, nth, beq_ne h, cond_false]
theorem look_sets : ∀ (l : Pends) (o : Option Pend) (g : Groups) {i : Nat}, i < 6 → riseP o l = true → look6 (setsG g l) i = if valL l i > 0 then valL l i - 1 else look6 g i
  | [], _, g, i, hi, _ => (if_neg (by show ¬ (0 : Int) > 0; omega)).symm
  | y :: l, o, g, i, hi, h => by
    rw [riseP_iff] at h
    have ih := look_sets l (some y) (setG g y) hi h.2.2
    have hy := pend_iff.1 h.1
    rw [show setsG g (y :: l) = setsG (setG g y) l from rfl, ih, show setG g y = setI g (keyP y) y.2.2 from rfl, look_set _ _ _ hi]
    rw [show valL (y :: l) i = if keyP y = i then y.2.2 + 1 else valL l i from rfl]
    by_cases hk : keyP y = i
    · rw [if_pos hk, if_pos hk, val_low l y i h.2.2 h.1 (by omega), if_neg (by omega), if_pos (by omega)]; omega
    · rw [if_neg hk, if_neg hk]
theorem look_upd (y : Bool) (g w : Groups) {i : Nat} (hi : i < 6) : look6 (upd y g w) i = un y (look6 w i) (look6 g i) := by
  rcases lt6 hi with rfl | rfl | rfl | rfl | rfl | rfl <;> rfl
theorem groups_ext {a b : Groups} (h : ∀ i, i < 6 → look6 a i = look6 b i) : a = b := by
  obtain ⟨⟨a0, a1, a2⟩, a3, a4, a5⟩ := a
  obtain ⟨⟨b0, b1, b2⟩, b3, b4, b5⟩ := b
  have h0 : a0 = b0 := h 0 (by omega)
  have h1 : a1 = b1 := h 1 (by omega)
  have h2 : a2 = b2 := h 2 (by omega)
  have h3 : a3 = b3 := h 3 (by omega)
  have h4 : a4 = b4 := h 4 (by omega)
  have h5 : a5 = b5 := h 5 (by omega)
  rw [h0, h1, h2, h3, h4, h5]
theorem get_put (w : Waits) (g : Groups) {i j : Nat} (hi : i < 3) (hj : j < 3) : getW (putW w i g) j = if j = i then g else getW w j := by
  rcases lt3m hi with rfl | rfl | rfl <;> rcases lt3m hj with rfl | rfl | rfl <;> rfl
theorem get_putY (w : Yeses) (g : Bool) {i j : Nat} (hi : i < 3) (hj : j < 3) : getY (putY w i g) j = if j = i then g else getY w j := by
  rcases lt3m hi with rfl | rfl | rfl <;> rcases lt3m hj with rfl | rfl | rfl <;> rfl
theorem setW_put (w : Waits) (v : Int) {t i : Nat} (ht : t < 3) (hi : i < 6) : setW w (6 * t + i) v = putW w t (setI (getW w t) i v) := by
  rcases lt3m ht with rfl | rfl | rfl <;> rcases lt6 hi with rfl | rfl | rfl | rfl | rfl | rfl <;> rfl

/-- what waits for a transactional id -/
def Wm (c : Coord) (w : Groups) (y : Bool) : Prop := (∀ i, i < 6 → look6 w i = valL c.2.2.2.2.2.2.1 i) ∧ (c.1 = 3 → y = true) ∧ (c.1 = 4 → y = false)
def Inv (s : State) (want : Groups) (wait : Waits) (yes : Yeses) : Prop := MayS s ∧ want = s.2.2 ∧ ∀ t, t < 3 → Wm (nthC s t) (getW wait t) (getY yes t)
theorem zero_val (i : Nat) (hi : i < 6) : look6 zero6 i = 0 := by
  rcases lt6 hi with rfl | rfl | rfl | rfl | rfl | rfl <;> rfl
theorem inv_first : Inv first ((-1, -1, -1), -1, -1, -1) (zero6, zero6, zero6) (false, false, false) := by
  refine ⟨first_may, rfl, fun t ht => ?_⟩
  rcases lt3m ht with rfl | rfl | rfl <;> exact ⟨fun i hi => zero_val i hi, fun h => absurd h (by show ¬ (0 : Int) = 3; omega), fun _ => rfl⟩
/-- an id alone moves -/
theorem inv_set {s s' : State} {want : Groups} {wait : Waits} {yes : Yeses} (h : Inv s want wait yes) {t : Nat} (ht : t < 3) {c : Coord} {w : Groups} {y : Bool} (hs : MayS s') (hg : s'.2.2 = s.2.2) (hc : s'.2.1 = (setC s t c).2.1) (hw : Wm c w y) :
    Inv s' want (putW wait t w) (putY yes t y) := by
  refine ⟨hs, h.2.1.trans hg.symm, fun j hj => ?_⟩
  have e : nthC s' j = nthC (setC s t c) j := by unfold nthC; rw [hc]
  rw [e, nth_set _ _ ht hj, get_put _ _ ht hj, get_putY _ _ ht hj]
  by_cases hjt : j = t
  · rw [if_pos hjt, if_pos hjt, if_pos hjt]; exact hw
  · rw [if_neg hjt, if_neg hjt, if_neg hjt]; exact h.2.2 j hj
theorem put_own (w : Waits) {t : Nat} (ht : t < 3) : putW w t (getW w t) = w := by
  rcases lt3m ht with rfl | rfl | rfl <;> rfl
theorem put_ownY (w : Yeses) {t : Nat} (ht : t < 3) : putY w t (getY w t) = w := by
  rcases lt3m ht with rfl | rfl | rfl <;> rfl
/-- nothing of the ids moves -/
theorem inv_keep {s s' : State} {want want' : Groups} {wait : Waits} {yes : Yeses} (h : Inv s want wait yes) (hs : MayS s') (hg : want' = s'.2.2) (hc : s'.2.1 = s.2.1) : Inv s' want' wait yes := by
  refine ⟨hs, hg, fun j hj => ?_⟩
  have e : nthC s' j = nthC s j := by unfold nthC; rw [hc]
  rw [e]; exact h.2.2 j hj
theorem may_empty {c : Coord} (h : MayP c) (h2 : c.1 ≠ 2) (h3 : c.1 ≠ 3) (h4 : c.1 ≠ 4) : c.2.2.2.2.2.2.1 = [] := by
  rcases h with rfl | h
  · rfl
  · exact (h.2.2.2.2.2.2.2.1 (by omega)).2.1
theorem may_rise {c : Coord} (h : MayP c) : riseP none c.2.2.2.2.2.2.1 = true := by
  rcases h with rfl | h
  · rfl
  · exact h.2.2.2.2.2.2.1
end Go.Ev.R3

set_option linter.unusedVariables false
set_option maxRecDepth 100000
namespace Go.Ev.R3
open Go.Proofs

/-! What the groups should have committed: a step of each kind. -/
section
variable {s : State} {x : MetaE} {want : Groups} {wait : Waits} {yes : Yeses}
theorem step0 (h : Inv s want wait yes) (h0 : (nextM s x).2 = 0) (hk : x.1 = 0 ∨ x.1 = 1 ∨ x.1 = 7) : Inv (nextM s x).1 want wait yes := by
  obtain ⟨hs, mx, r0, t0, e⟩ := next_ok h0
  have ht := (tid_of mx).2
  have e : (nextM s x).1 = (moveS s x).1 := by rw [e]
  rw [e]
  have hc := nthC_mayM hs ht
  unfold moveS at r0 t0 ⊢
  by_cases hn : x.1 = 0 ∨ (x.1 = 1 ∧ (nthC s x.2.1.toNat).1 = 0)
  · rw [if_pos hn] at r0 t0 ⊢
    by_cases h8 : s.1 = 8
    · rw [if_pos h8] at r0; exact absurd r0 (by show ¬ (102 : Int) = 0; omega)
    · rw [if_neg h8] at t0 ⊢
      by_cases k0 : x.1 = 0
      · rw [if_pos k0] at t0 ⊢
        exact inv_keep h t0 h.2.1 rfl
      · rw [if_neg k0] at t0 ⊢
        have hc0 : (nthC s x.2.1.toNat).1 = 0 := by omega
        have hp := may_empty hc (by omega) (by omega) (by omega)
        have := inv_set h ht (c := (1, s.1 + 1, 0, x.2.2.1, 0, [], [], 0)) (w := getW wait x.2.1.toNat) (y := getY yes x.2.1.toNat) t0 rfl rfl
          ⟨fun i hi => by rw [(h.2.2 _ ht).1 i hi, hp], fun k => absurd k (by show ¬ (1 : Int) = 3; omega), fun k => absurd k (by show ¬ (1 : Int) = 4; omega)⟩
        rw [put_own _ ht, put_ownY _ ht] at this
        exact this
  · rw [if_neg hn] at r0 t0 ⊢
    have eg : mvG s (nthC s x.2.1.toNat) x = s.2.2 := by unfold mvG; rw [if_neg (by omega), if_neg (by omega)]
    rw [eg] at t0 ⊢
    by_cases k1 : x.1 = 1
    · have em : mvC (nthC s x.2.1.toNat) x = initM (nthC s x.2.1.toNat) (nthC s x.2.1.toNat).2.1 x.2.2.1 := by unfold mvC; rw [if_pos k1]
      rw [em] at r0 t0 ⊢
      have key : (initM (nthC s x.2.1.toNat) (nthC s x.2.1.toNat).2.1 x.2.2.1).2 = 0 → (nthC s x.2.1.toNat).1 ≠ 2 ∧ (nthC s x.2.1.toNat).1 ≠ 3 ∧ (nthC s x.2.1.toNat).1 ≠ 4 ∧
          (initM (nthC s x.2.1.toNat) (nthC s x.2.1.toNat).2.1 x.2.2.1).1.1 = 1 ∧ (initM (nthC s x.2.1.toNat) (nthC s x.2.1.toNat).2.1 x.2.2.1).1.2.2.2.2.2.2.1 = [] := by
        intro hr
        unfold initM at hr ⊢
        cases hm : mayM (nthC s x.2.1.toNat) with
        | false => rw [hm, brF] at hr; exact absurd hr (by show ¬ (2 : Int) = 0; omega)
        | true =>
          rw [hm, brT] at hr
          rw [brT]
          split at hr
          · rename_i hp
            rw [if_pos hp]
            rw [if_neg (by omega)] at hr ⊢
            split at hr
            · exact absurd hr (by show ¬ (180 : Int) = 0; omega)
            · rename_i h2
              rw [if_neg h2]
              split at hr
              · exact absurd hr (by show ¬ (102 : Int) = 0; omega)
              · rename_i h3
                rw [if_neg h3]
                exact ⟨by omega, by omega, by omega, rfl, rfl⟩
          · exact absurd hr (by show ¬ (2 : Int) = 0; omega)
      obtain ⟨n2, n3, n4, s1, s2⟩ := key r0
      have hp := may_empty hc n2 n3 n4
      have := inv_set h ht (c := (initM (nthC s x.2.1.toNat) (nthC s x.2.1.toNat).2.1 x.2.2.1).1) (w := getW wait x.2.1.toNat) (y := getY yes x.2.1.toNat) t0 rfl rfl
        ⟨fun i hi => by rw [(h.2.2 _ ht).1 i hi, hp, s2], fun k => absurd k (by rw [s1]; omega), fun k => absurd k (by rw [s1]; omega)⟩
      rw [put_own _ ht, put_ownY _ ht] at this
      exact this
    · have em : mvC (nthC s x.2.1.toNat) x = (nthC s x.2.1.toNat, 0) := by
        unfold mvC
        rw [if_neg k1, if_neg (by omega), if_neg (by omega), if_neg (by omega), if_neg (by omega)]
      rw [em] at t0 ⊢
      have eo := setC_own (if x.1 = 7 then x.2.2.2.2.2.2.2 else s.1, s.2.1, s.2.2) ht
      have eo : setC (if x.1 = 7 then x.2.2.2.2.2.2.2 else s.1, s.2.1, s.2.2) x.2.1.toNat (nthC s x.2.1.toNat) = (if x.1 = 7 then x.2.2.2.2.2.2.2 else s.1, s.2.1, s.2.2) := eo
      rw [eo] at t0 ⊢
      exact inv_keep h t0 h.2.1 rfl
theorem step5 (h : Inv s want wait yes) (h0 : (nextM s x).2 = 0) (hk : x.1 = 5) : Inv (nextM s x).1 (setG want x.2.2.2.1) wait yes := by
  obtain ⟨hs, mx, r0, t0, e⟩ := next_ok h0
  have ht := (tid_of mx).2
  have e : (nextM s x).1 = (moveS s x).1 := by rw [e]
  rw [mv5 s x hk ht] at t0 e
  rw [e, h.2.1]
  exact inv_keep h t0 rfl rfl
theorem step3 (h : Inv s want wait yes) (h0 : (nextM s x).2 = 0) (hk : x.1 = 3) : Inv (nextM s x).1 want wait (putY yes x.2.1.toNat x.2.2.2.2.1) := by
  obtain ⟨hs, mx, r0, t0, e⟩ := next_ok h0
  have ht := (tid_of mx).2
  have e : (nextM s x).1 = (moveS s x).1 := by rw [e]
  rw [mv23 s x (Or.inr hk)] at r0 t0 e
  have r0 : (mvC (nthC s x.2.1.toNat) x).2 = 0 := r0
  rw [e]
  have em : mvC (nthC s x.2.1.toNat) x = prepM (nthC s x.2.1.toNat) x.2.2.2.2.1 x.2.2.2.2.2.1 := by unfold mvC; rw [if_neg (by omega), if_neg (by omega), if_pos hk]
  have key : (prepM (nthC s x.2.1.toNat) x.2.2.2.2.1 x.2.2.2.2.2.1).2 = 0 → (prepM (nthC s x.2.1.toNat) x.2.2.2.2.1 x.2.2.2.2.2.1).1.1 = (if x.2.2.2.2.1 = true then 3 else 4) ∧
      (prepM (nthC s x.2.1.toNat) x.2.2.2.2.1 x.2.2.2.2.2.1).1.2.2.2.2.2.2.1 = (nthC s x.2.1.toNat).2.2.2.2.2.2.1 := by
    intro hr
    unfold prepM at hr ⊢
    cases hm : mayM (nthC s x.2.1.toNat) with
    | false => rw [hm, brF] at hr; exact absurd hr (by show ¬ (2 : Int) = 0; omega)
    | true =>
      rw [hm, brT] at hr
      rw [brT]
      split at hr
      · rename_i h1
        rw [if_pos h1]
        split at hr
        · rename_i h0
          rw [if_pos h0]
          split at hr
          · exact absurd hr (by show ¬ (102 : Int) = 0; omega)
          · rename_i h2
            rw [if_neg h2]
            refine ⟨rfl, ?_⟩
            unfold movesM at h0 ⊢
            split at h0
            · exact absurd h0 (by show ¬ (180 : Int) = 0; omega)
            · rename_i hw; rw [if_neg hw]
        · rename_i h0; exact absurd hr h0
      · exact absurd hr (by show ¬ (2 : Int) = 0; omega)
  rw [← em] at key
  obtain ⟨s1, s2⟩ := key r0
  have := inv_set h ht (c := (mvC (nthC s x.2.1.toNat) x).1) (w := getW wait x.2.1.toNat) (y := x.2.2.2.2.1) t0 rfl rfl
    ⟨fun i hi => by rw [(h.2.2 _ ht).1 i hi, s2], fun k => by rw [s1] at k; cases hy : x.2.2.2.2.1 with | true => rfl | false => rw [hy, if_neg (by decide)] at k; omega,
      fun k => by rw [s1] at k; cases hy : x.2.2.2.2.1 with | false => rfl | true => rw [hy, if_pos rfl] at k; omega⟩
  rw [put_own _ ht] at this
  exact this
theorem step2 (h : Inv s want wait yes) (h0 : (nextM s x).2 = 0) (hk : x.1 = 2) : Inv (nextM s x).1 want (setW wait (ix x.2.1 x.2.2.2.1.1 x.2.2.2.1.2.1) (IntKind.wrap .i64 (x.2.2.2.1.2.2 + 1))) yes := by
  obtain ⟨hs, mx, r0, t0, e⟩ := next_ok h0
  have ht := (tid_of mx).2
  have hp := mx.2.2.2.2.1 (Or.inl hk)
  have hp' := pend_iff.1 hp
  have e : (nextM s x).1 = (moveS s x).1 := by rw [e]
  rw [mv23 s x (Or.inl hk)] at r0 t0 e
  have r0 : (mvC (nthC s x.2.1.toNat) x).2 = 0 := r0
  rw [e, w64 (by omega) (by omega)]
  have eix : ix x.2.1 x.2.2.2.1.1 x.2.2.2.1.2.1 = 6 * x.2.1.toNat + keyP x.2.2.2.1 := by
    show (x.2.1.toNat * 2 + x.2.2.2.1.1.toNat) * 3 + x.2.2.2.1.2.1.toNat = 6 * x.2.1.toNat + (x.2.2.2.1.1.toNat * 3 + x.2.2.2.1.2.1.toNat)
    omega
  rw [eix, setW_put _ _ ht (key_lt hp)]
  have hc := nthC_mayM hs ht
  have em : mvC (nthC s x.2.1.toNat) x = setM (nthC s x.2.1.toNat) x.2.2.2.1 := by unfold mvC; rw [if_neg (by omega), if_pos hk]
  have key : (setM (nthC s x.2.1.toNat) x.2.2.2.1).2 = 0 → (setM (nthC s x.2.1.toNat) x.2.2.2.1).1.1 = 2 ∧ (setM (nthC s x.2.1.toNat) x.2.2.2.1).1.2.2.2.2.2.2.1 = putM aheadB x.2.2.2.1 (nthC s x.2.1.toNat).2.2.2.2.2.2.1 := by
    intro hr
    unfold setM at hr ⊢
    cases hm : mayM (nthC s x.2.1.toNat) with
    | false => rw [hm, brF] at hr; exact absurd hr (by show ¬ (2 : Int) = 0; omega)
    | true =>
      rw [hm, brT, hp, brT] at hr
      rw [brT, hp, brT]
      split at hr
      · rename_i h0
        rw [if_pos h0]
        unfold movesM at h0 ⊢
        split at h0
        · exact absurd h0 (by show ¬ (180 : Int) = 0; omega)
        · rename_i hw; rw [if_neg hw]; exact ⟨rfl, rfl⟩
      · rename_i h0; exact absurd hr h0
  rw [← em] at key
  obtain ⟨s1, s2⟩ := key r0
  have := inv_set h ht (c := (mvC (nthC s x.2.1.toNat) x).1) (w := setI (getW wait x.2.1.toNat) (keyP x.2.2.2.1) (x.2.2.2.1.2.2 + 1)) (y := getY yes x.2.1.toNat) t0 rfl rfl
    ⟨fun i hi => by rw [look_set _ _ _ hi, s2, val_put _ none _ _ (may_rise hc) hp, (h.2.2 _ ht).1 i hi], fun k => absurd k (by rw [s1]; omega), fun k => absurd k (by rw [s1]; omega)⟩
  rw [put_ownY _ ht] at this
  exact this
theorem step4 (h : Inv s want wait yes) (h0 : (nextM s x).2 = 0) (hk : x.1 = 4) : Inv (nextM s x).1 (upd (getY yes x.2.1.toNat) want (getW wait x.2.1.toNat)) (putW wait x.2.1.toNat zero6) yes := by
  obtain ⟨hs, mx, r0, t0, e⟩ := next_ok h0
  have ht := (tid_of mx).2
  have hc := nthC_mayM hs ht
  have e : (nextM s x).1 = (moveS s x).1 := by rw [e]
  rw [e]
  have em : mvC (nthC s x.2.1.toNat) x = compM (nthC s x.2.1.toNat) := by unfold mvC; rw [if_neg (by omega), if_neg (by omega), if_neg (by omega), if_pos hk]
  have ev : moveS s x = (setC (s.1, s.2.1, mvG s (nthC s x.2.1.toNat) x) x.2.1.toNat (compM (nthC s x.2.1.toNat)).1, (compM (nthC s x.2.1.toNat)).2) := by
    unfold moveS
    rw [if_neg (by omega), if_neg (by omega), em]
  rw [ev] at r0 t0 ⊢
  have r0 : (compM (nthC s x.2.1.toNat)).2 = 0 := r0
  obtain ⟨hw, hy3, hy4⟩ := h.2.2 _ ht
  have key : (compM (nthC s x.2.1.toNat)).2 = 0 → ((nthC s x.2.1.toNat).1 = 3 ∨ (nthC s x.2.1.toNat).1 = 4) ∧ ((compM (nthC s x.2.1.toNat)).1.1 ≠ 3 ∧ (compM (nthC s x.2.1.toNat)).1.1 ≠ 4) ∧ (compM (nthC s x.2.1.toNat)).1.2.2.2.2.2.2.1 = [] := by
    intro hr
    unfold compM at hr ⊢
    cases hm : mayM (nthC s x.2.1.toNat) with
    | false => rw [hm, brF] at hr; exact absurd hr (by show ¬ (2 : Int) = 0; omega)
    | true =>
      rw [hm, brT] at hr
      rw [brT]
      by_cases c3 : (nthC s x.2.1.toNat).1 = 3
      · rw [if_pos c3]
        exact ⟨Or.inl c3, ⟨by show ¬ (5 : Int) = 3; omega, by show ¬ (5 : Int) = 4; omega⟩, rfl⟩
      · rw [if_neg c3] at hr ⊢
        by_cases c4 : (nthC s x.2.1.toNat).1 = 4
        · rw [if_pos c4]
          by_cases c5 : (nthC s x.2.1.toNat).2.2.2.2.1 > 0
          · rw [if_pos c5]
            exact ⟨Or.inr c4, ⟨by show ¬ (1 : Int) = 3; omega, by show ¬ (1 : Int) = 4; omega⟩, rfl⟩
          · rw [if_neg c5]
            exact ⟨Or.inr c4, ⟨by show ¬ (6 : Int) = 3; omega, by show ¬ (6 : Int) = 4; omega⟩, rfl⟩
        · rw [if_neg c4] at hr; exact absurd hr (by show ¬ (180 : Int) = 0; omega)
  obtain ⟨hst, ⟨s1, s2⟩, s3⟩ := key r0
  have eg : mvG s (nthC s x.2.1.toNat) x = upd (getY yes x.2.1.toNat) want (getW wait x.2.1.toNat) := by
    apply groups_ext
    intro i hi
    rw [look_upd _ _ _ hi, hw i hi, h.2.1]
    have hv := val_range (nthC s x.2.1.toNat).2.2.2.2.2.2.1 i (may_pends hc)
    unfold mvG un
    rcases hst with c3 | c4
    · rw [if_pos ⟨hk, c3⟩, look_sets _ none _ hi (may_rise hc), hy3 c3, w64 (by omega) (by omega)]
      by_cases hp : valL (nthC s x.2.1.toNat).2.2.2.2.2.2.1 i > 0
      · rw [if_pos hp, if_pos ⟨rfl, hp⟩]
      · rw [if_neg hp, if_neg (fun k => hp k.2)]
    · rw [if_neg (by omega), if_neg (by omega), hy4 c4, if_neg (fun k => absurd k.1 (by decide))]
  have := inv_set (s' := setC (s.1, s.2.1, s.2.2) x.2.1.toNat (compM (nthC s x.2.1.toNat)).1) h ht (c := (compM (nthC s x.2.1.toNat)).1) (w := zero6) (y := getY yes x.2.1.toNat)
  rw [put_ownY _ ht] at this
  refine ⟨t0, eg.symm, fun j hj => ?_⟩
  have e1 : nthC (setC (s.1, s.2.1, mvG s (nthC s x.2.1.toNat) x) x.2.1.toNat (compM (nthC s x.2.1.toNat)).1) j = nthC (setC s x.2.1.toNat (compM (nthC s x.2.1.toNat)).1) j := rfl
  rw [e1, nth_set _ _ ht hj, get_put _ _ ht hj]
  by_cases hjt : j = x.2.1.toNat
  · rw [if_pos hjt, if_pos hjt]
    exact ⟨fun i hi => by rw [s3]; exact zero_val i hi, fun k => absurd k s1, fun k => absurd k s2⟩
  · rw [if_neg hjt, if_neg hjt]; exact h.2.2 j hj
end
end Go.Ev.R3

set_option linter.unusedVariables false
set_option maxRecDepth 100000
namespace Go.Ev.R3
open Go.Proofs

/-! rovinglaw20.MetaOffsets -/
theorem L15_spec (K : Nat) (l : Metas) (hl : l.length ≤ 1000000) (hE : ∀ e, e ∈ l → FitE e) : ∀ (k i : Nat) (s : State) (want : Groups) (wait : Waits) (yes : Yeses), l.length < k + i → i ≤ l.length → Inv s want wait yes →
    L13_15 G45 G42 G48 G43 G49 (K + 4) k l (i : Int) want wait yes s = some true
  | 0, i, s, want, wait, yes, h, hi, _ => by omega
  | k + 1, i, s, want, wait, yes, h, hi, hv => by
    rw [L13_15_step]
    cases hx : l[i]? with
    | none =>
      have := List.getElem?_eq_none_iff.1 hx
      rw [dF (show ¬ ((i : Int) < lenI l) by unfold lenI; omega), brF, J13_42_eq, groups_dec, dT hv.2.1.symm, brT]
      rfl
    | some x =>
      have hlt := (List.getElem?_eq_some_iff.1 hx).1
      have hf : FitE x := hE x (List.mem_of_getElem? hx)
      have g43 : G43 (s, x) = some (nextM s x) := if_pos ⟨mayFitS hv.1, hf⟩
      rw [dT (show (i : Int) < lenI l by unfold lenI; omega), brT, J13_17_eq, idxN, hx, Option.bind_some]
      by_cases k6 : x.1 = 6
      · rw [k6, eqI_refl, brT]; rfl
      · rw [eqI_ne k6, brF, J13_20_eq, g43, Option.bind_some]
        by_cases h0 : (nextM s x).2 = 0
        · obtain ⟨_, mx, _, _, _⟩ := next_ok h0
          have g49 : G49 x = some true := (if_pos hf).trans (congrArg some (mayE_iff.2 mx))
          have ht := tid_of mx
          rw [h0, eqI_refl, Bool.not_true, brF, J13_22_eq, g49, Option.bind_some, Bool.not_true, brF, J13_24_eq]
          by_cases k5 : x.1 = 5
          · obtain ⟨p1, p2⟩ := pend_inB (mx.2.2.2.2.1 (Or.inr k5))
            rw [k5, eqI_refl, brT, p1, p2, brT, brT, w1 (by omega)]
            exact L15_spec K l hl hE k (i + 1) _ (setG want x.2.2.2.1) wait yes (by omega) (by omega) (step5 hv h0 k5)
          · rw [eqI_ne k5, brF]
            by_cases k2 : x.1 = 2
            · obtain ⟨p1, p2⟩ := pend_inB (mx.2.2.2.2.1 (Or.inl k2))
              rw [k2, eqI_refl, brT, ht.1, p1, p2, brT, brT, brT, w1 (by omega)]
              exact L15_spec K l hl hE k (i + 1) _ want (setW wait (ix x.2.1 x.2.2.2.1.1 x.2.2.2.1.2.1) (IntKind.wrap .i64 (x.2.2.2.1.2.2 + 1))) yes (by omega) (by omega) (step2 hv h0 k2)
            · rw [eqI_ne k2, brF]
              by_cases k3 : x.1 = 3
              · rw [k3, eqI_refl, brT, ht.1, brT, w1 (by omega)]
                exact L15_spec K l hl hE k (i + 1) _ want wait (putY yes x.2.1.toNat x.2.2.2.2.1) (by omega) (by omega) (step3 hv h0 k3)
              · rw [eqI_ne k3, brF]
                by_cases k4 : x.1 = 4
                · rw [k4, eqI_refl, brT, loop34 _ _ _ _ _ _ _ _ _ _ mx.2.2.1, w1 (by omega)]
                  exact L15_spec K l hl hE k (i + 1) _ _ _ yes (by omega) (by omega) (step4 hv h0 k4)
                · rw [eqI_ne k4, brF, w1 (by omega)]
                  exact L15_spec K l hl hE k (i + 1) _ want wait yes (by omega) (by omega) (step0 hv h0 (by have := mx.1; omega))
        · rw [eqI_ne h0, Bool.not_false, brT, w1 (by omega)]
          exact L15_spec K l hl hE k (i + 1) s want wait yes (by omega) (by omega) hv
theorem st10 (K ko1 ko2 k : Nat) (t0 : Metas) (g q : Int) (b0 : Groups) (hg : inB g 2 = true) (hq : inB q 3 = true) :
    J13_10 G45 G42 G48 G43 G49 K ko1 ko2 (k + 1) t0 g q b0 = L13_8 G45 G42 G48 G43 G49 K ko1 ko2 t0 g (IntKind.wrap .i64 (q + 1)) (setI b0 (mulAdd (Int.toNat g) 3 q) (-1)) := by
  rw [J13_10_eq, hg, hq, brT, brT]; rfl
theorem row8 (K ko1 k : Nat) (t0 : Metas) (g : Int) (b0 : Groups) (hg : inB g 2 = true) :
    L13_8 G45 G42 G48 G43 G49 (K + 1) ko1 (k + 4) t0 g 0 b0 = L13_5 G45 G42 G48 G43 G49 (K + 1) ko1 t0 (IntKind.wrap .i64 (g + 1)) (setI (setI (setI b0 (mulAdd (Int.toNat g) 3 0) (-1)) (mulAdd (Int.toNat g) 3 1) (-1)) (mulAdd (Int.toNat g) 3 2) (-1)) := by
  have d0 : decide ((0 : Int) < 3) = true := rfl
  have d1 : decide ((1 : Int) < 3) = true := rfl
  have d2 : decide ((2 : Int) < 3) = true := rfl
  have d3 : decide ((3 : Int) < 3) = false := rfl
  have e0 : IntKind.wrap IntKind.i64 (0 + 1) = 1 := rfl
  have e1 : IntKind.wrap IntKind.i64 (1 + 1) = 2 := rfl
  have e2 : IntKind.wrap IntKind.i64 (2 + 1) = 3 := rfl
  rw [L13_8_step, d0, brT, st10 _ _ _ _ _ _ _ _ hg rfl, e0, L13_8_step, d1, brT, st10 _ _ _ _ _ _ _ _ hg rfl, e1, L13_8_step, d2, brT, st10 _ _ _ _ _ _ _ _ hg rfl, e2, L13_8_step, d3, brF]
theorem init5 (K : Nat) (t0 : Metas) : L13_5 G45 G42 G48 G43 G49 (K + 4) (K + 4) t0 0 ((0, 0, 0), 0, 0, 0) = L13_15 G45 G42 G48 G43 G49 (K + 4) (K + 4) t0 0 ((-1, -1, -1), -1, -1, -1) (zero6, zero6, zero6) (false, false, false) first := by
  have d0 : decide ((0 : Int) < 2) = true := rfl
  have d1 : decide ((1 : Int) < 2) = true := rfl
  have d2 : decide ((2 : Int) < 2) = false := rfl
  have e0 : IntKind.wrap IntKind.i64 (0 + 1) = 1 := rfl
  have e1 : IntKind.wrap IntKind.i64 (1 + 1) = 2 := rfl
  have g48 : G48 () = some first := rfl
  rw [L13_5_step, d0, brT, J13_7_eq, row8 _ _ _ _ _ _ rfl, e0, L13_5_step, d1, brT, J13_7_eq, row8 _ _ _ _ _ _ rfl, e1, L13_5_step, d2, brF, J13_11_eq, g48, Option.bind_some]
  rfl
theorem metaOffsets_spec (l : Metas) (h8 : ∀ x, x ∈ l → I8E x) : F13 G45 G42 G48 G43 G49 1000 l = some true := by
  have g45 : G45 l = some (greatR l.length l 0) := rfl
  rw [F13_eq, g45, Option.bind_some]
  cases hg : greatR l.length l 0 with
  | true => rfl
  | false =>
    obtain ⟨h1, h2⟩ := greatR_false l.length l 0 (by omega) hg
    have hE : ∀ e, e ∈ l → FitE e := fun e he => fitE_of (h8 e he) (h2 e he)
    rw [brF, J13_3_eq]
    have h := L15_spec 996 l (by omega) hE 1000 0 first _ _ _ (by omega) (by omega) inv_first
    rw [show ((0 : Nat) : Int) = 0 from rfl] at h
    exact (init5 996 l).trans h
open Classical in
noncomputable def G13 : T13 → Option U13 := fun l => if ∀ x, x ∈ l → I8E x then some true else none
theorem metaOffsetsC_ok : CtrAll Try.prog ⟨13, A13, R13, G13⟩ := C13 c45 c42 c48 c43 c49 fun x y h => by
  unfold G13 at h
  split at h
  · rename_i hb; exact ⟨1000, (metaOffsets_spec x hb).trans h⟩
  · cases h
end Go.Ev.R3
