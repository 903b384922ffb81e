import Derived.Test.YtggobapgdflchaaEvR3b
set_option linter.unusedVariables false
set_option maxRecDepth 100000
namespace Go.Ev.R3
open Go.Proofs

/-! What the parts of 'states' come to. -/

def coord0 : Coord := (0, 0, 0, 0, 0, [], [], 0)

/-- partitions that rise -/
def riseI : Int → Ints → Bool
  | _, [] => true
  | p, x :: l => decide (p < x) && (decide (x ≤ 2) && riseI x l)

def pendB (p : Pend) : Bool := decide (0 ≤ p.1) && (decide (p.1 ≤ 1) && (decide (0 ≤ p.2.1) && (decide (p.2.1 ≤ 2) && (decide (0 ≤ p.2.2) && decide (p.2.2 ≤ 1048576)))))
def aheadB (p q : Pend) : Bool := decide (p.1 < q.1) || (decide (p.1 = q.1) && decide (p.2.1 < q.2.1))

/-- offsets that rise -/
def riseP : Option Pend → Pends → Bool
  | _, [] => true
  | none, x :: l => pendB x && riseP (some x) l
  | some q, x :: l => pendB x && (aheadB q x && riseP (some x) l)

theorem w1 {i : Nat} (h : i < 1099511627776) : IntKind.wrap IntKind.i64 ((i : Int) + 1) = ((i + 1 : Nat) : Int) := by rw [w64 (by omega) (by omega)]; omega
theorem wm1 {i : Nat} (h : i < 1099511627776) (h0 : 0 < i) : IntKind.wrap IntKind.i64 ((i : Int) - 1) = ((i - 1 : Nat) : Int) := by rw [w64 (by omega) (by omega)]; omega
theorem br_dec {α : Type} (p : Prop) [Decidable p] (a b : α) : br (decide p) a b = if p then a else b := br_ite p a b
theorem br_ndec {α : Type} (p : Prop) [Decidable p] (a b : α) : br (!decide p) a b = if p then b else a := by by_cases h : p <;> simp [br, h]

/-! rising[int] -/
theorem rise_drop {l : Ints} {i : Nat} {x : Int} (h : l[i]? = some x) (p : Int) : riseI p (l.drop i) = (decide (p < x) && (decide (x ≤ 2) && riseI x (l.drop (i + 1)))) := by rw [drop_consN h]; rfl

theorem L59_spec (k0 : Nat) (l : Ints) (hl : l.length ≤ 1000000) : ∀ (k i : Nat) (p : Int), l.length < k + i → i ≤ l.length → (i = 0 → p = -1) → (∀ j, i = j + 1 → l[j]? = some p) → (i ≠ 0 → 0 ≤ p) →
    L59_2 k0 k l l (lenI l) (i : Int) = some (riseI p (l.drop i))
  | 0, i, p, h, hi, _, _, _ => by omega
  | k + 1, i, p, h, hi, h0, hs, hp => by
    rw [L59_2_step, idxN]
    cases hx : l[i]? with
    | none =>
      have := List.getElem?_eq_none_iff.1 hx
      rw [dF (show ¬ ((i : Int) < lenI l) by unfold lenI; omega), List.drop_eq_nil_of_le this]
      rfl
    | some x =>
      have hlt := (List.getElem?_eq_some_iff.1 hx).1
      rw [dT (show (i : Int) < lenI l by unfold lenI; omega), w1 (by omega), rise_drop hx]
      simp only [brT, Option.bind_some, br_dec, br_ndec]
      by_cases hx0 : x ≥ 0
      · rw [if_pos hx0]
        by_cases hx2 : x ≤ 2
        · rw [if_pos hx2]
          have ih := L59_spec k0 l hl k (i + 1) x (by omega) (by omega) (by omega) (fun j hj => by rw [show j = i by omega]; exact hx) (fun _ => hx0)
          by_cases hi0 : i = 0
          · subst hi0
            have := h0 rfl
            rw [if_neg (by simp), ih, dT (show p < x by omega), dT hx2]; rfl
          · rw [if_pos (by omega), wm1 (by omega) (by omega), idxN, hs (i - 1) (by omega)]
            simp only [Option.bind_some]
            by_cases hpx : p < x
            · rw [if_pos hpx, ih, dT hpx, dT hx2]; rfl
            · rw [if_neg hpx, dF hpx]; rfl
        · rw [if_neg hx2, dF hx2]; simp
      · rw [if_neg hx0]
        have : ¬ p < x := by
          by_cases hi0 : i = 0
          · have := h0 hi0; omega
          · have := hp hi0; omega
        rw [dF this]; rfl

def G59 : T59 → Option U59 := fun x => if x.1.length ≤ 1000000 then some (riseI (-1) x.1) else none
theorem c59 : CtrAll Try.prog ⟨59, A59, R59, G59⟩ := C59 fun x y h => by
  unfold G59 at h
  split at h
  · rename_i hb
    refine ⟨1000001, ?_⟩
    rw [F59_eq]
    exact (L59_spec _ x.1 hb _ 0 (-1) (by omega) (by omega) (fun _ => rfl) (fun j hj => by omega) (fun h => by omega)).trans h
  · cases h

/-! pend, ahead, rising[Pend] -/
theorem pend_eq (p : Pend) : F69 0 p = some (pendB p) := by
  rw [F69_eq]
  unfold pendB
  simp only [ge_iff_le]
  cases decide (0 ≤ p.1) <;> cases decide (p.1 ≤ 1) <;> cases decide (0 ≤ p.2.1) <;> cases decide (p.2.1 ≤ 2) <;> cases decide (0 ≤ p.2.2) <;> rfl
theorem ahead_eq (p q : Pend) : F70 0 p q = some (aheadB p q) := by
  rw [F70_eq]
  unfold aheadB eqI
  cases decide (p.1 < q.1) <;> cases decide (p.1 = q.1) <;> rfl
def G69 : T69 → Option U69 := fun p => some (pendB p)
def G70 : T70 → Option U70 := fun x => some (aheadB x.1 x.2)
theorem c69 : CtrAll Try.prog ⟨69, A69, R69, G69⟩ := C69 fun x y h => ⟨0, (pend_eq x).trans h⟩
theorem c70 : CtrAll Try.prog ⟨70, A70, R70, G70⟩ := C70 fun x y h => ⟨0, (ahead_eq x.1 x.2).trans h⟩
def G61 : T61 → Option U61 := fun x => some (decide (x.1 < x.2))
theorem c61 : CtrAll Try.prog ⟨61, A61, R61, G61⟩ := C61 fun x y h => ⟨0, (F61_eq 0 x.1 x.2).trans h⟩

theorem riseP_cons (p : Option Pend) (x : Pend) (l : Pends) : riseP p (x :: l) = (pendB x && ((match p with | none => true | some q => aheadB q x) && riseP (some x) l)) := by
  cases p <;> simp [riseP]

theorem L68_spec (k0 : Nat) (l : Pends) (hl : l.length ≤ 1000000) : ∀ (k i : Nat) (p : Option Pend), l.length < k + i → i ≤ l.length → (i = 0 → p = none) → (∀ j, i = j + 1 → p = l[j]? ∧ p.isSome = true) →
    L68_2 G69 G70 k0 k l l (lenI l) (i : Int) = some (riseP p (l.drop i))
  | 0, i, p, h, hi, _, _ => by omega
  | k + 1, i, p, h, hi, h0, hs => by
    rw [L68_2_step, idxN]
    cases hx : l[i]? with
    | none =>
      have := List.getElem?_eq_none_iff.1 hx
      rw [dF (show ¬ ((i : Int) < lenI l) by unfold lenI; omega), List.drop_eq_nil_of_le this]
      cases p <;> rfl
    | some x =>
      have hlt := (List.getElem?_eq_some_iff.1 hx).1
      rw [dT (show (i : Int) < lenI l by unfold lenI; omega), w1 (by omega), drop_consN hx, riseP_cons]
      simp only [brT, Option.bind_some, G69, G70]
      have ih := L68_spec k0 l hl k (i + 1) (some x) (by omega) (by omega) (by omega) (fun j hj => by rw [show j = i by omega]; exact ⟨hx.symm, rfl⟩)
      cases pendB x with
      | false => rfl
      | true =>
        by_cases hi0 : i = 0
        · subst hi0
          rw [h0 rfl, dF (by simp)]
          exact ih
        · obtain ⟨h1, h2⟩ := hs (i - 1) (by omega)
          rw [dT (show (i : Int) > 0 by omega), wm1 (by omega) (by omega), idxN, ← h1]
          cases p with
          | none => cases h2
          | some q =>
            show br (!aheadB q x) _ _ = some (true && (aheadB q x && riseP (some x) (l.drop (i + 1))))
            cases aheadB q x with
            | false => rfl
            | true => exact ih

def G68 : T68 → Option U68 := fun x => if x.1.length ≤ 1000000 then some (riseP none x.1) else none
theorem c68 : CtrAll Try.prog ⟨68, A68, R68, G68⟩ := C68 c69 c70 fun x y h => by
  unfold G68 at h
  split at h
  · rename_i hb
    refine ⟨1000001, ?_⟩
    rw [F68_eq]
    exact (L68_spec _ x.1 hb _ 0 none (by omega) (by omega) (fun _ => rfl) (fun j hj => by omega)).trans h
  · cases h

/-! what -/
def whatM (s : Int) : Int := if s = 1 ∨ s = 5 ∨ s = 6 then 1 else if s = 3 ∨ s = 4 then 3 else if s = 2 then 2 else 0
theorem what_eq (c : Coord) : F62 0 c = some (whatM c.1) := by
  rw [F62_eq]
  unfold whatM eqI
  simp only [br_dec]
  repeat' split
  all_goals first | rfl | omega
def G62 : T62 → Option U62 := fun c => some (whatM c.1)
theorem c62 : CtrAll Try.prog ⟨62, A62, R62, G62⟩ := C62 fun x y h => ⟨0, (what_eq x).trans h⟩

/-! slices.Equal -/
theorem len_ne {α : Type} {l m : List α} (h : ¬ l.length = m.length) : l ≠ m := fun e => h (by rw [e])
theorem eq_step {α : Type} [DecidableEq α] {l m : List α} {i : Nat} {x y : α} (h1 : l[i]? = some x) (h2 : m[i]? = some y) : decide (l.drop i = m.drop i) = (decide (x = y) && decide (l.drop (i + 1) = m.drop (i + 1))) := by
  rw [drop_consN h1, drop_consN h2]; simp
theorem L65_spec (k0 : Nat) (l m : Ints) (hl : l.length ≤ 1000000) (he : l.length = m.length) : ∀ (k i : Nat), l.length < k + i → i ≤ l.length → L65_4 k0 k l m (lenI l) (i : Int) = some (decide (l.drop i = m.drop i))
  | 0, i, h, hi => by omega
  | k + 1, i, h, hi => by
    rw [L65_4_step, idxN, idxN]
    cases hx : l[i]? with
    | none =>
      have := List.getElem?_eq_none_iff.1 hx
      rw [dF (show ¬ ((i : Int) < lenI l) by unfold lenI; omega), List.drop_eq_nil_of_le this, List.drop_eq_nil_of_le (by omega)]; simp [br]
    | some x =>
      have hlt := (List.getElem?_eq_some_iff.1 hx).1
      have hy : m[i]? = some m[i] := List.getElem?_eq_getElem (by omega)
      rw [dT (show (i : Int) < lenI l by unfold lenI; omega), hy, w1 (by omega), eq_step hx hy]
      simp only [brT, Option.bind_some]
      unfold eqI
      by_cases hq : x = m[i]
      · rw [dT hq]; exact L65_spec k0 l m hl he k (i + 1) (by omega) (by omega)
      · rw [dF hq]; rfl
theorem eqInts (l m : Ints) (hl : l.length ≤ 1000000) : F65 1000001 l m = some (decide (l = m)) := by
  rw [F65_eq]
  by_cases h : l.length = m.length
  · have : eqI (lenI l) (lenI m) = true := by unfold lenI; rw [h]; exact eqI_refl _
    rw [this]
    exact L65_spec _ l m (by omega) h _ 0 (by omega) (by omega)
  · rw [eqI_ne (show lenI l ≠ lenI m by unfold lenI; omega), dF (len_ne h)]; rfl
def G65 : T65 → Option U65 := fun x => if x.1.length ≤ 1000000 then some (decide (x.1 = x.2)) else none
theorem c65 : CtrAll Try.prog ⟨65, A65, R65, G65⟩ := C65 fun x y h => by
  unfold G65 at h
  split at h
  · rename_i hb; exact ⟨1000001, (eqInts x.1 x.2 hb).trans h⟩
  · cases h

theorem eqP_dec (p q : Pend) : (eqI p.1 q.1 && (eqI p.2.1 q.2.1 && eqI p.2.2 q.2.2)) = decide (p = q) := by
  obtain ⟨a, b, c⟩ := p
  obtain ⟨d, e, f⟩ := q
  unfold eqI
  simp [Bool.decide_and]
theorem L66_spec (k0 : Nat) (l m : Pends) (hl : l.length ≤ 1000000) (he : l.length = m.length) : ∀ (k i : Nat), l.length < k + i → i ≤ l.length → L66_4 k0 k l m (lenI l) (i : Int) = some (decide (l.drop i = m.drop i))
  | 0, i, h, hi => by omega
  | k + 1, i, h, hi => by
    rw [L66_4_step, idxN, idxN]
    cases hx : l[i]? with
    | none =>
      have := List.getElem?_eq_none_iff.1 hx
      rw [dF (show ¬ ((i : Int) < lenI l) by unfold lenI; omega), List.drop_eq_nil_of_le this, List.drop_eq_nil_of_le (by omega)]; simp [br]
    | some x =>
      have hlt := (List.getElem?_eq_some_iff.1 hx).1
      have hy : m[i]? = some m[i] := List.getElem?_eq_getElem (by omega)
      rw [dT (show (i : Int) < lenI l by unfold lenI; omega), hy, w1 (by omega), eq_step hx hy]
      simp only [brT, Option.bind_some, eqP_dec]
      by_cases hq : x = m[i]
      · rw [dT hq]; exact L66_spec k0 l m hl he k (i + 1) (by omega) (by omega)
      · rw [dF hq]; rfl
theorem eqPends (l m : Pends) (hl : l.length ≤ 1000000) : F66 1000001 l m = some (decide (l = m)) := by
  rw [F66_eq]
  by_cases h : l.length = m.length
  · have : eqI (lenI l) (lenI m) = true := by unfold lenI; rw [h]; exact eqI_refl _
    rw [this]
    exact L66_spec _ l m (by omega) h _ 0 (by omega) (by omega)
  · rw [eqI_ne (show lenI l ≠ lenI m by unfold lenI; omega), dF (len_ne h)]; rfl
def G66 : T66 → Option U66 := fun x => if x.1.length ≤ 1000000 then some (decide (x.1 = x.2)) else none
theorem c66 : CtrAll Try.prog ⟨66, A66, R66, G66⟩ := C66 fun x y h => by
  unfold G66 at h
  split at h
  · rename_i hb; exact ⟨1000001, (eqPends x.1 x.2 hb).trans h⟩
  · cases h

/-! slices.Contains -/
def indexM (x : Int) : Nat → Ints → Int
  | _, [] => -1
  | i, y :: l => if x = y then (i : Int) else indexM x (i + 1) l
theorem indexM_nonneg (x : Int) : ∀ (l : Ints) (i : Nat), (0 ≤ indexM x i l) ↔ x ∈ l
  | [], i => by simp [indexM]
  | y :: l, i => by
    unfold indexM
    by_cases h : x = y
    · rw [if_pos h]; simp [h]
    · rw [if_neg h, indexM_nonneg x l (i + 1)]; simp [h]
theorem L102_spec (k0 : Nat) (l : Ints) (x : Int) (hl : l.length ≤ 1000000) : ∀ (k i : Nat), l.length < k + i → i ≤ l.length → L102_2 k0 k l x (lenI l) (i : Int) = some (indexM x i (l.drop i))
  | 0, i, h, hi => by omega
  | k + 1, i, h, hi => by
    rw [L102_2_step, idxN]
    cases hx : l[i]? with
    | none =>
      have := List.getElem?_eq_none_iff.1 hx
      rw [dF (show ¬ ((i : Int) < lenI l) by unfold lenI; omega), List.drop_eq_nil_of_le this]; rfl
    | some y =>
      have hlt := (List.getElem?_eq_some_iff.1 hx).1
      rw [dT (show (i : Int) < lenI l by unfold lenI; omega), w1 (by omega), drop_consN hx]
      simp only [brT, Option.bind_some]
      unfold eqI indexM
      by_cases hq : x = y
      · rw [dT hq, if_pos hq]; rfl
      · rw [dF hq, if_neg hq]; exact L102_spec k0 l x hl k (i + 1) (by omega) (by omega)
def G102 : T102 → Option U102 := fun x => if x.1.length ≤ 1000000 then some (indexM x.2 0 x.1) else none
theorem c102 : CtrAll Try.prog ⟨102, A102, R102, G102⟩ := C102 fun x y h => by
  unfold G102 at h
  split at h
  · rename_i hb
    refine ⟨1000001, ?_⟩
    rw [F102_eq]
    exact (L102_spec _ x.1 x.2 hb _ 0 (by omega) (by omega)).trans h
  · cases h
def G71 : T71 → Option U71 := fun x => if x.1.length ≤ 1000000 then some (decide (x.2 ∈ x.1)) else none
theorem c71 : CtrAll Try.prog ⟨71, A71, R71, G71⟩ := C71 c102 fun x y h => by
  unfold G71 at h
  split at h
  · rename_i hb
    refine ⟨0, ?_⟩
    rw [F71_eq, ← h]
    unfold G102
    rw [if_pos hb]
    simp [indexM_nonneg]
  · cases h

/-! slices.Clone -/
theorem fits_le {α β : Type} {l : List α} {m : List β} {n : Nat} (h : (l.length + m.length) * n ≤ 140737488355328) : fits l m n = true := by unfold fits; simpa using h
def G64 : T64 → Option U64 := fun x => if x.length ≤ 1000000 then some x else none
theorem c64 : CtrAll Try.prog ⟨64, A64, R64, G64⟩ := C64 fun x y h => by
  unfold G64 at h
  split at h
  · rename_i hb
    refine ⟨0, ?_⟩
    rw [F64_eq, fits_le (by simp; omega), ← h]
    cases x with
    | nil => rw [dF (by simp [lenI])]; exact both_self _
    | cons a l => rw [dT (by simp [lenI])]; rfl
  · cases h

/-! Same -/
instance decP : DecidableEq Pend := fun a b => inferInstanceAs (Decidable (a = b))
instance dec7 : DecidableEq (Pends × Int) := inferInstance
instance dec6 : DecidableEq (Ints × Pends × Int) := inferInstance
instance dec5 : DecidableEq (Int × Ints × Pends × Int) := inferInstance
instance dec4 : DecidableEq (Int × Int × Ints × Pends × Int) := inferInstance
instance dec3 : DecidableEq (Int × Int × Int × Ints × Pends × Int) := inferInstance
instance dec2 : DecidableEq (Int × Int × Int × Int × Ints × Pends × Int) := inferInstance
instance decC : DecidableEq Coord := inferInstanceAs (DecidableEq (Int × Int × Int × Int × Int × Ints × Pends × Int))
/-- not too long -/
def Fit (c : Coord) : Prop := c.2.2.2.2.2.1.length ≤ 1000000 ∧ c.2.2.2.2.2.2.1.length ≤ 1000000
instance (c : Coord) : Decidable (Fit c) := by unfold Fit; infer_instance
def sameM (a b : Coord) : Bool := decide (a = b)
def G20 : T20 → Option U20 := fun x => if Fit x.1 then some (sameM x.1 x.2) else none
theorem same_eq (a b : Coord) (h1 : a.2.2.2.2.2.1.length ≤ 1000000) (h2 : a.2.2.2.2.2.2.1.length ≤ 1000000) : F20 G65 G66 0 a b = some (sameM a b) := by
  rw [F20_eq]
  unfold sameM
  obtain ⟨s, p, e, t, n, l, m, g⟩ := a
  obtain ⟨s', p', e', t', n', l', m', g'⟩ := b
  simp only at h1 h2
  simp only [G65, G66, if_pos h1, if_pos h2, Option.bind_some, eqI, br_dec]
  repeat' split
  all_goals simp_all
theorem c20 : CtrAll Try.prog ⟨20, A20, R20, G20⟩ := C20 c65 c66 fun x y h => by
  unfold G20 at h
  split at h
  · rename_i hb; exact ⟨0, (same_eq x.1 x.2 hb.1 hb.2).trans h⟩
  · cases h
end Go.Ev.R3
