import Derived.Test.YtggobapgdflchaaEvS4
set_option linter.unusedVariables false
set_option maxRecDepth 100000
namespace Go.Ev.R3
open Go.Proofs

/-! What the parts of 'states' come to. -/

def coord0 : Coord := (0, 0, 0, 0, 0, [], [], 0)

/-- partitions that rise -/
def riseI : Int → Ints → Bool
  | _, [] => true
  | p, x :: l => decide (p < x) && (decide (x ≤ 2) && riseI x l)

def pendB (p : Pend) : Bool := decide (0 ≤ p.1) && (decide (p.1 ≤ 1) && (decide (0 ≤ p.2.1) && (decide (p.2.1 ≤ 2) && (decide (0 ≤ p.2.2) && decide (p.2.2 ≤ 1048576)))))
def aheadB (p q : Pend) : Bool := decide (p.1 < q.1) || (decide (p.1 = q.1) && decide (p.2.1 < q.2.1))

/-- offsets that rise -/
def riseP : Option Pend → Pends → Bool
  | _, [] => true
  | none, x :: l => pendB x && riseP (some x) l
  | some q, x :: l => pendB x && (aheadB q x && riseP (some x) l)

theorem w1 {i : Nat} (h : i < 1099511627776) : IntKind.wrap IntKind.i64 ((i : Int) + 1) = ((i + 1 : Nat) : Int) := by rw [w64 (by omega) (by omega)]; omega
theorem wm1 {i : Nat} (h : i < 1099511627776) (h0 : 0 < i) : IntKind.wrap IntKind.i64 ((i : Int) - 1) = ((i - 1 : Nat) : Int) := by rw [w64 (by omega) (by omega)]; omega
theorem br_dec {α : Type} (p : Prop) [Decidable p] (a b : α) : br (decide p) a b = if p then a else b := br_ite p a b
theorem br_ndec {α : Type} (p : Prop) [Decidable p] (a b : α) : br (!decide p) a b = if p then b else a := by by_cases h : p <;> simp [br, h]

/-! rising[int] -/
theorem rise_drop {l : Ints} {i : Nat} {x : Int} (h : l[i]? = some x) (p : Int) : riseI p (l.drop i) = (decide (p < x) && (decide (x ≤ 2) && riseI x (l.drop (i + 1)))) := by rw [drop_consN h]; rfl

theorem L59_spec (k0 : Nat) (l : Ints) (hl : l.length ≤ 1000000) : ∀ (k i : Nat) (p : Int), l.length < k + i → i ≤ l.length → (i = 0 → p = -1) → (∀ j, i = j + 1 → l[j]? = some p) → (i ≠ 0 → 0 ≤ p) →
    L59_2 k0 k l l (lenI l) (i : Int) = some (riseI p (l.drop i))
  | 0, i, p, h, hi, _, _, _ => by omega
  | k + 1, i, p, h, hi, h0, hs, hp => by
    rw [L59_2_step, idxN]
    cases hx : l[i]? with
    | none =>
      have := List.getElem?_eq_none_iff.1 hx
      rw [dF (show ¬ ((i : Int) < lenI l) by unfold lenI; omega), List.drop_eq_nil_of_le this]
      rfl
    | some x =>
      have hlt := (List.getElem?_eq_some_iff.1 hx).1
      rw [dT (show (i : Int) < lenI l by unfold lenI; omega), w1 (by omega), rise_drop hx]
      simp only [brT, Option.bind_some, br_dec, br_ndec]
      by_cases hx0 : x ≥ 0
      · rw [if_pos hx0]
        by_cases hx2 : x ≤ 2
        · rw [if_pos hx2]
          have ih := L59_spec k0 l hl k (i + 1) x (by omega) (by omega) (by omega) (fun j hj => by rw [show j = i by omega]; exact hx) (fun _ => hx0)
          by_cases hi0 : i = 0
          · subst hi0
            have := h0 rfl
            rw [if_neg (by simp), ih, dT (show p < x by omega), dT hx2]; rfl
          · rw [if_pos (by omega), wm1 (by omega) (by omega), idxN, hs (i - 1) (by omega)]
            simp only [Option.bind_some]
            by_cases hpx : p < x
            · rw [if_pos hpx, ih, dT hpx, dT hx2]; rfl
            · rw [if_neg hpx, dF hpx]; rfl
        · rw [if_neg hx2, dF hx2]; simp
      · rw [if_neg hx0]
        have : ¬ p < x := by
          by_cases hi0 : i = 0
          · have := h0 hi0; omega
          · have := hp hi0; omega
        rw [dF this]; rfl

def G59 : T59 → Option U59 := fun x => if x.1.length ≤ 1000000 then some (riseI (-1) x.1) else none
theorem c59 : CtrAll Try.prog ⟨59, A59, R59, G59⟩ := C59 fun x y h => by
  unfold G59 at h
  split at h
  · rename_i hb
    refine ⟨1000001, ?_⟩
    rw [F59_eq]
    exact (L59_spec _ x.1 hb _ 0 (-1) (by omega) (by omega) (fun _ => rfl) (fun j hj => by omega) (fun h => by omega)).trans h
  · cases h

/-! pend, ahead, rising[Pend] -/
theorem pend_eq (p : Pend) : F69 0 p = some (pendB p) := by
  rw [F69_eq]
  unfold pendB
  simp only [ge_iff_le]
  cases decide (0 ≤ p.1) <;> cases decide (p.1 ≤ 1) <;> cases decide (0 ≤ p.2.1) <;> cases decide (p.2.1 ≤ 2) <;> cases decide (0 ≤ p.2.2) <;> rfl
theorem ahead_eq (p q : Pend) : F70 0 p q = some (aheadB p q) := by
  rw [F70_eq]
  unfold aheadB eqI
  cases decide (p.1 < q.1) <;> cases decide (p.1 = q.1) <;> rfl
def G69 : T69 → Option U69 := fun p => some (pendB p)
def G70 : T70 → Option U70 := fun x => some (aheadB x.1 x.2)
theorem c69 : CtrAll Try.prog ⟨69, A69, R69, G69⟩ := C69 fun x y h => ⟨0, (pend_eq x).trans h⟩
theorem c70 : CtrAll Try.prog ⟨70, A70, R70, G70⟩ := C70 fun x y h => ⟨0, (ahead_eq x.1 x.2).trans h⟩
def G61 : T61 → Option U61 := fun x => some (decide (x.1 < x.2))
theorem c61 : CtrAll Try.prog ⟨61, A61, R61, G61⟩ := C61 fun x y h => ⟨0, (F61_eq 0 x.1 x.2).trans h⟩

theorem riseP_cons (p : Option Pend) (x : Pend) (l : Pends) : riseP p (x :: l) = (pendB x && ((match p with | none => true | some q => aheadB q x) && riseP (some x) l)) := by
  cases p <;> simp [riseP]

theorem L68_spec (k0 : Nat) (l : Pends) (hl : l.length ≤ 1000000) : ∀ (k i : Nat) (p : Option Pend), l.length < k + i → i ≤ l.length → (i = 0 → p = none) → (∀ j, i = j + 1 → p = l[j]? ∧ p.isSome = true) →
    L68_2 G69 G70 k0 k l l (lenI l) (i : Int) = some (riseP p (l.drop i))
  | 0, i, p, h, hi, _, _ => by omega
  | k + 1, i, p, h, hi, h0, hs => by
    rw [L68_2_step, idxN]
    cases hx : l[i]? with
    | none =>
      have := List.getElem?_eq_none_iff.1 hx
      rw [dF (show ¬ ((i : Int) < lenI l) by unfold lenI; omega), List.drop_eq_nil_of_le this]
      cases p <;> rfl
    | some x =>
      have hlt := (List.getElem?_eq_some_iff.1 hx).1
      rw [dT (show (i : Int) < lenI l by unfold lenI; omega), w1 (by omega), drop_consN hx, riseP_cons]
      simp only [brT, Option.bind_some, G69, G70]
      have ih := L68_spec k0 l hl k (i + 1) (some x) (by omega) (by omega) (by omega) (fun j hj => by rw [show j = i by omega]; exact ⟨hx.symm, rfl⟩)
      cases pendB x with
      | false => rfl
      | true =>
        by_cases hi0 : i = 0
        · subst hi0
          rw [h0 rfl, dF (by simp)]
          exact ih
        · obtain ⟨h1, h2⟩ := hs (i - 1) (by omega)
          rw [dT (show (i : Int) > 0 by omega), wm1 (by omega) (by omega), idxN, ← h1]
          cases p with
          | none => cases h2
          | some q =>
            show br (!aheadB q x) _ _ = some (true && (aheadB q x && riseP (some x) (l.drop (i + 1))))
            cases aheadB q x with
            | false => rfl
            | true => exact ih

def G68 : T68 → Option U68 := fun x => if x.1.length ≤ 1000000 then some (riseP none x.1) else none
theorem c68 : CtrAll Try.prog ⟨68, A68, R68, G68⟩ := C68 c69 c70 fun x y h => by
  unfold G68 at h
  split at h
  · rename_i hb
    refine ⟨1000001, ?_⟩
    rw [F68_eq]
    exact (L68_spec _ x.1 hb _ 0 none (by omega) (by omega) (fun _ => rfl) (fun j hj => by omega)).trans h
  · cases h

/-! what -/
def whatM (s : Int) : Int := if s = 1 ∨ s = 5 ∨ s = 6 then 1 else if s = 3 ∨ s = 4 then 3 else if s = 2 then 2 else 0
theorem what_eq (c : Coord) : F62 0 c = some (whatM c.1) := by
  rw [F62_eq]
  unfold whatM eqI
  simp only [br_dec]
  repeat' split
  all_goals first | rfl | omega
def G62 : T62 → Option U62 := fun c => some (whatM c.1)
theorem c62 : CtrAll Try.prog ⟨62, A62, R62, G62⟩ := C62 fun x y h => ⟨0, (what_eq x).trans h⟩

/-! slices.Equal -/
theorem len_ne {α : Type} {l m : List α} (h : ¬ l.length = m.length) : l ≠ m := fun e => h (by rw [e])
theorem eq_step {α : Type} [DecidableEq α] {l m : List α} {i : Nat} {x y : α} (h1 : l[i]? = some x) (h2 : m[i]? = some y) : decide (l.drop i = m.drop i) = (decide (x = y) && decide (l.drop (i + 1) = m.drop (i + 1))) := by
  rw [drop_consN h1, drop_consN h2]; simp
theorem L65_spec (k0 : Nat) (l m : Ints) (hl : l.length ≤ 1000000) (he : l.length = m.length) : ∀ (k i : Nat), l.length < k + i → i ≤ l.length → L65_4 k0 k l m (lenI l) (i : Int) = some (decide (l.drop i = m.drop i))
  | 0, i, h, hi => by omega
  | k + 1, i, h, hi => by
    rw [L65_4_step, idxN, idxN]
    cases hx : l[i]? with
    | none =>
      have := List.getElem?_eq_none_iff.1 hx
      rw [dF (show ¬ ((i : Int) < lenI l) by unfold lenI; omega), List.drop_eq_nil_of_le this, List.drop_eq_nil_of_le (by omega)]; simp [br]
    | some x =>
      have hlt := (List.getElem?_eq_some_iff.1 hx).1
      have hy : m[i]? = some m[i] := List.getElem?_eq_getElem (by omega)
      rw [dT (show (i : Int) < lenI l by unfold lenI; omega), hy, w1 (by omega), eq_step hx hy]
      simp only [brT, Option.bind_some]
      unfold eqI
      by_cases hq : x = m[i]
      · rw [dT hq]; exact L65_spec k0 l m hl he k (i + 1) (by omega) (by omega)
      · rw [dF hq]; rfl
theorem eqInts (l m : Ints) (hl : l.length ≤ 1000000) : F65 1000001 l m = some (decide (l = m)) := by
  rw [F65_eq]
  by_cases h : l.length = m.length
  · have : eqI (lenI l) (lenI m) = true := by unfold lenI; rw [h]; exact eqI_refl _
    rw [this]
    exact L65_spec _ l m (by omega) h _ 0 (by omega) (by omega)
  · rw [eqI_ne (show lenI l ≠ lenI m by unfold lenI; omega), dF (len_ne h)]; rfl
def G65 : T65 → Option U65 := fun x => if x.1.length ≤ 1000000 then some (decide (x.1 = x.2)) else none
theorem c65 : CtrAll Try.prog ⟨65, A65, R65, G65⟩ := C65 fun x y h => by
  unfold G65 at h
  split at h
  · rename_i hb; exact ⟨1000001, (eqInts x.1 x.2 hb).trans h⟩
  · cases h

theorem eqP_dec (p q : Pend) : (eqI p.1 q.1 && (eqI p.2.1 q.2.1 && eqI p.2.2 q.2.2)) = decide (p = q) := by
  obtain ⟨a, b, c⟩ := p
  obtain ⟨d, e, f⟩ := q
  unfold eqI
  simp [Bool.decide_and]
theorem L66_spec (k0 : Nat) (l m : Pends) (hl : l.length ≤ 1000000) (he : l.length = m.length) : ∀ (k i : Nat), l.length < k + i → i ≤ l.length → L66_4 k0 k l m (lenI l) (i : Int) = some (decide (l.drop i = m.drop i))
  | 0, i, h, hi => by omega
  | k + 1, i, h, hi => by
    rw [L66_4_step, idxN, idxN]
    cases hx : l[i]? with
    | none =>
      have := List.getElem?_eq_none_iff.1 hx
      rw [dF (show ¬ ((i : Int) < lenI l) by unfold lenI; omega), List.drop_eq_nil_of_le this, List.drop_eq_nil_of_le (by omega)]; simp [br]
    | some x =>
      have hlt := (List.getElem?_eq_some_iff.1 hx).1
      have hy : m[i]? = some m[i] := List.getElem?_eq_getElem (by omega)
      rw [dT (show (i : Int) < lenI l by unfold lenI; omega), hy, w1 (by omega), eq_step hx hy]
      simp only [brT, Option.bind_some, eqP_dec]
      by_cases hq : x = m[i]
      · rw [dT hq]; exact L66_spec k0 l m hl he k (i + 1) (by omega) (by omega)
      · rw [dF hq]; rfl
theorem eqPends (l m : Pends) (hl : l.length ≤ 1000000) : F66 1000001 l m = some (decide (l = m)) := by
  rw [F66_eq]
  by_cases h : l.length = m.length
  · have : eqI (lenI l) (lenI m) = true := by unfold lenI; rw [h]; exact eqI_refl _
    rw [this]
    exact L66_spec _ l m (by omega) h _ 0 (by omega) (by omega)
  · rw [eqI_ne (show lenI l ≠ lenI m by unfold lenI; omega), dF (len_ne h)]; rfl
def G66 : T66 → Option U66 := fun x => if x.1.length ≤ 1000000 then some (decide (x.1 = x.2)) else none
theorem c66 : CtrAll Try.prog ⟨66, A66, R66, G66⟩ := C66 fun x y h => by
  unfold G66 at h
  split at h
  · rename_i hb; exact ⟨1000001, (eqPends x.1 x.2 hb).trans h⟩
  · cases h

/-! slices.Contains -/
def indexM (x : Int) : Nat → Ints → Int
  | _, [] => -1
  | i, y :: l => if x = y then (i : Int) else indexM x (i + 1) l
theorem indexM_nonneg (x : Int) : ∀ (l : Ints) (i : Nat), (0 ≤ indexM x i l) ↔ x ∈ l
  | [], i => by simp [indexM]
  | y :: l, i => by
    unfold indexM
    by_cases h : x = y
    · rw [if_pos h]; simp [h]
    · rw [if_neg h, indexM_nonneg x l (i + 1)]; simp [h]
theorem L102_spec (k0 : Nat) (l : Ints) (x : Int) (hl : l.length ≤ 1000000) : ∀ (k i : Nat), l.length < k + i → i ≤ l.length → L102_2 k0 k l x (lenI l) (i : Int) = some (indexM x i (l.drop i))
  | 0, i, h, hi => by omega
  | k + 1, i, h, hi => by
    rw [L102_2_step, idxN]
    cases hx : l[i]? with
    | none =>
      have := List.getElem?_eq_none_iff.1 hx
      rw [dF (show ¬ ((i : Int) < lenI l) by unfold lenI; omega), List.drop_eq_nil_of_le this]; rfl
    | some y =>
      have hlt := (List.getElem?_eq_some_iff.1 hx).1
      rw [dT (show (i : Int) < lenI l by unfold lenI; omega), w1 (by omega), drop_consN hx]
      simp only [brT, Option.bind_some]
      unfold eqI indexM
      by_cases hq : x = y
      · rw [dT hq, if_pos hq]; rfl
      · rw [dF hq, if_neg hq]; exact L102_spec k0 l x hl k (i + 1) (by omega) (by omega)
def G102 : T102 → Option U102 := fun x => if x.1.length ≤ 1000000 then some (indexM x.2 0 x.1) else none
theorem c102 : CtrAll Try.prog ⟨102, A102, R102, G102⟩ := C102 fun x y h => by
  unfold G102 at h
  split at h
  · rename_i hb
    refine ⟨1000001, ?_⟩
    rw [F102_eq]
    exact (L102_spec _ x.1 x.2 hb _ 0 (by omega) (by omega)).trans h
  · cases h
def G71 : T71 → Option U71 := fun x => if x.1.length ≤ 1000000 then some (decide (x.2 ∈ x.1)) else none
theorem c71 : CtrAll Try.prog ⟨71, A71, R71, G71⟩ := C71 c102 fun x y h => by
  unfold G71 at h
  split at h
  · rename_i hb
    refine ⟨0, ?_⟩
    rw [F71_eq, ← h]
    unfold G102
    rw [if_pos hb]
    simp [indexM_nonneg]
  · cases h

/-! slices.Clone -/
theorem fits_le {α β : Type} {l : List α} {m : List β} {n : Nat} (h : (l.length + m.length) * n ≤ 140737488355328) : fits l m n = true := by unfold fits; simpa using h
def G64 : T64 → Option U64 := fun x => if x.length ≤ 1000000 then some x else none
theorem c64 : CtrAll Try.prog ⟨64, A64, R64, G64⟩ := C64 fun x y h => by
  unfold G64 at h
  split at h
  · rename_i hb
    refine ⟨0, ?_⟩
    rw [F64_eq, fits_le (by simp; omega), ← h]
    cases x with
    | nil => rw [dF (by simp [lenI])]; exact both_self _
    | cons a l => rw [dT (by simp [lenI])]; rfl
  · cases h

/-! Same -/
instance decP : DecidableEq Pend := fun a b => inferInstanceAs (Decidable (a = b))
instance dec7 : DecidableEq (Pends × Int) := inferInstance
instance dec6 : DecidableEq (Ints × Pends × Int) := inferInstance
instance dec5 : DecidableEq (Int × Ints × Pends × Int) := inferInstance
instance dec4 : DecidableEq (Int × Int × Ints × Pends × Int) := inferInstance
instance dec3 : DecidableEq (Int × Int × Int × Ints × Pends × Int) := inferInstance
instance dec2 : DecidableEq (Int × Int × Int × Int × Ints × Pends × Int) := inferInstance
instance decC : DecidableEq Coord := inferInstanceAs (DecidableEq (Int × Int × Int × Int × Int × Ints × Pends × Int))
/-- not too long -/
def Fit (c : Coord) : Prop := c.2.2.2.2.2.1.length ≤ 1000000 ∧ c.2.2.2.2.2.2.1.length ≤ 1000000
instance (c : Coord) : Decidable (Fit c) := by unfold Fit; infer_instance
def sameM (a b : Coord) : Bool := decide (a = b)
def G20 : T20 → Option U20 := fun x => if Fit x.1 then some (sameM x.1 x.2) else none
theorem same_eq (a b : Coord) (h1 : a.2.2.2.2.2.1.length ≤ 1000000) (h2 : a.2.2.2.2.2.2.1.length ≤ 1000000) : F20 G65 G66 0 a b = some (sameM a b) := by
  rw [F20_eq]
  unfold sameM
  obtain ⟨s, p, e, t, n, l, m, g⟩ := a
  obtain ⟨s', p', e', t', n', l', m', g'⟩ := b
  simp only at h1 h2
  simp only [G65, G66, if_pos h1, if_pos h2, Option.bind_some, eqI, br_dec]
  repeat' split
  all_goals simp_all
theorem c20 : CtrAll Try.prog ⟨20, A20, R20, G20⟩ := C20 c65 c66 fun x y h => by
  unfold G20 at h
  split at h
  · rename_i hb; exact ⟨0, (same_eq x.1 x.2 hb.1 hb.2).trans h⟩
  · cases h
end Go.Ev.R3

set_option linter.unusedVariables false
set_option maxRecDepth 100000
namespace Go.Ev.R3
open Go.Proofs

/-! put -/
/-- a thing in its place, instead of one that is alike -/
def putM {α : Type} (ah : α → α → Bool) (x : α) : List α → List α
  | [] => [x]
  | y :: l => if ah y x = true then y :: putM ah x l else if ah x y = true then x :: y :: l else x :: l
/-- how many stand ahead -/
def lead {α : Type} (ah : α → α → Bool) (x : α) : List α → Nat
  | [] => 0
  | y :: l => if ah y x = true then lead ah x l + 1 else 0
theorem lead_le {α : Type} (ah : α → α → Bool) (x : α) : ∀ l : List α, lead ah x l ≤ l.length
  | [] => Nat.le_refl _
  | y :: l => by
    unfold lead
    have := lead_le ah x l
    split <;> simp <;> omega
theorem putM_eq {α : Type} (ah : α → α → Bool) (x : α) : ∀ l : List α, putM ah x l = l.take (lead ah x l) ++ [x] ++ (match l.drop (lead ah x l) with | [] => [] | z :: r => if ah x z = true then z :: r else r)
  | [] => rfl
  | y :: l => by
    unfold putM lead
    by_cases h : ah y x = true
    · rw [if_pos h, if_pos h, putM_eq ah x l]; rfl
    · rw [if_neg h, if_neg h]
      simp only [List.take_zero, List.nil_append, List.drop_zero]
      split <;> simp
theorem putM_len {α : Type} (ah : α → α → Bool) (x : α) : ∀ l : List α, (putM ah x l).length ≤ l.length + 1
  | [] => Nat.le_refl _
  | y :: l => by
    unfold putM
    have := putM_len ah x l
    split
    · simp; omega
    · split <;> simp

def idxM {α : Type} (ah : α → α → Bool) (x : α) : Nat → List α → Int
  | _, [] => -1
  | i, y :: l => if ah y x = true then idxM ah x (i + 1) l else (i : Int)
theorem idxM_lead {α : Type} (ah : α → α → Bool) (x : α) : ∀ (l : List α) (i : Nat), idxM ah x i l = if lead ah x l = l.length then -1 else ((i + lead ah x l : Nat) : Int)
  | [], i => by simp [idxM, lead]
  | y :: l, i => by
    unfold idxM lead
    by_cases h : ah y x = true
    · rw [if_pos h, if_pos h, idxM_lead ah x l (i + 1)]
      simp only [List.length_cons, Nat.add_right_cancel_iff]
      split
      · rfl
      · congr 1; omega
    · rw [if_neg h, if_neg h]; simp

def lessB (a b : Int) : Bool := decide (a < b)

theorem L106_spec {R : Type} (K : AV → List AV → Option R) (k0 : Nat) (l : Ints) (x : Int) (hl : l.length ≤ 1000000) : ∀ (k i : Nat), l.length < k + i → i ≤ l.length →
    L106_2 K k0 k l (lenI l) (i : Int) x = K ⟨.int .i64, (idxM lessB x i (l.drop i) : Int)⟩ [⟨.int .i64, x⟩, ⟨.fn 61 .unit .unit, ((), ())⟩]
  | 0, i, h, hi => by omega
  | k + 1, i, h, hi => by
    rw [L106_2_step, idxN]
    cases hx : l[i]? with
    | none =>
      have := List.getElem?_eq_none_iff.1 hx
      rw [dF (show ¬ ((i : Int) < lenI l) by unfold lenI; omega), List.drop_eq_nil_of_le this]; rfl
    | some y =>
      have hlt := (List.getElem?_eq_some_iff.1 hx).1
      rw [dT (show (i : Int) < lenI l by unfold lenI; omega), w1 (by omega), drop_consN hx]
      simp only [brT, Option.bind_some]
      unfold idxM lessB
      by_cases hq : y < x
      · rw [dT hq]; exact L106_spec K k0 l x hl k (i + 1) (by omega) (by omega)
      · rw [dF hq]; rfl
def G106 : T106 × W106 → Option (U106 × W106) := fun x => if x.1.1.length ≤ 1000000 then some (idxM lessB x.2.1 0 x.1.1, x.2) else none
theorem c106 {R : Type} : CallOK Try.prog (bC ⟨106, A106, B106, R106, G106⟩ : CallSem R) := C106 1000001 fun x y z h R K => by
  unfold G106 at h
  split at h
  · rename_i hb
    have hb : x.1.length ≤ 1000000 := hb
    cases h
    exact (F106_eq K 1000001 x.1 y.1).trans (L106_spec K _ x.1 y.1 hb _ 0 (by omega) (by omega))
  · cases h

theorem L113_spec {R : Type} (K : AV → List AV → Option R) (k0 : Nat) (l : Pends) (x : Pend) (hl : l.length ≤ 1000000) : ∀ (k i : Nat), l.length < k + i → i ≤ l.length →
    L113_2 K G70 k0 k l (lenI l) (i : Int) x = K ⟨.int .i64, (idxM aheadB x i (l.drop i) : Int)⟩ [⟨pendT, x⟩, ⟨.fn 70 .unit .unit, ((), ())⟩]
  | 0, i, h, hi => by omega
  | k + 1, i, h, hi => by
    rw [L113_2_step, idxN]
    cases hx : l[i]? with
    | none =>
      have := List.getElem?_eq_none_iff.1 hx
      rw [dF (show ¬ ((i : Int) < lenI l) by unfold lenI; omega), List.drop_eq_nil_of_le this]; rfl
    | some y =>
      have hlt := (List.getElem?_eq_some_iff.1 hx).1
      rw [dT (show (i : Int) < lenI l by unfold lenI; omega), w1 (by omega), drop_consN hx]
      simp only [brT, Option.bind_some, G70]
      unfold idxM
      cases hq : aheadB y x with
      | true => exact L113_spec K k0 l x hl k (i + 1) (by omega) (by omega)
      | false => rfl
def G113 : T113 × W113 → Option (U113 × W113) := fun x => if x.1.1.length ≤ 1000000 then some (idxM aheadB x.2.1 0 x.1.1, x.2) else none
theorem c113 {R : Type} : CallOK Try.prog (bC ⟨113, A113, B113, R113, G113⟩ : CallSem R) := C113 c70 1000001 fun x y z h R K => by
  unfold G113 at h
  split at h
  · rename_i hb
    have hb : x.1.length ≤ 1000000 := hb
    cases h
    exact (F113_eq K G70 1000001 x.1 y.1).trans (L113_spec K _ x.1 y.1 hb _ 0 (by omega) (by omega))
  · cases h

theorem cut_to {α : Type} (l : List α) (n : Nat) : cut l 0 (n : Int) = l.take n := by simp [cut]
theorem cut_from {α : Type} (l : List α) (n : Nat) : cut l (n : Int) (lenI l) = l.drop n := by simp [cut, lenI]
theorem cut_one {α : Type} (l : List α) : cut l 1 (lenI l) = l.drop 1 := by simp [cut, lenI]
theorem lenI_nat {α : Type} (l : List α) : lenI l = ((l.length : Nat) : Int) := rfl
theorem dc3 {a b c : Prop} [Decidable a] [Decidable b] [Decidable c] (h1 : a) (h2 : b) (h3 : c) : (decide a && decide b && decide c) = true := by simp [h1, h2, h3]
theorem dc4 {a b c d : Prop} [Decidable a] [Decidable b] [Decidable c] [Decidable d] (h1 : a) (h2 : b) (h3 : c) (h4 : d) : (decide a && decide b && decide c && decide d) = true := by simp [h1, h2, h3, h4]

theorem putI_eq (l : Ints) (x : Int) (hl : l.length ≤ 1000000) : F89 G61 G106 0 l x = some (putM lessB x l) := by
  rw [F89_eq, putM_eq]
  have hle := lead_le lessB x l
  have hg : G106 ((l, (), (), ()), x, (), ()) = some (idxM lessB x 0 l, x, (), ()) := if_pos hl
  rw [hg, idxM_lead]
  simp only [Option.bind_some]
  by_cases hn : lead lessB x l = l.length
  · rw [if_pos hn, hn, dT (by omega : (-1 : Int) < 0), List.drop_length, List.take_length]
    have e1 : cut l (lenI l) (lenI l) = [] := by rw [lenI_nat]; exact (cut_from l l.length).trans (List.drop_length)
    have e2 : cut l 0 (lenI l) = l := by rw [lenI_nat, cut_to, List.take_length]
    have hL : (0 : Int) ≤ lenI l := by unfold lenI; omega
    have hz : ∀ {α : Type}, ¬ (lenI ([] : List α) > 0) := fun h => by simp [lenI] at h
    simp only [e1, e2, hL, hz, Int.le_refl, decide_true, decide_false, Bool.and_self, brT, brF, eqI_refl]
    rw [fits_le (by simp; omega), fits_le (by simp [app]; omega)]
    simp [br, app]
  · rw [if_neg hn]
    simp only [Nat.zero_add]
    have hlt : lead lessB x l < l.length := by omega
    generalize lead lessB x l = n at *
    rw [dF (by omega : ¬ ((n : Nat) : Int) < 0)]
    simp only [brF, cut_from, cut_to]
    have hL : (0 : Int) ≤ (n : Int) := by omega
    have hM : (n : Int) ≤ lenI l := by unfold lenI; omega
    simp only [hL, hM, Int.le_refl, decide_true, Bool.and_self, brT, eqI_refl]
    cases hd : l.drop n with
    | nil => have := congrArg List.length hd; simp at this; omega
    | cons z r =>
      have hr := congrArg List.length hd
      simp only [List.length_drop, List.length_cons] at hr
      have h1 : lenI (z :: r) > 0 := by simp [lenI]
      have h2 : (1 : Int) ≤ lenI (z :: r) := by omega
      have hi : idx (z :: r) 0 = some z := idxN (z :: r) 0
      simp only [h1, h2, decide_true, Bool.and_self, brT, cut_one, hi, Option.bind_some]
      rw [fits_le (by simp; omega), fits_le (by simp [app]; omega), fits_le (by simp [app]; omega)]
      show br (!lessB x z) _ _ = _
      cases lessB x z <;> simp [br, app]
def G89 : T89 → Option U89 := fun x => if x.1.length ≤ 1000000 then some (putM lessB x.2.1 x.1) else none
theorem c89 : CtrAll Try.prog ⟨89, A89, R89, G89⟩ := C89 c61 c106 fun x y h => by
  unfold G89 at h
  split at h
  · rename_i hb; exact ⟨0, (putI_eq x.1 x.2.1 hb).trans h⟩
  · cases h

theorem putP_eq (l : Pends) (x : Pend) (hl : l.length ≤ 1000000) : F103 G70 G113 0 l x = some (putM aheadB x l) := by
  rw [F103_eq, putM_eq]
  have hle := lead_le aheadB x l
  have hg : G113 ((l, (), (), ()), x, (), ()) = some (idxM aheadB x 0 l, x, (), ()) := if_pos hl
  rw [hg, idxM_lead]
  simp only [Option.bind_some]
  by_cases hn : lead aheadB x l = l.length
  · rw [if_pos hn, hn, dT (by omega : (-1 : Int) < 0), List.drop_length, List.take_length]
    have e1 : cut l (lenI l) (lenI l) = [] := by rw [lenI_nat]; exact (cut_from l l.length).trans (List.drop_length)
    have e2 : cut l 0 (lenI l) = l := by rw [lenI_nat, cut_to, List.take_length]
    have hL : (0 : Int) ≤ lenI l := by unfold lenI; omega
    have hz : ∀ {α : Type}, ¬ (lenI ([] : List α) > 0) := fun h => by simp [lenI] at h
    simp only [e1, e2, hL, hz, Int.le_refl, decide_true, decide_false, Bool.and_self, brT, brF, eqI_refl]
    rw [fits_le (by simp; omega), fits_le (by simp [app]; omega)]
    simp [br, app]
  · rw [if_neg hn]
    simp only [Nat.zero_add]
    have hlt : lead aheadB x l < l.length := by omega
    generalize lead aheadB x l = n at *
    rw [dF (by omega : ¬ ((n : Nat) : Int) < 0)]
    simp only [brF, cut_from, cut_to]
    have hL : (0 : Int) ≤ (n : Int) := by omega
    have hM : (n : Int) ≤ lenI l := by unfold lenI; omega
    simp only [hL, hM, Int.le_refl, decide_true, Bool.and_self, brT, eqI_refl]
    cases hd : l.drop n with
    | nil => have := congrArg List.length hd; simp at this; omega
    | cons z r =>
      have hr := congrArg List.length hd
      simp only [List.length_drop, List.length_cons] at hr
      have h1 : lenI (z :: r) > 0 := by simp [lenI]
      have h2 : (1 : Int) ≤ lenI (z :: r) := by omega
      have hi : idx (z :: r) 0 = some z := idxN (z :: r) 0
      simp only [h1, h2, decide_true, Bool.and_self, brT, cut_one, hi, Option.bind_some]
      rw [fits_le (by simp; omega), fits_le (by simp [app]; omega), fits_le (by simp [app]; omega)]
      simp only [G70]
      cases aheadB x z <;> simp [br, app]
def G103 : T103 → Option U103 := fun x => if x.1.length ≤ 1000000 then some (putM aheadB x.2.1 x.1) else none
theorem c103 : CtrAll Try.prog ⟨103, A103, R103, G103⟩ := C103 c70 c113 fun x y h => by
  unfold G103 at h
  split at h
  · rename_i hb; exact ⟨0, (putP_eq x.1 x.2.1 hb).trans h⟩
  · cases h

/-! May -/
def MayP (c : Coord) : Prop := c = coord0 ∨
  (1 ≤ c.1 ∧ c.1 ≤ 6) ∧ (1 ≤ c.2.1 ∧ c.2.1 ≤ 8) ∧ (0 ≤ c.2.2.1 ∧ c.2.2.1 ≤ 100) ∧ (1 ≤ c.2.2.2.1 ∧ c.2.2.2.1 ≤ 20) ∧ (0 ≤ c.2.2.2.2.2.2.2 ∧ c.2.2.2.2.2.2.2 ≤ 1048576) ∧
  riseI (-1) c.2.2.2.2.2.1 = true ∧ riseP none c.2.2.2.2.2.2.1 = true ∧
  (c.1 = 1 ∨ c.1 = 5 ∨ c.1 = 6 → c.2.2.2.2.2.1 = [] ∧ c.2.2.2.2.2.2.1 = [] ∧ c.2.2.2.2.2.2.2 = 0) ∧
  (c.1 = 2 → ¬ (c.2.2.2.2.2.1 = [] ∧ c.2.2.2.2.2.2.1 = [])) ∧
  (c.2.2.2.2.1 = 0 ∨ c.1 = 4 ∧ (1 ≤ c.2.2.2.2.1 ∧ c.2.2.2.2.1 ≤ 20) ∧ c.2.2.1 < 100)
/-- a word as a bool -/
noncomputable def B (p : Prop) : Bool := @decide p (Classical.propDecidable p)
theorem B_iff {p : Prop} : B p = true ↔ p := @decide_eq_true_iff p (Classical.propDecidable p)
theorem B_true {p : Prop} (h : p) : B p = true := B_iff.2 h
theorem B_false {p : Prop} (h : ¬ p) : B p = false := by rw [← Bool.not_eq_true, B_iff]; exact h
theorem B_and (p q : Prop) : B (p ∧ q) = (B p && B q) := by
  by_cases hp : p <;> by_cases hq : q
  · rw [B_true ⟨hp, hq⟩, B_true hp, B_true hq]; rfl
  · rw [B_false fun h => hq h.2, B_true hp, B_false hq]; rfl
  · rw [B_false fun h => hp h.1, B_false hp]; rfl
  · rw [B_false fun h => hp h.1, B_false hp]; rfl
theorem B_congr {p q : Prop} (h : p ↔ q) : B p = B q := by rw [propext h]
theorem B_dec {p : Prop} [Decidable p] : B p = decide p := by by_cases h : p <;> simp [h, B_true, B_false]
noncomputable def mayM (c : Coord) : Bool := B (MayP c)
theorem mayM_iff {c : Coord} : mayM c = true ↔ MayP c := B_iff
noncomputable def G21 : T21 → Option U21 := fun c => if Fit c then some (mayM c) else none

theorem mayT {c : Coord} (h : MayP c) : mayM c = true := mayM_iff.2 h
theorem mayF {c : Coord} (h : ¬ MayP c) : mayM c = false := by rw [← Bool.not_eq_true, mayM_iff]; exact h
theorem lenI_zero {α : Type} {l : List α} : lenI l = 0 ↔ l = [] := by unfold lenI; cases l <;> simp; omega

theorem lenI_pos {α : Type} (l : List α) : (lenI l > 0) ↔ ¬ l = [] := by rw [← lenI_zero]; unfold lenI; omega
theorem wlen {α β : Type} {l : List α} {m : List β} (h : l.length ≤ 1000000) (h' : m.length ≤ 1000000) : IntKind.wrap IntKind.i64 (lenI l + lenI m) = lenI l + lenI m := w64 (by unfold lenI; omega) (by unfold lenI; omega)
theorem wlen_pos {α β : Type} (l : List α) (m : List β) : (lenI l + lenI m > 0) ↔ ¬ (l = [] ∧ m = []) := by
  rw [← lenI_zero, ← lenI_zero]
  unfold lenI; omega

def TailP (c : Coord) : Prop := (1 ≤ c.2.1 ∧ c.2.1 ≤ 8) ∧ (0 ≤ c.2.2.1 ∧ c.2.2.1 ≤ 100) ∧ (1 ≤ c.2.2.2.1 ∧ c.2.2.2.1 ≤ 20) ∧ (0 ≤ c.2.2.2.2.2.2.2 ∧ c.2.2.2.2.2.2.2 ≤ 1048576) ∧
  riseI (-1) c.2.2.2.2.2.1 = true ∧ riseP none c.2.2.2.2.2.2.1 = true
theorem J21_15_sp (k0 k : Nat) (c : Coord) (hf : Fit c) : J21_15 G20 G59 G68 G62 k0 (k + 1) c = some (B (TailP c)) := by
  rw [J21_15_eq]
  have g59 : G59 (c.2.2.2.2.2.1, ((), ()), (), ()) = some (riseI (-1) c.2.2.2.2.2.1) := if_pos hf.1
  have g68 : G68 (c.2.2.2.2.2.2.1, ((), ()), (), ()) = some (riseP none c.2.2.2.2.2.2.1) := if_pos hf.2
  simp only [g59, g68, Option.bind_some, br_dec]
  unfold TailP
  generalize riseI (-1) c.2.2.2.2.2.1 = a
  generalize riseP none c.2.2.2.2.2.2.1 = b
  cases a <;> cases b <;> simp only [brT, brF, and_true, and_false, Bool.false_eq_true, eq_self] <;> (repeat' split) <;> first
    | exact congrArg some (B_true (by omega)).symm
    | exact congrArg some (B_false (fun h => h)).symm
    | exact congrArg some (B_false (by omega)).symm

def ThenP (c : Coord) : Prop := c.2.2.2.2.1 = 0 ∨ c.1 = 4 ∧ (1 ≤ c.2.2.2.2.1 ∧ c.2.2.2.2.1 ≤ 20) ∧ c.2.2.1 < 100
theorem J21_13_sp (k0 k : Nat) (c : Coord) (hf : Fit c) : J21_13 G20 G59 G68 G62 (k0 + 1) (k + 1) c = some (B (ThenP c ∧ TailP c)) := by
  rw [J21_13_eq, J21_15_sp _ _ c hf, B_and]
  generalize B (TailP c) = t
  simp only [br_dec, br_ndec, eqI]
  unfold ThenP
  (repeat' split) <;> (congr 1; symm) <;> first
    | (rw [B_true (by omega)]; rfl)
    | (rw [B_false (by omega)]; rfl)

theorem may_eq (k : Nat) (c : Coord) (hf : Fit c) : F21 G20 G59 G68 G62 (k + 1) c = some (mayM c) := by
  rw [F21_eq, J21_3_eq, J21_13_sp _ _ c hf]
  have g20 : G20 (c, 0, 0, 0, 0, 0, [], [], 0) = some (sameM c coord0) := if_pos hf
  simp only [g20, G62, Option.bind_some, eqI, br_dec, br_ndec, wlen hf.1 hf.2, wlen_pos]
  by_cases hs : c.1 = 0
  · rw [if_pos hs]
    congr 1
    unfold sameM
    by_cases hc : c = coord0
    · rw [dT hc, mayT (.inl hc)]
    · rw [dF hc, mayF]
      rintro (h | h)
      · exact hc h
      · have := h.1.1; omega
  · rw [if_neg hs]
    have hc : c ≠ coord0 := fun e => hs (congrArg Prod.fst e)
    have key : mayM c = B (((1 ≤ c.1 ∧ c.1 ≤ 6) ∧ (c.1 = 1 ∨ c.1 = 5 ∨ c.1 = 6 → (c.2.2.2.2.2.1 = [] ∧ c.2.2.2.2.2.2.1 = []) ∧ c.2.2.2.2.2.2.2 = 0) ∧ (c.1 = 2 → ¬ (c.2.2.2.2.2.1 = [] ∧ c.2.2.2.2.2.2.1 = []))) ∧ ThenP c ∧ TailP c) := by
      unfold mayM
      refine B_congr ?_
      unfold MayP ThenP TailP
      constructor
      · rintro (h | ⟨h1, h2, h3, h4, h5, h6, h7, h8, h9, h10⟩)
        · exact absurd h hc
        · exact ⟨⟨h1, fun h => ⟨⟨(h8 h).1, (h8 h).2.1⟩, (h8 h).2.2⟩, h9⟩, h10, h2, h3, h4, h5, h6, h7⟩
      · rintro ⟨⟨h1, h8, h9⟩, h10, h2, h3, h4, h5, h6, h7⟩
        exact .inr ⟨h1, h2, h3, h4, h5, h6, h7, fun h => ⟨(h8 h).1.1, (h8 h).1.2, (h8 h).2⟩, h9, h10⟩
    rw [key]
    generalize (ThenP c ∧ TailP c) = T
    rw [B_and]
    generalize B T = t
    have hw : (whatM c.1 = 1 ∧ (c.1 = 1 ∨ c.1 = 5 ∨ c.1 = 6)) ∨ (whatM c.1 = 3 ∧ (c.1 = 3 ∨ c.1 = 4)) ∨ (whatM c.1 = 2 ∧ c.1 = 2) ∨ (whatM c.1 = 0 ∧ ¬ (1 ≤ c.1 ∧ c.1 ≤ 6)) := by
      unfold whatM
      (repeat' split) <;> omega
    generalize whatM c.1 = m at *
    generalize c.1 = s at *
    by_cases hN : c.2.2.2.2.2.1 = [] ∧ c.2.2.2.2.2.2.1 = []
    · simp only [hN.1, hN.2, true_and, not_true_eq_false, if_false, and_self, imp_false]
      (repeat' split) <;> first
        | omega
        | ((congr 1; symm); rw [B_true (by omega)]; rfl)
        | ((congr 1; symm); rw [B_false (by omega)]; rfl)
    · simp only [hN, false_and, not_false_eq_true, if_true, imp_false, implies_true, and_true]
      (repeat' split) <;> first
        | omega
        | ((congr 1; symm); rw [B_true (by omega)]; rfl)
        | ((congr 1; symm); rw [B_false (by omega)]; rfl)
theorem c21 : CtrAll Try.prog ⟨21, A21, R21, G21⟩ := C21 c20 c59 c68 c62 fun x y h => by
  unfold G21 at h
  split at h
  · rename_i hb; exact ⟨1, (may_eq 0 x hb).trans h⟩
  · cases h
end Go.Ev.R3
