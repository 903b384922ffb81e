import Derived.Test.YtnpcihnfiffghaaEvR1m
set_option linter.unusedVariables false
set_option maxRecDepth 100000
namespace Go.Ev.R1
open Go.Proofs

theorem L17_step (Gp : PutF) (k0 k : Nat) (l : List Int) (b : List Int) (i : Int) : L17 Gp k0 (k + 1) l b i =
    br (decide (i < lenI l)) ((idx l i).bind fun y => (Gp (b, y)).bind fun z => br (!eqI z.2 0) (pv [] z.2) (L17 Gp k0 k l z.1 (IntKind.i64.wrap (i + 1)))) (pv b 0) := by kernel_rfl
theorem L20_step (k0 k : Nat) (l m : List Int) (i : Int) : L20 k0 (k + 1) l m i =
    br (decide (i < lenI l)) ((idx l i).bind fun y => (idx m i).bind fun z => br (!eqI y z) (some false) (L20 k0 k l m (IntKind.i64.wrap (i + 1)))) (some true) := by kernel_rfl

/-- a row's bytes, number by number -/
def goR : List Int → List Int → List Int × Int
  | b, [] => (b, 0)
  | b, x :: l => if (put b x).2 = 0 then goR (put b x).1 l else ([], (put b x).2)

theorem put_cases (b : List Int) (x : Int) : (put b x = ([], 2)) ∨ (put b x = (b ++ enc x.toNat, 0) ∧ 0 ≤ x ∧ x ≤ 1099511627776) := by
  unfold put
  split
  · exact .inl rfl
  · exact .inr ⟨rfl, by omega, by omega⟩

theorem drop_cons {l : List Int} {i : Nat} {x : Int} (h : l[i]? = some x) : l.drop i = x :: l.drop (i + 1) := by
  have hlt := (List.getElem?_eq_some_iff.1 h).1
  rw [List.drop_eq_getElem_cons hlt, (List.getElem?_eq_some_iff.1 h).2]

theorem L16_dead (k0 : Nat) (l : List Int) (hl : l.length ≤ 1099511627776) : ∀ (k i : Nat), l.length < k + i → i ≤ l.length → L16 putG k0 k l (lenI l) i [] 2 = pv [] 2
  | 0, i, h, hi => by omega
  | k + 1, i, h, hi => by
    rw [L16_step, idx_nat]
    cases hx : l[i]? with
    | none =>
      have := List.getElem?_eq_none_iff.1 hx
      rw [dF (show ¬ ((i : Int) < lenI l) by unfold lenI; omega)]; rfl
    | some x =>
      have := (List.getElem?_eq_some_iff.1 hx).1
      rw [dT (show (i : Int) < lenI l by unfold lenI; omega)]
      simp only [Option.bind_some, br, cond_true]
      rw [eqI_ne (by omega : (2 : Int) ≠ 0)]
      simp only [cond_false]
      rw [wrap64 (by omega) (by omega), show ((i : Int) + 1) = ((i + 1 : Nat) : Int) by omega]
      exact L16_dead k0 l hl k (i + 1) (by omega) (by omega)

theorem L16_spec (k0 : Nat) (l : List Int) (hl : l.length ≤ 100000) : ∀ (k i : Nat) (b : List Int), l.length < k + i → i ≤ l.length → b.length + 6 * (l.length - i) ≤ 1000000 → L16 putG k0 k l (lenI l) i b 0 = some (goR b (l.drop i))
  | 0, i, b, h, hi, hb => by omega
  | k + 1, i, b, h, hi, hb => by
    rw [L16_step, idx_nat]
    cases hx : l[i]? with
    | none =>
      have := List.getElem?_eq_none_iff.1 hx
      rw [dF (show ¬ ((i : Int) < lenI l) by unfold lenI; omega), List.drop_eq_nil_of_le this]; rfl
    | some x =>
      have := (List.getElem?_eq_some_iff.1 hx).1
      rw [dT (show (i : Int) < lenI l by unfold lenI; omega), drop_cons hx]
      simp only [Option.bind_some, br, cond_true, eqI_refl]
      rw [putG_eq (by omega)]
      simp only [Option.bind_some]
      rw [wrap64 (by omega) (by omega), show ((i : Int) + 1) = ((i + 1 : Nat) : Int) by omega]
      unfold goR
      rcases put_cases b x with hp | ⟨hp, x0, x1⟩
      · rw [hp]
        simp only
        rw [if_neg (by omega)]
        exact L16_dead k0 l (by omega) k (i + 1) (by omega) (by omega)
      · rw [hp]
        simp only
        rw [if_pos trivial]
        have h6 := enc_len6 (n := x.toNat) (by omega)
        exact L16_spec k0 l hl k (i + 1) _ (by omega) (by omega) (by simp; omega)

theorem L17_spec (k0 : Nat) (l : List Int) (hl : l.length ≤ 100000) : ∀ (k i : Nat) (b : List Int), l.length < k + i → i ≤ l.length → b.length + 6 * (l.length - i) ≤ 1000000 → L17 putG k0 k l b i = some (goR b (l.drop i))
  | 0, i, b, h, hi, hb => by omega
  | k + 1, i, b, h, hi, hb => by
    rw [L17_step, idx_nat]
    cases hx : l[i]? with
    | none =>
      have := List.getElem?_eq_none_iff.1 hx
      rw [dF (show ¬ ((i : Int) < lenI l) by unfold lenI; omega), List.drop_eq_nil_of_le this]; rfl
    | some x =>
      have := (List.getElem?_eq_some_iff.1 hx).1
      rw [dT (show (i : Int) < lenI l by unfold lenI; omega), drop_cons hx]
      simp only [Option.bind_some, br, cond_true]
      rw [putG_eq (by omega)]
      simp only [Option.bind_some]
      rw [wrap64 (by omega) (by omega), show ((i : Int) + 1) = ((i + 1 : Nat) : Int) by omega]
      unfold goR
      rcases put_cases b x with hp | ⟨hp, x0, x1⟩
      · rw [hp]
        simp only
        rw [if_neg (by omega), eqI_ne (by omega : (2 : Int) ≠ 0)]
        rfl
      · rw [hp]
        simp only
        rw [if_pos trivial, eqI_refl]
        have h6 := enc_len6 (n := x.toNat) (by omega)
        exact L17_spec k0 l hl k (i + 1) _ (by omega) (by omega) (by simp; omega)

/-- a row's bytes -/
def row (l : List Int) : List Int × Int := goR (enc l.length) l

theorem put_len (l : List Int) (h : l.length ≤ 1099511627776) : put [] (lenI l) = (enc l.length, 0) := by
  unfold put lenI
  rw [if_neg (by omega)]; simp

theorem row_spec (l : List Int) (h : l.length ≤ 100000) : F16 putG 200000 l = some (row l) := by
  rw [F16_eq, putG_eq (by simp), put_len l (by omega)]
  have h6 := enc_len6 (n := l.length) (by omega)
  exact L16_spec 200000 l h 200000 0 (enc l.length) (by omega) (by omega) (by omega)
theorem refRow_spec (l : List Int) (h : l.length ≤ 100000) : F17 putG 200000 l = some (row l) := by
  rw [F17_eq, putG_eq (by simp), put_len l (by omega)]
  have h6 := enc_len6 (n := l.length) (by omega)
  exact L17_spec 200000 l h 200000 0 (enc l.length) (by omega) (by omega) (by omega)

theorem L20_spec (k0 : Nat) (l m : List Int) (hl : l.length ≤ 1099511627776) (he : l.length = m.length) : ∀ (k i : Nat), l.length < k + i → i ≤ l.length → L20 k0 k l m i = some (decide (l.drop i = m.drop i))
  | 0, i, h, hi => by omega
  | k + 1, i, h, hi => by
    rw [L20_step, idx_nat, idx_nat]
    cases hx : l[i]? with
    | none =>
      have := List.getElem?_eq_none_iff.1 hx
      rw [dF (show ¬ ((i : Int) < lenI l) by unfold lenI; omega), List.drop_eq_nil_of_le this, List.drop_eq_nil_of_le (by omega)]; simp [br]
    | some x =>
      have hlt := (List.getElem?_eq_some_iff.1 hx).1
      have hy : m[i]? = some m[i] := List.getElem?_eq_getElem (by omega)
      rw [dT (show (i : Int) < lenI l by unfold lenI; omega), hy, drop_cons hx, drop_cons hy]
      simp only [Option.bind_some, br, cond_true]
      by_cases hq : x = m[i]
      · rw [← hq, eqI_refl, wrap64 (by omega) (by omega), show ((i : Int) + 1) = ((i + 1 : Nat) : Int) by omega]
        simp only [Bool.not_true, cond_false]
        rw [L20_spec k0 l m hl he k (i + 1) (by omega) (by omega)]
        simp
      · rw [eqI_ne hq, dF (fun e : x :: l.drop (i + 1) = m[i] :: m.drop (i + 1) => hq (by injection e))]
        rfl

theorem ints_spec (l m : List Int) (hl : l.length ≤ 100000) : F20 200000 l m = some (decide (l = m)) := by
  rw [F20_eq]
  by_cases h : l.length = m.length
  · have : eqI (lenI l) (lenI m) = true := by unfold lenI; rw [h]; exact eqI_refl _
    rw [this]
    have := L20_spec 200000 l m (by omega) h 200000 0 (by omega) (by omega)
    simpa [br] using this
  · rw [eqI_ne (show lenI l ≠ lenI m by unfold lenI; omega)]
    have : l ≠ m := fun e => h (by rw [e])
    simp [br, this]
end Go.Ev.R1
