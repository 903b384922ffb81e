import Derived.Test.YtggobapgdflchaaEvKit
set_option linter.unusedVariables false
namespace Go.Ev

/-! Loops over a row, once. -/

theorem idxN {α : Type} (b : List α) (i : Nat) : idx b (i : Int) = b[i]? := by
  unfold idx
  rw [if_pos (by omega)]; simp

theorem dT {p : Prop} [Decidable p] (h : p) : decide p = true := decide_eq_true h
theorem dF {p : Prop} [Decidable p] (h : ¬ p) : decide p = false := decide_eq_false h
theorem eqI_refl (x : Int) : eqI x x = true := by simp [eqI]
theorem eqI_ne {x y : Int} (h : x ≠ y) : eqI x y = false := by simp [eqI, h]
theorem w64 {x : Int} (h1 : -9223372036854775808 ≤ x) (h2 : x ≤ 9223372036854775807) : IntKind.i64.wrap x = x := by
  simp only [IntKind.wrap, IntKind.signed, IntKind.bits]
  simp
  omega
theorem drop_consN {α : Type} {l : List α} {i : Nat} {x : α} (h : l[i]? = some x) : l.drop i = x :: l.drop (i + 1) := by
  have hlt := (List.getElem?_eq_some_iff.1 h).1
  rw [List.drop_eq_getElem_cons hlt, (List.getElem?_eq_some_iff.1 h).2]

/-- a row gone over: at each place an end, or a state to go on with -/
def scan {α S R : Type} (f : Nat → S → α → R ⊕ S) (fin : S → R) : Nat → List α → S → R
  | _, [], s => fin s
  | i, x :: l, s => match f i s x with
    | .inl r => r
    | .inr s' => scan f fin (i + 1) l s'

theorem scan_spec {α S R : Type} (l : List α) (hl : l.length ≤ 1099511627776) (L : Nat → Int → S → Option R) (f : Nat → S → α → R ⊕ S) (fin : S → R) (Inv : Nat → S → Prop)
    (hend : ∀ k (i : Nat) s, Inv i s → i = l.length → L (k + 1) i s = some (fin s))
    (hstep : ∀ k (i : Nat) s x, Inv i s → l[i]? = some x → i < l.length → L (k + 1) i s = match f i s x with | .inl r => some r | .inr s' => L k ((i + 1 : Nat) : Int) s')
    (hinv : ∀ (i : Nat) s x s', Inv i s → l[i]? = some x → f i s x = .inr s' → Inv (i + 1) s') :
    ∀ (k i : Nat) s, l.length < k + i → i ≤ l.length → Inv i s → L k i s = some (scan f fin i (l.drop i) s)
  | 0, i, s, h, hi, _ => by omega
  | k + 1, i, s, h, hi, hv => by
    cases hx : l[i]? with
    | none =>
      have := List.getElem?_eq_none_iff.1 hx
      rw [hend k i s hv (by omega), List.drop_eq_nil_of_le this]; rfl
    | some x =>
      have hlt := (List.getElem?_eq_some_iff.1 hx).1
      rw [hstep k i s x hv hx hlt, drop_consN hx]
      unfold scan
      cases hf : f i s x with
      | inl r => rfl
      | inr s' =>
        simp only
        exact scan_spec l hl L f fin Inv hend hstep hinv k (i + 1) s' (by omega) (by omega) (hinv i s x s' hv hx hf)

/-- the same, with nothing to keep -/
theorem scan_spec0 {α S R : Type} (l : List α) (hl : l.length ≤ 1099511627776) (L : Nat → Int → S → Option R) (f : Nat → S → α → R ⊕ S) (fin : S → R)
    (hend : ∀ k (i : Nat) s, i = l.length → L (k + 1) i s = some (fin s))
    (hstep : ∀ k (i : Nat) s x, l[i]? = some x → i < l.length → L (k + 1) i s = match f i s x with | .inl r => some r | .inr s' => L k ((i + 1 : Nat) : Int) s')
    (k : Nat) (s : S) (h : l.length < k) : L k 0 s = some (scan f fin 0 l s) := by
  have := scan_spec l hl L f fin (fun _ _ => True) (fun k i s _ => hend k i s) (fun k i s x _ => hstep k i s x) (fun _ _ _ _ _ _ _ => trivial) k 0 s (by omega) (by omega) trivial
  simpa using this

theorem brT {α : Type} (a b : α) : br true a b = a := rfl
theorem brF {α : Type} (a b : α) : br false a b = b := rfl
theorem br_ite {α : Type} (p : Prop) [Decidable p] (a b : α) : br (decide p) a b = if p then a else b := by
  by_cases h : p <;> simp [br, h]
theorem both_self {α : Type} (a : Option α) : both a a = a := by unfold both; simp
theorem br_both {α : Type} (c : Bool) (a b : α) : br c (some a) (some b) = some (br c a b) := by cases c <;> rfl
end Go.Ev
