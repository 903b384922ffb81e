import Derived.Test.YtnpcihnfiffghaaEvR1o
set_option linter.unusedVariables false
set_option maxRecDepth 100000
namespace Go.Ev.R1
open Go.Proofs

def end18 (b l : List Int) (ok : Bool) (at_ : Int) : Option rowR.den := br (!ok) (rrv [] 70) (br (!eqI at_ (lenI b)) (rrv [] 70) (rrv l 0))
theorem L18_step (G : NextF) (k0 k : Nat) (b l : List Int) (n : Int) (ok : Bool) (b2 : List Int) (at_ : Int) : L18 G k0 (k + 1) b l n ok b2 at_ =
    br ok (br (decide (n > 0)) ((G ((), (b2, at_))).bind fun z => br (fits l [z.1.1] 8) (L18 G k0 k b (app l [z.1.1]) (IntKind.i64.wrap (n - 1)) z.1.2 z.2.1 z.2.2) none) (end18 b l ok at_)) (end18 b l ok at_) := by kernel_rfl
theorem L19_step (G : GetF) (k0 k : Nat) (b : List Int) (n at_ : Int) (l : List Int) (i : Int) : L19 G k0 (k + 1) b n at_ l i =
    br (decide (i < n)) ((G (b, at_)).bind fun y => br (!eqI y.2.2 0) (rrv [] y.2.2) (br (fits l [y.1] 8) (L19 G k0 k b n y.2.1 (app l [y.1]) (IntKind.i64.wrap (i + 1))) none))
      (br (!eqI at_ (lenI b)) (rrv [] 70) (rrv l 0)) := by kernel_rfl

/-- so many numbers read -/
def goRd (b : List Int) : Nat → Nat → List Int → List Int × Int
  | 0, at_, l => if at_ = b.length then (l, 0) else ([], 70)
  | c + 1, at_, l => if (nx 6 b at_ 0 0).1.2 = true then goRd b c (nx 6 b at_ 0 0).2 (l ++ [(nx 6 b at_ 0 0).1.1]) else ([], 70)

theorem fits8 {l : List Int} {x : Int} (h : l.length ≤ 1000000) : fits l [x] 8 = true := by unfold fits; simp; omega

theorem nextG_eq {b : List Int} {at_ : Nat} (h1 : Bytes b) (h2 : b.length ≤ 1099511627776) : nextG ((), (b, (at_ : Int))) = some ((nx 6 b at_ 0 0).1, (b, ((nx 6 b at_ 0 0).2 : Int))) := by
  unfold nextG
  rw [if_pos ⟨h1, h2, by show (0 : Int) ≤ (at_ : Int); omega⟩]
  simp

theorem eqI_nat (a b : Nat) : eqI (a : Int) (b : Int) = decide (a = b) := by unfold eqI; rw [decide_eq_decide]; omega

theorem L18_dead (G : NextF) (k0 k : Nat) (b l : List Int) (n : Int) (b2 : List Int) (at_ : Int) : L18 G k0 (k + 1) b l n false b2 at_ = rrv [] 70 := by
  rw [L18_step]; rfl

theorem L18_spec (k0 : Nat) (b : List Int) (h1 : Bytes b) (h2 : b.length ≤ 1099511627776) : ∀ (c k at_ : Nat) (l : List Int), c + 1 < k → c ≤ 1000000 → l.length + c ≤ 1000000 → L18 nextG k0 k b l c true b at_ = some (goRd b c at_ l)
  | c, 0, at_, l, h, _, _ => by omega
  | 0, k + 1, at_, l, h, _, hl => by
    rw [L18_step, dF (show ¬ ((0 : Nat) : Int) > 0 by omega)]
    unfold goRd end18 lenI
    rw [eqI_nat]
    by_cases hq : at_ = b.length
    · rw [dT hq, if_pos hq]; rfl
    · rw [dF hq, if_neg hq]; rfl
  | c + 1, k + 1, at_, l, h, hc, hl => by
    rw [L18_step, dT (show ((c + 1 : Nat) : Int) > 0 by omega), nextG_eq h1 h2]
    simp only [Option.bind_some, br, cond_true]
    rw [fits8 (by omega), wrap64 (by omega) (by omega), show (((c + 1 : Nat) : Int) - 1) = ((c : Nat) : Int) by omega]
    unfold goRd
    simp only [cond_true]
    by_cases hq : (nx 6 b at_ 0 0).1.2 = true
    · rw [if_pos hq, hq]
      exact L18_spec k0 b h1 h2 c k _ _ (by omega) (by omega) (by simp [app]; omega)
    · rw [if_neg hq, show (nx 6 b at_ 0 0).1.2 = false by simpa using hq]
      cases k with
      | zero => omega
      | succ k => rw [L18_dead]; rfl

theorem nx_none {b : List Int} {at_ : Nat} (h : b.length ≤ at_) : (nx 6 b at_ 0 0).1.2 = false := by
  unfold nx
  rw [List.getElem?_eq_none h]

theorem get_nat (b : List Int) (at_ : Nat) : get b (at_ : Int) = if (nx 6 b at_ 0 0).1.2 = true then ((nx 6 b at_ 0 0).1.1, ((nx 6 b at_ 0 0).2 : Int), 0) else (0, 0, 70) := by
  unfold get
  by_cases h : (at_ : Int) < 0 ∨ (at_ : Int) > b.length
  · rw [if_pos h, nx_none (by omega)]; rfl
  · rw [if_neg h, Int.toNat_natCast]

theorem L19_spec (k0 : Nat) (b : List Int) (n : Nat) (hn : n ≤ 1000000) (h1 : Bytes b) (h2 : b.length ≤ 1099511627776) : ∀ (k i at_ : Nat) (l : List Int), n < k + i → i ≤ n → l.length + (n - i) ≤ 1000000 → L19 getG k0 k b n at_ l i = some (goRd b (n - i) at_ l)
  | 0, i, at_, l, h, hi, _ => by omega
  | k + 1, i, at_, l, h, hi, hl => by
    rw [L19_step]
    by_cases hq : i = n
    · subst hq
      rw [dF (show ¬ (i : Int) < (i : Int) by omega), Nat.sub_self]
      unfold goRd lenI
      rw [eqI_nat]
      by_cases hq : at_ = b.length
      · rw [dT hq, if_pos hq]; rfl
      · rw [dF hq, if_neg hq]; rfl
    · rw [dT (show (i : Int) < (n : Int) by omega), getG_eq h1 h2, get_nat]
      simp only [Option.bind_some, br, cond_true]
      rw [show n - i = (n - (i + 1)) + 1 by omega]
      unfold goRd
      by_cases hq : (nx 6 b at_ 0 0).1.2 = true
      · rw [if_pos hq, if_pos hq]
        simp only
        rw [show (!eqI 0 0) = false from rfl, fits8 (by omega), wrap64 (by omega) (by omega), show ((i : Int) + 1) = ((i + 1 : Nat) : Int) by omega]
        exact L19_spec k0 b n hn h1 h2 k (i + 1) _ _ (by omega) (by omega) (by simp [app]; omega)
      · rw [if_neg hq, if_neg hq]; rfl

/-- what bytes say as a row -/
def readRow (b : List Int) : List Int × Int :=
  if (nx 6 b 0 0 0).1.2 = true ∧ (nx 6 b 0 0 0).1.1 ≤ b.length then goRd b (nx 6 b 0 0 0).1.1.toNat (nx 6 b 0 0 0).2 [] else ([], 70)

theorem nx_nonneg : ∀ (f : Nat) (b : List Int) (at_ j a : Nat), 0 ≤ (nx f b at_ j a).1.1
  | 0, b, at_, j, a => by unfold nx; simp
  | f + 1, b, at_, j, a => by
    unfold nx
    cases b[at_]? with
    | none => simp
    | some y =>
      simp only
      split
      · exact Int.natCast_nonneg _
      · exact nx_nonneg f b _ _ _

theorem readRow_spec (k0 : Nat) (hk : 200000 ≤ k0) (b : List Int) (h1 : Bytes b) (h2 : b.length ≤ 100000) : F18 nextG k0 b = some (readRow b) := by
  rw [F18_eq, show (0 : Int) = ((0 : Nat) : Int) from rfl, nextG_eq h1 (by omega)]
  simp only [Option.bind_some]
  have hn := nx_nonneg 6 b 0 0 0
  unfold readRow
  by_cases q1 : (nx 6 b 0 0 0).1.1 ≤ b.length
  · rw [dF (show ¬ (nx 6 b 0 0 0).1.1 > lenI b by unfold lenI; omega)]
    simp only [br, cond_false]
    by_cases q2 : (nx 6 b 0 0 0).1.2 = true
    · rw [if_pos ⟨q2, q1⟩, q2]
      have := L18_spec k0 b h1 (by omega) (nx 6 b 0 0 0).1.1.toNat k0 (nx 6 b 0 0 0).2 [] (by omega) (by omega) (by simp; omega)
      rw [show (((nx 6 b 0 0 0).1.1.toNat : Nat) : Int) = (nx 6 b 0 0 0).1.1 by omega] at this
      exact this
    · rw [if_neg (fun e => q2 e.1), show (nx 6 b 0 0 0).1.2 = false by simpa using q2]
      obtain ⟨k, rfl⟩ : ∃ k, k0 = k + 1 := ⟨k0 - 1, by omega⟩
      exact L18_dead nextG (k + 1) k b [] _ _ _
  · rw [dT (show (nx 6 b 0 0 0).1.1 > lenI b by unfold lenI; omega), if_neg (fun e => q1 e.2)]
    simp only [br, cond_true]
    rfl

theorem refReadRow_spec (k0 : Nat) (hk : 200000 ≤ k0) (b : List Int) (h1 : Bytes b) (h2 : b.length ≤ 100000) : F19 getG k0 b = some (readRow b) := by
  have e0 : (!eqI 0 0) = false := rfl
  have e7 : (!eqI 70 0) = true := rfl
  have hg := get_nat b 0
  rw [F19_eq, getG_eq h1 (by omega)]
  simp only [Option.bind_some]
  rw [show (0 : Int) = ((0 : Nat) : Int) from rfl, hg]
  have hn := nx_nonneg 6 b 0 0 0
  unfold readRow
  by_cases q2 : (nx 6 b 0 0 0).1.2 = true
  · rw [if_pos q2]
    simp only [Int.ofNat_zero, e0, br, cond_false]
    by_cases q1 : (nx 6 b 0 0 0).1.1 ≤ b.length
    · rw [if_pos ⟨q2, q1⟩, dF (show ¬ (nx 6 b 0 0 0).1.1 > lenI b by unfold lenI; omega)]
      simp only [cond_false]
      have := L19_spec k0 b (nx 6 b 0 0 0).1.1.toNat (by omega) h1 (by omega) k0 0 (nx 6 b 0 0 0).2 [] (by omega) (by omega) (by simp; omega)
      rw [show (((nx 6 b 0 0 0).1.1.toNat : Nat) : Int) = (nx 6 b 0 0 0).1.1 by omega] at this
      exact this
    · rw [if_neg (fun e => q1 e.2), dT (show (nx 6 b 0 0 0).1.1 > lenI b by unfold lenI; omega)]
      simp only [cond_true]
      rfl
  · rw [if_neg q2, if_neg (fun e => q2 e.1)]
    simp only [Int.ofNat_zero, e7, br, cond_true]
    rfl
end Go.Ev.R1
