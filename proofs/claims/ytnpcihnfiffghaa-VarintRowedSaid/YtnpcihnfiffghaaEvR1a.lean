import Derived.Test.YtnpcihnfiffghaaEvR1Env
import Derived.Test.YtnpcihnfiffghaaEvR1p
set_option linter.unusedVariables false
set_option maxRecDepth 100000
namespace Go.Ev.R1
open Go.Proofs

theorem mixed : Try.prog.follows .mixedOrders = true := by kernel_rfl

/-! Len -/
noncomputable def E14 (k : Nat) : Env := mk [] [(14, Try.f14)] k
def A14 : List (Nat × List Nat) := (look ann 14).getD []
def S14 (n acc : Int) : St := ⟨[tI .i64 n, t0, t0, tI .i64 acc, t0, t0, t0, t0, t0, t0, t0, t0, t0, t0, t0, t0, t0, t0, t0], [], List.replicate 19 none⟩
noncomputable def L14 (k0 k : Nat) (n acc : Int) : Option Int :=
  lp (E14 k0) (evCall (E14 k0) 0) A14 (sub [1, 1, 1, 0, 1, 0, 0] (bodyOf Try.f14)) 0 k (S14 n acc)
    (blockK 0 (seqK (E14 k0) (evCall (E14 k0) 0) A14 (sub [1, 1, 1, 1] (bodyOf Try.f14)) (retK (E14 k0) Try.f14.results.toList fun v _ => castTo (.int .i64) v)))

theorem L14_step (k0 k : Nat) (n acc : Int) : L14 k0 (k + 1) n acc = br (decide (n > 0)) (L14 k0 k (n.fdiv 128) (IntKind.i64.wrap (acc + 1))) (some acc) := by kernel_rfl

theorem sem14 (k0 : Nat) (n : Int) : sem (E14 k0) 1 14 (.int .i64) (.int .i64) n = br (decide (n < 0)) (some 0) (br (decide (n > 1099511627776)) (some (0 : Int)) (L14 k0 k0 (n.fdiv 128) 1)) := by kernel_rfl

theorem fdiv128 (m : Nat) : Int.fdiv (m : Int) 128 = ((m / 128 : Nat) : Int) := by
  rw [Int.fdiv_eq_ediv_of_nonneg _ (by omega)]; simp

theorem L14_spec (k0 : Nat) : ∀ (k m : Nat) (acc : Int), m < 128 ^ k → 0 ≤ acc → acc + k ≤ 4611686018427387904 → L14 k0 (k + 1) m acc = some (if m = 0 then acc else acc + (enc m).length)
  | k, m, acc, hm, h0, h1 => by
    rw [L14_step]
    by_cases hz : m = 0
    · subst hz
      simp [br]
    · rw [if_neg hz]
      have hpos : decide ((m : Int) > 0) = true := by simp; omega
      rw [hpos]
      cases k with
      | zero => simp at hm; omega
      | succ k =>
        rw [fdiv128, wrap64 (by omega) (by omega)]
        have := L14_spec k0 k (m / 128) (acc + 1) (by rw [Nat.pow_succ] at hm; omega) (by omega) (by omega)
        show L14 k0 (k + 1) ((m / 128 : Nat) : Int) (acc + 1) = _
        rw [this]
        by_cases hlt : m < 128
        · rw [if_pos (by omega), enc_lt hlt]; simp
        · rw [if_neg (by omega), enc_ge hlt]
          simp only [List.length_cons, Option.some.injEq]
          omega

theorem len_spec (n : Int) : sem (E14 10) 1 14 (.int .i64) (.int .i64) n = some (vlen n) := by
  rw [sem14]
  unfold vlen
  by_cases h1 : n < 0
  · simp [br, h1]; rfl
  · by_cases h2 : n > 1099511627776
    · simp [br, h1, h2]; rfl
    · have e : n = ((n.toNat : Nat) : Int) := by omega
      rw [if_neg (by omega)]
      have d1 : decide (n < 0) = false := by simp; omega
      have d2 : decide (n > 1099511627776) = false := by simp; omega
      rw [d1, d2]
      show L14 10 10 (n.fdiv 128) 1 = _
      rw [e, fdiv128]
      have := L14_spec 10 9 (n.toNat / 128) 1 (by omega) (by omega) (by omega)
      rw [this]
      simp only [Int.toNat_natCast]
      by_cases hlt : n.toNat < 128
      · rw [if_pos (by omega), enc_lt hlt]; rfl
      · rw [if_neg (by omega), enc_ge hlt]
        simp only [List.length_cons, Option.some.injEq]
        omega

def lenC : Ctr := ⟨14, .int .i64, .int .i64, fun (n : Int) => some (vlen n)⟩

theorem fn14 : FnsOK Try.prog [(14, Try.f14)] := ⟨⟨Try.func14, by decide⟩, trivial⟩
theorem lenC_ok : CtrAll Try.prog lenC := by
  refine ctr_of mixed ⟨Try.f14, Try.func14, by decide, rfl⟩ rfl rfl ?_
  intro x y h
  refine ⟨E14 10, 1, base.env (trivial : CtrsOK Try.prog []) fn14, ?_⟩
  exact (len_spec x).trans h
end Go.Ev.R1
