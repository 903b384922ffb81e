import Derived.Test.YtnpcihnfiffghaaEvKit
set_option linter.unusedVariables false
namespace Go.Ev.R1

/-- a number's bytes -/
def enc (n : Nat) : List Int := if h : n < 128 then [(n : Int)] else (128 + (n % 128 : Nat) : Int) :: enc (n / 128)
termination_by n
decreasing_by omega

theorem enc_lt {n : Nat} (h : n < 128) : enc n = [(n : Int)] := by rw [enc]; simp [h]
theorem enc_ge {n : Nat} (h : ¬ n < 128) : enc n = (128 + (n % 128 : Nat) : Int) :: enc (n / 128) := by rw [enc]; simp [h]

theorem enc_length_pos (n : Nat) : 0 < (enc n).length := by
  by_cases h : n < 128
  · rw [enc_lt h]; simp
  · rw [enc_ge h]; simp

theorem enc_length_le : ∀ (k n : Nat), n < 128 ^ k → 0 < k → (enc n).length ≤ k
  | 0, n, h, h0 => by omega
  | k + 1, n, h, _ => by
    by_cases hn : n < 128
    · rw [enc_lt hn]; simp
    · rw [enc_ge hn]
      have hk : 0 < k := by
        cases k with
        | zero => simp at h; omega
        | succ k => omega
      have := enc_length_le k (n / 128) (by rw [Nat.pow_succ] at h; omega) hk
      simp only [List.length_cons]; omega

/-- the greatest number that is written -/
def vmax : Nat := 1099511627776

def vlen (n : Int) : Int := if n < 0 ∨ n > 1099511627776 then 0 else ((enc n.toNat).length : Int)

theorem wrap64 {x : Int} (h1 : -9223372036854775808 ≤ x) (h2 : x ≤ 9223372036854775807) : IntKind.i64.wrap x = x := by
  simp only [IntKind.wrap, IntKind.signed, IntKind.bits]
  simp
  omega
end Go.Ev.R1
