import Derived.Test.YtnpcihnfiffghaaEvR1d
set_option linter.unusedVariables false
set_option maxRecDepth 100000
namespace Go.Ev.R1
open Go.Proofs

theorem tdiv128 (n : Nat) : Int.tdiv (n : Int) 128 = ((n / 128 : Nat) : Int) := by
  rw [Int.tdiv_eq_ediv_of_nonneg (by omega)]; simp
theorem tmod128 (n : Nat) : Int.tmod (n : Int) 128 = ((n % 128 : Nat) : Int) := by
  rw [Int.tmod_eq_emod_of_nonneg (by omega)]; simp

theorem L11_spec (k0 : Nat) : ∀ (k n : Nat) (l : List Int), (enc n).length ≤ k → n ≤ 1099511627776 → l.length + (enc n).length ≤ 140737488355328 → L11 k0 k n l = pv (l ++ enc n) 0
  | 0, n, l, h, _, _ => by have := enc_length_pos n; omega
  | k + 1, n, l, h, hb, hf => by
    rw [L11_step]
    by_cases hlt : n < 128
    · rw [enc_lt hlt] at hf ⊢
      simp only [List.length_singleton] at hf
      have d1 : decide ((n : Int) ≥ 128) = false := by simp; omega
      rw [d1, wrap8 n, show n % 256 = n by omega]
      show br (fits l [(n : Int)] 1) _ _ = _
      rw [fits_of (by simpa using hf)]
      rfl
    · rw [enc_ge hlt] at h hf ⊢
      simp only [List.length_cons] at h hf ⊢
      have d1 : decide ((n : Int) ≥ 128) = true := by simp; omega
      have e1 : IntKind.u8.wrap (IntKind.i64.wrap (128 + Int.tmod (n : Int) 128)) = 128 + ((n % 128 : Nat) : Int) := by
        rw [tmod128, wrap64 (by omega) (by omega), show (128 + ((n % 128 : Nat) : Int)) = ((128 + n % 128 : Nat) : Int) by omega, wrap8]
        omega
      have e2 : IntKind.i64.wrap (Int.tdiv (n : Int) 128) = ((n / 128 : Nat) : Int) := by rw [tdiv128, wrap64 (by omega) (by omega)]
      rw [d1, e1, e2, fits_of (by simp; omega)]
      show L11 k0 k _ _ = _
      rw [L11_spec k0 k (n / 128) _ (by omega) (by omega) (by simp [app]; omega)]
      simp [app]

theorem refPut_spec (b : List Int) (n : Int) (hb : b.length ≤ 1099511627776) : F11 10 b n = some (put b n) := by
  rw [F11_eq]
  unfold put
  by_cases h1 : n < 0
  · have d : decide (n < 0) = true := by simp [h1]
    rw [d, if_pos (.inl h1)]; rfl
  · have d : decide (n < 0) = false := by simp; omega
    rw [d]
    by_cases h2 : n > 1099511627776
    · have d : decide (n > 1099511627776) = true := by simp [h2]
      rw [d, if_pos (.inr h2)]; rfl
    · have d : decide (n > 1099511627776) = false := by simp; omega
      rw [d, if_neg (by omega), fits_of (by simp; omega)]
      show L11 10 10 n (app [] b) = _
      have e : n = ((n.toNat : Nat) : Int) := by omega
      have h6 := enc_len6 (n := n.toNat) (by omega)
      have := L11_spec 10 10 n.toNat (app [] b) (by omega) (by omega) (by simp [app]; omega)
      rw [← e] at this
      rw [this]; rfl

def refPutC : Ctr := ⟨11, .pr bytesT (.int .i64), putR, putG⟩
theorem fn11 : FnsOK Try.prog [(11, Try.f11)] := ⟨⟨Try.func11, by decide⟩, trivial⟩
theorem refPutC_ok : CtrAll Try.prog refPutC := by
  refine ctr_of mixed ⟨Try.f11, Try.func11, by decide, rfl⟩ rfl rfl ?_
  intro x y h
  refine ⟨E11 10, 1, base.env (trivial : CtrsOK Try.prog []) fn11, ?_⟩
  have h : putG x = some y := h
  unfold putG at h
  split at h
  · rename_i hb
    exact (refPut_spec x.1 x.2 hb).trans h
  · cases h

/-! rovingref01.Get -/
def n13 (n u y : Int) : Int := IntKind.i64.wrap (n + IntKind.i64.wrap (u * IntKind.i64.wrap (Int.tmod y 128)))

theorem L13_step (k0 k : Nat) (b : List Int) (at_ n u i : Int) : L13 k0 (k + 1) b at_ n u i =
    br (decide (i < lenI b)) (br (decide (i < IntKind.i64.wrap (at_ + 6)))
      ((idx b i).bind fun y => (idx b i).bind fun y1 => br (decide (y1 < 128))
        (br (decide (n13 n u y > 1099511627776)) (gv 0 0 70)
          (br (decide (i > at_)) ((idx b i).bind fun y2 => br (eqI y2 0) (gv 0 0 70) (gv (n13 n u y) (IntKind.i64.wrap (i + 1)) 0)) (gv (n13 n u y) (IntKind.i64.wrap (i + 1)) 0)))
        (L13 k0 k b at_ (n13 n u y) (IntKind.i64.wrap (u * 128)) (IntKind.i64.wrap (i + 1))))
      (gv 0 0 70)) (gv 0 0 70) := by kernel_rfl

theorem n13_eq {n y j : Nat} (hn : n < 128 ^ j) (hy : y < 256) (hj : j < 6) : n13 (n : Int) ((128 ^ j : Nat) : Int) (y : Int) = ((n + y % 128 * 128 ^ j : Nat) : Int) := by
  unfold n13
  have hp : (128 : Nat) ^ j ≤ 128 ^ 5 := Nat.pow_le_pow_right (by omega) (by omega)
  have h5 : (128 : Nat) ^ 5 = 34359738368 := by decide
  have hm : y % 128 * 128 ^ j ≤ 127 * 34359738368 := Nat.mul_le_mul (by omega) (by omega)
  have e1 : IntKind.i64.wrap ((y % 128 : Nat) : Int) = ((y % 128 : Nat) : Int) := wrap64 (by omega) (by omega)
  have e2 : ((128 ^ j : Nat) : Int) * ((y % 128 : Nat) : Int) = ((y % 128 * 128 ^ j : Nat) : Int) := by rw [← Int.natCast_mul, Nat.mul_comm]
  rw [tmod128, e1, e2, wrap64 (x := ((y % 128 * 128 ^ j : Nat) : Int)) (by omega) (by omega), wrap64 (by omega) (by omega)]
  omega

def ans (r : (Int × Bool) × Nat) : Option getR.den := if r.1.2 = true then gv r.1.1 (r.2 : Int) 0 else gv 0 0 70

theorem L13_spec (k0 : Nat) (b : List Int) (hb : Bytes b) (hl : b.length ≤ 1099511627776) (at_ : Nat) : ∀ (f k n j : Nat), f < k → j + f = 6 → n < 128 ^ j → at_ ≤ b.length →
    L13 k0 k b (at_ : Int) (n : Int) ((128 ^ j : Nat) : Int) ((at_ + j : Nat) : Int) = ans (nx f b (at_ + j) j n)
  | f, 0, n, j, h, _, _, _ => by omega
  | 0, k + 1, n, j, h, hj, hn, ha => by
    rw [L13_step]
    have e : IntKind.i64.wrap ((at_ : Int) + 6) = (at_ : Int) + 6 := wrap64 (by omega) (by omega)
    have : decide (((at_ + j : Nat) : Int) < (at_ : Int) + 6) = false := by simp; omega
    rw [e, this]
    cases decide (((at_ + j : Nat) : Int) < lenI b) <;> rfl
  | f + 1, k + 1, n, j, h, hj, hn, ha => by
    rw [L13_step]
    have e : IntKind.i64.wrap ((at_ : Int) + 6) = (at_ : Int) + 6 := wrap64 (by omega) (by omega)
    have d1 : decide (((at_ + j : Nat) : Int) < (at_ : Int) + 6) = true := by simp; omega
    rw [e, d1, idx_nat]
    unfold nx
    cases hy : b[at_ + j]? with
    | none =>
      have hlen := List.getElem?_eq_none_iff.1 hy
      have d2 : decide (((at_ + j : Nat) : Int) < lenI b) = false := by rw [decide_eq_false_iff_not]; unfold lenI; omega
      rw [d2]
      rfl
    | some y =>
      have hlen := (List.getElem?_eq_some_iff.1 hy).1
      have d2 : decide (((at_ + j : Nat) : Int) < lenI b) = true := by rw [decide_eq_true_iff]; unfold lenI; omega
      obtain ⟨y0, y1⟩ := hb y (List.mem_of_getElem? hy)
      have ey : y = ((y.toNat : Nat) : Int) := by omega
      have hn13 := n13_eq (y := y.toNat) hn (by omega) (by omega : j < 6)
      rw [← ey] at hn13
      have hn' : n + y.toNat % 128 * 128 ^ j < 128 ^ (j + 1) := by
        have h3 : y.toNat % 128 < 128 := Nat.mod_lt _ (by omega)
        calc n + y.toNat % 128 * 128 ^ j < 128 ^ j + 127 * 128 ^ j := by
              have := Nat.mul_le_mul_right (128 ^ j) (show y.toNat % 128 ≤ 127 by omega)
              omega
          _ = 128 ^ (j + 1) := by rw [Nat.pow_succ]; omega
      rw [d2]
      simp only [Option.bind_some, hn13]
      have e3 : IntKind.i64.wrap (((at_ + j : Nat) : Int) + 1) = ((at_ + (j + 1) : Nat) : Int) := by rw [wrap64 (by omega) (by omega)]; omega
      rw [e3]
      by_cases hlt : y < 128
      · rw [if_pos hlt]
        have d4 : decide (y < 128) = true := by simp [hlt]
        rw [d4]
        simp only [br, cond_true]
        unfold ans vmax
        simp only
        by_cases hv : n + y.toNat % 128 * 128 ^ j ≤ 1099511627776
        · have d5 : decide (((n + y.toNat % 128 * 128 ^ j : Nat) : Int) > 1099511627776) = false := by rw [decide_eq_false_iff_not]; omega
          have d6 : decide (n + y.toNat % 128 * 128 ^ j ≤ 1099511627776) = true := by rw [decide_eq_true_iff]; exact hv
          rw [d5, d6]
          simp only [cond_false, Bool.true_and]
          by_cases hz : j = 0
          · have d7 : decide (((at_ + j : Nat) : Int) > (at_ : Int)) = false := by rw [decide_eq_false_iff_not]; omega
            rw [d7]
            simp [hz]
          · have d7 : decide (((at_ + j : Nat) : Int) > (at_ : Int)) = true := by rw [decide_eq_true_iff]; omega
            rw [d7]
            simp only [cond_true]
            by_cases hy0 : y = 0
            · have d8 : eqI y 0 = true := by simp [eqI, hy0]
              rw [d8]
              simp [hy0, hz]
            · have d8 : eqI y 0 = false := by simp [eqI, hy0]
              have d9 : decide (0 < y) = true := by rw [decide_eq_true_iff]; omega
              rw [d8, d9]
              simp [Nat.add_assoc]
        · have d5 : decide (((n + y.toNat % 128 * 128 ^ j : Nat) : Int) > 1099511627776) = true := by rw [decide_eq_true_iff]; omega
          have d6 : decide (n + y.toNat % 128 * 128 ^ j ≤ 1099511627776) = false := by rw [decide_eq_false_iff_not]; exact hv
          rw [d5, d6]
          simp
      · rw [if_neg hlt]
        have d4 : decide (y < 128) = false := by simp; omega
        rw [d4]
        simp only [br, cond_true, cond_false]
        have hp : (128 : Nat) ^ j ≤ 128 ^ 5 := Nat.pow_le_pow_right (by omega) (by omega)
        have h5 : (128 : Nat) ^ 5 = 34359738368 := by decide
        have e4 : IntKind.i64.wrap (((128 ^ j : Nat) : Int) * 128) = ((128 ^ (j + 1) : Nat) : Int) := by
          rw [wrap64 (by omega) (by omega), Nat.pow_succ]; omega
        rw [e4]
        exact L13_spec k0 b hb hl at_ f k _ (j + 1) (by omega) (by omega) hn' ha

theorem refGet_spec (b : List Int) (at_ : Int) (h1 : Bytes b) (h2 : b.length ≤ 1099511627776) : F13 10 b at_ = some (get b at_) := by
  rw [F13_eq]
  unfold get
  by_cases q1 : at_ < 0
  · have d : decide (at_ < 0) = true := by simp [q1]
    rw [d, if_pos (.inl q1)]; rfl
  · have d : decide (at_ < 0) = false := by simp; omega
    rw [d]
    by_cases q2 : at_ > b.length
    · have d2 : decide (at_ > lenI b) = true := by simp [lenI, q2]
      rw [d2, if_pos (.inr q2)]; rfl
    · have d2 : decide (at_ > lenI b) = false := by simp [lenI]; omega
      rw [d2, if_neg (by omega)]
      show L13 10 10 b at_ 0 1 at_ = _
      have e : at_ = ((at_.toNat : Nat) : Int) := by omega
      have := L13_spec 10 b h1 h2 at_.toNat 6 10 0 0 (by omega) (by omega) (by simp) (by omega)
      rw [Nat.add_zero, ← e] at this
      refine this.trans ?_
      unfold ans
      split <;> rfl

noncomputable def refGetC : Ctr := ⟨13, .pr bytesT (.int .i64), getR, getG⟩
theorem fn13 : FnsOK Try.prog [(13, Try.f13)] := ⟨⟨Try.func13, by decide⟩, trivial⟩
theorem refGetC_ok : CtrAll Try.prog refGetC := by
  refine ctr_of mixed ⟨Try.f13, Try.func13, by decide, rfl⟩ rfl rfl ?_
  intro x y h
  refine ⟨E13 10, 1, base.env (trivial : CtrsOK Try.prog []) fn13, ?_⟩
  have h : getG x = some y := h
  unfold getG at h
  split at h
  · rename_i hb
    exact (refGet_spec x.1 x.2 hb.1 hb.2).trans h
  · cases h
end Go.Ev.R1
