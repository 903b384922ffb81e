import Derived.Test.YtnpcihnfiffghaaEvR1a
set_option linter.unusedVariables false
set_option maxRecDepth 100000
namespace Go.Ev.R1
open Go.Proofs

def tops (n : Nat) : List AV := List.replicate n t0

/-! varint.Put -/
noncomputable def E10 (k : Nat) : Env := mk [lenC] [(10, Try.f10)] k
def A10 : List (Nat × List Nat) := (look ann 10).getD []
abbrev bytesT : Ty := .sl (.int .u8)
abbrev putR : Ty := .tup (.pr bytesT (.int .i64))
def tBy (l : List Int) : AV := ⟨bytesT, l⟩
def S10 (n k : Int) (l : List Int) : St := ⟨[t0, tI .i64 n, t0, t0, t0, t0, tI .i64 k, tBy l] ++ tops 27, [], setN (List.replicate 35 none) 7 (some 7)⟩
def K10 : AV → List AV → Option putR.den := fun v _ => castTo putR v
noncomputable def L10 (k0 k : Nat) (n m : Int) (l : List Int) : Option putR.den :=
  lp (E10 k0) (evCall (E10 k0) 0) A10 (sub [1, 1, 1, 1, 0, 0, 0] (bodyOf Try.f10)) 0 k (S10 n m l)
    (blockK 0 (seqK (E10 k0) (evCall (E10 k0) 0) A10 (sub [1, 1, 1, 1, 1] (bodyOf Try.f10)) (retK (E10 k0) Try.f10.results.toList K10)))

def or80 (x : Int) : Int := IntKind.u8.wrap (Int.ofNat (BitVec.ofInt 8 128 ||| BitVec.ofInt 8 x).toNat)

theorem or80_all : ((List.range 256).all fun x => decide (or80 (x : Int) = 128 + ((x % 128 : Nat) : Int))) = true := by kernel_rfl
theorem or80_eq {x : Nat} (h : x < 256) : or80 (x : Int) = 128 + ((x % 128 : Nat) : Int) := by
  have := List.all_eq_true.1 or80_all x (List.mem_range.2 h)
  exact of_decide_eq_true this

def prV (l : List Int) (e : Int) : putR.den := ((l, e) : List Int × Int)

theorem L10_step (k0 k : Nat) (n m : Int) (l : List Int) : L10 k0 (k + 1) n m l =
    br (decide (m > 1)) (br (fits l [or80 (IntKind.u8.wrap n)] 1) (L10 k0 k (n.fdiv 128) (IntKind.i64.wrap (m - 1)) (app l [or80 (IntKind.u8.wrap n)])) none)
      (br (fits l [IntKind.u8.wrap n] 1) (some (prV (app l [IntKind.u8.wrap n]) 0)) none) := by kernel_rfl

theorem sem10 (k0 : Nat) (l : List Int) (n : Int) : sem (E10 k0) 1 10 (.pr bytesT (.int .i64)) putR ((l, n) : List Int × Int) =
    br (eqI (vlen n) 0) (some (prV [] 2)) (br (decide (0 ≤ (0 : Int)) && decide (0 ≤ lenI l) && decide (lenI l ≤ lenI l) && decide (lenI l ≤ lenI l)) (br (eqI (lenI l) (lenI l)) (L10 k0 k0 n (vlen n) (cut l 0 (lenI l))) none) none) := by kernel_rfl

theorem wrap8 (n : Nat) : IntKind.u8.wrap (n : Int) = ((n % 256 : Nat) : Int) := by
  rw [IntKind.wrap_u8]; omega

theorem fits_of {l m : List Int} (h : l.length + m.length ≤ 140737488355328) : fits l m 1 = true := by
  unfold fits; simp; omega

theorem L10_spec (k0 : Nat) : ∀ (k n : Nat) (l : List Int), (enc n).length ≤ k → (enc n).length ≤ 1000 → l.length + (enc n).length ≤ 140737488355328 → L10 k0 k n (enc n).length l = some (prV (l ++ enc n) 0)
  | 0, n, l, h, _, _ => by have := enc_length_pos n; omega
  | k + 1, n, l, h, hb, hf => by
    rw [L10_step, wrap8]
    by_cases hlt : n < 128
    · rw [enc_lt hlt] at hf ⊢
      simp only [List.length_singleton] at hf ⊢
      have e1 : n % 256 = n := by omega
      have d1 : decide (((1 : Nat) : Int) > 1) = false := rfl
      rw [d1, e1]
      show br (fits l [(n : Int)] 1) _ _ = _
      rw [fits_of (by simpa using hf)]
      rfl
    · rw [enc_ge hlt] at h hb hf ⊢
      simp only [List.length_cons] at h hb hf ⊢
      have hp := enc_length_pos (n / 128)
      have d1 : decide ((((enc (n / 128)).length + 1 : Nat) : Int) > 1) = true := by simp; omega
      rw [or80_eq (by omega), d1, fits_of (by simp; omega), fdiv128, wrap64 (by omega) (by omega)]
      have e2 : n % 256 % 128 = n % 128 := by omega
      have e3 : ((((enc (n / 128)).length + 1 : Nat) : Int) - 1) = (((enc (n / 128)).length : Nat) : Int) := by omega
      rw [e2, e3]
      show L10 k0 k _ _ _ = _
      rw [L10_spec k0 k (n / 128) _ (by omega) (by omega) (by simp [app]; omega)]
      simp [app]

def put (b : List Int) (n : Int) : List Int × Int := if n < 0 ∨ n > 1099511627776 then ([], 2) else (b ++ enc n.toNat, 0)

theorem enc_len6 {n : Nat} (h : n ≤ 1099511627776) : (enc n).length ≤ 6 := enc_length_le 6 n (by omega) (by omega)

theorem cut_all (l : List Int) : cut l 0 (lenI l) = l := by simp [cut, lenI]

theorem put_spec (b : List Int) (n : Int) (hb : b.length ≤ 1099511627776) : sem (E10 10) 1 10 (.pr bytesT (.int .i64)) putR ((b, n) : List Int × Int) = some (put b n) := by
  rw [sem10]
  unfold put vlen
  by_cases h1 : n < 0 ∨ n > 1099511627776
  · rw [if_pos h1, if_pos h1]; rfl
  · rw [if_neg h1, if_neg h1]
    have hp := enc_length_pos n.toNat
    have h6 := enc_len6 (n := n.toNat) (by omega)
    have d1 : eqI ((enc n.toNat).length : Int) 0 = false := by unfold eqI; rw [decide_eq_false_iff_not]; omega
    have d2 : (decide (0 ≤ (0 : Int)) && decide (0 ≤ lenI b) && decide (lenI b ≤ lenI b) && decide (lenI b ≤ lenI b)) = true := by simp [lenI]
    have d3 : eqI (lenI b) (lenI b) = true := by simp [eqI]
    rw [d1, d2, d3, cut_all]
    show L10 10 10 n _ b = _
    have e : n = ((n.toNat : Nat) : Int) := by omega
    have := L10_spec 10 10 n.toNat b (by omega) (by omega) (by omega)
    rw [← e] at this
    rw [this]; rfl

def putG (x : List Int × Int) : Option (List Int × Int) := if x.1.length ≤ 1099511627776 then some (put x.1 x.2) else none
def putC : Ctr := ⟨10, .pr bytesT (.int .i64), putR, putG⟩

theorem fn10 : FnsOK Try.prog [(10, Try.f10)] := ⟨⟨Try.func10, by decide⟩, trivial⟩
theorem putC_ok : CtrAll Try.prog putC := by
  refine ctr_of mixed ⟨Try.f10, Try.func10, by decide, rfl⟩ rfl rfl ?_
  intro x y h
  refine ⟨E10 10, 1, base.env (⟨lenC_ok, trivial⟩ : CtrsOK Try.prog [lenC]) fn10, ?_⟩
  have h : putG x = some y := h
  unfold putG at h
  split at h
  · rename_i hb
    exact (put_spec x.1 x.2 hb).trans h
  · cases h
end Go.Ev.R1
