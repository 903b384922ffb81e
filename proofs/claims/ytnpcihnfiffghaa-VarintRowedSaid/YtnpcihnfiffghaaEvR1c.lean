import Derived.Test.YtnpcihnfiffghaaEvR1b
set_option linter.unusedVariables false
set_option maxRecDepth 100000
namespace Go.Ev.R1
open Go.Proofs

/-! varint.reader.next -/
noncomputable def E21 (k : Nat) : Env := mk [] [(21, Try.f21)] k
def A21 : List (Nat × List Nat) := (look ann 21).getD []
abbrev rdT : Ty := .st (.pr bytesT (.int .i64))
def tRd (b : List Int) (at_ : Int) : AV := ⟨rdT, ((b, at_) : List Int × Int)⟩
def S21 (b : List Int) (at_ n sh : Int) : St := ⟨[⟨.box 0 0, ()⟩, t0, tI .i64 n, t0, tI .i64 sh] ++ tops 54, [tRd b at_], List.replicate 59 none⟩
noncomputable def L21 {R : Type} (K : AV → List AV → Option R) (k0 k : Nat) (b : List Int) (at_ n sh : Int) : Option R :=
  lp (E21 k0) (evCall (E21 k0) 0) A21 (sub [1, 0, 1, 0, 0] (bodyOf Try.f21)) 1 k (S21 b at_ n sh)
    (blockK 0 (seqK (E21 k0) (evCall (E21 k0) 0) A21 (sub [1, 1] (bodyOf Try.f21)) (retK (E21 k0) Try.f21.results.toList K)))
noncomputable def N21 {R : Type} (K : AV → List AV → Option R) (k0 : Nat) (b : List Int) (at_ : Int) : Option R :=
  evCall (E21 k0) 1 21 [⟨.box 0 0, ()⟩] [tRd b at_] K

abbrev nextR : Ty := .tup (.pr (.int .i64) .bool)
def rv (n : Int) (ok : Bool) : AV := ⟨nextR, ((n, ok) : Int × Bool)⟩
def and7f (y : Int) : Int := IntKind.u8.wrap (Int.ofNat (BitVec.ofInt 8 y &&& BitVec.ofInt 8 127).toNat)
def acc (n sh y : Int) : Int := IntKind.i64.wrap (Int.ofNat (BitVec.ofInt 64 n ||| BitVec.ofInt 64 (IntKind.i64.wrap (IntKind.i64.wrap (and7f y) * 2 ^ min sh.toNat 64))).toNat)

theorem L21_step {R : Type} (K : AV → List AV → Option R) (k0 k : Nat) (b : List Int) (at_ n sh : Int) : L21 K k0 (k + 1) b at_ n sh =
    br (decide (sh < 42))
      (br (decide (at_ < lenI b))
        ((idx b at_).bind fun y => br (decide (sh < 0)) none
          (br (decide (y < 128))
            (br (decide (acc n sh y ≤ 1099511627776))
              (br (decide (y > 0)) (K (rv (acc n sh y) true) [tRd b (IntKind.i64.wrap (at_ + 1))]) (K (rv (acc n sh y) (eqI sh 0)) [tRd b (IntKind.i64.wrap (at_ + 1))]))
              (K (rv (acc n sh y) false) [tRd b (IntKind.i64.wrap (at_ + 1))]))
            (L21 K k0 k b (IntKind.i64.wrap (at_ + 1)) (acc n sh y) (IntKind.i64.wrap (sh + 7)))))
        (K (rv 0 false) [tRd b at_]))
      (K (rv 0 false) [tRd b at_]) := by kernel_rfl

theorem N21_eq {R : Type} (K : AV → List AV → Option R) (k0 : Nat) (b : List Int) (at_ : Int) : N21 K k0 b at_ = L21 K k0 k0 b at_ 0 0 := by kernel_rfl

/-! What it comes to. -/

def Bytes (b : List Int) : Prop := ∀ y, y ∈ b → 0 ≤ y ∧ y < 256

theorem and7f_all : ((List.range 256).all fun x => decide (and7f (x : Int) = ((x % 128 : Nat) : Int))) = true := by kernel_rfl
theorem and7f_eq {x : Nat} (h : x < 256) : and7f (x : Int) = ((x % 128 : Nat) : Int) :=
  of_decide_eq_true (List.all_eq_true.1 and7f_all x (List.mem_range.2 h))

theorem or_add (n m i : Nat) (h : n < 2 ^ i) : n ||| (m * 2 ^ i) = n + m * 2 ^ i := by
  have := Nat.shiftLeft_add_eq_or_of_lt h m
  rw [Nat.shiftLeft_eq] at this
  rw [Nat.or_comm, ← this]; omega

theorem acc_eq {n y j : Nat} (hn : n < 128 ^ j) (hy : y < 256) (hj : j < 6) : acc (n : Int) ((7 * j : Nat) : Int) (y : Int) = ((n + y % 128 * 128 ^ j : Nat) : Int) := by
  unfold acc
  rw [and7f_eq hy]
  have hp : (128 : Nat) ^ j = 2 ^ (7 * j) := by rw [Nat.pow_mul]
  have h1 : ((7 * j : Nat) : Int).toNat = 7 * j := by omega
  have h2 : min (7 * j) 64 = 7 * j := by omega
  have h3 : IntKind.i64.wrap ((y % 128 : Nat) : Int) = ((y % 128 : Nat) : Int) := wrap64 (by omega) (by omega)
  rw [h1, h2, h3]
  have hb : y % 128 * 2 ^ (7 * j) < 2 ^ 42 := by
    have : 2 ^ (7 * j) ≤ 2 ^ 35 := Nat.pow_le_pow_right (by omega) (by omega)
    have h3 : y % 128 < 128 := Nat.mod_lt _ (by omega)
    calc y % 128 * 2 ^ (7 * j) ≤ 127 * 2 ^ 35 := Nat.mul_le_mul (by omega) this
      _ < 2 ^ 42 := by decide
  have hn2 : n < 2 ^ 42 := by
    have : 2 ^ (7 * j) ≤ 2 ^ 42 := Nat.pow_le_pow_right (by omega) (by omega)
    rw [hp] at hn
    omega
  have e1 : (((y % 128 : Nat) : Int) * 2 ^ (7 * j)) = ((y % 128 * 2 ^ (7 * j) : Nat) : Int) := by
    rw [Int.natCast_mul, Int.natCast_pow]; rfl
  have h4 : IntKind.i64.wrap ((y % 128 * 2 ^ (7 * j) : Nat) : Int) = ((y % 128 * 2 ^ (7 * j) : Nat) : Int) := wrap64 (by omega) (by omega)
  rw [e1, h4]
  have e2 : (BitVec.ofInt 64 (n : Int) ||| BitVec.ofInt 64 ((y % 128 * 2 ^ (7 * j) : Nat) : Int)).toNat = n + y % 128 * 2 ^ (7 * j) := by
    rw [BitVec.toNat_or, BitVec.ofInt_natCast, BitVec.ofInt_natCast, BitVec.toNat_ofNat, BitVec.toNat_ofNat, Nat.mod_eq_of_lt (by omega), Nat.mod_eq_of_lt (by omega)]
    exact or_add n _ _ (by rw [← hp]; exact hn)
  rw [e2, hp]
  show IntKind.i64.wrap ((n + y % 128 * 2 ^ (7 * j) : Nat) : Int) = _
  exact wrap64 (by omega) (by omega)

/-- a number read: at digit j, so far n -/
def nx : Nat → List Int → Nat → Nat → Nat → (Int × Bool) × Nat
  | 0, _, at_, _, _ => ((0, false), at_)
  | f + 1, b, at_, j, n => match b[at_]? with
    | none => ((0, false), at_)
    | some y => if y < 128 then (((n + y.toNat % 128 * 128 ^ j : Nat), decide (n + y.toNat % 128 * 128 ^ j ≤ vmax) && (decide (0 < y) || decide (j = 0))), at_ + 1)
      else nx f b (at_ + 1) (j + 1) (n + y.toNat % 128 * 128 ^ j)

theorem idx_nat (b : List Int) (i : Nat) : idx b (i : Int) = b[i]? := by
  unfold idx
  rw [if_pos (by omega)]; simp

theorem L21_spec {R : Type} (K : AV → List AV → Option R) (k0 : Nat) (b : List Int) (hb : Bytes b) (hl : b.length ≤ 1099511627776) : ∀ (f k at_ n j : Nat), f < k → j + f = 6 → n < 128 ^ j →
    L21 K k0 k b (at_ : Int) (n : Int) ((7 * j : Nat) : Int) = K (rv (nx f b at_ j n).1.1 (nx f b at_ j n).1.2) [tRd b ((nx f b at_ j n).2 : Int)]
  | f, 0, at_, n, j, h, _, _ => by omega
  | 0, k + 1, at_, n, j, h, hj, hn => by
    rw [L21_step]
    have : decide (((7 * j : Nat) : Int) < 42) = false := by simp; omega
    rw [this]
    rfl
  | f + 1, k + 1, at_, n, j, h, hj, hn => by
    rw [L21_step]
    have d1 : decide (((7 * j : Nat) : Int) < 42) = true := by simp; omega
    rw [d1, idx_nat]
    unfold nx
    cases hy : b[at_]? with
    | none =>
      have hlen := List.getElem?_eq_none_iff.1 hy
      have d2 : decide ((at_ : Int) < lenI b) = false := by simp [lenI]; omega
      rw [d2]
      rfl
    | some y =>
      have hlen := (List.getElem?_eq_some_iff.1 hy).1
      have d2 : decide ((at_ : Int) < lenI b) = true := by simp [lenI]; omega
      have d3 : decide (((7 * j : Nat) : Int) < 0) = false := by simp; omega
      obtain ⟨y0, y1⟩ := hb y (List.mem_of_getElem? hy)
      have ey : y = ((y.toNat : Nat) : Int) := by omega
      have ha := acc_eq (y := y.toNat) hn (by omega) (by omega : j < 6)
      rw [← ey] at ha
      have hn' : n + y.toNat % 128 * 128 ^ j < 128 ^ (j + 1) := by
        have h3 : y.toNat % 128 < 128 := Nat.mod_lt _ (by omega)
        calc n + y.toNat % 128 * 128 ^ j < 128 ^ j + 127 * 128 ^ j := by
              have := Nat.mul_le_mul_right (128 ^ j) (show y.toNat % 128 ≤ 127 by omega)
              omega
          _ = 128 ^ (j + 1) := by rw [Nat.pow_succ]; omega
      rw [d2, d3]
      simp only [Option.bind_some, ha]
      rw [wrap64 (by omega) (by omega), wrap64 (by omega) (by omega)]
      by_cases hlt : y < 128
      · rw [if_pos hlt]
        have d4 : decide (y < 128) = true := by simp [hlt]
        rw [d4]
        simp only [br, cond_true, cond_false]
        have e1 : ((at_ : Int) + 1) = ((at_ + 1 : Nat) : Int) := by omega
        rw [e1]
        have e2 : decide (((n + y.toNat % 128 * 128 ^ j : Nat) : Int) ≤ 1099511627776) = decide (n + y.toNat % 128 * 128 ^ j ≤ vmax) := by
          unfold vmax; rw [decide_eq_decide]; omega
        rw [e2]
        have e3 : eqI ((7 * j : Nat) : Int) 0 = decide (j = 0) := by unfold eqI; rw [decide_eq_decide]; omega
        rw [e3]
        cases decide (n + y.toNat % 128 * 128 ^ j ≤ vmax) with
        | false => simp
        | true =>
          cases decide (0 < y) with
          | true => simp
          | false => simp
      · rw [if_neg hlt]
        have d4 : decide (y < 128) = false := by simp; omega
        rw [d4]
        simp only [br, cond_true, cond_false]
        have e1 : ((at_ : Int) + 1) = ((at_ + 1 : Nat) : Int) := by omega
        have e2 : (((7 * j : Nat) : Int) + 7) = ((7 * (j + 1) : Nat) : Int) := by omega
        rw [e1, e2]
        exact L21_spec K k0 b hb hl f k (at_ + 1) _ (j + 1) (by omega) (by omega) hn'

open Classical in
noncomputable def nextG (x : Unit × (List Int × Int)) : Option ((Int × Bool) × (List Int × Int)) :=
  if Bytes x.2.1 ∧ x.2.1.length ≤ 1099511627776 ∧ 0 ≤ x.2.2 then some ((nx 6 x.2.1 x.2.2.toNat 0 0).1, (x.2.1, ((nx 6 x.2.1 x.2.2.toNat 0 0).2 : Int))) else none

noncomputable def nextC : PCtr := ⟨21, .box 0 0, rdT, nextR, nextG⟩
theorem fn21 : FnsOK Try.prog [(21, Try.f21)] := ⟨⟨Try.func21, by decide⟩, trivial⟩
theorem next_spec {R : Type} (K : AV → List AV → Option R) (b : List Int) (at_ : Int) (z : (Int × Bool) × (List Int × Int)) (h : nextG ((), (b, at_)) = some z) : N21 K 10 b at_ = K (rv z.1.1 z.1.2) [tRd z.2.1 z.2.2] := by
  unfold nextG at h
  split at h
  · rename_i hc
    have c1 : Bytes b := hc.1
    have c2 : b.length ≤ 1099511627776 := hc.2.1
    have c3 : 0 ≤ at_ := hc.2.2
    cases h
    rw [N21_eq]
    have e : at_ = ((at_.toNat : Nat) : Int) := by omega
    have := L21_spec K 10 b c1 c2 6 10 at_.toNat 0 0 (by omega) (by omega) (by simp)
    rw [← e] at this
    exact this
  · cases h

theorem nextC_ok {R : Type} : CallOK Try.prog (pC nextC : CallSem R) := by
  refine pC_ok (E := E21 10) (d := 1) (base.env (trivial : CtrsOK Try.prog []) fn21) mixed rfl ?_
  rintro x ⟨b, at_⟩ z h K
  exact next_spec K b at_ z h
end Go.Ev.R1
