import Derived.Test.YtggobapgdflchaaEvS10
import Derived.Test.YtggobapgdflchaaEvB2
set_option linter.unusedVariables false
set_option maxRecDepth 100000
namespace Go.Ev.R3
open Go.Proofs

/-! The document's May and Same. -/

theorem L55_spec (k0 : Nat) (l : Ints) (hl : l.length ≤ 1000000) : ∀ (k i : Nat) (p : Int), l.length < k + i → i ≤ l.length → L55_3 k0 k l p (i : Int) = some (riseI p (l.drop i))
  | 0, i, p, h, hi => by omega
  | k + 1, i, p, h, hi => by
    rw [L55_3_step, idxN]
    cases hx : l[i]? with
    | none =>
      have := List.getElem?_eq_none_iff.1 hx
      rw [dF (show ¬ ((i : Int) < lenI l) by unfold lenI; omega), List.drop_eq_nil_of_le this]; rfl
    | some x =>
      have hlt := (List.getElem?_eq_some_iff.1 hx).1
      rw [dT (show (i : Int) < lenI l by unfold lenI; omega), w1 (by omega), rise_drop hx]
      simp only [brT, Option.bind_some, br_dec]
      by_cases h1 : x ≤ p
      · rw [if_pos h1, dF (show ¬ p < x by omega)]; rfl
      · rw [if_neg h1, dT (show p < x by omega)]
        by_cases h2 : x ≥ 3
        · rw [if_pos h2, dF (show ¬ x ≤ 2 by omega)]; rfl
        · rw [if_neg h2, dT (show x ≤ 2 by omega), L55_spec k0 l hl k (i + 1) x (by omega) (by omega)]; rfl
def G55 : T55 → Option U55 := fun x => if x.length ≤ 1000000 then some (riseI (-1) x) else none
theorem c55 : CtrAll Try.prog ⟨55, A55, R55, G55⟩ := C55 fun x y h => by
  unfold G55 at h
  split at h
  · rename_i hb
    refine ⟨1000001, ?_⟩
    rw [F55_eq]
    exact (L55_spec _ x hb _ 0 (-1) (by omega) (by omega)).trans h
  · cases h
def G56 : T56 → Option U56 := fun p => some (pendB p)
def G57 : T57 → Option U57 := fun x => some (aheadB x.1 x.2)
theorem c56 : CtrAll Try.prog ⟨56, A56, R56, G56⟩ := C56 fun x y h => ⟨0, by rw [F56_eq, ← F69_eq 0 x, pend_eq]; exact h⟩
theorem c57 : CtrAll Try.prog ⟨57, A57, R57, G57⟩ := C57 fun x y h => ⟨0, by rw [F57_eq, ← F70_eq 0 x.1 x.2, ahead_eq]; exact h⟩

theorem L30_9_spec (k0 : Nat) (a b : Coord) (hl : a.2.2.2.2.2.2.1.length ≤ 1000000) (he : a.2.2.2.2.2.2.1.length = b.2.2.2.2.2.2.1.length) : ∀ (k i : Nat), a.2.2.2.2.2.2.1.length < k + i → i ≤ a.2.2.2.2.2.2.1.length → L30_9 k0 k (i : Int) a b = some (decide (a.2.2.2.2.2.2.1.drop i = b.2.2.2.2.2.2.1.drop i))
  | 0, i, h, hi => by omega
  | k + 1, i, h, hi => by
    rw [L30_9_step, idxN, idxN]
    cases hx : a.2.2.2.2.2.2.1[i]? with
    | none =>
      have := List.getElem?_eq_none_iff.1 hx
      rw [dF (show ¬ ((i : Int) < lenI a.2.2.2.2.2.2.1) by unfold lenI; omega), List.drop_eq_nil_of_le this, List.drop_eq_nil_of_le (by omega)]; simp [br]
    | some x =>
      have hlt := (List.getElem?_eq_some_iff.1 hx).1
      have hy : b.2.2.2.2.2.2.1[i]? = some b.2.2.2.2.2.2.1[i] := List.getElem?_eq_getElem (by omega)
      rw [dT (show (i : Int) < lenI a.2.2.2.2.2.2.1 by unfold lenI; omega), hy, w1 (by omega), eq_step hx hy]
      simp only [brT, Option.bind_some, eqP_dec]
      by_cases hq : x = b.2.2.2.2.2.2.1[i]
      · rw [dT hq, Bool.not_true, brF, L30_9_spec k0 a b hl he k (i + 1) (by omega) (by omega), Bool.true_and]
      · rw [dF hq, Bool.not_false, brT]; simp
theorem L30_9_at (K : Nat) (a b : Coord) (hl : a.2.2.2.2.2.2.1.length ≤ 1000000) (he : a.2.2.2.2.2.2.1.length = b.2.2.2.2.2.2.1.length) (hK : 1000000 < K) : L30_9 K K 0 a b = some (decide (a.2.2.2.2.2.2.1 = b.2.2.2.2.2.2.1)) := by
  have h9 := L30_9_spec K a b hl he K 0 (by omega) (by omega)
  rw [List.drop_zero, List.drop_zero, show ((0 : Nat) : Int) = 0 from rfl] at h9
  exact h9
theorem L30_4_spec (K : Nat) (a b : Coord) (q : Bool) (h9 : L30_9 K K 0 a b = some q) (hl : a.2.2.2.2.2.1.length ≤ 1000000) (he : a.2.2.2.2.2.1.length = b.2.2.2.2.2.1.length) : ∀ (k i : Nat), a.2.2.2.2.2.1.length < k + i → i ≤ a.2.2.2.2.2.1.length →
    L30_4 K k (i : Int) a b = some (decide (a.2.2.2.2.2.1.drop i = b.2.2.2.2.2.1.drop i) && q)
  | 0, i, h, hi => by omega
  | k + 1, i, h, hi => by
    rw [L30_4_step, idxN, idxN]
    cases hx : a.2.2.2.2.2.1[i]? with
    | none =>
      have := List.getElem?_eq_none_iff.1 hx
      rw [dF (show ¬ ((i : Int) < lenI a.2.2.2.2.2.1) by unfold lenI; omega), List.drop_eq_nil_of_le this, List.drop_eq_nil_of_le (by omega), brF, h9]
      simp
    | some x =>
      have hlt := (List.getElem?_eq_some_iff.1 hx).1
      have hy : b.2.2.2.2.2.1[i]? = some b.2.2.2.2.2.1[i] := List.getElem?_eq_getElem (by omega)
      rw [dT (show (i : Int) < lenI a.2.2.2.2.2.1 by unfold lenI; omega), hy, w1 (by omega), eq_step hx hy]
      rw [brT, Option.bind_some, Option.bind_some]
      unfold eqI
      by_cases hq : x = b.2.2.2.2.2.1[i]
      · rw [dT hq, Bool.not_true, brF, L30_4_spec K a b q h9 hl he k (i + 1) (by omega) (by omega), Bool.true_and]
      · rw [dF hq, Bool.not_false, brT]; simp
def G30 : T30 → Option U30 := fun x => if Fit x.1 then some (sameM x.1 x.2) else none
theorem ref_same_eq (a b : Coord) (hf : Fit a) : F30 1000001 a b = some (sameM a b) := by
  rw [F30_eq]
  unfold sameM
  obtain ⟨s, p, e, t, n, l, m, g⟩ := a
  obtain ⟨s', p', e', t', n', l', m', g'⟩ := b
  obtain ⟨h1, h2⟩ := hf
  simp only at h1 h2
  simp only [eqI, br_ndec]
  by_cases hall : s = s' ∧ p = p' ∧ e = e' ∧ t = t' ∧ n = n' ∧ g = g' ∧ l.length = l'.length ∧ m.length = m'.length
  · obtain ⟨q1, q2, q3, q4, q5, q6, q7, q8⟩ := hall
    have := L30_4_spec 1000001 (s, p, e, t, n, l, m, g) (s', p', e', t', n', l', m', g') _ (L30_9_at 1000001 _ _ h2 q8 (by omega)) h1 q7 1000001 0 (by simp only; omega) (by simp only; omega)
    rw [if_pos q1, if_pos q2, if_pos q3, if_pos q4, if_pos q5, if_pos q6, if_pos (show lenI l = lenI l' by unfold lenI; omega), if_pos (show lenI m = lenI m' by unfold lenI; omega)]
    refine this.trans ?_
    simp only [List.drop_zero]
    rw [← Bool.decide_and]
    simp [q1, q2, q3, q4, q5, q6]
  · have hne : ¬ (s, p, e, t, n, l, m, g) = (s', p', e', t', n', l', m', g') := by
      intro h
      injection h with a1 h; injection h with a2 h; injection h with a3 h; injection h with a4 h; injection h with a5 h; injection h with a6 h; injection h with a7 a8
      exact hall ⟨a1, a2, a3, a4, a5, a8, by rw [a6], by rw [a7]⟩
    rw [dF hne]
    (repeat' split) <;> first | rfl | (exfalso; unfold lenI at *; exact hall (by omega))
theorem c30 : CtrAll Try.prog ⟨30, A30, R30, G30⟩ := C30 fun x y h => by
  unfold G30 at h
  split at h
  · rename_i hb; exact ⟨1000001, (ref_same_eq x.1 x.2 hb).trans h⟩
  · cases h

/-! the document's May -/
def MidP (c : Coord) : Prop := (c.1 = 1 ∨ c.1 = 5 ∨ c.1 = 6 → (c.2.2.2.2.2.1 = [] ∧ c.2.2.2.2.2.2.1 = []) ∧ c.2.2.2.2.2.2.2 = 0) ∧ (c.1 = 2 → ¬ (c.2.2.2.2.2.1 = [] ∧ c.2.2.2.2.2.2.1 = []))
theorem J17_12_sp (k0 k : Nat) (c : Coord) : J17_12 G30 G55 G56 G57 k0 (k + 1) c = some (B (c.2.2.2.2.1 = 0 ∨ c.1 = 4 ∧ c.2.2.1 < 100)) := by
  rw [J17_12_eq]
  simp only [br_dec, eqI]
  (repeat' split) <;> first | exact congrArg some (B_true (by omega)).symm | exact congrArg some (B_false (by omega)).symm | skip
  rename_i h1 h2
  by_cases h3 : c.2.2.1 < 100
  · rw [dT h3, B_true (.inr ⟨h2, h3⟩)]
  · rw [dF h3, B_false (by omega)]
theorem J17_10_sp (K k : Nat) (c : Coord) (h1 : 1 ≤ c.1 ∧ c.1 ≤ 6) (h2 : 0 ≤ c.2.2.2.2.2.2.2) : J17_10 G30 G55 G56 G57 (K + 1) (k + 1) c = some (B (MidP c ∧ (c.2.2.2.2.1 = 0 ∨ c.1 = 4 ∧ c.2.2.1 < 100))) := by
  rw [J17_10_eq, J17_12_sp, B_and]
  generalize B (c.2.2.2.2.1 = 0 ∨ c.1 = 4 ∧ c.2.2.1 < 100) = t
  simp only [br_dec, br_ndec, eqI, lenI_zero, lenI_pos]
  unfold MidP
  generalize c.1 = s at *
  by_cases hp : c.2.2.2.2.2.1 = [] <;> by_cases hq : c.2.2.2.2.2.2.1 = [] <;> simp only [hp, hq, and_self, and_true, true_and, and_false, false_and, not_true_eq_false, not_false_eq_true, if_true, if_false, imp_false, implies_true] <;> (repeat' split) <;> first
    | omega
    | ((congr 1; symm); rw [B_true (by omega)]; rfl)
    | ((congr 1; symm); rw [B_false (by omega)]; rfl)

theorem L17_spec (K : Nat) (c : Coord) (hl : c.2.2.2.2.2.2.1.length ≤ 1000000) (h1 : 1 ≤ c.1 ∧ c.1 ≤ 6) (h2 : 0 ≤ c.2.2.2.2.2.2.2) : ∀ (k i : Nat) (p : Option Pend), c.2.2.2.2.2.2.1.length < k + i → i ≤ c.2.2.2.2.2.2.1.length → (i = 0 → p = none) → (∀ j, i = j + 1 → p = c.2.2.2.2.2.2.1[j]? ∧ p.isSome = true) →
    L17_6 G30 G55 G56 G57 (K + 1) k (i : Int) c = some (riseP p (c.2.2.2.2.2.2.1.drop i) && B (MidP c ∧ (c.2.2.2.2.1 = 0 ∨ c.1 = 4 ∧ c.2.2.1 < 100)))
  | 0, i, p, h, hi, _, _ => by omega
  | k + 1, i, p, h, hi, h0, hs => by
    rw [L17_6_step]
    cases hx : c.2.2.2.2.2.2.1[i]? with
    | none =>
      have := List.getElem?_eq_none_iff.1 hx
      rw [dF (show ¬ ((i : Int) < lenI c.2.2.2.2.2.2.1) by unfold lenI; omega), List.drop_eq_nil_of_le this, brF, J17_10_sp K K c h1 h2]
      cases p <;> rfl
    | some x =>
      have hlt := (List.getElem?_eq_some_iff.1 hx).1
      rw [dT (show (i : Int) < lenI c.2.2.2.2.2.2.1 by unfold lenI; omega), brT, J17_8_eq, idxN, hx, w1 (by omega), drop_consN hx, riseP_cons]
      simp only [Option.bind_some, G56, G57]
      have ih := L17_spec K c hl h1 h2 k (i + 1) (some x) (by omega) (by omega) (by omega) (fun j hj => by rw [show j = i by omega]; exact ⟨hx.symm, rfl⟩)
      cases pendB x with
      | false => rfl
      | true =>
        by_cases hi0 : i = 0
        · subst hi0
          rw [h0 rfl, dF (by simp)]
          exact ih
        · obtain ⟨g1, g2⟩ := hs (i - 1) (by omega)
          rw [dT (show (i : Int) > 0 by omega), wm1 (by omega) (by omega), idxN, ← g1]
          cases p with
          | none => cases g2
          | some q =>
            show br (!aheadB q x) _ _ = some ((true && (aheadB q x && riseP (some x) _)) && _)
            cases aheadB q x with
            | false => rfl
            | true => exact ih
theorem ite_leaf {P : Prop} [Decidable P] {a : Option Bool} (h : P → a = some false) : (if P then a else some false) = some false := by
  by_cases hp : P
  · rw [if_pos hp]; exact h hp
  · rw [if_neg hp]
theorem ref_may_eq (K : Nat) (c : Coord) (hf : Fit c) (h8 : -128 ≤ c.1 ∧ c.1 ≤ 127) (hK : 1000000 < K) : F17 G30 G55 G56 G57 (K + 1) c = some (mayM c) := by
  have g30 : G30 (c, 0, 0, 0, 0, 0, [], [], 0) = some (sameM c coord0) := if_pos hf
  have g55 : G55 c.2.2.2.2.2.1 = some (riseI (-1) c.2.2.2.2.2.1) := if_pos hf.1
  rw [F17_eq, J17_3_eq, g30, g55, w64 (by omega) (by omega)]
  by_cases hs : c.1 = 0
  · rw [hs, eqI_refl, brT, Option.bind_some]
    congr 1
    unfold sameM
    by_cases hc : c = coord0
    · rw [dT hc, mayT (.inl hc)]
    · rw [dF hc, mayF]
      rintro (h | h)
      · exact hc h
      · have := h.1.1; omega
  · rw [eqI_ne hs, brF]
    have hc : c ≠ coord0 := fun e => hs (congrArg Prod.fst e)
    simp only [Option.bind_some, br_dec, br_ndec]
    by_cases hg : (1 ≤ c.1 ∧ c.1 ≤ 6) ∧ (1 ≤ c.2.1 ∧ c.2.1 ≤ 8) ∧ (0 ≤ c.2.2.1 ∧ c.2.2.1 ≤ 100) ∧ (1 ≤ c.2.2.2.1 ∧ c.2.2.2.1 ≤ 20) ∧ (0 ≤ c.2.2.2.2.2.2.2 ∧ c.2.2.2.2.2.2.2 ≤ 1048576) ∧ (0 ≤ c.2.2.2.2.1 ∧ c.2.2.2.2.1 ≤ 20)
    · obtain ⟨h1, h2, h3, h4, h5, h6⟩ := hg
      have hL := L17_spec K c hf.2 h1 h5.1 (K + 1) 0 none (by have := hf.2; omega) (by omega) (fun _ => rfl) (fun j hj => by omega)
      rw [List.drop_zero, show ((0 : Nat) : Int) = 0 from rfl] at hL
      rw [J17_5_eq, hL, if_pos (by omega), if_pos (by omega), if_pos (by omega), if_pos (by omega), if_pos (by omega), if_pos (by omega), if_pos (by omega), if_pos (by omega), if_pos (by omega), if_pos (by omega), if_pos (by omega), if_pos (by omega)]
      have key : mayM c = (riseI (-1) c.2.2.2.2.2.1 && (riseP none c.2.2.2.2.2.2.1 && B (MidP c ∧ (c.2.2.2.2.1 = 0 ∨ c.1 = 4 ∧ c.2.2.1 < 100)))) := by
        unfold mayM
        rw [show (riseI (-1) c.2.2.2.2.2.1) = B (riseI (-1) c.2.2.2.2.2.1 = true) from by cases riseI (-1) c.2.2.2.2.2.1 <;> simp [B_true, B_false], show (riseP none c.2.2.2.2.2.2.1) = B (riseP none c.2.2.2.2.2.2.1 = true) from by cases riseP none c.2.2.2.2.2.2.1 <;> simp [B_true, B_false], ← B_and, ← B_and]
        refine B_congr ?_
        unfold MayP MidP
        constructor
        · rintro (h | ⟨_, _, _, _, _, g6, g7, g8, g9, g10⟩)
          · exact absurd h hc
          · exact ⟨g6, g7, ⟨fun h => ⟨⟨(g8 h).1, (g8 h).2.1⟩, (g8 h).2.2⟩, g9⟩, by omega⟩
        · rintro ⟨g6, g7, ⟨g8, g9⟩, g10⟩
          exact .inr ⟨h1, h2, h3, h4, h5, g6, g7, fun h => ⟨(g8 h).1.1, (g8 h).1.2, (g8 h).2⟩, g9, by omega⟩
      rw [key]
      cases riseI (-1) c.2.2.2.2.2.1 <;> rfl
    · have hno : ¬ MayP c := by
        rintro (h | ⟨g1, g2, g3, g4, g5, g6, g7, g8, g9, g10⟩)
        · exact hc h
        · exact hg ⟨g1, g2, g3, g4, g5, by omega⟩
      rw [mayF hno]
      refine ite_leaf fun a1 => ite_leaf fun a2 => ite_leaf fun a3 => ite_leaf fun a4 => ite_leaf fun a5 => ite_leaf fun a6 => ite_leaf fun a7 => ite_leaf fun a8 => ite_leaf fun a9 => ite_leaf fun a10 => ?_
      cases riseI (-1) c.2.2.2.2.2.1 with
      | false => rfl
      | true =>
        rw [Bool.not_true, brF]
        exact ite_leaf fun b1 => ite_leaf fun b2 => absurd ⟨⟨a1, a2⟩, ⟨a3, a4⟩, ⟨a5, a6⟩, ⟨a7, a8⟩, ⟨a9, a10⟩, ⟨b1, b2⟩⟩ hg
noncomputable def G17 : T17 → Option U17 := fun c => if Fit c ∧ (-128 ≤ c.1 ∧ c.1 ≤ 127) then some (mayM c) else none
theorem c17 : CtrAll Try.prog ⟨17, A17, R17, G17⟩ := C17 c30 c55 c56 c57 fun x y h => by
  unfold G17 at h
  split at h
  · rename_i hb; exact ⟨1000002, (ref_may_eq 1000001 x hb.1 hb.2 (by omega)).trans h⟩
  · cases h
def greatM (c : Coord) : Bool := decide (c.2.2.2.2.2.1.length > 40 ∨ c.2.2.2.2.2.2.1.length > 40)
def G16 : T16 → Option U16 := fun c => some (greatM c)
theorem c16 : CtrAll Try.prog ⟨16, A16, R16, G16⟩ := C16 fun x y h => ⟨0, by
  rw [F16_eq, ← h]
  unfold G16 greatM lenI
  by_cases h1 : x.2.2.2.2.2.1.length > 40
  · rw [dT (show ((x.2.2.2.2.2.1.length : Nat) : Int) > 40 by omega), brT]
    exact congrArg some (decide_eq_true (Or.inl h1)).symm
  · rw [dF (show ¬ ((x.2.2.2.2.2.1.length : Nat) : Int) > 40 by omega), brF]
    refine congrArg some ?_
    rw [decide_eq_decide]
    omega⟩

/-! StatesPlace -/
theorem L3_spec (K : Nat) (a b d : Coord) (l : Ints) (hd : d.2.2.2.2.2.1 = l) (hf : Fit d) : ∀ (k i : Nat), l.length < k + i → i ≤ l.length → L3_12 G16 G17 G18 G19 G20 G21 G22 K k l (i : Int) a b d = some true
  | 0, i, h, hi => by omega
  | k + 1, i, h, hi => by
    rw [L3_12_step, hd, idxN]
    have hl : l.length ≤ 1000000 := by rw [← hd]; exact hf.1
    cases hx : l[i]? with
    | none =>
      have := List.getElem?_eq_none_iff.1 hx
      rw [dF (show ¬ ((i : Int) < lenI l) by unfold lenI; omega)]; rfl
    | some x =>
      have hlt := (List.getElem?_eq_some_iff.1 hx).1
      have g22 : G22 (d, x) = some true := by
        unfold G22
        rw [if_pos hf]
        have : x ∈ d.2.2.2.2.2.1 := by rw [hd]; exact List.mem_of_getElem? hx
        rw [dT this]
      rw [dT (show (i : Int) < lenI l by unfold lenI; omega), brT, Option.bind_some, Option.bind_some, eqI_refl, Bool.not_true, brF, Option.bind_some, g22, Option.bind_some, Bool.not_true, brF, w1 (by omega)]
      exact L3_spec K a b d l hd hf k (i + 1) (by omega) (by omega)

theorem place_own {c : Coord} (hc : MayP c) : placeM c c.2.2.2.2.2.1 = (c, 0) := by
  unfold placeM
  rw [mayT hc, brT]
  rcases hc with rfl | ⟨g1, g2, g3, g4, g5, g6, g7, g8, g9, g10⟩
  · rfl
  · rw [g6, brT, if_neg (by omega), if_neg (fun h => g9 h.1 ⟨h.2.1, h.2.2⟩)]
    congr 1
    have hs : (if c.1 ≠ 3 ∧ c.1 ≠ 4 ∧ ¬ c.2.2.2.2.2.1 = [] then 2 else c.1 : Int) = c.1 := by
      split
      · rename_i h
        have : ¬ (c.1 = 1 ∨ c.1 = 5 ∨ c.1 = 6) := fun k => h.2.2 (g8 k).1
        omega
      · rfl
    rw [hs]

theorem place_spec (c : Coord) (l : Ints) (h8 : -128 ≤ c.1 ∧ c.1 ≤ 127) : F3 G16 G17 G18 G19 G20 G21 G22 1000 c l = some true := by
  rw [F3_eq]
  simp only [G16, G18, Option.bind_some]
  by_cases hgr : greatM c = true
  · rw [hgr, brT]
  · have hgr : greatM c = false := by simpa using hgr
    rw [hgr, brF]
    have hsm : c.2.2.2.2.2.1.length ≤ 40 ∧ c.2.2.2.2.2.2.1.length ≤ 40 := by
      unfold greatM at hgr
      rw [decide_eq_false_iff_not] at hgr
      omega
    have hf : Fit c := ⟨by omega, by omega⟩
    by_cases hl : lenI l > 40
    · rw [dT hl, brT]
    · rw [dF hl, brF]
      unfold lenI at hl
      have g17 : G17 c = some (mayM c) := if_pos ⟨hf, h8⟩
      rw [g17, Option.bind_some]
      by_cases hm : MayP c
      · have g19a : G19 (c, c.2.2.2.2.2.1) = some (c, 0) := (if_pos ⟨hf, hf.1⟩).trans (by rw [place_own hm])
        have g20 : G20 (c, c) = some true := (if_pos hf).trans (by unfold sameM; rw [dT rfl])
        have g19b : G19 (c, l) = some (placeM c l) := if_pos ⟨hf, show l.length ≤ 1000000 by omega⟩
        rw [mayT hm, Bool.not_true, brF, g19a, Option.bind_some, eqI_refl, Bool.not_true, brF, g20, Option.bind_some, Bool.not_true, brF, g19b, Option.bind_some]
        by_cases he : (placeM c l).2 = 0
        · rw [he, eqI_refl, Bool.not_true, brF]
          obtain ⟨q1, q2, q3, q4⟩ := place_ok (d := (placeM c l).1) hm (Prod.ext rfl he)
          generalize (placeM c l).1 = d at *
          have hfd := may_fit q1
          have g21d : G21 d = some true := by rw [g21 hfd, mayT q1]
          rw [g21d, Option.bind_some, Bool.not_true, brF, q3, q4, q2.1, q2.2.1, q2.2.2]
          simp only [eqI_refl, Bool.not_true, brF]
          exact L3_spec 1000 c c d l q3 hfd 1000 0 (by omega) (by omega)
        · rw [eqI_ne he, Bool.not_false, brT]
          by_cases h2 : (placeM c l).2 = 2
          · rw [h2]; rfl
          · have h0 : c.1 = 0 := by
              unfold placeM at he h2
              rw [mayT hm, brT] at he h2
              cases hr : riseI (-1) l with
              | false => rw [hr, brF] at h2; exact absurd rfl h2
              | true =>
                rw [hr, brT] at he h2
                split at he
                · rename_i h; exact h
                · split at he <;> exact absurd rfl he
            rw [eqI_ne h2, brF, h0]; rfl
      · rw [mayF hm]; rfl
def G3 : T3 → Option U3 := fun x => if -128 ≤ x.1.1 ∧ x.1.1 ≤ 127 then some true else none
theorem statesPlaceC_ok : CtrAll Try.prog ⟨3, A3, R3, G3⟩ := C3 c16 c17 c18 c19 c20 c21 c22 fun x y h => by
  unfold G3 at h
  split at h
  · rename_i hb; exact ⟨1000, (place_spec x.1 x.2 hb).trans h⟩
  · cases h
end Go.Ev.R3

set_option linter.unusedVariables false
namespace Go.Ev.R3
open Go.Proofs
theorem i8_of {c : Coord} (h : Rng coordT c) : -128 ≤ c.1 ∧ c.1 ≤ 127 := by
  have h2 : (Lit.int .i8 c.1).wf = true := h.1
  have e1 : IntKind.i8.min = -128 := rfl
  have e2 : IntKind.i8.max = 127 := rfl
  simp [Lit.wf, e1, e2] at h2
  omega
end Go.Ev.R3

namespace Go.Ev.R3
abbrev tidsT : Ty := .st (.pr coordT (.pr coordT coordT))
abbrev groupsT : Ty := .st (.pr pendT pendT)
abbrev stateT : Ty := .st (.pr (.int .i64) (.pr tidsT groupsT))
abbrev metaT : Ty := .st (.pr (.int .i8) (.pr (.int .i64) (.pr (.int .i64) (.pr pendT (.pr .bool (.pr (.int .i64) (.pr coordT (.int .i64))))))))
abbrev metasT : Ty := .sl metaT
abbrev Tids : Type := Coord × Coord × Coord
abbrev Groups : Type := Pend × Pend
abbrev State : Type := Int × Tids × Groups
abbrev MetaE : Type := Int × Int × Int × Pend × Bool × Int × Coord × Int
abbrev Metas : Type := List MetaE
end Go.Ev.R3

set_option linter.unusedVariables false
set_option maxRecDepth 100000
namespace Go.Ev.R3
open Go.Proofs

/-! roving/meta.Of -/
abbrev A90 : Ty := .pr stateT (.int .i64)
abbrev R90 : Ty := .tup (.pr (.int .i64) .bool)
abbrev T90 : Type := State × Int
abbrev U90 : Type := Int × Bool
noncomputable def E90 (k : Nat) : Env := mk [] [(90, Try.f90)] k
noncomputable def F90 (k0 : Nat) (s : State) (p : Int) : Option U90 := sem (E90 k0) 2 90 A90 R90 ((s, p) : T90)
theorem F90_eq  (s : State) (p : Int) : F90 8 s p = br (decide (p > 0)) (br (eqI s.2.1.1.2.1 p) (some (0, true)) (br (decide (p > 0)) (br (eqI s.2.1.2.1.2.1 p) (some (1, true)) (br (decide (p > 0)) (br (eqI s.2.1.2.2.2.1 p) (some (2, true)) (some (0, false))) (some (0, false)))) (br (decide (p > 0)) (br (eqI s.2.1.2.2.2.1 p) (some (2, true)) (some (0, false))) (some (0, false))))) (br (decide (p > 0)) (br (eqI s.2.1.2.1.2.1 p) (some (1, true)) (br (decide (p > 0)) (br (eqI s.2.1.2.2.2.1 p) (some (2, true)) (some (0, false))) (some (0, false)))) (br (decide (p > 0)) (br (eqI s.2.1.2.2.2.1 p) (some (2, true)) (some (0, false))) (some (0, false)))) := by kernel_rfl
theorem C90  {G : T90 → Option U90} (h : ∀ x y, G x = some y → ∃ k0, F90 k0 x.1 x.2 = some y) : CtrAll Try.prog ⟨90, A90, R90, G⟩ := by
  refine ctr_of mixed ⟨Try.f90, Try.func90, by decide, rfl⟩ rfl rfl fun x y hx => ?_
  obtain ⟨k0, hk⟩ := h x y hx
  exact ⟨E90 k0, 2, base.env (trivial : CtrsOK Try.prog []) ⟨⟨Try.func90, by decide⟩, trivial⟩, hk⟩

/-! roving/meta.May -/
abbrev A74 : Ty := stateT
abbrev R74 : Ty := .bool
abbrev T74 : Type := State
abbrev U74 : Type := Bool
noncomputable def E74 (G21 : T21 → Option U21) (G90 : T90 → Option U90) (k : Nat) : Env := mk [⟨21, A21, R21, G21⟩, ⟨90, A90, R90, G90⟩] [(74, Try.f74), (101, Try.f101), (112, Try.f112)] k
noncomputable def F74 (G21 : T21 → Option U21) (G90 : T90 → Option U90) (k0 : Nat) (s : State) : Option U74 := semT (E74 G21 G90 k0) (a := A74) (r := R74) (evCall (E74 G21 G90 k0) 3) 74 (s : T74)
theorem F74_eq (G21 : T21 → Option U21) (G90 : T90 → Option U90)  (s : State) : F74 G21 G90 8 s = br (decide (s.1 < 0)) (some false) (br (decide (s.1 > 8)) (some false) (Option.bind (G21 s.2.1.1) fun y => br (!y) (some false) (br (decide (s.2.1.1.2.1 > s.1)) (some false) (Option.bind (G90 (s, s.2.1.1.2.1)) fun y => br (decide (s.2.1.1.2.1 > 0)) (br (!eqI y.1 0) (some false) (Option.bind (G21 s.2.1.2.1) fun y => br (!y) (some false) (br (decide (s.2.1.2.1.2.1 > s.1)) (some false) (Option.bind (G90 (s, s.2.1.2.1.2.1)) fun y => br (decide (s.2.1.2.1.2.1 > 0)) (br (!eqI y.1 1) (some false) (Option.bind (G21 s.2.1.2.2) fun y => br (!y) (some false) (br (decide (s.2.1.2.2.2.1 > s.1)) (some false) (Option.bind (G90 (s, s.2.1.2.2.2.1)) fun y => br (decide (s.2.1.2.2.2.1 > 0)) (br (!eqI y.1 2) (some false) (br (decide (s.2.2.1.1 < -1)) (some false) (br (decide (s.2.2.1.1 > 1048576)) (some false) (br (decide (s.2.2.1.2.1 < -1)) (some false) (br (decide (s.2.2.1.2.1 > 1048576)) (some false) (br (decide (s.2.2.1.2.2 < -1)) (some false) (br (decide (s.2.2.1.2.2 > 1048576)) (some false) (br (decide (s.2.2.2.1 < -1)) (some false) (br (decide (s.2.2.2.1 > 1048576)) (some false) (br (decide (s.2.2.2.2.1 < -1)) (some false) (br (decide (s.2.2.2.2.1 > 1048576)) (some false) (br (decide (s.2.2.2.2.2 < -1)) (some false) (br (decide (s.2.2.2.2.2 > 1048576)) (some false) (some true)))))))))))))) (br (decide (s.2.2.1.1 < -1)) (some false) (br (decide (s.2.2.1.1 > 1048576)) (some false) (br (decide (s.2.2.1.2.1 < -1)) (some false) (br (decide (s.2.2.1.2.1 > 1048576)) (some false) (br (decide (s.2.2.1.2.2 < -1)) (some false) (br (decide (s.2.2.1.2.2 > 1048576)) (some false) (br (decide (s.2.2.2.1 < -1)) (some false) (br (decide (s.2.2.2.1 > 1048576)) (some false) (br (decide (s.2.2.2.2.1 < -1)) (some false) (br (decide (s.2.2.2.2.1 > 1048576)) (some false) (br (decide (s.2.2.2.2.2 < -1)) (some false) (br (decide (s.2.2.2.2.2 > 1048576)) (some false) (some true))))))))))))))))) (Option.bind (G21 s.2.1.2.2) fun y => br (!y) (some false) (br (decide (s.2.1.2.2.2.1 > s.1)) (some false) (Option.bind (G90 (s, s.2.1.2.2.2.1)) fun y => br (decide (s.2.1.2.2.2.1 > 0)) (br (!eqI y.1 2) (some false) (br (decide (s.2.2.1.1 < -1)) (some false) (br (decide (s.2.2.1.1 > 1048576)) (some false) (br (decide (s.2.2.1.2.1 < -1)) (some false) (br (decide (s.2.2.1.2.1 > 1048576)) (some false) (br (decide (s.2.2.1.2.2 < -1)) (some false) (br (decide (s.2.2.1.2.2 > 1048576)) (some false) (br (decide (s.2.2.2.1 < -1)) (some false) (br (decide (s.2.2.2.1 > 1048576)) (some false) (br (decide (s.2.2.2.2.1 < -1)) (some false) (br (decide (s.2.2.2.2.1 > 1048576)) (some false) (br (decide (s.2.2.2.2.2 < -1)) (some false) (br (decide (s.2.2.2.2.2 > 1048576)) (some false) (some true)))))))))))))) (br (decide (s.2.2.1.1 < -1)) (some false) (br (decide (s.2.2.1.1 > 1048576)) (some false) (br (decide (s.2.2.1.2.1 < -1)) (some false) (br (decide (s.2.2.1.2.1 > 1048576)) (some false) (br (decide (s.2.2.1.2.2 < -1)) (some false) (br (decide (s.2.2.1.2.2 > 1048576)) (some false) (br (decide (s.2.2.2.1 < -1)) (some false) (br (decide (s.2.2.2.1 > 1048576)) (some false) (br (decide (s.2.2.2.2.1 < -1)) (some false) (br (decide (s.2.2.2.2.1 > 1048576)) (some false) (br (decide (s.2.2.2.2.2 < -1)) (some false) (br (decide (s.2.2.2.2.2 > 1048576)) (some false) (some true)))))))))))))))))))) (Option.bind (G21 s.2.1.2.1) fun y => br (!y) (some false) (br (decide (s.2.1.2.1.2.1 > s.1)) (some false) (Option.bind (G90 (s, s.2.1.2.1.2.1)) fun y => br (decide (s.2.1.2.1.2.1 > 0)) (br (!eqI y.1 1) (some false) (Option.bind (G21 s.2.1.2.2) fun y => br (!y) (some false) (br (decide (s.2.1.2.2.2.1 > s.1)) (some false) (Option.bind (G90 (s, s.2.1.2.2.2.1)) fun y => br (decide (s.2.1.2.2.2.1 > 0)) (br (!eqI y.1 2) (some false) (br (decide (s.2.2.1.1 < -1)) (some false) (br (decide (s.2.2.1.1 > 1048576)) (some false) (br (decide (s.2.2.1.2.1 < -1)) (some false) (br (decide (s.2.2.1.2.1 > 1048576)) (some false) (br (decide (s.2.2.1.2.2 < -1)) (some false) (br (decide (s.2.2.1.2.2 > 1048576)) (some false) (br (decide (s.2.2.2.1 < -1)) (some false) (br (decide (s.2.2.2.1 > 1048576)) (some false) (br (decide (s.2.2.2.2.1 < -1)) (some false) (br (decide (s.2.2.2.2.1 > 1048576)) (some false) (br (decide (s.2.2.2.2.2 < -1)) (some false) (br (decide (s.2.2.2.2.2 > 1048576)) (some false) (some true)))))))))))))) (br (decide (s.2.2.1.1 < -1)) (some false) (br (decide (s.2.2.1.1 > 1048576)) (some false) (br (decide (s.2.2.1.2.1 < -1)) (some false) (br (decide (s.2.2.1.2.1 > 1048576)) (some false) (br (decide (s.2.2.1.2.2 < -1)) (some false) (br (decide (s.2.2.1.2.2 > 1048576)) (some false) (br (decide (s.2.2.2.1 < -1)) (some false) (br (decide (s.2.2.2.1 > 1048576)) (some false) (br (decide (s.2.2.2.2.1 < -1)) (some false) (br (decide (s.2.2.2.2.1 > 1048576)) (some false) (br (decide (s.2.2.2.2.2 < -1)) (some false) (br (decide (s.2.2.2.2.2 > 1048576)) (some false) (some true))))))))))))))))) (Option.bind (G21 s.2.1.2.2) fun y => br (!y) (some false) (br (decide (s.2.1.2.2.2.1 > s.1)) (some false) (Option.bind (G90 (s, s.2.1.2.2.2.1)) fun y => br (decide (s.2.1.2.2.2.1 > 0)) (br (!eqI y.1 2) (some false) (br (decide (s.2.2.1.1 < -1)) (some false) (br (decide (s.2.2.1.1 > 1048576)) (some false) (br (decide (s.2.2.1.2.1 < -1)) (some false) (br (decide (s.2.2.1.2.1 > 1048576)) (some false) (br (decide (s.2.2.1.2.2 < -1)) (some false) (br (decide (s.2.2.1.2.2 > 1048576)) (some false) (br (decide (s.2.2.2.1 < -1)) (some false) (br (decide (s.2.2.2.1 > 1048576)) (some false) (br (decide (s.2.2.2.2.1 < -1)) (some false) (br (decide (s.2.2.2.2.1 > 1048576)) (some false) (br (decide (s.2.2.2.2.2 < -1)) (some false) (br (decide (s.2.2.2.2.2 > 1048576)) (some false) (some true)))))))))))))) (br (decide (s.2.2.1.1 < -1)) (some false) (br (decide (s.2.2.1.1 > 1048576)) (some false) (br (decide (s.2.2.1.2.1 < -1)) (some false) (br (decide (s.2.2.1.2.1 > 1048576)) (some false) (br (decide (s.2.2.1.2.2 < -1)) (some false) (br (decide (s.2.2.1.2.2 > 1048576)) (some false) (br (decide (s.2.2.2.1 < -1)) (some false) (br (decide (s.2.2.2.1 > 1048576)) (some false) (br (decide (s.2.2.2.2.1 < -1)) (some false) (br (decide (s.2.2.2.2.1 > 1048576)) (some false) (br (decide (s.2.2.2.2.2 < -1)) (some false) (br (decide (s.2.2.2.2.2 > 1048576)) (some false) (some true))))))))))))))))))))))) := by kernel_rfl
theorem C74 {G21 : T21 → Option U21} (h21 : CtrAll Try.prog ⟨21, A21, R21, G21⟩) {G90 : T90 → Option U90} (h90 : CtrAll Try.prog ⟨90, A90, R90, G90⟩) {G : T74 → Option U74} (h : ∀ x y, G x = some y → ∃ k0, F74 G21 G90 k0 x = some y) : CtrAll Try.prog ⟨74, A74, R74, G⟩ := by
  refine ctrT_of mixed ⟨Try.f74, Try.func74, by decide, rfl⟩ rfl rfl fun x y hx => ?_
  obtain ⟨k0, hk⟩ := h x y hx
  have hE : EnvOK Try.prog (E74 G21 G90 k0) := base.env (⟨h21, h90, trivial⟩ : CtrsOK Try.prog [⟨21, A21, R21, G21⟩, ⟨90, A90, R90, G90⟩]) ⟨⟨Try.func74, by decide⟩, ⟨Try.func101, by decide⟩, ⟨Try.func112, by decide⟩, trivial⟩
  exact ⟨E74 G21 G90 k0, _, hE, evCall_ok hE mixed _, hk⟩

end Go.Ev.R3
