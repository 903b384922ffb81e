import Derived.Test.YtggobapgdflchaaEvR3p
import Derived.Test.YtggobapgdflchaaEvR3e
set_option linter.unusedVariables false
set_option maxRecDepth 100000
namespace Go.Ev.R3
open Go.Proofs

/-! What the moves keep. -/

theorem rise_put : ∀ (l : Ints) (p q : Int), riseI p l = true → p < q → q ≤ 2 → riseI p (putM lessB q l) = true
  | [], p, q, _, h1, h2 => by simp [putM, riseI, h1, h2]
  | y :: l, p, q, h, h1, h2 => by
    simp only [riseI, Bool.and_eq_true, decide_eq_true_eq] at h
    unfold putM lessB
    simp only [decide_eq_true_eq]
    by_cases ha : y < q
    · rw [if_pos ha]
      simp only [riseI, Bool.and_eq_true, decide_eq_true_eq]
      exact ⟨h.1, h.2.1, rise_put l y q h.2.2 ha h2⟩
    · rw [if_neg ha]
      by_cases hb : q < y
      · rw [if_pos hb]
        simp only [riseI, Bool.and_eq_true, decide_eq_true_eq]
        exact ⟨h1, h2, hb, h.2.1, h.2.2⟩
      · rw [if_neg hb]
        have : q = y := by omega
        subst this
        simp only [riseI, Bool.and_eq_true, decide_eq_true_eq]
        exact ⟨h1, h2, h.2.2⟩

theorem rise_len : ∀ (l : Ints) (p : Int), riseI p l = true → p ≤ 2 → (l.length : Int) ≤ 2 - p
  | [], p, _, h => by simp; omega
  | y :: l, p, h, hp => by
    simp only [riseI, Bool.and_eq_true, decide_eq_true_eq] at h
    have := rise_len l y h.2.2 h.2.1
    simp only [List.length_cons]
    omega

theorem ahead_iff {p q : Pend} : aheadB p q = true ↔ p.1 < q.1 ∨ p.1 = q.1 ∧ p.2.1 < q.2.1 := by
  unfold aheadB; simp
theorem pend_iff {p : Pend} : pendB p = true ↔ (0 ≤ p.1 ∧ p.1 ≤ 1) ∧ (0 ≤ p.2.1 ∧ p.2.1 ≤ 2) ∧ (0 ≤ p.2.2 ∧ p.2.2 ≤ 1048576) := by
  unfold pendB; simp; omega

def aheadO : Option Pend → Pend → Prop
  | none, _ => True
  | some q, x => aheadB q x = true
theorem riseP_iff (p : Option Pend) (x : Pend) (l : Pends) : riseP p (x :: l) = true ↔ pendB x = true ∧ aheadO p x ∧ riseP (some x) l = true := by
  cases p <;> simp [riseP, aheadO]

theorem riseP_alike : ∀ (l : Pends) (x y : Pend), x.1 = y.1 → x.2.1 = y.2.1 → riseP (some y) l = true → riseP (some x) l = true
  | [], _, _, _, _, _ => rfl
  | z :: l, x, y, h1, h2, h => by
    rw [riseP_iff] at h ⊢
    refine ⟨h.1, ?_, h.2.2⟩
    have := ahead_iff.1 h.2.1
    exact ahead_iff.2 (by omega)

theorem riseP_put : ∀ (l : Pends) (p : Option Pend) (q : Pend), riseP p l = true → aheadO p q → pendB q = true → riseP p (putM aheadB q l) = true
  | [], p, q, _, h1, h2 => by unfold putM; rw [riseP_iff]; exact ⟨h2, h1, rfl⟩
  | y :: l, p, q, h, h1, h2 => by
    rw [riseP_iff] at h
    unfold putM
    by_cases ha : aheadB y q = true
    · rw [if_pos ha, riseP_iff]
      exact ⟨h.1, h.2.1, riseP_put l (some y) q h.2.2 ha h2⟩
    · rw [if_neg ha]
      by_cases hb : aheadB q y = true
      · rw [if_pos hb, riseP_iff, riseP_iff]
        exact ⟨h2, h1, h.1, hb, h.2.2⟩
      · rw [if_neg hb, riseP_iff]
        rw [ahead_iff] at ha hb
        exact ⟨h2, h1, riseP_alike l q y (by omega) (by omega) h.2.2⟩

theorem riseP_len : ∀ (l : Pends) (q : Pend), riseP (some q) l = true → pendB q = true → (l.length : Int) ≤ 5 - (3 * q.1 + q.2.1)
  | [], q, _, h => by have := pend_iff.1 h; simp; omega
  | y :: l, q, h, hq => by
    rw [riseP_iff] at h
    have := riseP_len l y h.2.2 h.1
    have h1 := ahead_iff.1 h.2.1
    have h2 := pend_iff.1 h.1
    have h3 := pend_iff.1 hq
    simp only [List.length_cons]
    omega
theorem riseP_len0 (l : Pends) (h : riseP none l = true) : l.length ≤ 6 := by
  cases l with
  | nil => simp
  | cons y l =>
    rw [riseP_iff] at h
    have := riseP_len l y h.2.2 h.1
    have := pend_iff.1 h.1
    simp only [List.length_cons]; omega

theorem may_small {c : Coord} (h : MayP c) : c.2.2.2.2.2.1.length ≤ 3 ∧ c.2.2.2.2.2.2.1.length ≤ 6 := by
  rcases h with rfl | h
  · exact ⟨by decide, by decide⟩
  · have h1 := rise_len _ _ h.2.2.2.2.2.1 (by omega)
    have h2 := riseP_len0 _ h.2.2.2.2.2.2.1
    exact ⟨by omega, h2⟩
theorem may_fit {c : Coord} (h : MayP c) : Fit c := by
  have := may_small h
  exact ⟨by omega, by omega⟩
theorem may0 : MayP coord0 := .inl rfl

theorem moves_ok {c : Coord} (h : (movesM c).2 = 0) : whatM c.1 ≠ 0 ∧ whatM c.1 ≠ 3 ∧ movesM c = ((2, c.2), 0) := by
  unfold movesM at h ⊢
  split at h
  · simp at h
  · rename_i hn
    rw [if_neg hn]
    exact ⟨fun e => hn (.inl e), fun e => hn (.inr e), rfl⟩

/-- what a transactional id is, its state being no more 'none' -/
def Kept (c d : Coord) : Prop := d.2.1 = c.2.1 ∧ d.2.2.1 = c.2.2.1 ∧ d.2.2.2.1 = c.2.2.2.1

theorem put_ne {α : Type} (ah : α → α → Bool) (x : α) (l : List α) : putM ah x l ≠ [] := by
  cases l with
  | nil => simp [putM]
  | cons y l => unfold putM; split <;> (try split) <;> simp

theorem add_ok {c d : Coord} {q : Int} (hc : MayP c) (h : addM c q = (d, 0)) : MayP d ∧ Kept c d ∧ d.1 = 2 ∧ d.2.2.2.2.2.2.2 = c.2.2.2.2.2.2.2 ∧ c.1 ≠ 0 := by
  unfold addM at h
  rw [mayT hc, brT] at h
  split at h
  · rename_i hq
    split at h
    · rename_i hm
      obtain ⟨h1, h2, h3⟩ := moves_ok hm
      rw [h3] at h
      have hw := what_cases c.1
      injection h with h _
      subst h
      rcases hc with rfl | hc
      · exact absurd rfl h1
      · refine ⟨.inr ⟨by simp, hc.2.1, hc.2.2.1, hc.2.2.2.1, hc.2.2.2.2.1, rise_put _ _ _ hc.2.2.2.2.2.1 (by omega) hq.2, hc.2.2.2.2.2.2.1, by simp, fun _ h => put_ne _ _ _ h.1, ?_⟩, ⟨rfl, rfl, rfl⟩, rfl, rfl, by omega⟩
        rcases hc.2.2.2.2.2.2.2.2.2 with h | h
        · exact .inl h
        · omega
    · rename_i hm
      have h2 := congrArg Prod.snd h
      exact absurd h2 hm
  · simp at h

theorem set_ok {c d : Coord} {p : Pend} (hc : MayP c) (h : setM c p = (d, 0)) : MayP d ∧ Kept c d ∧ d.1 = 2 ∧ d.2.2.2.2.2.2.2 = c.2.2.2.2.2.2.2 ∧ c.1 ≠ 0 := by
  unfold setM at h
  rw [mayT hc, brT] at h
  cases hp : pendB p with
  | false => rw [hp, brF] at h; simp at h
  | true =>
    rw [hp, brT] at h
    split at h
    · rename_i hm
      obtain ⟨h1, h2, h3⟩ := moves_ok hm
      rw [h3] at h
      have hw := what_cases c.1
      injection h with h _
      subst h
      rcases hc with rfl | hc
      · exact absurd rfl h1
      · refine ⟨.inr ⟨by simp, hc.2.1, hc.2.2.1, hc.2.2.2.1, hc.2.2.2.2.1, hc.2.2.2.2.2.1, riseP_put _ _ _ hc.2.2.2.2.2.2.1 trivial hp, by simp, fun _ h => put_ne _ _ _ h.2, ?_⟩, ⟨rfl, rfl, rfl⟩, rfl, rfl, by omega⟩
        rcases hc.2.2.2.2.2.2.2.2.2 with h | h
        · exact .inl h
        · omega
    · rename_i hm
      have h2 := congrArg Prod.snd h
      exact absurd h2 hm

theorem tick_ok {c : Coord} (hc : MayP c) : MayP (tickM c) ∧ Kept c (tickM c) ∧ (tickM c).1 = c.1 ∧ (c.1 = 2 → c.2.2.2.2.2.2.2 < 1048576 → (tickM c).2.2.2.2.2.2.2 = c.2.2.2.2.2.2.2 + 1) ∧ (tickM c).2.2.2.2.1 = c.2.2.2.2.1 := by
  unfold tickM
  rw [mayT hc, brT]
  split
  · rename_i h
    rcases hc with rfl | hc
    · exact absurd h.1 (by decide)
    · obtain ⟨h1, h2, h3, h4, h5, h6, h7, h8, h9, h10⟩ := hc
      refine ⟨.inr ⟨h1, h2, h3, h4, ?_, h6, h7, ?_, h9, h10⟩, ⟨rfl, rfl, rfl⟩, rfl, fun _ _ => rfl, rfl⟩
      · show 0 ≤ c.2.2.2.2.2.2.2 + 1 ∧ c.2.2.2.2.2.2.2 + 1 ≤ 1048576
        omega
      · intro (h : c.1 = 1 ∨ c.1 = 5 ∨ c.1 = 6); omega
  · rename_i h
    exact ⟨hc, ⟨rfl, rfl, rfl⟩, rfl, fun h1 h2 => absurd ⟨h1, h2⟩ h, rfl⟩

/-! A move. -/
abbrev Move : Type := Int × Int × Int × Pend × Bool × Ints
noncomputable def moveM (c : Coord) (x : Move) : Coord × Int :=
  if x.1 = 0 then initM c x.2.1 x.2.2.1 else if x.1 = 1 then addM c x.2.1 else if x.1 = 2 then setM c x.2.2.2.1 else if x.1 = 3 then prepM c x.2.2.2.2.1 x.2.1
  else if x.1 = 4 then compM c else if x.1 = 5 then (tickM c, 0) else placeM c x.2.2.2.2.2
noncomputable def G33 : T33 → Option U33 := fun x => if Fit x.1 ∧ (x.2.1 = 1 ∨ x.2.1 = 2 ∨ x.2.2.2.2.2.2.length ≤ 1000000) then some (moveM x.1 x.2) else none
theorem c33 : CtrAll Try.prog ⟨33, A33, R33, G33⟩ := C33 c35 c36 c79 c80 c81 c38 c19 fun x y h => by
  unfold G33 at h
  split at h
  · rename_i hb
    obtain ⟨c, m⟩ := x
    have e1 : G35 (c, m.2.1, m.2.2.1) = some (initM c m.2.1 m.2.2.1) := if_pos hb.1
    have e2 : G36 (c, m.2.1) = some (addM c m.2.1) := if_pos hb.1
    have e3 : G79 (c, m.2.2.2.1) = some (setM c m.2.2.2.1) := if_pos hb.1
    have e4 : G80 (c, m.2.2.2.2.1, m.2.1) = some (prepM c m.2.2.2.2.1 m.2.1) := if_pos hb.1
    have e5 : G81 c = some (compM c) := if_pos hb.1
    have e6 : G38 c = some (tickM c) := if_pos hb.1
    have e7 : ¬ m.1 = 1 → ¬ m.1 = 2 → G19 (c, m.2.2.2.2.2) = some (placeM c m.2.2.2.2.2) := fun h1 h2 => if_pos ⟨hb.1, by rcases hb.2 with k | k | k <;> first | exact absurd k h1 | exact absurd k h2 | exact k⟩
    refine ⟨0, ?_⟩
    rw [F33_eq, ← h]
    simp only [e1, e2, e3, e4, e5, e6, Option.bind_some, br_dec, eqI]
    unfold moveM
    by_cases h1 : m.1 = 1
    · simp only [h1]; rfl
    · by_cases h2 : m.1 = 2
      · simp only [h2]; rfl
      · simp only [e7 h1 h2, Option.bind_some]
        (repeat' split) <;> rfl
  · cases h

/-! wakes -/
theorem wakes_ok : F18 G35 0 = some true := by
  rw [F18_eq]
  have m1 : MayP (5, 2, 4, 1, 0, [], [], 0) := .inr (by decide)
  have m2 : MayP (2, 2, 0, 1, 0, [0], [], 0) := .inr (by decide)
  have e1 : G35 ((5, 2, 4, 1, 0, [], [], 0), 2, 7) = some ((1, 2, 5, 7, 0, [], [], 0), 0) := by
    unfold G35
    rw [if_pos (may_fit m1)]
    unfold initM
    rw [mayT m1]; simp [br]
  have e2 : G35 ((2, 2, 0, 1, 0, [0], [], 0), 2, 7) = some (coord0, 180) := by
    unfold G35
    rw [if_pos (may_fit m2)]
    unfold initM
    rw [mayT m2]; simp [br]
  rw [e1, e2]; rfl
def G18 : T18 → Option U18 := fun _ => some true
theorem c18 : CtrAll Try.prog ⟨18, A18, R18, G18⟩ := C18 c35 fun x y h => ⟨0, wakes_ok.trans h⟩

/-! StatesOld -/
theorem old_loop (k0 : Nat) (to : Int) (l : List Move) (hl : l.length ≤ 60) : ∀ (k i : Nat) (age : Int) (c : Coord), l.length < k + i → i ≤ l.length → MayP c → c.1 = 2 → c.2.2.2.2.2.2.2 = age → 0 ≤ age → age ≤ i → c.2.2.2.1 = to →
    L9_9 G35 G36 G37 G33 G38 G18 k0 k to l age (i : Int) c = some true
  | 0, i, age, c, h, hi, _, _, _, _, _, _ => by omega
  | k + 1, i, age, c, h, hi, hc, h2, ha, h0, h1, ht => by
    rw [L9_9_step, idxN]
    cases hx : l[i]? with
    | none =>
      have := List.getElem?_eq_none_iff.1 hx
      rw [dF (show ¬ ((i : Int) < lenI l) by unfold lenI; omega)]; rfl
    | some x =>
      have hlt := (List.getElem?_eq_some_iff.1 hx).1
      have hf := may_fit hc
      have g33 : x.1 = 1 ∨ x.1 = 2 → G33 (c, x) = some (moveM c x) := fun h => if_pos ⟨hf, by rcases h with h | h; exact .inl h; exact .inr (.inl h)⟩
      have g38 : G38 c = some (tickM c) := if_pos hf
      have hdue : eqB (dueM c) (decide (age ≥ to)) = true := by
        unfold eqB dueM
        rw [dT h2, ha, ht]; simp
      have w1' := w1 (i := i) (by omega)
      have w2' : IntKind.wrap IntKind.i64 (age + 1) = age + 1 := w64 (by omega) (by omega)
      rw [dT (show (i : Int) < lenI l by unfold lenI; omega), w1']
      simp only [brT, Option.bind_some, G37, g38, hdue, Bool.not_true, brF, br_dec, br_ndec, eqI, w2', ha, h2, if_true]
      have rest : ∀ d : Coord, MayP d → d.1 = 2 → d.2.2.2.2.2.2.2 = age → d.2.2.2.1 = to → L9_9 G35 G36 G37 G33 G38 G18 k0 k to l age ((i + 1 : Nat) : Int) d = some true :=
        fun d hd q1 q2 q3 => old_loop k0 to l hl k (i + 1) age d (by omega) (by omega) hd q1 q2 h0 (by omega) q3
      have go12 : (x.1 = 1 ∨ x.1 = 2) → (moveM c x).2 = 0 → MayP (moveM c x).1 ∧ (moveM c x).1.1 = 2 ∧ (moveM c x).1.2.2.2.2.2.2.2 = age ∧ (moveM c x).1.2.2.2.1 = to := by
        intro hd he
        have key : MayP (moveM c x).1 ∧ Kept c (moveM c x).1 ∧ (moveM c x).1.1 = 2 ∧ (moveM c x).1.2.2.2.2.2.2.2 = c.2.2.2.2.2.2.2 ∧ c.1 ≠ 0 := by
          unfold moveM at he ⊢
          rcases hd with hd | hd
          · rw [if_neg (by omega), if_pos hd] at he ⊢
            exact add_ok hc (Prod.ext rfl he)
          · rw [if_neg (by omega), if_neg (by omega), if_pos hd] at he ⊢
            exact set_ok hc (Prod.ext rfl he)
        exact ⟨key.1, key.2.2.1, key.2.2.2.1.trans ha, key.2.1.2.2.trans ht⟩
      have go5 : L9_9 G35 G36 G37 G33 G38 G18 k0 k to l (age + 1) ((i + 1 : Nat) : Int) (tickM c) = some true ∧ (tickM c).2.2.2.2.2.2.2 = age + 1 ∧ (tickM c).1 = 2 := by
        obtain ⟨q1, q2, q3, q4, _⟩ := tick_ok hc
        have q5 := q4 h2 (by omega)
        rw [ha] at q5
        exact ⟨old_loop k0 to l hl k (i + 1) (age + 1) (tickM c) (by omega) (by omega) q1 (q3.trans h2) q5 (by omega) (by omega) (q2.2.2.trans ht), q5, q3.trans h2⟩
      have keep := rest c hc h2 ha ht
      by_cases hd1 : x.1 = 1
      · by_cases he : (moveM c x).2 = 0
        · obtain ⟨q1, q2, q3, q4⟩ := go12 (.inl hd1) he
          simp only [g33 (.inl hd1), Option.bind_some, hd1, he, q2, q3, if_true]
          exact rest _ q1 q2 q3 q4
        · simp only [g33 (.inl hd1), Option.bind_some, hd1, he, if_true, if_false]
          exact keep
      · by_cases hd2 : x.1 = 2
        · by_cases he : (moveM c x).2 = 0
          · obtain ⟨q1, q2, q3, q4⟩ := go12 (.inr hd2) he
            simp only [g33 (.inr hd2), Option.bind_some, hd2, he, q2, q3, if_true]
            exact rest _ q1 q2 q3 q4
          · simp only [g33 (.inr hd2), Option.bind_some, hd2, he, if_true, if_false]
            exact keep
        · by_cases hd5 : x.1 = 5
          · simp only [hd5, go5.2.1, go5.2.2, if_true]
            exact go5.1
          · simp only [hd1, hd2, hd5, if_false]
            exact keep

theorem old_spec (to : Int) (l : List Move) : F9 G35 G36 G37 G33 G38 G18 1000 to l = some true := by
  rw [F9_eq]
  have g35 : G35 ((0, 0, 0, 0, 0, [], [], 0), 1, to) = some (initM coord0 1 to) := if_pos (may_fit may0)
  rw [g35]
  simp only [Option.bind_some, G18]
  unfold initM
  rw [mayT may0, brT]
  by_cases ht : 1 ≤ to ∧ to ≤ 20
  · rw [if_pos (by omega : (1 : Int) ≤ 1 ∧ (1 : Int) ≤ 8 ∧ 1 ≤ to ∧ to ≤ 20)]
    rw [if_pos (show coord0.1 = 0 from rfl)]
    simp only [eqI_refl, Bool.not_true, brF]
    by_cases h60 : lenI l > 60
    · simp only [dT h60, brT]
      have e1 : ¬ to < 1 := by omega
      have e2 : ¬ to > 20 := by omega
      simp [br, e1, e2]
    · rw [dF h60, brF]
      unfold lenI at h60
      have hc1 : MayP (1, 1, 0, to, 0, [], [], 0) := .inr ⟨by simp, by simp, by simp, ht, by simp, rfl, rfl, by simp, by simp, by simp⟩
      have g36 : G36 ((1, 1, 0, to, 0, [], [], 0), 0) = some (addM (1, 1, 0, to, 0, [], [], 0) 0) := if_pos (may_fit hc1)
      have hadd : addM (1, 1, 0, to, 0, [], [], 0) 0 = ((2, 1, 0, to, 0, [0], [], 0), 0) := by
        unfold addM
        rw [mayT hc1, brT]
        rfl
      obtain ⟨q1, q2, q3, q4, q5⟩ := add_ok hc1 hadd
      rw [g36, hadd]
      simp only [Option.bind_some, eqI_refl, Bool.not_true, brF]
      exact old_loop 1000 to l (by omega) 1000 0 0 _ (by omega) (by omega) q1 rfl rfl (by omega) (by omega) rfl
  · rw [if_neg (by omega : ¬ ((1 : Int) ≤ 1 ∧ (1 : Int) ≤ 8 ∧ 1 ≤ to ∧ to ≤ 20))]
    have e0 : eqI (2 : Int) 0 = false := rfl
    simp only [e0, Bool.not_false, brT]
    by_cases e1 : to < 1
    · simp [br, e1]
    · have e2 : to > 20 := by omega
      simp [br, e1, e2]
def G9 : T9 → Option U9 := fun _ => some true
theorem oldC_ok : CtrAll Try.prog ⟨9, A9, R9, G9⟩ := C9 c35 c36 c37 c33 c38 c18 fun x y h => ⟨1000, (old_spec x.1 x.2).trans h⟩
end Go.Ev.R3
