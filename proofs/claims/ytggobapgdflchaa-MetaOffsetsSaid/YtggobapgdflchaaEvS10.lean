import Derived.Test.YtggobapgdflchaaEvS7
import Derived.Test.YtggobapgdflchaaEvS9
set_option linter.unusedVariables false
set_option maxRecDepth 100000
namespace Go.Ev.R3
open Go.Proofs

/-! What the moves keep. -/

theorem rise_put : ∀ (l : Ints) (p q : Int), riseI p l = true → p < q → q ≤ 2 → riseI p (putM lessB q l) = true
  | [], p, q, _, h1, h2 => by simp [putM, riseI, h1, h2]
  | y :: l, p, q, h, h1, h2 => by
    simp only [riseI, Bool.and_eq_true, decide_eq_true_eq] at h
    unfold putM lessB
    simp only [decide_eq_true_eq]
    by_cases ha : y < q
    · rw [if_pos ha]
      simp only [riseI, Bool.and_eq_true, decide_eq_true_eq]
      exact ⟨h.1, h.2.1, rise_put l y q h.2.2 ha h2⟩
    · rw [if_neg ha]
      by_cases hb : q < y
      · rw [if_pos hb]
        simp only [riseI, Bool.and_eq_true, decide_eq_true_eq]
        exact ⟨h1, h2, hb, h.2.1, h.2.2⟩
      · rw [if_neg hb]
        have : q = y := by omega
        subst this
        simp only [riseI, Bool.and_eq_true, decide_eq_true_eq]
        exact ⟨h1, h2, h.2.2⟩

theorem rise_len : ∀ (l : Ints) (p : Int), riseI p l = true → p ≤ 2 → (l.length : Int) ≤ 2 - p
  | [], p, _, h => by simp; omega
  | y :: l, p, h, hp => by
    simp only [riseI, Bool.and_eq_true, decide_eq_true_eq] at h
    have := rise_len l y h.2.2 h.2.1
    simp only [List.length_cons]
    omega

theorem ahead_iff {p q : Pend} : aheadB p q = true ↔ p.1 < q.1 ∨ p.1 = q.1 ∧ p.2.1 < q.2.1 := by
  unfold aheadB; simp
theorem pend_iff {p : Pend} : pendB p = true ↔ (0 ≤ p.1 ∧ p.1 ≤ 1) ∧ (0 ≤ p.2.1 ∧ p.2.1 ≤ 2) ∧ (0 ≤ p.2.2 ∧ p.2.2 ≤ 1048576) := by
  unfold pendB; simp; omega

def aheadO : Option Pend → Pend → Prop
  | none, _ => True
  | some q, x => aheadB q x = true
theorem riseP_iff (p : Option Pend) (x : Pend) (l : Pends) : riseP p (x :: l) = true ↔ pendB x = true ∧ aheadO p x ∧ riseP (some x) l = true := by
  cases p <;> simp [riseP, aheadO]

theorem riseP_alike : ∀ (l : Pends) (x y : Pend), x.1 = y.1 → x.2.1 = y.2.1 → riseP (some y) l = true → riseP (some x) l = true
  | [], _, _, _, _, _ => rfl
  | z :: l, x, y, h1, h2, h => by
    rw [riseP_iff] at h ⊢
    refine ⟨h.1, ?_, h.2.2⟩
    have := ahead_iff.1 h.2.1
    exact ahead_iff.2 (by omega)

theorem riseP_put : ∀ (l : Pends) (p : Option Pend) (q : Pend), riseP p l = true → aheadO p q → pendB q = true → riseP p (putM aheadB q l) = true
  | [], p, q, _, h1, h2 => by unfold putM; rw [riseP_iff]; exact ⟨h2, h1, rfl⟩
  | y :: l, p, q, h, h1, h2 => by
    rw [riseP_iff] at h
    unfold putM
    by_cases ha : aheadB y q = true
    · rw [if_pos ha, riseP_iff]
      exact ⟨h.1, h.2.1, riseP_put l (some y) q h.2.2 ha h2⟩
    · rw [if_neg ha]
      by_cases hb : aheadB q y = true
      · rw [if_pos hb, riseP_iff, riseP_iff]
        exact ⟨h2, h1, h.1, hb, h.2.2⟩
      · rw [if_neg hb, riseP_iff]
        rw [ahead_iff] at ha hb
        exact ⟨h2, h1, riseP_alike l q y (by omega) (by omega) h.2.2⟩

theorem riseP_len : ∀ (l : Pends) (q : Pend), riseP (some q) l = true → pendB q = true → (l.length : Int) ≤ 5 - (3 * q.1 + q.2.1)
  | [], q, _, h => by have := pend_iff.1 h; simp; omega
  | y :: l, q, h, hq => by
    rw [riseP_iff] at h
    have := riseP_len l y h.2.2 h.1
    have h1 := ahead_iff.1 h.2.1
    have h2 := pend_iff.1 h.1
    have h3 := pend_iff.1 hq
    simp only [List.length_cons]
    omega
theorem riseP_len0 (l : Pends) (h : riseP none l = true) : l.length ≤ 6 := by
  cases l with
  | nil => simp
  | cons y l =>
    rw [riseP_iff] at h
    have := riseP_len l y h.2.2 h.1
    have := pend_iff.1 h.1
    simp only [List.length_cons]; omega

theorem may_small {c : Coord} (h : MayP c) : c.2.2.2.2.2.1.length ≤ 3 ∧ c.2.2.2.2.2.2.1.length ≤ 6 := by
  rcases h with rfl | h
  · exact ⟨by decide, by decide⟩
  · have h1 := rise_len _ _ h.2.2.2.2.2.1 (by omega)
    have h2 := riseP_len0 _ h.2.2.2.2.2.2.1
    exact ⟨by omega, h2⟩
theorem may_fit {c : Coord} (h : MayP c) : Fit c := by
  have := may_small h
  exact ⟨by omega, by omega⟩
theorem may0 : MayP coord0 := .inl rfl

theorem moves_ok {c : Coord} (h : (movesM c).2 = 0) : whatM c.1 ≠ 0 ∧ whatM c.1 ≠ 3 ∧ movesM c = ((2, c.2), 0) := by
  unfold movesM at h ⊢
  split at h
  · simp at h
  · rename_i hn
    rw [if_neg hn]
    exact ⟨fun e => hn (.inl e), fun e => hn (.inr e), rfl⟩

/-- what a transactional id is, its state being no more 'none' -/
def Kept (c d : Coord) : Prop := d.2.1 = c.2.1 ∧ d.2.2.1 = c.2.2.1 ∧ d.2.2.2.1 = c.2.2.2.1

theorem put_ne {α : Type} (ah : α → α → Bool) (x : α) (l : List α) : putM ah x l ≠ [] := by
  cases l with
  | nil => simp [putM]
  | cons y l => unfold putM; split <;> (try split) <;> simp

theorem add_ok {c d : Coord} {q : Int} (hc : MayP c) (h : addM c q = (d, 0)) : MayP d ∧ Kept c d ∧ d.1 = 2 ∧ d.2.2.2.2.2.2.2 = c.2.2.2.2.2.2.2 ∧ c.1 ≠ 0 := by
  unfold addM at h
  rw [mayT hc, brT] at h
  split at h
  · rename_i hq
    split at h
    · rename_i hm
      obtain ⟨h1, h2, h3⟩ := moves_ok hm
      rw [h3] at h
      have hw := what_cases c.1
      injection h with h _
      subst h
      rcases hc with rfl | hc
      · exact absurd rfl h1
      · refine ⟨.inr ⟨by simp, hc.2.1, hc.2.2.1, hc.2.2.2.1, hc.2.2.2.2.1, rise_put _ _ _ hc.2.2.2.2.2.1 (by omega) hq.2, hc.2.2.2.2.2.2.1, by simp, fun _ h => put_ne _ _ _ h.1, ?_⟩, ⟨rfl, rfl, rfl⟩, rfl, rfl, by omega⟩
        rcases hc.2.2.2.2.2.2.2.2.2 with h | h
        · exact .inl h
        · omega
    · rename_i hm
      have h2 := congrArg Prod.snd h
      exact absurd h2 hm
  · simp at h

theorem set_ok {c d : Coord} {p : Pend} (hc : MayP c) (h : setM c p = (d, 0)) : MayP d ∧ Kept c d ∧ d.1 = 2 ∧ d.2.2.2.2.2.2.2 = c.2.2.2.2.2.2.2 ∧ c.1 ≠ 0 := by
  unfold setM at h
  rw [mayT hc, brT] at h
  cases hp : pendB p with
  | false => rw [hp, brF] at h; simp at h
  | true =>
    rw [hp, brT] at h
    split at h
    · rename_i hm
      obtain ⟨h1, h2, h3⟩ := moves_ok hm
      rw [h3] at h
      have hw := what_cases c.1
      injection h with h _
      subst h
      rcases hc with rfl | hc
      · exact absurd rfl h1
      · refine ⟨.inr ⟨by simp, hc.2.1, hc.2.2.1, hc.2.2.2.1, hc.2.2.2.2.1, hc.2.2.2.2.2.1, riseP_put _ _ _ hc.2.2.2.2.2.2.1 trivial hp, by simp, fun _ h => put_ne _ _ _ h.2, ?_⟩, ⟨rfl, rfl, rfl⟩, rfl, rfl, by omega⟩
        rcases hc.2.2.2.2.2.2.2.2.2 with h | h
        · exact .inl h
        · omega
    · rename_i hm
      have h2 := congrArg Prod.snd h
      exact absurd h2 hm

theorem tick_ok {c : Coord} (hc : MayP c) : MayP (tickM c) ∧ Kept c (tickM c) ∧ (tickM c).1 = c.1 ∧ (c.1 = 2 → c.2.2.2.2.2.2.2 < 1048576 → (tickM c).2.2.2.2.2.2.2 = c.2.2.2.2.2.2.2 + 1) ∧ (tickM c).2.2.2.2.1 = c.2.2.2.2.1 := by
  unfold tickM
  rw [mayT hc, brT]
  split
  · rename_i h
    rcases hc with rfl | hc
    · exact absurd h.1 (by decide)
    · obtain ⟨h1, h2, h3, h4, h5, h6, h7, h8, h9, h10⟩ := hc
      refine ⟨.inr ⟨h1, h2, h3, h4, ?_, h6, h7, ?_, h9, h10⟩, ⟨rfl, rfl, rfl⟩, rfl, fun _ _ => rfl, rfl⟩
      · show 0 ≤ c.2.2.2.2.2.2.2 + 1 ∧ c.2.2.2.2.2.2.2 + 1 ≤ 1048576
        omega
      · intro (h : c.1 = 1 ∨ c.1 = 5 ∨ c.1 = 6); omega
  · rename_i h
    exact ⟨hc, ⟨rfl, rfl, rfl⟩, rfl, fun h1 h2 => absurd ⟨h1, h2⟩ h, rfl⟩

/-! A move. -/
abbrev Move : Type := Int × Int × Int × Pend × Bool × Ints
noncomputable def moveM (c : Coord) (x : Move) : Coord × Int :=
  if x.1 = 0 then initM c x.2.1 x.2.2.1 else if x.1 = 1 then addM c x.2.1 else if x.1 = 2 then setM c x.2.2.2.1 else if x.1 = 3 then prepM c x.2.2.2.2.1 x.2.1
  else if x.1 = 4 then compM c else if x.1 = 5 then (tickM c, 0) else placeM c x.2.2.2.2.2
noncomputable def G33 : T33 → Option U33 := fun x => if Fit x.1 ∧ (x.2.1 = 1 ∨ x.2.1 = 2 ∨ x.2.2.2.2.2.2.length ≤ 1000000) then some (moveM x.1 x.2) else none
theorem c33 : CtrAll Try.prog ⟨33, A33, R33, G33⟩ := C33 c35 c36 c79 c80 c81 c38 c19 fun x y h => by
  unfold G33 at h
  split at h
  · rename_i hb
    obtain ⟨c, m⟩ := x
    have e1 : G35 (c, m.2.1, m.2.2.1) = some (initM c m.2.1 m.2.2.1) := if_pos hb.1
    have e2 : G36 (c, m.2.1) = some (addM c m.2.1) := if_pos hb.1
    have e3 : G79 (c, m.2.2.2.1) = some (setM c m.2.2.2.1) := if_pos hb.1
    have e4 : G80 (c, m.2.2.2.2.1, m.2.1) = some (prepM c m.2.2.2.2.1 m.2.1) := if_pos hb.1
    have e5 : G81 c = some (compM c) := if_pos hb.1
    have e6 : G38 c = some (tickM c) := if_pos hb.1
    have e7 : ¬ m.1 = 1 → ¬ m.1 = 2 → G19 (c, m.2.2.2.2.2) = some (placeM c m.2.2.2.2.2) := fun h1 h2 => if_pos ⟨hb.1, by rcases hb.2 with k | k | k <;> first | exact absurd k h1 | exact absurd k h2 | exact k⟩
    refine ⟨0, ?_⟩
    rw [F33_eq, ← h]
    simp only [e1, e2, e3, e4, e5, e6, Option.bind_some, br_dec, eqI]
    unfold moveM
    by_cases h1 : m.1 = 1
    · simp only [h1]; rfl
    · by_cases h2 : m.1 = 2
      · simp only [h2]; rfl
      · simp only [e7 h1 h2, Option.bind_some]
        (repeat' split) <;> rfl
  · cases h

/-! wakes -/
theorem wakes_ok : F18 G35 0 = some true := by
  rw [F18_eq]
  have m1 : MayP (5, 2, 4, 1, 0, [], [], 0) := .inr (by decide)
  have m2 : MayP (2, 2, 0, 1, 0, [0], [], 0) := .inr (by decide)
  have e1 : G35 ((5, 2, 4, 1, 0, [], [], 0), 2, 7) = some ((1, 2, 5, 7, 0, [], [], 0), 0) := by
    unfold G35
    rw [if_pos (may_fit m1)]
    unfold initM
    rw [mayT m1]; simp [br]
  have e2 : G35 ((2, 2, 0, 1, 0, [0], [], 0), 2, 7) = some (coord0, 180) := by
    unfold G35
    rw [if_pos (may_fit m2)]
    unfold initM
    rw [mayT m2]; simp [br]
  rw [e1, e2]; rfl
def G18 : T18 → Option U18 := fun _ => some true
theorem c18 : CtrAll Try.prog ⟨18, A18, R18, G18⟩ := C18 c35 fun x y h => ⟨0, wakes_ok.trans h⟩

/-! StatesOld -/
theorem old_loop (k0 : Nat) (to : Int) (l : List Move) (hl : l.length ≤ 60) : ∀ (k i : Nat) (age : Int) (c : Coord), l.length < k + i → i ≤ l.length → MayP c → c.1 = 2 → c.2.2.2.2.2.2.2 = age → 0 ≤ age → age ≤ i → c.2.2.2.1 = to →
    L9_9 G35 G36 G37 G33 G38 G18 k0 k to l age (i : Int) c = some true
  | 0, i, age, c, h, hi, _, _, _, _, _, _ => by omega
  | k + 1, i, age, c, h, hi, hc, h2, ha, h0, h1, ht => by
    rw [L9_9_step, idxN]
    cases hx : l[i]? with
    | none =>
      have := List.getElem?_eq_none_iff.1 hx
      rw [dF (show ¬ ((i : Int) < lenI l) by unfold lenI; omega)]; rfl
    | some x =>
      have hlt := (List.getElem?_eq_some_iff.1 hx).1
      have hf := may_fit hc
      have g33 : x.1 = 1 ∨ x.1 = 2 → G33 (c, x) = some (moveM c x) := fun h => if_pos ⟨hf, by rcases h with h | h; exact .inl h; exact .inr (.inl h)⟩
      have g38 : G38 c = some (tickM c) := if_pos hf
      have hdue : eqB (dueM c) (decide (age ≥ to)) = true := by
        unfold eqB dueM
        rw [dT h2, ha, ht]; simp
      have w1' := w1 (i := i) (by omega)
      have w2' : IntKind.wrap IntKind.i64 (age + 1) = age + 1 := w64 (by omega) (by omega)
      rw [dT (show (i : Int) < lenI l by unfold lenI; omega), w1']
      simp only [brT, Option.bind_some, G37, g38, hdue, Bool.not_true, brF, br_dec, br_ndec, eqI, w2', ha, h2, if_true]
      have rest : ∀ d : Coord, MayP d → d.1 = 2 → d.2.2.2.2.2.2.2 = age → d.2.2.2.1 = to → L9_9 G35 G36 G37 G33 G38 G18 k0 k to l age ((i + 1 : Nat) : Int) d = some true :=
        fun d hd q1 q2 q3 => old_loop k0 to l hl k (i + 1) age d (by omega) (by omega) hd q1 q2 h0 (by omega) q3
      have go12 : (x.1 = 1 ∨ x.1 = 2) → (moveM c x).2 = 0 → MayP (moveM c x).1 ∧ (moveM c x).1.1 = 2 ∧ (moveM c x).1.2.2.2.2.2.2.2 = age ∧ (moveM c x).1.2.2.2.1 = to := by
        intro hd he
        have key : MayP (moveM c x).1 ∧ Kept c (moveM c x).1 ∧ (moveM c x).1.1 = 2 ∧ (moveM c x).1.2.2.2.2.2.2.2 = c.2.2.2.2.2.2.2 ∧ c.1 ≠ 0 := by
          unfold moveM at he ⊢
          rcases hd with hd | hd
          · rw [if_neg (by omega), if_pos hd] at he ⊢
            exact add_ok hc (Prod.ext rfl he)
          · rw [if_neg (by omega), if_neg (by omega), if_pos hd] at he ⊢
            exact set_ok hc (Prod.ext rfl he)
        exact ⟨key.1, key.2.2.1, key.2.2.2.1.trans ha, key.2.1.2.2.trans ht⟩
      have go5 : L9_9 G35 G36 G37 G33 G38 G18 k0 k to l (age + 1) ((i + 1 : Nat) : Int) (tickM c) = some true ∧ (tickM c).2.2.2.2.2.2.2 = age + 1 ∧ (tickM c).1 = 2 := by
        obtain ⟨q1, q2, q3, q4, _⟩ := tick_ok hc
        have q5 := q4 h2 (by omega)
        rw [ha] at q5
        exact ⟨old_loop k0 to l hl k (i + 1) (age + 1) (tickM c) (by omega) (by omega) q1 (q3.trans h2) q5 (by omega) (by omega) (q2.2.2.trans ht), q5, q3.trans h2⟩
      have keep := rest c hc h2 ha ht
      by_cases hd1 : x.1 = 1
      · by_cases he : (moveM c x).2 = 0
        · obtain ⟨q1, q2, q3, q4⟩ := go12 (.inl hd1) he
          simp only [g33 (.inl hd1), Option.bind_some, hd1, he, q2, q3, if_true]
          exact rest _ q1 q2 q3 q4
        · simp only [g33 (.inl hd1), Option.bind_some, hd1, he, if_true, if_false]
          exact keep
      · by_cases hd2 : x.1 = 2
        · by_cases he : (moveM c x).2 = 0
          · obtain ⟨q1, q2, q3, q4⟩ := go12 (.inr hd2) he
            simp only [g33 (.inr hd2), Option.bind_some, hd2, he, q2, q3, if_true]
            exact rest _ q1 q2 q3 q4
          · simp only [g33 (.inr hd2), Option.bind_some, hd2, he, if_true, if_false]
            exact keep
        · by_cases hd5 : x.1 = 5
          · simp only [hd5, go5.2.1, go5.2.2, if_true]
            exact go5.1
          · simp only [hd1, hd2, hd5, if_false]
            exact keep

theorem old_spec (to : Int) (l : List Move) : F9 G35 G36 G37 G33 G38 G18 1000 to l = some true := by
  rw [F9_eq]
  have g35 : G35 ((0, 0, 0, 0, 0, [], [], 0), 1, to) = some (initM coord0 1 to) := if_pos (may_fit may0)
  rw [g35]
  simp only [Option.bind_some, G18]
  unfold initM
  rw [mayT may0, brT]
  by_cases ht : 1 ≤ to ∧ to ≤ 20
  · rw [if_pos (by omega : (1 : Int) ≤ 1 ∧ (1 : Int) ≤ 8 ∧ 1 ≤ to ∧ to ≤ 20)]
    rw [if_pos (show coord0.1 = 0 from rfl)]
    simp only [eqI_refl, Bool.not_true, brF]
    by_cases h60 : lenI l > 60
    · simp only [dT h60, brT]
      have e1 : ¬ to < 1 := by omega
      have e2 : ¬ to > 20 := by omega
      simp [br, e1, e2]
    · rw [dF h60, brF]
      unfold lenI at h60
      have hc1 : MayP (1, 1, 0, to, 0, [], [], 0) := .inr ⟨by simp, by simp, by simp, ht, by simp, rfl, rfl, by simp, by simp, by simp⟩
      have g36 : G36 ((1, 1, 0, to, 0, [], [], 0), 0) = some (addM (1, 1, 0, to, 0, [], [], 0) 0) := if_pos (may_fit hc1)
      have hadd : addM (1, 1, 0, to, 0, [], [], 0) 0 = ((2, 1, 0, to, 0, [0], [], 0), 0) := by
        unfold addM
        rw [mayT hc1, brT]
        rfl
      obtain ⟨q1, q2, q3, q4, q5⟩ := add_ok hc1 hadd
      rw [g36, hadd]
      simp only [Option.bind_some, eqI_refl, Bool.not_true, brF]
      exact old_loop 1000 to l (by omega) 1000 0 0 _ (by omega) (by omega) q1 rfl rfl (by omega) (by omega) rfl
  · rw [if_neg (by omega : ¬ ((1 : Int) ≤ 1 ∧ (1 : Int) ≤ 8 ∧ 1 ≤ to ∧ to ≤ 20))]
    have e0 : eqI (2 : Int) 0 = false := rfl
    simp only [e0, Bool.not_false, brT]
    by_cases e1 : to < 1
    · simp [br, e1]
    · have e2 : to > 20 := by omega
      simp [br, e1, e2]
def G9 : T9 → Option U9 := fun _ => some true
theorem oldC_ok : CtrAll Try.prog ⟨9, A9, R9, G9⟩ := C9 c35 c36 c37 c33 c38 c18 fun x y h => ⟨1000, (old_spec x.1 x.2).trans h⟩
end Go.Ev.R3

set_option linter.unusedVariables false
set_option maxRecDepth 100000
namespace Go.Ev.R3
open Go.Proofs

/-! StatesRun -/

theorem init_ok {c d : Coord} {p t : Int} (hc : MayP c) (h : initM c p t = (d, 0)) : MayP d ∧ (c.1 ≠ 0 → d.2.1 = c.2.1 ∧ d.2.2.1 = c.2.2.1 + 1) ∧ (c.1 = 0 → d.2.2.1 = 0) := by
  unfold initM at h
  rw [mayT hc, brT] at h
  split at h
  · rename_i hq
    split at h
    · rename_i h0
      injection h with h _
      subst h
      exact ⟨.inr ⟨by simp, ⟨hq.1, hq.2.1⟩, by simp, ⟨hq.2.2.1, hq.2.2.2⟩, by simp, rfl, rfl, by simp, by simp, by simp⟩, fun k => absurd h0 k, fun _ => rfl⟩
    · rename_i h0
      split at h
      · simp at h
      · split at h
        · simp at h
        · rename_i h1 h2
          injection h with h _
          subst h
          rcases hc with rfl | hc
          · exact absurd rfl h0
          · have := hc.2.2.1
            refine ⟨.inr ⟨by simp, hc.2.1, ?_, ⟨hq.2.2.1, hq.2.2.2⟩, by simp, rfl, rfl, by simp, by simp, by simp⟩, fun _ => ⟨rfl, rfl⟩, fun k => absurd k h0⟩
            show 0 ≤ c.2.2.1 + 1 ∧ c.2.2.1 + 1 ≤ 100
            omega
  · simp at h

theorem prep_ok {c d : Coord} {yes : Bool} {th : Int} (hc : MayP c) (h : prepM c yes th = (d, 0)) : MayP d ∧ Kept c d ∧ c.1 ≠ 0 := by
  unfold prepM at h
  rw [mayT hc, brT] at h
  split at h
  · rename_i hq
    split at h
    · rename_i hm
      obtain ⟨h1, h2, h3⟩ := moves_ok hm
      split at h
      · simp at h
      · rename_i hn
        rw [h3] at h
        have hw := what_cases c.1
        injection h with h _
        subst h
        rcases hc with rfl | hc
        · exact absurd rfl h1
        · obtain ⟨g1, g2, g3, g4, g5, g6, g7, g8, g9, g10⟩ := hc
          refine ⟨.inr ⟨?_, g2, g3, g4, g5, g6, g7, ?_, ?_, ?_⟩, ⟨rfl, rfl, rfl⟩, by omega⟩
          · show 1 ≤ (if yes = true then 3 else 4 : Int) ∧ (if yes = true then 3 else 4 : Int) ≤ 6
            split <;> omega
          · show (if yes = true then 3 else 4 : Int) = 1 ∨ (if yes = true then 3 else 4 : Int) = 5 ∨ (if yes = true then 3 else 4 : Int) = 6 → _
            split <;> omega
          · show (if yes = true then 3 else 4 : Int) = 2 → _
            split <;> omega
          · show th = 0 ∨ (if yes = true then 3 else 4 : Int) = 4 ∧ (1 ≤ th ∧ th ≤ 20) ∧ c.2.2.1 < 100
            by_cases hth : th > 0
            · have hy : yes = false := by
                cases yes with
                | false => rfl
                | true => exact absurd ⟨rfl, hth⟩ hq.2.2
              rw [if_neg (by rw [hy]; simp)]
              have : ¬ c.2.2.1 = 100 := fun e => hn ⟨hth, e⟩
              omega
            · omega
    · rename_i hm
      have h2 := congrArg Prod.snd h
      exact absurd h2 hm
  · simp at h

/-- behind an end -/
theorem comp_ok {c d : Coord} (hc : MayP c) (h : compM c = (d, 0)) : MayP d ∧ c.1 ≠ 0 ∧ (c.1 = 3 ∨ c.1 = 4) ∧ d.2.1 = c.2.1 ∧ d.2.2.2.2.2.1 = [] ∧ d.2.2.2.2.2.2.1 = [] ∧ d.1 ≠ 2 ∧
    (c.2.2.2.2.1 > 0 → d.2.2.1 = c.2.2.1 + 1) ∧ (¬ c.2.2.2.2.1 > 0 → d.2.2.1 = c.2.2.1 ∧ (c.1 = 3 → d.1 = 5) ∧ (c.1 = 4 → d.1 = 6)) := by
  unfold compM at h
  rw [mayT hc, brT] at h
  rcases hc with rfl | ⟨g1, g2, g3, g4, g5, g6, g7, g8, g9, g10⟩
  · rw [if_neg (show ¬ coord0.1 = 3 by decide), if_neg (show ¬ coord0.1 = 4 by decide)] at h
    simp at h
  · split at h
    · rename_i h3
      injection h with h _
      subst h
      exact ⟨.inr ⟨by simp, g2, g3, g4, by simp, rfl, rfl, by simp, by simp, by simp⟩, by omega, .inl h3, rfl, rfl, rfl, by simp, fun k => by omega, fun _ => ⟨rfl, fun _ => rfl, fun k => by omega⟩⟩
    · split at h
      · rename_i h4
        split at h
        · rename_i hp
          injection h with h _
          subst h
          refine ⟨.inr ⟨by simp, g2, ?_, ?_, by simp, rfl, rfl, by simp, by simp, by simp⟩, by omega, .inr h4, rfl, rfl, rfl, by simp, fun _ => rfl, fun k => absurd hp k⟩
          · show 0 ≤ c.2.2.1 + 1 ∧ c.2.2.1 + 1 ≤ 100
            omega
          · show 1 ≤ c.2.2.2.2.1 ∧ c.2.2.2.2.1 ≤ 20
            omega
        · rename_i hp
          injection h with h _
          subst h
          exact ⟨.inr ⟨by simp, g2, g3, g4, by simp, rfl, rfl, by simp, by simp, by simp⟩, by omega, .inr h4, rfl, rfl, rfl, by simp, fun k => absurd k hp, fun _ => ⟨rfl, fun k => by omega, fun _ => rfl⟩⟩
      · simp at h

theorem place_ok {c d : Coord} {l : Ints} (hc : MayP c) (h : placeM c l = (d, 0)) : MayP d ∧ Kept c d ∧ d.2.2.2.2.2.1 = l ∧ d.2.2.2.2.2.2.1 = c.2.2.2.2.2.2.1 := by
  unfold placeM at h
  rw [mayT hc, brT] at h
  cases hr : riseI (-1) l with
  | false => rw [hr, brF] at h; simp at h
  | true =>
    rw [hr, brT] at h
    split at h
    · rename_i h0
      split at h
      · rename_i hl
        injection h with h _
        subst h
        have := may_zero hc h0
        refine ⟨hc, ⟨rfl, rfl, rfl⟩, ?_, rfl⟩
        rw [hl, this]; rfl
      · simp at h
    · rename_i h0
      rcases hc with rfl | ⟨g1, g2, g3, g4, g5, g6, g7, g8, g9, g10⟩
      · exact absurd rfl h0
      · split at h
        · rename_i h2
          injection h with h _
          subst h
          exact ⟨.inr ⟨by simp, g2, g3, g4, by simp, rfl, rfl, by simp, by simp, by simp⟩, ⟨rfl, rfl, rfl⟩, h2.2.1.symm, h2.2.2.symm⟩
        · rename_i hn
          injection h with h _
          subst h
          refine ⟨.inr ⟨?_, g2, g3, g4, g5, hr, g7, ?_, ?_, ?_⟩, ⟨rfl, rfl, rfl⟩, rfl, rfl⟩
          · show 1 ≤ (if c.1 ≠ 3 ∧ c.1 ≠ 4 ∧ ¬ l = [] then 2 else c.1 : Int) ∧ (if c.1 ≠ 3 ∧ c.1 ≠ 4 ∧ ¬ l = [] then 2 else c.1 : Int) ≤ 6
            split <;> omega
          · intro (hk : (if c.1 ≠ 3 ∧ c.1 ≠ 4 ∧ ¬ l = [] then 2 else c.1 : Int) = 1 ∨ (if c.1 ≠ 3 ∧ c.1 ≠ 4 ∧ ¬ l = [] then 2 else c.1 : Int) = 5 ∨ (if c.1 ≠ 3 ∧ c.1 ≠ 4 ∧ ¬ l = [] then 2 else c.1 : Int) = 6)
            split at hk
            · omega
            · rename_i hm
              have hl : l = [] := by
                by_cases hl : l = []
                · exact hl
                · exact absurd ⟨by omega, by omega, hl⟩ hm
              have := g8 hk
              exact ⟨hl, this.2⟩
          · intro (hk : (if c.1 ≠ 3 ∧ c.1 ≠ 4 ∧ ¬ l = [] then 2 else c.1 : Int) = 2)
            rintro ⟨q1, q2⟩
            have q1 : l = [] := q1
            have q2 : c.2.2.2.2.2.2.1 = [] := q2
            rw [if_neg (fun h => h.2.2 q1)] at hk
            exact hn ⟨hk, q1, q2⟩
          · show c.2.2.2.2.1 = 0 ∨ (if c.1 ≠ 3 ∧ c.1 ≠ 4 ∧ ¬ l = [] then 2 else c.1 : Int) = 4 ∧ (1 ≤ c.2.2.2.2.1 ∧ c.2.2.2.2.1 ≤ 20) ∧ c.2.2.1 < 100
            rcases g10 with h | h
            · exact .inl h
            · right
              rw [if_neg (fun k => k.2.1 h.1)]
              exact h

/-- what a move does -/
def Moved (c d : Coord) (x : Move) : Prop :=
  MayP d ∧ (c.1 ≠ 0 → d.2.1 = c.2.1) ∧ (¬ (x.1 = 0 ∧ c.1 ≠ 0 ∨ x.1 = 4 ∧ c.2.2.2.2.1 > 0) → d.2.2.1 = c.2.2.1) ∧ (x.1 = 0 ∧ c.1 ≠ 0 ∨ x.1 = 4 ∧ c.2.2.2.2.1 > 0 → d.2.2.1 = c.2.2.1 + 1) ∧
  (x.1 = 4 → (c.1 = 3 ∨ c.1 = 4) ∧ d.2.2.2.2.2.1 = [] ∧ d.2.2.2.2.2.2.1 = [] ∧ d.1 ≠ 2 ∧ (¬ c.2.2.2.2.1 > 0 → (c.1 = 3 → d.1 = 5) ∧ (c.1 = 4 → d.1 = 6)))

theorem may_zero_epoch {c : Coord} (h : MayP c) (h0 : c.1 = 0) : c.2.2.1 = 0 := by rw [may_zero h h0]; rfl

theorem moved {c d : Coord} {x : Move} (hc : MayP c) (h : moveM c x = (d, 0)) : Moved c d x := by
  unfold moveM at h
  have other : MayP d → Kept c d → x.1 ≠ 0 → x.1 ≠ 4 → Moved c d x := fun h1 h2 h3 h4 =>
    ⟨h1, fun _ => h2.1, fun _ => h2.2.1, fun k => by omega, fun k => absurd k h4⟩
  split at h
  · rename_i h0
    obtain ⟨g1, g2, g3⟩ := init_ok hc h
    refine ⟨g1, fun k => (g2 k).1, fun k => ?_, fun k => ?_, fun k => by omega⟩
    · have h00 : c.1 = 0 := by omega
      rw [g3 h00, may_zero_epoch hc h00]
    · exact (g2 (by omega)).2
  · split at h
    · have := add_ok hc h
      exact other this.1 this.2.1 (by omega) (by omega)
    · split at h
      · have := set_ok hc h
        exact other this.1 this.2.1 (by omega) (by omega)
      · split at h
        · have := prep_ok hc h
          exact other this.1 this.2.1 (by omega) (by omega)
        · split at h
          · obtain ⟨g1, g2, g3, g4, g5, g6, g7, g8, g9⟩ := comp_ok hc h
            exact ⟨g1, fun _ => g4, fun k => (g9 (by omega)).1, fun k => g8 (by omega), fun _ => ⟨g3, g5, g6, g7, fun k => (g9 k).2⟩⟩
          · split at h
            · injection h with h _
              subst h
              have := tick_ok hc
              exact other this.1 this.2.1 (by omega) (by omega)
            · have := place_ok hc h
              exact other this.1 this.2.1 (by omega) (by omega)

theorem run_loop (K : Nat) (l : List Move) (hl : l.length ≤ 200) : ∀ (k i : Nat) (c : Coord), l.length < k + i → i ≤ l.length → MayP c → L10_5 G33 G21 G39 G37 G18 (K + 1) k l (i : Int) c = some true
  | 0, i, c, h, hi, _ => by omega
  | k + 1, i, c, h, hi, hc => by
    rw [L10_5_step]
    cases hx : l[i]? with
    | none =>
      have := List.getElem?_eq_none_iff.1 hx
      rw [dF (show ¬ ((i : Int) < lenI l) by unfold lenI; omega)]; rfl
    | some x =>
      have hlt := (List.getElem?_eq_some_iff.1 hx).1
      rw [dT (show (i : Int) < lenI l by unfold lenI; omega), brT, J10_7_eq, idxN, hx]
      simp only [Option.bind_some]
      by_cases hL : lenI x.2.2.2.2.2 > 40
      · rw [dT hL]; rfl
      rw [dF hL, brF, J10_9_eq, idxN, hx]
      have g33 : G33 (c, x) = some (moveM c x) := if_pos ⟨may_fit hc, .inr (.inr (by unfold lenI at hL; show x.2.2.2.2.2.length ≤ 1000000; omega))⟩
      have rest : ∀ d : Coord, MayP d → L10_5 G33 G21 G39 G37 G18 (K + 1) k l ((i + 1 : Nat) : Int) d = some true := fun d hd => run_loop K l hl k (i + 1) d (by omega) (by omega) hd
      simp only [Option.bind_some, g33, w1 (show i < 1099511627776 by omega)]
      by_cases he : (moveM c x).2 = 0
      · rw [he, eqI_refl, Bool.not_true, brF]
        have hm := moved (d := (moveM c x).1) hc (Prod.ext rfl he)
        generalize (moveM c x).1 = d at *
        obtain ⟨m1, m2, m3, m4, m5⟩ := hm
        have hep := may_epoch hc
        have hw : IntKind.wrap IntKind.i64 (c.2.2.1 + 1) = c.2.2.1 + 1 := w64 (by omega) (by omega)
        have hj12 : ∀ (t : Bool), (t = true ↔ (x.1 = 0 ∧ c.1 ≠ 0 ∨ x.1 = 4 ∧ c.2.2.2.2.1 > 0)) → J10_12 G33 G21 G39 G37 G18 (K + 1) k (K + 1) l (i : Int) t c d = some true := by
          intro t ht
          have hj14 : J10_14 G33 G21 G39 G37 G18 (K + 1) k (K + 1) l (i : Int) t c d = some true := by
            rw [J10_14_eq, idxN, hx]
            simp only [Option.bind_some, w1 (show i < 1099511627776 by omega), rest d m1, br_dec, br_ndec, eqI, G39, G37]
            by_cases h4 : x.1 = 4
            · obtain ⟨q1, q2, q3, q4, q5⟩ := m5 h4
              rw [if_pos h4]
              have hlen : ¬ (IntKind.wrap IntKind.i64 (lenI d.2.2.2.2.2.1 + lenI d.2.2.2.2.2.2.1) > 0) := by
                rw [q2, q3]; decide
              have hdue : dueM d = false := by unfold dueM; rw [dF q4]; rfl
              rw [if_neg hlen, hdue]
              cases ht2 : t with
              | true => rcases q1 with q1 | q1 <;> simp [q1, br]
              | false =>
                have hth : ¬ c.2.2.2.2.1 > 0 := by
                  intro k
                  have := ht.2 (.inr ⟨h4, k⟩)
                  rw [ht2] at this; cases this
                obtain ⟨r1, r2⟩ := q5 hth
                rcases q1 with q1 | q1
                · have := r1 q1
                  simp [q1, br, endedM, this]
                · have := r2 q1
                  simp [q1, br, endedM, this]
            · rw [if_neg h4]
          rw [J10_12_eq, hj14]
          have g21' : G21 d = some true := by rw [g21 (may_fit m1), mayT m1]
          have hb : eqB (!eqI d.2.2.1 c.2.2.1) t = true := by
            cases t with
            | true =>
              have := m4 (ht.1 rfl)
              rw [eqI_ne (by omega)]; rfl
            | false =>
              have := m3 (fun k => by have := ht.2 k; cases this)
              rw [this, eqI_refl]; rfl
          have ht' : t = true → eqI d.2.2.1 (IntKind.wrap IntKind.i64 (c.2.2.1 + 1)) = true := fun k => by
            rw [hw, m4 (ht.1 k), eqI_refl]
          simp only [g21', Option.bind_some, hb, Bool.not_true, brF]
          have tail : br t (br (!eqI d.2.2.1 (IntKind.wrap IntKind.i64 (c.2.2.1 + 1))) (some false) (some true)) (some true) = some true := by
            cases t with
            | true => rw [ht' rfl]; rfl
            | false => rfl
          rw [tail]
          by_cases h0 : c.1 = 0
          · rw [h0, eqI_refl]; rfl
          · rw [eqI_ne h0, m2 h0, eqI_refl]; rfl
        rw [J10_11_eq, idxN, hx]
        simp only [Option.bind_some, br_dec, br_ndec, eqI]
        by_cases h0 : x.1 = 0
        · rw [if_pos h0]
          by_cases hc0 : c.1 = 0
          · rw [if_pos hc0, if_neg (by omega)]
            exact hj12 false (by constructor; intro k; cases k; intro k; omega)
          · rw [if_neg hc0]
            exact hj12 true (by constructor; intro _; exact .inl ⟨h0, hc0⟩; intro _; rfl)
        · rw [if_neg h0]
          by_cases h4 : x.1 = 4
          · rw [if_pos h4]
            exact hj12 _ (by rw [decide_eq_true_iff]; omega)
          · rw [if_neg h4]
            exact hj12 false (by constructor; intro k; cases k; intro k; omega)
      · rw [eqI_ne he, Bool.not_false, brT]
        exact rest c hc

theorem run_spec (l : List Move) : F10 G33 G21 G39 G37 G18 1000 l = some true := by
  rw [F10_eq]
  by_cases h : lenI l > 200
  · rw [dT h]; rfl
  · rw [dF h, brF, J10_3_eq]
    unfold lenI at h
    exact run_loop 999 l (by omega) 1000 0 coord0 (by omega) (by omega) may0
def G10 : T10 → Option U10 := fun _ => some true
theorem runC_ok : CtrAll Try.prog ⟨10, A10, R10, G10⟩ := C10 c33 c21 c39 c37 c18 fun x y h => ⟨1000, (run_spec x).trans h⟩
end Go.Ev.R3
