import Derived.Test.YtggobapgdflchaaEvR3s
set_option linter.unusedVariables false
set_option maxRecDepth 100000
namespace Go.Ev.R3
open Go.Proofs

/-! StatesRun -/

theorem init_ok {c d : Coord} {p t : Int} (hc : MayP c) (h : initM c p t = (d, 0)) : MayP d ∧ (c.1 ≠ 0 → d.2.1 = c.2.1 ∧ d.2.2.1 = c.2.2.1 + 1) ∧ (c.1 = 0 → d.2.2.1 = 0) := by
  unfold initM at h
  rw [mayT hc, brT] at h
  split at h
  · rename_i hq
    split at h
    · rename_i h0
      injection h with h _
      subst h
      exact ⟨.inr ⟨by simp, ⟨hq.1, hq.2.1⟩, by simp, ⟨hq.2.2.1, hq.2.2.2⟩, by simp, rfl, rfl, by simp, by simp, by simp⟩, fun k => absurd h0 k, fun _ => rfl⟩
    · rename_i h0
      split at h
      · simp at h
      · split at h
        · simp at h
        · rename_i h1 h2
          injection h with h _
          subst h
          rcases hc with rfl | hc
          · exact absurd rfl h0
          · have := hc.2.2.1
            refine ⟨.inr ⟨by simp, hc.2.1, ?_, ⟨hq.2.2.1, hq.2.2.2⟩, by simp, rfl, rfl, by simp, by simp, by simp⟩, fun _ => ⟨rfl, rfl⟩, fun k => absurd k h0⟩
            show 0 ≤ c.2.2.1 + 1 ∧ c.2.2.1 + 1 ≤ 100
            omega
  · simp at h

theorem prep_ok {c d : Coord} {yes : Bool} {th : Int} (hc : MayP c) (h : prepM c yes th = (d, 0)) : MayP d ∧ Kept c d ∧ c.1 ≠ 0 := by
  unfold prepM at h
  rw [mayT hc, brT] at h
  split at h
  · rename_i hq
    split at h
    · rename_i hm
      obtain ⟨h1, h2, h3⟩ := moves_ok hm
      split at h
      · simp at h
      · rename_i hn
        rw [h3] at h
        have hw := what_cases c.1
        injection h with h _
        subst h
        rcases hc with rfl | hc
        · exact absurd rfl h1
        · obtain ⟨g1, g2, g3, g4, g5, g6, g7, g8, g9, g10⟩ := hc
          refine ⟨.inr ⟨?_, g2, g3, g4, g5, g6, g7, ?_, ?_, ?_⟩, ⟨rfl, rfl, rfl⟩, by omega⟩
          · show 1 ≤ (if yes = true then 3 else 4 : Int) ∧ (if yes = true then 3 else 4 : Int) ≤ 6
            split <;> omega
          · show (if yes = true then 3 else 4 : Int) = 1 ∨ (if yes = true then 3 else 4 : Int) = 5 ∨ (if yes = true then 3 else 4 : Int) = 6 → _
            split <;> omega
          · show (if yes = true then 3 else 4 : Int) = 2 → _
            split <;> omega
          · show th = 0 ∨ (if yes = true then 3 else 4 : Int) = 4 ∧ (1 ≤ th ∧ th ≤ 20) ∧ c.2.2.1 < 100
            by_cases hth : th > 0
            · have hy : yes = false := by
                cases yes with
                | false => rfl
                | true => exact absurd ⟨rfl, hth⟩ hq.2.2
              rw [if_neg (by rw [hy]; simp)]
              have : ¬ c.2.2.1 = 100 := fun e => hn ⟨hth, e⟩
              omega
            · omega
    · rename_i hm
      have h2 := congrArg Prod.snd h
      exact absurd h2 hm
  · simp at h

/-- behind an end -/
theorem comp_ok {c d : Coord} (hc : MayP c) (h : compM c = (d, 0)) : MayP d ∧ c.1 ≠ 0 ∧ (c.1 = 3 ∨ c.1 = 4) ∧ d.2.1 = c.2.1 ∧ d.2.2.2.2.2.1 = [] ∧ d.2.2.2.2.2.2.1 = [] ∧ d.1 ≠ 2 ∧
    (c.2.2.2.2.1 > 0 → d.2.2.1 = c.2.2.1 + 1) ∧ (¬ c.2.2.2.2.1 > 0 → d.2.2.1 = c.2.2.1 ∧ (c.1 = 3 → d.1 = 5) ∧ (c.1 = 4 → d.1 = 6)) := by
  unfold compM at h
  rw [mayT hc, brT] at h
  rcases hc with rfl | ⟨g1, g2, g3, g4, g5, g6, g7, g8, g9, g10⟩
  · rw [if_neg (show ¬ coord0.1 = 3 by decide), if_neg (show ¬ coord0.1 = 4 by decide)] at h
    simp at h
  · split at h
    · rename_i h3
      injection h with h _
      subst h
      exact ⟨.inr ⟨by simp, g2, g3, g4, by simp, rfl, rfl, by simp, by simp, by simp⟩, by omega, .inl h3, rfl, rfl, rfl, by simp, fun k => by omega, fun _ => ⟨rfl, fun _ => rfl, fun k => by omega⟩⟩
    · split at h
      · rename_i h4
        split at h
        · rename_i hp
          injection h with h _
          subst h
          refine ⟨.inr ⟨by simp, g2, ?_, ?_, by simp, rfl, rfl, by simp, by simp, by simp⟩, by omega, .inr h4, rfl, rfl, rfl, by simp, fun _ => rfl, fun k => absurd hp k⟩
          · show 0 ≤ c.2.2.1 + 1 ∧ c.2.2.1 + 1 ≤ 100
            omega
          · show 1 ≤ c.2.2.2.2.1 ∧ c.2.2.2.2.1 ≤ 20
            omega
        · rename_i hp
          injection h with h _
          subst h
          exact ⟨.inr ⟨by simp, g2, g3, g4, by simp, rfl, rfl, by simp, by simp, by simp⟩, by omega, .inr h4, rfl, rfl, rfl, by simp, fun k => absurd k hp, fun _ => ⟨rfl, fun k => by omega, fun _ => rfl⟩⟩
      · simp at h

theorem place_ok {c d : Coord} {l : Ints} (hc : MayP c) (h : placeM c l = (d, 0)) : MayP d ∧ Kept c d ∧ d.2.2.2.2.2.1 = l ∧ d.2.2.2.2.2.2.1 = c.2.2.2.2.2.2.1 := by
  unfold placeM at h
  rw [mayT hc, brT] at h
  cases hr : riseI (-1) l with
  | false => rw [hr, brF] at h; simp at h
  | true =>
    rw [hr, brT] at h
    split at h
    · rename_i h0
      split at h
      · rename_i hl
        injection h with h _
        subst h
        have := may_zero hc h0
        refine ⟨hc, ⟨rfl, rfl, rfl⟩, ?_, rfl⟩
        rw [hl, this]; rfl
      · simp at h
    · rename_i h0
      rcases hc with rfl | ⟨g1, g2, g3, g4, g5, g6, g7, g8, g9, g10⟩
      · exact absurd rfl h0
      · split at h
        · rename_i h2
          injection h with h _
          subst h
          exact ⟨.inr ⟨by simp, g2, g3, g4, by simp, rfl, rfl, by simp, by simp, by simp⟩, ⟨rfl, rfl, rfl⟩, h2.2.1.symm, h2.2.2.symm⟩
        · rename_i hn
          injection h with h _
          subst h
          refine ⟨.inr ⟨?_, g2, g3, g4, g5, hr, g7, ?_, ?_, ?_⟩, ⟨rfl, rfl, rfl⟩, rfl, rfl⟩
          · show 1 ≤ (if c.1 ≠ 3 ∧ c.1 ≠ 4 ∧ ¬ l = [] then 2 else c.1 : Int) ∧ (if c.1 ≠ 3 ∧ c.1 ≠ 4 ∧ ¬ l = [] then 2 else c.1 : Int) ≤ 6
            split <;> omega
          · intro (hk : (if c.1 ≠ 3 ∧ c.1 ≠ 4 ∧ ¬ l = [] then 2 else c.1 : Int) = 1 ∨ (if c.1 ≠ 3 ∧ c.1 ≠ 4 ∧ ¬ l = [] then 2 else c.1 : Int) = 5 ∨ (if c.1 ≠ 3 ∧ c.1 ≠ 4 ∧ ¬ l = [] then 2 else c.1 : Int) = 6)
            split at hk
            · omega
            · rename_i hm
              have hl : l = [] := by
                by_cases hl : l = []
                · exact hl
                · exact absurd ⟨by omega, by omega, hl⟩ hm
              have := g8 hk
              exact ⟨hl, this.2⟩
          · intro (hk : (if c.1 ≠ 3 ∧ c.1 ≠ 4 ∧ ¬ l = [] then 2 else c.1 : Int) = 2)
            rintro ⟨q1, q2⟩
            have q1 : l = [] := q1
            have q2 : c.2.2.2.2.2.2.1 = [] := q2
            rw [if_neg (fun h => h.2.2 q1)] at hk
            exact hn ⟨hk, q1, q2⟩
          · show c.2.2.2.2.1 = 0 ∨ (if c.1 ≠ 3 ∧ c.1 ≠ 4 ∧ ¬ l = [] then 2 else c.1 : Int) = 4 ∧ (1 ≤ c.2.2.2.2.1 ∧ c.2.2.2.2.1 ≤ 20) ∧ c.2.2.1 < 100
            rcases g10 with h | h
            · exact .inl h
            · right
              rw [if_neg (fun k => k.2.1 h.1)]
              exact h

/-- what a move does -/
def Moved (c d : Coord) (x : Move) : Prop :=
  MayP d ∧ (c.1 ≠ 0 → d.2.1 = c.2.1) ∧ (¬ (x.1 = 0 ∧ c.1 ≠ 0 ∨ x.1 = 4 ∧ c.2.2.2.2.1 > 0) → d.2.2.1 = c.2.2.1) ∧ (x.1 = 0 ∧ c.1 ≠ 0 ∨ x.1 = 4 ∧ c.2.2.2.2.1 > 0 → d.2.2.1 = c.2.2.1 + 1) ∧
  (x.1 = 4 → (c.1 = 3 ∨ c.1 = 4) ∧ d.2.2.2.2.2.1 = [] ∧ d.2.2.2.2.2.2.1 = [] ∧ d.1 ≠ 2 ∧ (¬ c.2.2.2.2.1 > 0 → (c.1 = 3 → d.1 = 5) ∧ (c.1 = 4 → d.1 = 6)))

theorem may_zero_epoch {c : Coord} (h : MayP c) (h0 : c.1 = 0) : c.2.2.1 = 0 := by rw [may_zero h h0]; rfl

theorem moved {c d : Coord} {x : Move} (hc : MayP c) (h : moveM c x = (d, 0)) : Moved c d x := by
  unfold moveM at h
  have other : MayP d → Kept c d → x.1 ≠ 0 → x.1 ≠ 4 → Moved c d x := fun h1 h2 h3 h4 =>
    ⟨h1, fun _ => h2.1, fun _ => h2.2.1, fun k => by omega, fun k => absurd k h4⟩
  split at h
  · rename_i h0
    obtain ⟨g1, g2, g3⟩ := init_ok hc h
    refine ⟨g1, fun k => (g2 k).1, fun k => ?_, fun k => ?_, fun k => by omega⟩
    · have h00 : c.1 = 0 := by omega
      rw [g3 h00, may_zero_epoch hc h00]
    · exact (g2 (by omega)).2
  · split at h
    · have := add_ok hc h
      exact other this.1 this.2.1 (by omega) (by omega)
    · split at h
      · have := set_ok hc h
        exact other this.1 this.2.1 (by omega) (by omega)
      · split at h
        · have := prep_ok hc h
          exact other this.1 this.2.1 (by omega) (by omega)
        · split at h
          · obtain ⟨g1, g2, g3, g4, g5, g6, g7, g8, g9⟩ := comp_ok hc h
            exact ⟨g1, fun _ => g4, fun k => (g9 (by omega)).1, fun k => g8 (by omega), fun _ => ⟨g3, g5, g6, g7, fun k => (g9 k).2⟩⟩
          · split at h
            · injection h with h _
              subst h
              have := tick_ok hc
              exact other this.1 this.2.1 (by omega) (by omega)
            · have := place_ok hc h
              exact other this.1 this.2.1 (by omega) (by omega)

theorem run_loop (K : Nat) (l : List Move) (hl : l.length ≤ 200) : ∀ (k i : Nat) (c : Coord), l.length < k + i → i ≤ l.length → MayP c → L10_5 G33 G21 G39 G37 G18 (K + 1) k l (i : Int) c = some true
  | 0, i, c, h, hi, _ => by omega
  | k + 1, i, c, h, hi, hc => by
    rw [L10_5_step]
    cases hx : l[i]? with
    | none =>
      have := List.getElem?_eq_none_iff.1 hx
      rw [dF (show ¬ ((i : Int) < lenI l) by unfold lenI; omega)]; rfl
    | some x =>
      have hlt := (List.getElem?_eq_some_iff.1 hx).1
      rw [dT (show (i : Int) < lenI l by unfold lenI; omega), brT, J10_7_eq, idxN, hx]
      simp only [Option.bind_some]
      by_cases hL : lenI x.2.2.2.2.2 > 40
      · rw [dT hL]; rfl
      rw [dF hL, brF, J10_9_eq, idxN, hx]
      have g33 : G33 (c, x) = some (moveM c x) := if_pos ⟨may_fit hc, .inr (.inr (by unfold lenI at hL; show x.2.2.2.2.2.length ≤ 1000000; omega))⟩
      have rest : ∀ d : Coord, MayP d → L10_5 G33 G21 G39 G37 G18 (K + 1) k l ((i + 1 : Nat) : Int) d = some true := fun d hd => run_loop K l hl k (i + 1) d (by omega) (by omega) hd
      simp only [Option.bind_some, g33, w1 (show i < 1099511627776 by omega)]
      by_cases he : (moveM c x).2 = 0
      · rw [he, eqI_refl, Bool.not_true, brF]
        have hm := moved (d := (moveM c x).1) hc (Prod.ext rfl he)
        generalize (moveM c x).1 = d at *
        obtain ⟨m1, m2, m3, m4, m5⟩ := hm
        have hep := may_epoch hc
        have hw : IntKind.wrap IntKind.i64 (c.2.2.1 + 1) = c.2.2.1 + 1 := w64 (by omega) (by omega)
        have hj12 : ∀ (t : Bool), (t = true ↔ (x.1 = 0 ∧ c.1 ≠ 0 ∨ x.1 = 4 ∧ c.2.2.2.2.1 > 0)) → J10_12 G33 G21 G39 G37 G18 (K + 1) k (K + 1) l (i : Int) t c d = some true := by
          intro t ht
          have hj14 : J10_14 G33 G21 G39 G37 G18 (K + 1) k (K + 1) l (i : Int) t c d = some true := by
            rw [J10_14_eq, idxN, hx]
            simp only [Option.bind_some, w1 (show i < 1099511627776 by omega), rest d m1, br_dec, br_ndec, eqI, G39, G37]
            by_cases h4 : x.1 = 4
            · obtain ⟨q1, q2, q3, q4, q5⟩ := m5 h4
              rw [if_pos h4]
              have hlen : ¬ (IntKind.wrap IntKind.i64 (lenI d.2.2.2.2.2.1 + lenI d.2.2.2.2.2.2.1) > 0) := by
                rw [q2, q3]; decide
              have hdue : dueM d = false := by unfold dueM; rw [dF q4]; rfl
              rw [if_neg hlen, hdue]
              cases ht2 : t with
              | true => rcases q1 with q1 | q1 <;> simp [q1, br]
              | false =>
                have hth : ¬ c.2.2.2.2.1 > 0 := by
                  intro k
                  have := ht.2 (.inr ⟨h4, k⟩)
                  rw [ht2] at this; cases this
                obtain ⟨r1, r2⟩ := q5 hth
                rcases q1 with q1 | q1
                · have := r1 q1
                  simp [q1, br, endedM, this]
                · have := r2 q1
                  simp [q1, br, endedM, this]
            · rw [if_neg h4]
          rw [J10_12_eq, hj14]
          have g21' : G21 d = some true := by rw [g21 (may_fit m1), mayT m1]
          have hb : eqB (!eqI d.2.2.1 c.2.2.1) t = true := by
            cases t with
            | true =>
              have := m4 (ht.1 rfl)
              rw [eqI_ne (by omega)]; rfl
            | false =>
              have := m3 (fun k => by have := ht.2 k; cases this)
              rw [this, eqI_refl]; rfl
          have ht' : t = true → eqI d.2.2.1 (IntKind.wrap IntKind.i64 (c.2.2.1 + 1)) = true := fun k => by
            rw [hw, m4 (ht.1 k), eqI_refl]
          simp only [g21', Option.bind_some, hb, Bool.not_true, brF]
          have tail : br t (br (!eqI d.2.2.1 (IntKind.wrap IntKind.i64 (c.2.2.1 + 1))) (some false) (some true)) (some true) = some true := by
            cases t with
            | true => rw [ht' rfl]; rfl
            | false => rfl
          rw [tail]
          by_cases h0 : c.1 = 0
          · rw [h0, eqI_refl]; rfl
          · rw [eqI_ne h0, m2 h0, eqI_refl]; rfl
        rw [J10_11_eq, idxN, hx]
        simp only [Option.bind_some, br_dec, br_ndec, eqI]
        by_cases h0 : x.1 = 0
        · rw [if_pos h0]
          by_cases hc0 : c.1 = 0
          · rw [if_pos hc0, if_neg (by omega)]
            exact hj12 false (by constructor; intro k; cases k; intro k; omega)
          · rw [if_neg hc0]
            exact hj12 true (by constructor; intro _; exact .inl ⟨h0, hc0⟩; intro _; rfl)
        · rw [if_neg h0]
          by_cases h4 : x.1 = 4
          · rw [if_pos h4]
            exact hj12 _ (by rw [decide_eq_true_iff]; omega)
          · rw [if_neg h4]
            exact hj12 false (by constructor; intro k; cases k; intro k; omega)
      · rw [eqI_ne he, Bool.not_false, brT]
        exact rest c hc

theorem run_spec (l : List Move) : F10 G33 G21 G39 G37 G18 1000 l = some true := by
  rw [F10_eq]
  by_cases h : lenI l > 200
  · rw [dT h]; rfl
  · rw [dF h, brF, J10_3_eq]
    unfold lenI at h
    exact run_loop 999 l (by omega) 1000 0 coord0 (by omega) (by omega) may0
def G10 : T10 → Option U10 := fun _ => some true
theorem runC_ok : CtrAll Try.prog ⟨10, A10, R10, G10⟩ := C10 c33 c21 c39 c37 c18 fun x y h => ⟨1000, (run_spec x).trans h⟩
end Go.Ev.R3
