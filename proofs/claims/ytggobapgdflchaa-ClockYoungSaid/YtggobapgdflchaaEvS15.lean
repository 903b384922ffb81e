import Derived.Test.YtggobapgdflchaaEvS13
import Derived.Test.YtggobapgdflchaaEvS14
set_option linter.unusedVariables false
set_option maxRecDepth 100000
namespace Go.Ev.R3
open Go.Proofs

/-! The laws of the clock. -/

/-- so many ticks -/
def tickNc (n : Int) (c : Coord) : Coord := if c.1 = 2 then (c.1, c.2.1, c.2.2.1, c.2.2.2.1, c.2.2.2.2.1, c.2.2.2.2.2.1, c.2.2.2.2.2.2.1, minI (c.2.2.2.2.2.2.2 + n) 1048576) else c
theorem tickNc_st (n : Int) (c : Coord) : (tickNc n c).1 = c.1 := by unfold tickNc; split <;> rfl
theorem tickNc_pid (n : Int) (c : Coord) : (tickNc n c).2.1 = c.2.1 := by unfold tickNc; split <;> rfl
theorem minI_le {x y : Int} (h : x ≤ y) : minI x y = x := by unfold minI; rw [if_neg (by omega)]
theorem minI_ge {x y : Int} (h : y ≤ x) : minI x y = y := by unfold minI; split <;> omega
theorem tickNc_zero {c : Coord} (h : MayP c) : tickNc 0 c = c := by
  unfold tickNc
  split
  · have := may_age h
    rw [minI_le (by omega)]
    obtain ⟨a, b, d, e, f, g, i, j⟩ := c
    simp
  · rfl
theorem tickNc_may {c : Coord} (h : MayP c) {n : Int} (hn : 0 ≤ n) : MayP (tickNc n c) := by
  unfold tickNc
  split
  · rename_i h2
    rcases h with rfl | ⟨h1, hh2, h3, h4, h5, h6, h7, h8, h9, h10⟩
    · exact absurd h2 (by decide)
    · refine .inr ⟨h1, hh2, h3, h4, ?_, h6, h7, fun k => ?_, h9, h10⟩
      · show 0 ≤ minI _ _ ∧ minI _ _ ≤ 1048576
        unfold minI
        split <;> omega
      · exfalso
        have k : c.1 = 1 ∨ c.1 = 5 ∨ c.1 = 6 := k
        omega
  · exact h
theorem tickNc_step {c : Coord} (h : MayP c) {n : Int} (hn : 0 ≤ n) : tickM (tickNc n c) = tickNc (n + 1) c := by
  unfold tickM
  rw [mayT (tickNc_may h hn), brT]
  by_cases h2 : c.1 = 2
  · have ha := may_age h
    unfold tickNc
    simp only [if_pos h2]
    by_cases hl : minI (c.2.2.2.2.2.2.2 + n) 1048576 < 1048576
    · have e : minI (c.2.2.2.2.2.2.2 + n) 1048576 = c.2.2.2.2.2.2.2 + n := by unfold minI at hl ⊢; split at hl <;> omega
      rw [if_pos ⟨h2, hl⟩, e, minI_le (by rw [e] at hl; omega)]
      simp only [Int.add_assoc]
    · rw [if_neg (fun k => hl k.2)]
      have e : minI (c.2.2.2.2.2.2.2 + n) 1048576 = 1048576 := by unfold minI at hl ⊢; split at hl <;> omega
      have e2 : c.2.2.2.2.2.2.2 + n ≥ 1048576 := by unfold minI at hl; split at hl <;> omega
      rw [e, minI_ge (by omega)]
  · have e1 : tickNc n c = c := by unfold tickNc; rw [if_neg h2]
    have e2 : tickNc (n + 1) c = c := by unfold tickNc; rw [if_neg h2]
    rw [e1, e2, if_neg (fun k => h2 k.1)]

def atN (n : Int) (s : State) : State := (s.1, (tickNc n s.2.1.1, tickNc n s.2.1.2.1, tickNc n s.2.1.2.2), s.2.2)
theorem atN_may {s : State} (h : MayS s) {n : Int} (hn : 0 ≤ n) : MayS (atN n s) := by
  obtain ⟨⟨h1, ⟨h2, h3⟩, ⟨h4, h5⟩, ⟨h6, h7⟩, h8, h9, h10⟩, h11⟩ := h
  refine ⟨⟨h1, ⟨tickNc_may h2 hn, ?_⟩, ⟨tickNc_may h4 hn, ?_⟩, ⟨tickNc_may h6 hn, ?_⟩, ?_, ?_, ?_⟩, h11⟩
  all_goals (simp only [atN, tickNc_pid]; assumption)
theorem atN_zero {s : State} (h : MayS s) : atN 0 s = s := by
  obtain ⟨⟨h1, ⟨h2, h3⟩, ⟨h4, h5⟩, ⟨h6, h7⟩, h8, h9, h10⟩, h11⟩ := h
  unfold atN
  rw [tickNc_zero h2, tickNc_zero h4, tickNc_zero h6]
theorem atN_step {s : State} (h : MayS s) {n : Int} (hn : 0 ≤ n) : tickS (atN n s) = atN (n + 1) s := by
  unfold tickS
  rw [mayS_iff.2 (atN_may h hn), brT]
  obtain ⟨⟨h1, ⟨h2, h3⟩, ⟨h4, h5⟩, ⟨h6, h7⟩, h8, h9, h10⟩, h11⟩ := h
  unfold atN
  rw [tickNc_step h2 hn, tickNc_step h4 hn, tickNc_step h6 hn]
theorem may_fitS {s : State} (h : MayS s) : FitS s := ⟨may_fit h.1.2.1.1, may_fit h.1.2.2.1.1, may_fit h.1.2.2.2.1.1⟩
theorem may_i8 {c : Coord} (h : MayP c) : I8 c := by
  have := may_state h
  constructor <;> omega
theorem may_i8S {s : State} (h : MayS s) : I8S s := ⟨may_i8 h.1.2.1.1, may_i8 h.1.2.2.1.1, may_i8 h.1.2.2.2.1.1⟩
theorem mayS_F {s : State} (h : ¬ MayS s) : mayS s = false := by rw [← Bool.not_eq_true, mayS_iff]; exact h

/-! wakes -/
theorem may_going {a : Int} (h : 0 ≤ a ∧ a ≤ 1048576) : MayS (going a 5) := by
  have hm : MayP (2, 1, 0, 5, 0, [0], [], a) := by
    refine .inr ⟨?_, ?_, ?_, ?_, h, rfl, rfl, ?_, ?_, .inl rfl⟩
    · show (1 : Int) ≤ 2 ∧ (2 : Int) ≤ 6; omega
    · show (1 : Int) ≤ 1 ∧ (1 : Int) ≤ 8; omega
    · show (0 : Int) ≤ 0 ∧ (0 : Int) ≤ 100; omega
    · show (1 : Int) ≤ 5 ∧ (5 : Int) ≤ 20; omega
    · intro (k : (2 : Int) = 1 ∨ (2 : Int) = 5 ∨ (2 : Int) = 6); omega
    · rintro _ ⟨k, _⟩; cases k
  refine ⟨⟨by show (0 : Int) ≤ 1 ∧ (1 : Int) ≤ 8; omega, ⟨may0, by show (0 : Int) ≤ 1; omega⟩, ⟨hm, by show (1 : Int) ≤ 1; omega⟩, ⟨may0, by show (0 : Int) ≤ 1; omega⟩, ?_, ?_, ?_⟩, ?_⟩
  · rintro ⟨_, k⟩
    have k : (0 : Int) = 1 := k
    omega
  · rintro ⟨k, _⟩
    have k : (0 : Int) > 0 := k
    omega
  · rintro ⟨k, _⟩
    have k : (0 : Int) > 0 := k
    omega
  · unfold OffP
    refine ⟨⟨?_, ?_, ?_⟩, ?_, ?_, ?_⟩ <;> (show (-1 : Int) ≤ -1 ∧ (-1 : Int) ≤ 1048576; omega)
theorem tick_going {a : Int} (h : 0 ≤ a ∧ a < 1048576) : tickS (going a 5) = going (a + 1) 5 := by
  have hm := may_going (a := a) ⟨h.1, by omega⟩
  unfold tickS
  rw [mayS_iff.2 hm, brT]
  have e0 : tickM coord0 = coord0 := by
    unfold tickM
    rw [mayT may0, brT, if_neg (fun k => by have k : (0 : Int) = 2 := k.1; omega)]
  have e1 : tickM (2, 1, 0, 5, 0, [0], [], a) = (2, 1, 0, 5, 0, [0], [], a + 1) := by
    unfold tickM
    rw [mayT (show MayP (2, 1, 0, 5, 0, [0], [], a) from hm.1.2.2.1.1), brT, if_pos ⟨rfl, h.2⟩]
  unfold going
  simp only [e0, e1]
theorem clockWakes : F25 G72 G26 G28 G32 G27 G29 8 = some true := by
  have m3 := may_going (a := 3) (by omega)
  have m4 := may_going (a := 4) (by omega)
  have m5 := may_going (a := 5) (by omega)
  have g0 : G72 (3, 5) = some (going 3 5) := rfl
  have g1 : G26 (going 3 5) = some (going 4 5) := (if_pos (may_fitS m3)).trans (by rw [tick_going (by omega)]; rfl)
  have g2 : G26 (going 4 5) = some (going 5 5) := (if_pos (may_fitS m4)).trans (by rw [tick_going (by omega)]; rfl)
  have g3 : G28 (going 5 5) = some [1] := (if_pos (may_fitS m5)).trans (by unfold dueS; rw [mayS_iff.2 m5]; rfl)
  have g4 : G28 (going 3 5) = some [] := (if_pos (may_fitS m3)).trans (by unfold dueS; rw [mayS_iff.2 m3]; rfl)
  have g5 : G32 (going 3 5) = some (1, true) := by
    unfold G32 oldestS going
    simp [bestR, coord0]
  have g6 : G27 (going 3 5, 1) = some 2 := (if_pos ⟨may_fitS m3, by omega, by omega⟩).trans (by unfold leftS; rw [mayS_iff.2 m3]; rfl)
  have g7 : G29 (going 3 5) = some (youngS (going 3 5)) := if_pos (may_fitS m3)
  rw [F25_eq, g0]
  simp only [Option.bind_some, g1, g2, g3, g4, g5, g6, g7]
  unfold youngS
  rw [mayS_iff.2 m3]
  rfl
def G25 : T25 → Option U25 := fun _ => some true
theorem c25 : CtrAll Try.prog ⟨25, A25, R25, G25⟩ := C25 c72 c26 c28 c32 c27 c29 fun x y h => ⟨8, clockWakes.trans h⟩

/-! ClockYoung -/
theorem young_due {c : Coord} (h : MayP c) : dueM (young c) = false := by
  unfold dueM young
  simp only
  by_cases h2 : c.1 = 2
  · rw [dT h2, Bool.true_and]
    rcases h with rfl | h
    · exact absurd h2 (by decide)
    · have := h.2.2.2.1
      exact dF (by omega)
  · rw [dF h2]; rfl
theorem young_fit {c : Coord} (h : Fit c) : Fit (young c) := h
theorem youngS_may {s : State} (h : MayS s) : youngS s = (s.1, (young s.2.1.1, young s.2.1.2.1, young s.2.1.2.2), s.2.2) := by unfold youngS; rw [mayS_iff.2 h]; rfl
theorem clockYoung_spec (s : State) (h8 : I8S s) : F5 G23 G24 G25 G29 G30 G28 G31 8 s = some true := by
  rw [F5_eq]
  simp only [G23, G25, Option.bind_some]
  cases hg : greatS s with
  | true => rfl
  | false =>
    have hf := great_fit hg
    have g24 : G24 s = some (mayS s) := if_pos ⟨hf, h8⟩
    rw [g24]
    simp only [brF, Option.bind_some]
    by_cases hm : MayS s
    · have hy := youngS_may hm
      have g29 : G29 s = some (youngS s) := if_pos hf
      obtain ⟨⟨h1, ⟨h2, h3⟩, ⟨h4, h5⟩, ⟨h6, h7⟩, h8, h9, h10⟩, h11⟩ := hm
      have hm : MayS s := ⟨⟨h1, ⟨h2, h3⟩, ⟨h4, h5⟩, ⟨h6, h7⟩, h8, h9, h10⟩, h11⟩
      rw [g29, hy, mayS_iff.2 hm]
      simp only [Bool.not_true, brF, Option.bind_some]
      have s1 : ∀ c : Coord, Fit c → G30 (c, (young c).1, (young c).2.1, (young c).2.2.1, (young c).2.2.2.1, (young c).2.2.2.2.1, (young c).2.2.2.2.2.1, (young c).2.2.2.2.2.2.1, c.2.2.2.2.2.2.2) = some true := fun c hc => (if_pos hc).trans (by
        obtain ⟨a, b, d, e, f, g, i, j⟩ := c
        unfold sameM young
        rw [dT rfl])
      have z : ∀ c : Coord, eqI (young c).2.2.2.2.2.2.2 0 = true := fun c => eqI_refl 0
      simp only [z, s1 _ hf.1, s1 _ hf.2.1, s1 _ hf.2.2, Bool.not_true, brF, Option.bind_some]
      have hf2 : FitS (s.1, (young s.2.1.1, young s.2.1.2.1, young s.2.1.2.2), s.2.2) := hf
      have g28 : G28 (s.1, (young s.2.1.1, young s.2.1.2.1, young s.2.1.2.2), s.2.2) = some [] := (if_pos hf2).trans (by
        unfold dueS dues
        simp only [young_due h2, young_due h4, young_due h6]
        cases mayS _ <;> rfl)
      have hyy : youngS (s.1, (young s.2.1.1, young s.2.1.2.1, young s.2.1.2.2), s.2.2) = (s.1, (young s.2.1.1, young s.2.1.2.1, young s.2.1.2.2), s.2.2) := by
        unfold youngS
        cases mayS _ <;> rfl
      have g29' : G29 (s.1, (young s.2.1.1, young s.2.1.2.1, young s.2.1.2.2), s.2.2) = some (s.1, (young s.2.1.1, young s.2.1.2.1, young s.2.1.2.2), s.2.2) := (if_pos hf2).trans (by rw [hyy])
      have g31 : G31 ((s.1, (young s.2.1.1, young s.2.1.2.1, young s.2.1.2.2), s.2.2), (s.1, (young s.2.1.1, young s.2.1.2.1, young s.2.1.2.2), s.2.2)) = some true := (if_pos hf2).trans (by unfold sameS; rw [dT rfl])
      rw [g28, Option.bind_some, g29', Option.bind_some, g31]
      simp only [Option.bind_some, eqI_refl, brT, Bool.and_self]
      rfl
    · rw [mayS_F hm]; rfl
def G5 : T5 → Option U5 := fun s => if I8S s then some true else none
theorem clockYoungC_ok : CtrAll Try.prog ⟨5, A5, R5, G5⟩ := C5 c23 c24 c25 c29 c30 c28 c31 fun x y h => by
  unfold G5 at h
  split at h
  · rename_i hb; exact ⟨8, (clockYoung_spec x hb).trans h⟩
  · cases h
end Go.Ev.R3
namespace Go.Ev.R3
theorem i8S_of {s : State} (h : Rng stateT s) : I8S s := ⟨i8_of h.2.1.1, i8_of h.2.1.2.1, i8_of h.2.1.2.2⟩
end Go.Ev.R3
