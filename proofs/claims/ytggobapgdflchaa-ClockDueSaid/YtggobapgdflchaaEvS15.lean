import Derived.Test.YtggobapgdflchaaEvS13
import Derived.Test.YtggobapgdflchaaEvS14
import Derived.Test.YtggobapgdflchaaEvS12
set_option linter.unusedVariables false
set_option maxRecDepth 100000
namespace Go.Ev.R3
open Go.Proofs

/-! The laws of the clock. -/

/-- so many ticks -/
def tickNc (n : Int) (c : Coord) : Coord := if c.1 = 2 then (c.1, c.2.1, c.2.2.1, c.2.2.2.1, c.2.2.2.2.1, c.2.2.2.2.2.1, c.2.2.2.2.2.2.1, minI (c.2.2.2.2.2.2.2 + n) 1048576) else c
theorem tickNc_st (n : Int) (c : Coord) : (tickNc n c).1 = c.1 := by unfold tickNc; split <;> rfl
theorem tickNc_pid (n : Int) (c : Coord) : (tickNc n c).2.1 = c.2.1 := by unfold tickNc; split <;> rfl
theorem minI_le {x y : Int} (h : x ≤ y) : minI x y = x := by unfold minI; rw [if_neg (by omega)]
theorem minI_ge {x y : Int} (h : y ≤ x) : minI x y = y := by unfold minI; split <;> omega
theorem tickNc_zero {c : Coord} (h : MayP c) : tickNc 0 c = c := by
  unfold tickNc
  split
  · have := may_age h
    rw [minI_le (by omega)]
    obtain ⟨a, b, d, e, f, g, i, j⟩ := c
    simp
  · rfl
theorem tickNc_may {c : Coord} (h : MayP c) {n : Int} (hn : 0 ≤ n) : MayP (tickNc n c) := by
  unfold tickNc
  split
  · rename_i h2
    rcases h with rfl | ⟨h1, hh2, h3, h4, h5, h6, h7, h8, h9, h10⟩
    · exact absurd h2 (by decide)
    · refine .inr ⟨h1, hh2, h3, h4, ?_, h6, h7, fun k => ?_, h9, h10⟩
      · show 0 ≤ minI _ _ ∧ minI _ _ ≤ 1048576
        unfold minI
        split <;> omega
      · exfalso
        have k : c.1 = 1 ∨ c.1 = 5 ∨ c.1 = 6 := k
        omega
  · exact h
theorem tickNc_step {c : Coord} (h : MayP c) {n : Int} (hn : 0 ≤ n) : tickM (tickNc n c) = tickNc (n + 1) c := by
  unfold tickM
  rw [mayT (tickNc_may h hn), brT]
  by_cases h2 : c.1 = 2
  · have ha := may_age h
    unfold tickNc
    simp only [if_pos h2]
    by_cases hl : minI (c.2.2.2.2.2.2.2 + n) 1048576 < 1048576
    · have e : minI (c.2.2.2.2.2.2.2 + n) 1048576 = c.2.2.2.2.2.2.2 + n := by unfold minI at hl ⊢; split at hl <;> omega
      rw [if_pos ⟨h2, hl⟩, e, minI_le (by rw [e] at hl; omega)]
      simp only [Int.add_assoc]
    · rw [if_neg (fun k => hl k.2)]
      have e : minI (c.2.2.2.2.2.2.2 + n) 1048576 = 1048576 := by unfold minI at hl ⊢; split at hl <;> omega
      have e2 : c.2.2.2.2.2.2.2 + n ≥ 1048576 := by unfold minI at hl; split at hl <;> omega
      rw [e, minI_ge (by omega)]
  · have e1 : tickNc n c = c := by unfold tickNc; rw [if_neg h2]
    have e2 : tickNc (n + 1) c = c := by unfold tickNc; rw [if_neg h2]
    rw [e1, e2, if_neg (fun k => h2 k.1)]

def atN (n : Int) (s : State) : State := (s.1, (tickNc n s.2.1.1, tickNc n s.2.1.2.1, tickNc n s.2.1.2.2), s.2.2)
theorem atN_may {s : State} (h : MayS s) {n : Int} (hn : 0 ≤ n) : MayS (atN n s) := by
  obtain ⟨⟨h1, ⟨h2, h3⟩, ⟨h4, h5⟩, ⟨h6, h7⟩, h8, h9, h10⟩, h11⟩ := h
  refine ⟨⟨h1, ⟨tickNc_may h2 hn, ?_⟩, ⟨tickNc_may h4 hn, ?_⟩, ⟨tickNc_may h6 hn, ?_⟩, ?_, ?_, ?_⟩, h11⟩
  all_goals (simp only [atN, tickNc_pid]; assumption)
theorem atN_zero {s : State} (h : MayS s) : atN 0 s = s := by
  obtain ⟨⟨h1, ⟨h2, h3⟩, ⟨h4, h5⟩, ⟨h6, h7⟩, h8, h9, h10⟩, h11⟩ := h
  unfold atN
  rw [tickNc_zero h2, tickNc_zero h4, tickNc_zero h6]
theorem atN_step {s : State} (h : MayS s) {n : Int} (hn : 0 ≤ n) : tickS (atN n s) = atN (n + 1) s := by
  unfold tickS
  rw [mayS_iff.2 (atN_may h hn), brT]
  obtain ⟨⟨h1, ⟨h2, h3⟩, ⟨h4, h5⟩, ⟨h6, h7⟩, h8, h9, h10⟩, h11⟩ := h
  unfold atN
  rw [tickNc_step h2 hn, tickNc_step h4 hn, tickNc_step h6 hn]
theorem may_fitS {s : State} (h : MayS s) : FitS s := ⟨may_fit h.1.2.1.1, may_fit h.1.2.2.1.1, may_fit h.1.2.2.2.1.1⟩
theorem may_i8 {c : Coord} (h : MayP c) : I8 c := by
  have := may_state h
  constructor <;> omega
theorem may_i8S {s : State} (h : MayS s) : I8S s := ⟨may_i8 h.1.2.1.1, may_i8 h.1.2.2.1.1, may_i8 h.1.2.2.2.1.1⟩
theorem mayS_F {s : State} (h : ¬ MayS s) : mayS s = false := by rw [← Bool.not_eq_true, mayS_iff]; exact h

/-! wakes -/
theorem may_going {a : Int} (h : 0 ≤ a ∧ a ≤ 1048576) : MayS (going a 5) := by
  have hm : MayP (2, 1, 0, 5, 0, [0], [], a) := by
    refine .inr ⟨?_, ?_, ?_, ?_, h, rfl, rfl, ?_, ?_, .inl rfl⟩
    · show (1 : Int) ≤ 2 ∧ (2 : Int) ≤ 6; omega
    · show (1 : Int) ≤ 1 ∧ (1 : Int) ≤ 8; omega
    · show (0 : Int) ≤ 0 ∧ (0 : Int) ≤ 100; omega
    · show (1 : Int) ≤ 5 ∧ (5 : Int) ≤ 20; omega
    · intro (k : (2 : Int) = 1 ∨ (2 : Int) = 5 ∨ (2 : Int) = 6); omega
    · rintro _ ⟨k, _⟩; cases k
  refine ⟨⟨by show (0 : Int) ≤ 1 ∧ (1 : Int) ≤ 8; omega, ⟨may0, by show (0 : Int) ≤ 1; omega⟩, ⟨hm, by show (1 : Int) ≤ 1; omega⟩, ⟨may0, by show (0 : Int) ≤ 1; omega⟩, ?_, ?_, ?_⟩, ?_⟩
  · rintro ⟨_, k⟩
    have k : (0 : Int) = 1 := k
    omega
  · rintro ⟨k, _⟩
    have k : (0 : Int) > 0 := k
    omega
  · rintro ⟨k, _⟩
    have k : (0 : Int) > 0 := k
    omega
  · unfold OffP
    refine ⟨⟨?_, ?_, ?_⟩, ?_, ?_, ?_⟩ <;> (show (-1 : Int) ≤ -1 ∧ (-1 : Int) ≤ 1048576; omega)
theorem tick_going {a : Int} (h : 0 ≤ a ∧ a < 1048576) : tickS (going a 5) = going (a + 1) 5 := by
  have hm := may_going (a := a) ⟨h.1, by omega⟩
  unfold tickS
  rw [mayS_iff.2 hm, brT]
  have e0 : tickM coord0 = coord0 := by
    unfold tickM
    rw [mayT may0, brT, if_neg (fun k => by have k : (0 : Int) = 2 := k.1; omega)]
  have e1 : tickM (2, 1, 0, 5, 0, [0], [], a) = (2, 1, 0, 5, 0, [0], [], a + 1) := by
    unfold tickM
    rw [mayT (show MayP (2, 1, 0, 5, 0, [0], [], a) from hm.1.2.2.1.1), brT, if_pos ⟨rfl, h.2⟩]
  unfold going
  simp only [e0, e1]
theorem clockWakes : F25 G72 G26 G28 G32 G27 G29 8 = some true := by
  have m3 := may_going (a := 3) (by omega)
  have m4 := may_going (a := 4) (by omega)
  have m5 := may_going (a := 5) (by omega)
  have g0 : G72 (3, 5) = some (going 3 5) := rfl
  have g1 : G26 (going 3 5) = some (going 4 5) := (if_pos (may_fitS m3)).trans (by rw [tick_going (by omega)]; rfl)
  have g2 : G26 (going 4 5) = some (going 5 5) := (if_pos (may_fitS m4)).trans (by rw [tick_going (by omega)]; rfl)
  have g3 : G28 (going 5 5) = some [1] := (if_pos (may_fitS m5)).trans (by unfold dueS; rw [mayS_iff.2 m5]; rfl)
  have g4 : G28 (going 3 5) = some [] := (if_pos (may_fitS m3)).trans (by unfold dueS; rw [mayS_iff.2 m3]; rfl)
  have g5 : G32 (going 3 5) = some (1, true) := by
    unfold G32 oldestS going
    simp [bestR, coord0]
  have g6 : G27 (going 3 5, 1) = some 2 := (if_pos ⟨may_fitS m3, by omega, by omega⟩).trans (by unfold leftS; rw [mayS_iff.2 m3]; rfl)
  have g7 : G29 (going 3 5) = some (youngS (going 3 5)) := if_pos (may_fitS m3)
  rw [F25_eq, g0]
  simp only [Option.bind_some, g1, g2, g3, g4, g5, g6, g7]
  unfold youngS
  rw [mayS_iff.2 m3]
  rfl
def G25 : T25 → Option U25 := fun _ => some true
theorem c25 : CtrAll Try.prog ⟨25, A25, R25, G25⟩ := C25 c72 c26 c28 c32 c27 c29 fun x y h => ⟨8, clockWakes.trans h⟩

/-! ClockYoung -/
theorem young_due {c : Coord} (h : MayP c) : dueM (young c) = false := by
  unfold dueM young
  simp only
  by_cases h2 : c.1 = 2
  · rw [dT h2, Bool.true_and]
    rcases h with rfl | h
    · exact absurd h2 (by decide)
    · have := h.2.2.2.1
      exact dF (by omega)
  · rw [dF h2]; rfl
theorem young_fit {c : Coord} (h : Fit c) : Fit (young c) := h
theorem youngS_may {s : State} (h : MayS s) : youngS s = (s.1, (young s.2.1.1, young s.2.1.2.1, young s.2.1.2.2), s.2.2) := by unfold youngS; rw [mayS_iff.2 h]; rfl
theorem clockYoung_spec (s : State) (h8 : I8S s) : F5 G23 G24 G25 G29 G30 G28 G31 8 s = some true := by
  rw [F5_eq]
  simp only [G23, G25, Option.bind_some]
  cases hg : greatS s with
  | true => rfl
  | false =>
    have hf := great_fit hg
    have g24 : G24 s = some (mayS s) := if_pos ⟨hf, h8⟩
    rw [g24]
    simp only [brF, Option.bind_some]
    by_cases hm : MayS s
    · have hy := youngS_may hm
      have g29 : G29 s = some (youngS s) := if_pos hf
      obtain ⟨⟨h1, ⟨h2, h3⟩, ⟨h4, h5⟩, ⟨h6, h7⟩, h8, h9, h10⟩, h11⟩ := hm
      have hm : MayS s := ⟨⟨h1, ⟨h2, h3⟩, ⟨h4, h5⟩, ⟨h6, h7⟩, h8, h9, h10⟩, h11⟩
      rw [g29, hy, mayS_iff.2 hm]
      simp only [Bool.not_true, brF, Option.bind_some]
      have s1 : ∀ c : Coord, Fit c → G30 (c, (young c).1, (young c).2.1, (young c).2.2.1, (young c).2.2.2.1, (young c).2.2.2.2.1, (young c).2.2.2.2.2.1, (young c).2.2.2.2.2.2.1, c.2.2.2.2.2.2.2) = some true := fun c hc => (if_pos hc).trans (by
        obtain ⟨a, b, d, e, f, g, i, j⟩ := c
        unfold sameM young
        rw [dT rfl])
      have z : ∀ c : Coord, eqI (young c).2.2.2.2.2.2.2 0 = true := fun c => eqI_refl 0
      simp only [z, s1 _ hf.1, s1 _ hf.2.1, s1 _ hf.2.2, Bool.not_true, brF, Option.bind_some]
      have hf2 : FitS (s.1, (young s.2.1.1, young s.2.1.2.1, young s.2.1.2.2), s.2.2) := hf
      have g28 : G28 (s.1, (young s.2.1.1, young s.2.1.2.1, young s.2.1.2.2), s.2.2) = some [] := (if_pos hf2).trans (by
        unfold dueS dues
        simp only [young_due h2, young_due h4, young_due h6]
        cases mayS _ <;> rfl)
      have hyy : youngS (s.1, (young s.2.1.1, young s.2.1.2.1, young s.2.1.2.2), s.2.2) = (s.1, (young s.2.1.1, young s.2.1.2.1, young s.2.1.2.2), s.2.2) := by
        unfold youngS
        cases mayS _ <;> rfl
      have g29' : G29 (s.1, (young s.2.1.1, young s.2.1.2.1, young s.2.1.2.2), s.2.2) = some (s.1, (young s.2.1.1, young s.2.1.2.1, young s.2.1.2.2), s.2.2) := (if_pos hf2).trans (by rw [hyy])
      have g31 : G31 ((s.1, (young s.2.1.1, young s.2.1.2.1, young s.2.1.2.2), s.2.2), (s.1, (young s.2.1.1, young s.2.1.2.1, young s.2.1.2.2), s.2.2)) = some true := (if_pos hf2).trans (by unfold sameS; rw [dT rfl])
      rw [g28, Option.bind_some, g29', Option.bind_some, g31]
      simp only [Option.bind_some, eqI_refl, brT, Bool.and_self]
      rfl
    · rw [mayS_F hm]; rfl
def G5 : T5 → Option U5 := fun s => if I8S s then some true else none
theorem clockYoungC_ok : CtrAll Try.prog ⟨5, A5, R5, G5⟩ := C5 c23 c24 c25 c29 c30 c28 c31 fun x y h => by
  unfold G5 at h
  split at h
  · rename_i hb; exact ⟨8, (clockYoung_spec x hb).trans h⟩
  · cases h
end Go.Ev.R3
namespace Go.Ev.R3
theorem i8S_of {s : State} (h : Rng stateT s) : I8S s := ⟨i8_of h.2.1.1, i8_of h.2.1.2.1, i8_of h.2.1.2.2⟩
end Go.Ev.R3

set_option linter.unusedVariables false
set_option maxRecDepth 100000
namespace Go.Ev.R3
open Go.Proofs

/-! roving/rovinglaw21.ClockOldest -/
abbrev A6 : Ty := stateT
abbrev R6 : Ty := .bool
abbrev T6 : Type := State
abbrev U6 : Type := Bool
def annJ6 : List (Nat × List (Nat × List Nat)) := (6, [(6, [0, 2, 6, 7, 8, 9, 10, 11, 12, 13, 14, 15, 16, 19, 20, 21, 22, 23, 24, 25, 26, 27, 28, 29, 30, 31, 32, 33, 34, 35, 36, 37, 38, 39, 40, 41, 42, 43, 44, 45, 46, 47, 48, 49, 50, 51, 52, 53, 54, 55, 56, 57, 58, 59, 60, 61, 62, 63, 64, 65, 66, 67, 68, 69, 70, 71, 72, 73, 74]), (100013, [0, 1, 2, 3, 6, 7, 8, 9, 10, 11, 12, 13, 14, 15, 16, 17, 18, 19, 20, 21, 22, 23, 24, 25, 26, 27, 28, 29, 30, 31, 32, 33, 34, 35, 36, 37, 38, 39, 40, 41, 42, 43, 44, 45, 46, 47, 48, 49, 50, 51, 52, 53, 54, 55, 56, 57, 58, 59, 60, 61, 62, 63, 64, 65, 66, 67, 68, 69, 70, 71, 72, 73, 74]), (100009, [0, 2, 5, 8, 9, 10, 11, 12, 13, 14, 15, 16, 19, 20, 21, 22, 23, 24, 25, 26, 27, 28, 29, 30, 31, 32, 33, 34, 35, 36, 37, 38, 39, 40, 41, 42, 43, 44, 45, 46, 47, 48, 49, 50, 51, 52, 53, 54, 55, 56, 57, 58, 59, 60, 61, 62, 63, 64, 65, 66, 67, 68, 69, 70, 71, 72, 73, 74]), (100007, [0, 2, 6, 7, 8, 9, 10, 11, 12, 13, 14, 15, 16, 19, 20, 21, 22, 23, 24, 25, 26, 27, 28, 29, 30, 31, 32, 33, 34, 35, 36, 37, 38, 39, 40, 41, 42, 43, 44, 45, 46, 47, 48, 49, 50, 51, 52, 53, 54, 55, 56, 57, 58, 59, 60, 61, 62, 63, 64, 65, 66, 67, 68, 69, 70, 71, 72, 73, 74]), (100003, [0, 2, 3, 4, 5, 6, 7, 8, 9, 10, 11, 12, 13, 14, 15, 16, 17, 18, 19, 20, 21, 22, 23, 24, 25, 26, 27, 28, 29, 30, 31, 32, 33, 34, 35, 36, 37, 38, 39, 40, 41, 42, 43, 44, 45, 46, 47, 48, 49, 50, 51, 52, 53, 54, 55, 56, 57, 58, 59, 60, 61, 62, 63, 64, 65, 66, 67, 68, 69, 70, 71, 72, 73, 74])]) :: ann
noncomputable def E6 (G23 : T23 → Option U23) (G32 : T32 → Option U32) (G25 : T25 → Option U25) (k : Nat) : Env := mkA annJ6 [⟨23, A23, R23, G23⟩, ⟨32, A32, R32, G32⟩, ⟨25, A25, R25, G25⟩] [(6, Try.f6)] k
noncomputable def F6 (G23 : T23 → Option U23) (G32 : T32 → Option U32) (G25 : T25 → Option U25) (k0 : Nat) (s : State) : Option U6 := sem (E6 G23 G32 G25 k0) 2 6 A6 R6 (s : T6)
def An6 : List (Nat × List Nat) := (look annJ6 6).getD []
noncomputable def J6_3 (G23 : T23 → Option U23) (G32 : T32 → Option U32) (G25 : T25 → Option U25) (k0 k : Nat) (b0 : State) : Option U6 :=
  jn (E6 G23 G32 G25 k0) (evCall (E6 G23 G32 G25 k0) 1) An6 (sub [1, 1] (bodyOf Try.f6)) k ⟨tops 1 ++ [⟨.box 0 0, ()⟩] ++ tops 73, [⟨stateT, b0⟩], List.replicate 75 none⟩
    (retK (E6 G23 G32 G25 k0) 0 Try.f6.results.toList fun v _ => castTo R6 v)
noncomputable def L6_6 (G23 : T23 → Option U23) (G32 : T32 → Option U32) (G25 : T25 → Option U25) (k0 k : Nat) (t3 : Int) (t4 : Bool) (t5 : Bool) (t17 : Tids) (t18 : Int) (b0 : State) : Option U6 :=
  lp (E6 G23 G32 G25 k0) (evCall (E6 G23 G32 G25 k0) 1) An6 (sub [1, 1, 1, 1, 0, 1, 0, 0] (bodyOf Try.f6)) 1 k ⟨tops 1 ++ [⟨.box 0 0, ()⟩] ++ tops 1 ++ [⟨.int .i64, t3⟩, ⟨.bool, t4⟩, ⟨.bool, t5⟩] ++ tops 11 ++ [⟨tidsT, t17⟩, ⟨.int .i64, t18⟩] ++ tops 56, [⟨stateT, b0⟩], List.replicate 75 none⟩
    (blockK 0 (seqK (E6 G23 G32 G25 k0) (evCall (E6 G23 G32 G25 k0) 1) An6 (sub [1, 1, 1, 1, 1] (bodyOf Try.f6)) (retK (E6 G23 G32 G25 k0) 0 Try.f6.results.toList fun v _ => castTo R6 v)))
noncomputable def J6_13 (G23 : T23 → Option U23) (G32 : T32 → Option U32) (G25 : T25 → Option U25) (k0 k : Nat) (t4 : Bool) (t5 : Bool) (b0 : State) : Option U6 :=
  jn (E6 G23 G32 G25 k0) (evCall (E6 G23 G32 G25 k0) 1) An6 (sub [1, 1, 1, 1, 1] (bodyOf Try.f6)) k ⟨tops 4 ++ [⟨.bool, t4⟩, ⟨.bool, t5⟩] ++ tops 69, [⟨stateT, b0⟩], List.replicate 75 none⟩
    (retK (E6 G23 G32 G25 k0) 0 Try.f6.results.toList fun v _ => castTo R6 v)
noncomputable def J6_7 (G23 : T23 → Option U23) (G32 : T32 → Option U32) (G25 : T25 → Option U25) (k0 ko1 k : Nat) (t3 : Int) (t4 : Bool) (t5 : Bool) (t17 : Tids) (t18 : Int) (b0 : State) : Option U6 :=
  jn (E6 G23 G32 G25 k0) (evCall (E6 G23 G32 G25 k0) 1) An6 (sub [1, 1, 1, 1, 0, 1, 0, 0, 1, 1] (bodyOf Try.f6)) k ⟨tops 1 ++ [⟨.box 0 0, ()⟩] ++ tops 1 ++ [⟨.int .i64, t3⟩, ⟨.bool, t4⟩, ⟨.bool, t5⟩] ++ tops 11 ++ [⟨tidsT, t17⟩, ⟨.int .i64, t18⟩] ++ tops 56, [⟨stateT, b0⟩], List.replicate 75 none⟩
    (loopK (E6 G23 G32 G25 k0) (evCall (E6 G23 G32 G25 k0) 1) An6 (sub [1, 1, 1, 1, 0, 1, 0, 0] (bodyOf Try.f6)) 1 ko1 (blockK 0 (seqK (E6 G23 G32 G25 k0) (evCall (E6 G23 G32 G25 k0) 1) An6 (sub [1, 1, 1, 1, 1] (bodyOf Try.f6)) (retK (E6 G23 G32 G25 k0) 0 Try.f6.results.toList fun v _ => castTo R6 v))))
noncomputable def J6_9 (G23 : T23 → Option U23) (G32 : T32 → Option U32) (G25 : T25 → Option U25) (k0 ko1 k : Nat) (t3 : Int) (t4 : Bool) (t6 : Int) (t17 : Tids) (t18 : Int) (b0 : State) (b1 : Coord) : Option U6 :=
  jn (E6 G23 G32 G25 k0) (evCall (E6 G23 G32 G25 k0) 1) An6 (sub [1, 1, 1, 1, 0, 1, 0, 0, 1, 1, 0, 0, 1, 1] (bodyOf Try.f6)) k ⟨tops 1 ++ [⟨.box 0 0, ()⟩] ++ tops 1 ++ [⟨.int .i64, t3⟩, ⟨.bool, t4⟩] ++ tops 1 ++ [⟨.int .i64, t6⟩, ⟨.box 1 0, ()⟩] ++ tops 9 ++ [⟨tidsT, t17⟩, ⟨.int .i64, t18⟩] ++ tops 56, [⟨stateT, b0⟩, ⟨coordT, b1⟩], List.replicate 75 none⟩
    (blockK 1 (seqK (E6 G23 G32 G25 k0) (evCall (E6 G23 G32 G25 k0) 1) An6 (sub [1, 1, 1, 1, 0, 1, 0, 0, 1, 1, 1] (bodyOf Try.f6)) (loopK (E6 G23 G32 G25 k0) (evCall (E6 G23 G32 G25 k0) 1) An6 (sub [1, 1, 1, 1, 0, 1, 0, 0] (bodyOf Try.f6)) 1 ko1 (blockK 0 (seqK (E6 G23 G32 G25 k0) (evCall (E6 G23 G32 G25 k0) 1) An6 (sub [1, 1, 1, 1, 1] (bodyOf Try.f6)) (retK (E6 G23 G32 G25 k0) 0 Try.f6.results.toList fun v _ => castTo R6 v))))))
theorem F6_eq (G23 : T23 → Option U23) (G32 : T32 → Option U32) (G25 : T25 → Option U25) (k0 : Nat) (s : State) : F6 G23 G32 G25 k0 s = Option.bind (G23 s) fun y => br y (Option.bind (G25 ()) fun y => some y) (J6_3 G23 G32 G25 k0 k0 (s)) := by kernel_rfl
theorem J6_3_eq (G23 : T23 → Option U23) (G32 : T32 → Option U32) (G25 : T25 → Option U25) (k0 k : Nat) (b0 : State) : J6_3 G23 G32 G25 k0 (k + 1) b0 =
    Option.bind (G32 b0) fun y => L6_6 G23 G32 G25 k0 k0 (y.1) (y.2) (false) (b0.2.1) (0) (b0) := by kernel_rfl
theorem L6_6_step (G23 : T23 → Option U23) (G32 : T32 → Option U32) (G25 : T25 → Option U25) (k0 k : Nat) (t3 : Int) (t4 : Bool) (t5 : Bool) (t17 : Tids) (t18 : Int) (b0 : State) : L6_6 G23 G32 G25 k0 (k + 1) t3 t4 t5 t17 t18 b0 =
    br (decide (t18 < 3)) (J6_7 G23 G32 G25 k0 k k0 (t3) (t4) (t5) (t17) (t18) (b0)) (J6_13 G23 G32 G25 k0 k0 (t4) (t5) (b0)) := by kernel_rfl
theorem J6_13_eq (G23 : T23 → Option U23) (G32 : T32 → Option U32) (G25 : T25 → Option U25) (k0 k : Nat) (t4 : Bool) (t5 : Bool) (b0 : State) : J6_13 G23 G32 G25 k0 (k + 1) t4 t5 b0 =
    br (eqB t5 t4) (Option.bind (G25 ()) fun y => some y) (some false) := by kernel_rfl
theorem J6_7_eq (G23 : T23 → Option U23) (G32 : T32 → Option U32) (G25 : T25 → Option U25) (k0 ko1 k : Nat) (t3 : Int) (t4 : Bool) (t5 : Bool) (t17 : Tids) (t18 : Int) (b0 : State) : J6_7 G23 G32 G25 k0 ko1 (k + 1) t3 t4 t5 t17 t18 b0 =
    br (inB t18 3) (br (!eqI (sel t17.1 [t17.1, t17.2.1, t17.2.2] (Int.toNat t18)).1 2) (L6_6 G23 G32 G25 k0 ko1 (t3) (t4) (t5) (t17) (IntKind.wrap IntKind.i64 (t18 + 1)) (b0)) (J6_9 G23 G32 G25 k0 ko1 k0 (t3) (t4) (t18) (t17) (t18) (b0) (sel t17.1 [t17.1, t17.2.1, t17.2.2] (Int.toNat t18)))) none := by kernel_rfl
theorem J6_9_eq (G23 : T23 → Option U23) (G32 : T32 → Option U32) (G25 : T25 → Option U25) (k0 ko1 k : Nat) (t3 : Int) (t4 : Bool) (t6 : Int) (t17 : Tids) (t18 : Int) (b0 : State) (b1 : Coord) : J6_9 G23 G32 G25 k0 ko1 (k + 1) t3 t4 t6 t17 t18 b0 b1 =
    br (!t4) (some false) (br (decide (t3 < 0)) (some false) (br (decide (t3 ≥ 3)) (some false) (br (inB t3 3) (br (!eqI (sel b0.2.1.1.1 [b0.2.1.1.1, b0.2.1.2.1.1, b0.2.1.2.2.1] (Int.toNat t3)) 2) (some false) (br (inB t3 3) (br (decide (b1.2.2.2.2.2.2.2 > sel b0.2.1.1.2.2.2.2.2.2.2 [b0.2.1.1.2.2.2.2.2.2.2, b0.2.1.2.1.2.2.2.2.2.2.2, b0.2.1.2.2.2.2.2.2.2.2.2] (Int.toNat t3))) (some false) (br (inB t3 3) (br (eqI b1.2.2.2.2.2.2.2 (sel b0.2.1.1.2.2.2.2.2.2.2 [b0.2.1.1.2.2.2.2.2.2.2, b0.2.1.2.1.2.2.2.2.2.2.2, b0.2.1.2.2.2.2.2.2.2.2.2] (Int.toNat t3))) (br (decide (t6 < t3)) (some false) (L6_6 G23 G32 G25 k0 ko1 (t3) (t4) (true) (t17) (IntKind.wrap IntKind.i64 (t18 + 1)) (b0))) (L6_6 G23 G32 G25 k0 ko1 (t3) (t4) (true) (t17) (IntKind.wrap IntKind.i64 (t18 + 1)) (b0))) none)) none)) none))) := by kernel_rfl
theorem C6 {G23 : T23 → Option U23} (h23 : CtrAll Try.prog ⟨23, A23, R23, G23⟩) {G32 : T32 → Option U32} (h32 : CtrAll Try.prog ⟨32, A32, R32, G32⟩) {G25 : T25 → Option U25} (h25 : CtrAll Try.prog ⟨25, A25, R25, G25⟩) {G : T6 → Option U6} (h : ∀ x y, G x = some y → ∃ k0, F6 G23 G32 G25 k0 x = some y) : CtrAll Try.prog ⟨6, A6, R6, G⟩ := by
  refine ctr_of mixed ⟨Try.f6, Try.func6, by decide, rfl⟩ rfl rfl fun x y hx => ?_
  obtain ⟨k0, hk⟩ := h x y hx
  exact ⟨E6 G23 G32 G25 k0, 2, base.env (⟨h23, h32, h25, trivial⟩ : CtrsOK Try.prog [⟨23, A23, R23, G23⟩, ⟨32, A32, R32, G32⟩, ⟨25, A25, R25, G25⟩]) ⟨⟨Try.func6, by decide⟩, trivial⟩, hk⟩

end Go.Ev.R3

set_option linter.unusedVariables false
set_option maxRecDepth 100000
namespace Go.Ev.R3
open Go.Proofs

/-! ClockOldest -/
theorem oldest_cases (a b c : Coord) : 
    (∃ k : Nat, k < 3 ∧ bestR [a, b, c] 0 0 none = ((k : Int), true) ∧ (sel a [a, b, c] k).1 = 2 ∧
      (a.1 = 2 → a.2.2.2.2.2.2.2 ≤ (sel a [a, b, c] k).2.2.2.2.2.2.2) ∧
      (b.1 = 2 → b.2.2.2.2.2.2.2 ≤ (sel a [a, b, c] k).2.2.2.2.2.2.2 ∧ (b.2.2.2.2.2.2.2 = (sel a [a, b, c] k).2.2.2.2.2.2.2 → k ≤ 1)) ∧
      (c.1 = 2 → c.2.2.2.2.2.2.2 ≤ (sel a [a, b, c] k).2.2.2.2.2.2.2) ∧ (a.1 = 2 → a.2.2.2.2.2.2.2 = (sel a [a, b, c] k).2.2.2.2.2.2.2 → k = 0)) ∨
    (bestR [a, b, c] 0 0 none = (0, false) ∧ a.1 ≠ 2 ∧ b.1 ≠ 2 ∧ c.1 ≠ 2) := by
  by_cases h1 : a.1 = 2 <;> by_cases h2 : b.1 = 2 <;> by_cases h3 : c.1 = 2
  all_goals
    by_cases k1 : b.2.2.2.2.2.2.2 > a.2.2.2.2.2.2.2 <;> by_cases k2 : c.2.2.2.2.2.2.2 > a.2.2.2.2.2.2.2 <;> by_cases k3 : c.2.2.2.2.2.2.2 > b.2.2.2.2.2.2.2 <;> first
      | (exfalso; omega)
      | (refine .inr ⟨by simp [bestR, h1, h2, h3], h1, h2, h3⟩)
      | (refine .inl ⟨0, by omega, by simp [bestR, h1, h2, h3, k1, k2, k3], ?_⟩; simp only [sel, nth]; (refine ⟨h1, ?_, ?_, ?_, ?_⟩ <;> intros <;> omega))
      | (refine .inl ⟨1, by omega, by simp [bestR, h1, h2, h3, k1, k2, k3], ?_⟩; simp only [sel, nth]; (refine ⟨h2, ?_, ?_, ?_, ?_⟩ <;> intros <;> omega))
      | (refine .inl ⟨2, by omega, by simp [bestR, h1, h2, h3, k1, k2, k3], ?_⟩; simp only [sel, nth]; (refine ⟨h3, ?_, ?_, ?_, ?_⟩ <;> intros <;> omega))


theorem lt3 {i : Nat} (h : i < 3) : i = 0 ∨ i = 1 ∨ i = 2 := by omega
theorem sel3 {α : Type} (f : Coord → α) (s : State) {i : Nat} (h : i < 3) : sel (f s.2.1.1) [f s.2.1.1, f s.2.1.2.1, f s.2.1.2.2] i = f (nthC s i) := by
  rcases lt3 h with rfl | rfl | rfl <;> rfl
theorem sel3c (s : State) (i : Nat) : sel s.2.1.1 [s.2.1.1, s.2.1.2.1, s.2.1.2.2] i = nthC s i := rfl
theorem inB3 {i : Nat} (h : i < 3) : inB ((i : Nat) : Int) 3 = true := by unfold inB; rw [dT (by omega), dT (by omega)]; rfl

theorem L6_next (K k n i : Nat) (s : State) (t5 : Bool) (hn : n < 3) (hi : i < 3) (h2 : (nthC s n).1 = 2) (ha : (nthC s i).1 = 2 → (nthC s i).2.2.2.2.2.2.2 ≤ (nthC s n).2.2.2.2.2.2.2 ∧ ((nthC s i).2.2.2.2.2.2.2 = (nthC s n).2.2.2.2.2.2.2 → n ≤ i)) :
    L6_6 G23 G32 G25 (K + 1) (k + 1) (n : Int) true t5 s.2.1 (i : Int) s = L6_6 G23 G32 G25 (K + 1) k (n : Int) true (if (nthC s i).1 = 2 then true else t5) s.2.1 ((i + 1 : Nat) : Int) s := by
  rw [L6_6_step, dT (show (i : Int) < 3 by omega), brT, J6_7_eq, inB3 hi, brT, Int.toNat_natCast, sel3c, w1 (by omega)]
  by_cases hs : (nthC s i).1 = 2
  · obtain ⟨a1, a2⟩ := ha hs
    rw [hs, eqI_refl, Bool.not_true, brF, if_pos rfl, J6_9_eq, Int.toNat_natCast, sel3 (fun c => c.1) s hn, sel3 (fun c => c.2.2.2.2.2.2.2) s hn, h2, eqI_refl, inB3 hn, dF (by omega), dF (by omega), dF (by omega)]
    simp only [Bool.not_true, brT, brF]
    unfold eqI
    by_cases he : (nthC s i).2.2.2.2.2.2.2 = (nthC s n).2.2.2.2.2.2.2
    · have := a2 he
      rw [dT he, brT, dF (by omega), brF, w1 (by omega)]
    · rw [dF he, brF, w1 (by omega)]
  · rw [eqI_ne hs, Bool.not_false, brT, if_neg hs]

theorem L6_last (K k : Nat) (s : State) (n : Int) (t4 t5 : Bool) (h : t5 = t4) : L6_6 G23 G32 G25 (K + 1) (k + 1) n t4 t5 s.2.1 ((3 : Nat) : Int) s = some true := by
  rw [L6_6_step, dF (by omega), brF, J6_13_eq, h]
  cases t4 <;> rfl

theorem L6_none (K k i : Nat) (s : State) (hi : i < 3) (h2 : (nthC s i).1 ≠ 2) :
    L6_6 G23 G32 G25 (K + 1) (k + 1) 0 false false s.2.1 (i : Int) s = L6_6 G23 G32 G25 (K + 1) k 0 false false s.2.1 ((i + 1 : Nat) : Int) s := by
  rw [L6_6_step, dT (show (i : Int) < 3 by omega), brT, J6_7_eq, inB3 hi, brT, Int.toNat_natCast, sel3c, w1 (by omega), eqI_ne h2, Bool.not_false, brT]

theorem clockOldest_spec (s : State) : F6 G23 G32 G25 10 s = some true := by
  rw [F6_eq]
  simp only [G23, Option.bind_some]
  cases greatS s with
  | true => rfl
  | false =>
    rw [brF, J6_3_eq]
    have g32 : G32 s = some (oldestS s) := rfl
    rw [g32, Option.bind_some]
    unfold oldestS
    rcases oldest_cases s.2.1.1 s.2.1.2.1 s.2.1.2.2 with ⟨n, hn, e, h0, h1, h2, h3, h4⟩ | ⟨e, h1, h2, h3⟩
    · rw [e]
      have h0 : (nthC s n).1 = 2 := h0
      have h1 : s.2.1.1.1 = 2 → s.2.1.1.2.2.2.2.2.2.2 ≤ (nthC s n).2.2.2.2.2.2.2 := h1
      have h2 : s.2.1.2.1.1 = 2 → s.2.1.2.1.2.2.2.2.2.2.2 ≤ (nthC s n).2.2.2.2.2.2.2 ∧ (s.2.1.2.1.2.2.2.2.2.2.2 = (nthC s n).2.2.2.2.2.2.2 → n ≤ 1) := h2
      have h3 : s.2.1.2.2.1 = 2 → s.2.1.2.2.2.2.2.2.2.2.2 ≤ (nthC s n).2.2.2.2.2.2.2 := h3
      have h4 : s.2.1.1.1 = 2 → s.2.1.1.2.2.2.2.2.2.2 = (nthC s n).2.2.2.2.2.2.2 → n = 0 := h4
      refine (L6_next 9 9 n 0 s false hn (by omega) h0 (fun k => ⟨h1 k, fun q => by have := h4 k q; omega⟩)).trans ?_
      refine (L6_next 9 8 n 1 s _ hn (by omega) h0 (fun k => h2 k)).trans ?_
      refine (L6_next 9 7 n 2 s _ hn (by omega) h0 (fun k => ⟨h3 k, fun q => by omega⟩)).trans ?_
      refine L6_last 9 6 s _ true _ ?_
      rcases lt3 hn with rfl | rfl | rfl <;> rw [h0] <;> (repeat' split) <;> simp_all
    · rw [e]
      exact (L6_none 9 9 0 s (by omega) h1).trans ((L6_none 9 8 1 s (by omega) h2).trans ((L6_none 9 7 2 s (by omega) h3).trans (L6_last 9 6 s 0 false false rfl)))
def G6 : T6 → Option U6 := fun s => some true
theorem clockOldestC_ok : CtrAll Try.prog ⟨6, A6, R6, G6⟩ := C6 c23 c32 c25 fun x y h => ⟨10, (clockOldest_spec x).trans h⟩

/-! ClockAgain -/
theorem youngS_at {s : State} (h : MayS s) {n : Int} (hn : 0 ≤ n) : youngS (atN n s) = youngS s := by
  rw [youngS_may h, youngS_may (atN_may h hn)]
  have e : ∀ c : Coord, young (tickNc n c) = young c := fun c => by unfold tickNc; split <;> rfl
  unfold atN
  simp only [e]
theorem g26 {s : State} (h : MayS s) {n : Int} (hn : 0 ≤ n) : G26 (atN n s) = some (atN (n + 1) s) := (if_pos (may_fitS (atN_may h hn))).trans (by rw [atN_step h hn])
theorem nthC_at (n : Int) (s : State) {i : Nat} (h : i < 3) : nthC (atN n s) i = tickNc n (nthC s i) := by
  rcases lt3 h with rfl | rfl | rfl <;> rfl
theorem nthC_may {s : State} (h : MayS s) {i : Nat} (hi : i < 3) : MayP (nthC s i) := by
  rcases lt3 hi with rfl | rfl | rfl
  · exact h.1.2.1.1
  · exact h.1.2.2.1.1
  · exact h.1.2.2.2.1.1
theorem L7_ticks (K : Nat) (s : State) (h : MayS s) (N : Nat) (hN : N < 30) : ∀ (d k i : Nat), d + i = N → d < k →
    L7_6 G23 G24 G25 G26 G29 G31 (K + 1) k (N : Int) (i : Int) s (atN (i : Int) s) = J7_9 G23 G24 G25 G26 G29 G31 (K + 1) (K + 1) (N : Int) s (atN (N : Int) s)
  | d, 0, i, h1, h2 => by omega
  | 0, k + 1, i, h1, h2 => by
    rw [L7_6_step, dF (by omega), brF, show i = N by omega]
  | d + 1, k + 1, i, h1, h2 => by
    rw [L7_6_step, dT (by omega), brT, J7_8_eq, g26 h (by omega), Option.bind_some, w1 (by omega)]
    have ih := L7_ticks K s h N hN d k (i + 1) (by omega) (by omega)
    rw [show (((i + 1 : Nat) : Int)) = (i : Int) + 1 by omega] at ih ⊢
    exact ih
theorem L7_next (K k N i : Nat) (s : State) (h : MayS s) (hN : N < 30) (hi : i < 3) :
    L7_10 G23 G24 G25 G26 G29 G31 (K + 1) (k + 1) (N : Int) s.2.1 (i : Int) s (atN (N : Int) s) = L7_10 G23 G24 G25 G26 G29 G31 (K + 1) k (N : Int) s.2.1 ((i + 1 : Nat) : Int) s (atN (N : Int) s) := by
  rw [L7_10_step, dT (show (i : Int) < 3 by omega), brT, J7_11_eq, inB3 hi]
  simp only [brT, Int.toNat_natCast, sel3c, w1 (show i < 1099511627776 by omega), nthC_at _ _ hi, tickNc_st]
  have ha := may_age (nthC_may h hi)
  rw [w64 (by omega) (by omega)]
  unfold tickNc
  by_cases hs : (nthC s i).1 = 2
  · simp only [hs, eqI_refl, if_true, Bool.not_true, brT, brF]
  · simp only [eqI_ne hs, if_neg hs, eqI_refl, Bool.not_true, Bool.not_false, brT, brF]
theorem tmod30 (n : Int) : ∃ N : Nat, N < 30 ∧ Int.tmod (IntKind.wrap IntKind.i64 (Int.tmod n 30 + 30)) 30 = (N : Int) := by
  have h1 : Int.tmod n 30 < 30 := Int.tmod_lt_of_pos n (by omega)
  have h2 : Int.tmod (-n) 30 < 30 := Int.tmod_lt_of_pos (-n) (by omega)
  rw [Int.neg_tmod] at h2
  rw [w64 (by omega) (by omega), Int.tmod_eq_emod_of_nonneg (by omega)]
  exact ⟨((Int.tmod n 30 + 30) % 30).toNat, by omega, by omega⟩
theorem clockAgain_spec (s : State) (n : Int) (h8 : I8S s) : F7 G23 G24 G25 G26 G29 G31 100 s n = some true := by
  rw [F7_eq]
  simp only [G23, Option.bind_some]
  cases hg : greatS s with
  | true => rfl
  | false =>
    have hf := great_fit hg
    have g24 : G24 s = some (mayS s) := if_pos ⟨hf, h8⟩
    rw [brF, g24, Option.bind_some]
    by_cases hm : MayS s
    · rw [mayS_iff.2 hm, Bool.not_true, brF, J7_3_eq]
      obtain ⟨N, hN, e⟩ := tmod30 n
      rw [e]
      have h0 := L7_ticks 99 s hm N hN N 100 0 (by omega) (by omega)
      rw [show (((0 : Nat) : Int)) = 0 from rfl, atN_zero hm] at h0
      rw [h0, J7_9_eq]
      refine (L7_next 99 99 N 0 s hm hN (by omega)).trans ((L7_next 99 98 N 1 s hm hN (by omega)).trans ((L7_next 99 97 N 2 s hm hN (by omega)).trans ?_))
      have m2 := atN_may hm (n := (N : Int)) (by omega)
      have g29a : G29 (atN (N : Int) s) = some (youngS s) := (if_pos (may_fitS m2)).trans (by rw [youngS_at hm (by omega)])
      have g29b : G29 s = some (youngS s) := if_pos hf
      have hfy : FitS (youngS s) := by rw [youngS_may hm]; exact hf
      have g31 : G31 (youngS s, youngS s) = some true := (if_pos hfy).trans (by unfold sameS; rw [dT rfl])
      rw [L7_10_step, dF (by omega), brF, J7_16_eq, g29a, Option.bind_some, g29b, Option.bind_some, g31]
      rfl
    · rw [mayS_F hm]; rfl
def G7 : T7 → Option U7 := fun x => if I8S x.1 then some true else none
theorem clockAgainC_ok : CtrAll Try.prog ⟨7, A7, R7, G7⟩ := C7 c23 c24 c25 c26 c29 c31 fun x y h => by
  unfold G7 at h
  split at h
  · rename_i hb; exact ⟨100, (clockAgain_spec x.1 x.2 hb).trans h⟩
  · cases h
end Go.Ev.R3

set_option linter.unusedVariables false
set_option maxRecDepth 100000
namespace Go.Ev.R3
open Go.Proofs

/-! ClockDue -/
theorem g24t {s : State} (h : MayS s) : G24 s = some true := (if_pos ⟨may_fitS h, may_i8S h⟩).trans (by rw [mayS_iff.2 h])
theorem g27t {s : State} (h : MayS s) {i : Nat} (hi : i < 3) : G27 (s, (i : Int)) = some (leftC (nthC s i)) := by
  have e : G27 (s, (i : Int)) = some (leftS s (i : Int).toNat) := if_pos ⟨may_fitS h, by show (0 : Int) ≤ (i : Int); omega, by show (i : Int) < 3; omega⟩
  rw [e, Int.toNat_natCast]
  unfold leftS
  rw [mayS_iff.2 h]
  rfl
theorem may_time {c : Coord} (h : MayP c) (h2 : c.1 = 2) : 1 ≤ c.2.2.2.1 ∧ c.2.2.2.1 ≤ 20 := by
  rcases h with rfl | h
  · exact absurd h2 (by decide)
  · exact h.2.2.2.1
theorem left_next {c : Coord} (h : MayP c) (h2 : c.1 = 2) {n : Nat} (hn : n < 100) :
    0 ≤ leftC (tickNc (n : Int) c) ∧ leftC (tickNc ((n : Int) + 1) c) = maxI 0 (IntKind.wrap .i64 (leftC (tickNc (n : Int) c) - 1)) := by
  have ha := may_age h
  have ht := may_time h h2
  unfold leftC tickNc
  simp only [if_pos h2]
  have hm : ∀ x : Int, minI x 1048576 = x ∧ x ≤ 1048576 ∨ minI x 1048576 = 1048576 ∧ 1048576 ≤ x := fun x => by unfold minI; split <;> omega
  have m1 := hm (c.2.2.2.2.2.2.2 + (n : Int))
  have m2 := hm (c.2.2.2.2.2.2.2 + ((n : Int) + 1))
  generalize minI (c.2.2.2.2.2.2.2 + (n : Int)) 1048576 = p at *
  generalize minI (c.2.2.2.2.2.2.2 + ((n : Int) + 1)) 1048576 = q at *
  rw [w64 (x := c.2.2.2.1 - p) (by omega) (by omega), w64 (x := c.2.2.2.1 - q) (by omega) (by omega)]
  have hx : ∀ x y : Int, maxI x y = if y > x then y else x := fun _ _ => rfl
  simp only [hx]
  split
  · rw [w64 (by omega) (by omega)]
    constructor
    · omega
    · split <;> split <;> omega
  · rw [w64 (by omega) (by omega)]
    constructor
    · omega
    · split <;> split <;> omega

theorem L4_11_next (K m k n i : Nat) (s : State) (h : MayS s) (hn : n < 20) (hi : i < 3) :
    L4_11 G23 G24 G25 G26 G27 G28 (K + 1) m (k + 1) (n : Int) (atN (n : Int) s).2.1 (i : Int) s (atN (n : Int) s) (atN ((n : Int) + 1) s) =
    L4_11 G23 G24 G25 G26 G27 G28 (K + 1) m k (n : Int) (atN (n : Int) s).2.1 ((i + 1 : Nat) : Int) s (atN (n : Int) s) (atN ((n : Int) + 1) s) := by
  rw [L4_11_step, dT (show (i : Int) < 3 by omega), brT, J4_12_eq, inB3 hi, brT, g27t (atN_may h (by omega)) hi, g27t (atN_may h (by omega)) hi]
  simp only [Option.bind_some, Int.toNat_natCast, sel3c, w1 (show i < 1099511627776 by omega), nthC_at _ _ hi, tickNc_st]
  by_cases hs : (nthC s i).1 = 2
  · obtain ⟨l1, l2⟩ := left_next (nthC_may h hi) hs (n := n) (by omega)
    rw [hs, eqI_refl, brT, dF (show ¬ (leftC (tickNc (n : Int) (nthC s i)) < 0) by omega), l2, eqI_refl]
    simp only [Bool.not_true, brF]
  · have e : ∀ m : Int, leftC (tickNc m (nthC s i)) = -1 := fun m => by
      unfold leftC
      rw [tickNc_st, if_neg hs]
    rw [eqI_ne hs, brF, Bool.not_false, brT, e, e, eqI_refl, Bool.not_true, brF, brF]

theorem L4_5_spec (K : Nat) (s : State) (h : MayS s) : ∀ (d k n : Nat), d + n = 20 → d < k →
    L4_5 G23 G24 G25 G26 G27 G28 (K + 5) k (n : Int) s (atN (n : Int) s) = J4_18 G23 G24 G25 G26 G27 G28 (K + 5) (K + 5) s (atN 20 s)
  | d, 0, n, h1, h2 => by omega
  | 0, k + 1, n, h1, h2 => by
    rw [L4_5_step, dF (by omega), brF, show n = 20 by omega]
    rfl
  | d + 1, k + 1, n, h1, h2 => by
    rw [L4_5_step, dT (by omega), brT, J4_7_eq, g26 h (by omega), Option.bind_some, g24t (atN_may h (by omega)), Option.bind_some, Bool.not_true, brF, J4_10_eq]
    refine (L4_11_next (K + 4) k (K + 4) n 0 s h (by omega) (by omega)).trans ((L4_11_next (K + 4) k (K + 3) n 1 s h (by omega) (by omega)).trans ((L4_11_next (K + 4) k (K + 2) n 2 s h (by omega) (by omega)).trans ?_))
    rw [L4_11_step, dF (by omega), brF, w1 (by omega)]
    have ih := L4_5_spec K s h d k (n + 1) (by omega) (by omega)
    rw [show (((n + 1 : Nat) : Int)) = (n : Int) + 1 by omega] at ih ⊢
    exact ih

/-- those that are going on, from one on -/
def dueD (s : State) : Nat → Ints
  | 0 => []
  | d + 1 => (if (nthC s (2 - d)).1 = 2 then [((2 - d : Nat) : Int)] else []) ++ dueD s d
theorem L4_21_spec (K : Nat) (s t : State) (l : Ints) (hl : l.length < 100) : ∀ (d k j : Nat), d ≤ 3 → d < k → j ≤ l.length → l.drop j = dueD s d →
    L4_21 G23 G24 G25 G26 G27 G28 (K + 1) k l (j : Int) s.2.1 ((3 - d : Nat) : Int) s t = some true
  | d, 0, j, h1, h2, h3, h4 => by omega
  | 0, k + 1, j, h1, h2, h3, h4 => by
    rw [L4_21_step, dF (by omega), brF, J4_28_eq]
    have : j = l.length := by
      have := List.drop_eq_nil_iff.1 h4
      omega
    subst this
    rw [show eqI ((l.length : Nat) : Int) (lenI l) = true from eqI_refl _, brT]
    rfl
  | d + 1, k + 1, j, h1, h2, h3, h4 => by
    have hi : 2 - d < 3 := by omega
    have e3 : 3 - (d + 1) = 2 - d := by omega
    have e4 : 2 - d + 1 = 3 - d := by omega
    rw [e3, L4_21_step, dT (by omega), brT, J4_22_eq, inB3 hi, brT, Int.toNat_natCast, sel3c, w1 (by omega), e4]
    unfold dueD at h4
    by_cases hs : (nthC s (2 - d)).1 = 2
    · rw [if_pos hs] at h4
      have hlen := congrArg List.length h4
      simp only [List.length_drop, List.length_append, List.length_cons, List.length_nil] at hlen
      have hj : l[j]? = some ((2 - d : Nat) : Int) := by
        have := congrArg (fun q : Ints => q[0]?) h4
        simpa using this
      rw [hs, eqI_refl, Bool.not_true, brF, J4_24_eq, dF (show ¬ ((j : Int) ≥ lenI l) by unfold lenI; omega), brF, idxN, hj, Option.bind_some, eqI_refl, Bool.not_true, brF, w1 (by omega), w1 (by omega), e4]
      refine L4_21_spec K s t l hl d k (j + 1) (by omega) (by omega) (by omega) ?_
      have := congrArg (List.drop 1) h4
      rw [List.drop_drop] at this
      simpa using this
    · rw [if_neg hs] at h4
      rw [eqI_ne hs, Bool.not_false, brT]
      exact L4_21_spec K s t l hl d k j (by omega) (by omega) h3 (by simpa using h4)

theorem due_at {c : Coord} (h : MayP c) : dueM (tickNc 20 c) = decide (c.1 = 2) := by
  unfold dueM
  rw [tickNc_st]
  by_cases hs : c.1 = 2
  · have ht := may_time h hs
    have ha := may_age h
    unfold tickNc
    rw [dT hs, Bool.true_and, if_pos hs]
    refine dT ?_
    show minI (c.2.2.2.2.2.2.2 + 20) 1048576 ≥ c.2.2.2.1
    unfold minI
    split <;> omega
  · rw [dF hs]; rfl
theorem clockDue_spec (s : State) (h8 : I8S s) : F4 G23 G24 G25 G26 G27 G28 100 s = some true := by
  rw [F4_eq]
  simp only [G23, Option.bind_some]
  cases hg : greatS s with
  | true => rfl
  | false =>
    have hf := great_fit hg
    have g24 : G24 s = some (mayS s) := if_pos ⟨hf, h8⟩
    rw [brF, g24, Option.bind_some]
    by_cases hm : MayS s
    · rw [mayS_iff.2 hm, Bool.not_true, brF, J4_3_eq]
      have h0 := L4_5_spec 95 s hm 20 100 0 (by omega) (by omega)
      rw [show (((0 : Nat) : Int)) = 0 from rfl, atN_zero hm] at h0
      have m20 := atN_may hm (n := 20) (by omega)
      have g28 : G28 (atN 20 s) = some (dueD s 3) := (if_pos (may_fitS m20)).trans (by
        unfold dueS dues
        rw [mayS_iff.2 m20, brT]
        have e1 := due_at hm.1.2.1.1
        have e2 := due_at hm.1.2.2.1.1
        have e3 := due_at hm.1.2.2.2.1.1
        have e1 : dueM (atN 20 s).2.1.1 = decide (s.2.1.1.1 = 2) := e1
        have e2 : dueM (atN 20 s).2.1.2.1 = decide (s.2.1.2.1.1 = 2) := e2
        have e3 : dueM (atN 20 s).2.1.2.2 = decide (s.2.1.2.2.1 = 2) := e3
        rw [e1, e2, e3]
        simp only [decide_eq_true_eq]
        show some _ = some ((if s.2.1.1.1 = 2 then [(0 : Int)] else []) ++ ((if s.2.1.2.1.1 = 2 then [(1 : Int)] else []) ++ ((if s.2.1.2.2.1 = 2 then [(2 : Int)] else []) ++ [])))
        rw [List.append_nil])
      rw [h0, J4_18_eq, g28, Option.bind_some]
      have hlen : (dueD s 3).length < 100 := by
        have : ∀ (p : Prop) [Decidable p] (x : Int), (if p then [x] else []).length ≤ 1 := fun p _ x => by split <;> simp
        unfold dueD dueD dueD dueD
        simp only [List.length_append, List.length_nil]
        have a1 := this ((nthC s (2 - 2)).1 = 2) ((2 - 2 : Nat) : Int)
        have a2 := this ((nthC s (2 - 1)).1 = 2) ((2 - 1 : Nat) : Int)
        have a3 := this ((nthC s (2 - 0)).1 = 2) ((2 - 0 : Nat) : Int)
        omega
      exact L4_21_spec 99 s (atN 20 s) (dueD s 3) hlen 3 100 0 (by omega) (by omega) (by omega) rfl
    · rw [mayS_F hm]; rfl
def G4 : T4 → Option U4 := fun s => if I8S s then some true else none
theorem clockDueC_ok : CtrAll Try.prog ⟨4, A4, R4, G4⟩ := C4 c23 c24 c25 c26 c27 c28 fun x y h => by
  unfold G4 at h
  split at h
  · rename_i hb; exact ⟨100, (clockDue_spec x hb).trans h⟩
  · cases h
end Go.Ev.R3
