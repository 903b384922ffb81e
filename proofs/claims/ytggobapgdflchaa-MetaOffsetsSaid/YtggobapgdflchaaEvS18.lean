import Derived.Test.YtggobapgdflchaaEvS16
import Derived.Test.YtggobapgdflchaaEvS17
set_option linter.unusedVariables false
set_option maxRecDepth 100000
namespace Go.Ev.R3
open Go.Proofs

/-! roving/rovinglaw20.MetaNext -/
abbrev A11 : Ty := .pr stateT metaT
abbrev R11 : Ty := .bool
abbrev T11 : Type := State × MetaE
abbrev U11 : Type := Bool
noncomputable def E11 (G40 : T40 → Option U40) (G41 : T41 → Option U41) (G42 : T42 → Option U42) (G43 : T43 → Option U43) (G44 : T44 → Option U44) (G31 : T31 → Option U31) (k : Nat) : Env := mk [⟨40, A40, R40, G40⟩, ⟨41, A41, R41, G41⟩, ⟨42, A42, R42, G42⟩, ⟨43, A43, R43, G43⟩, ⟨44, A44, R44, G44⟩, ⟨31, A31, R31, G31⟩] [(11, Try.f11)] k
noncomputable def F11 (G40 : T40 → Option U40) (G41 : T41 → Option U41) (G42 : T42 → Option U42) (G43 : T43 → Option U43) (G44 : T44 → Option U44) (G31 : T31 → Option U31) (k0 : Nat) (s : State) (x : MetaE) : Option U11 := sem (E11 G40 G41 G42 G43 G44 G31 k0) 2 11 A11 R11 ((s, x) : T11)
theorem F11_eq (G40 : T40 → Option U40) (G41 : T41 → Option U41) (G42 : T42 → Option U42) (G43 : T43 → Option U43) (G44 : T44 → Option U44) (G31 : T31 → Option U31)  (s : State) (x : MetaE) : F11 G40 G41 G42 G43 G44 G31 8 s x = Option.bind (G40 s) fun y => br y (Option.bind (G42 ()) fun y => some y) (Option.bind (G41 x) fun y_1 => br y_1 (Option.bind (G42 ()) fun y => some y) (Option.bind (G43 (s, x)) fun y_2 => Option.bind (G44 (s, x)) fun y_3 => Option.bind (G31 (y_2.1, y_3.1)) fun y => br y (br (eqI y_2.2 y_3.2) (Option.bind (G42 ()) fun y => some y) (some false)) (some false))) := by kernel_rfl
theorem C11 {G40 : T40 → Option U40} (h40 : CtrAll Try.prog ⟨40, A40, R40, G40⟩) {G41 : T41 → Option U41} (h41 : CtrAll Try.prog ⟨41, A41, R41, G41⟩) {G42 : T42 → Option U42} (h42 : CtrAll Try.prog ⟨42, A42, R42, G42⟩) {G43 : T43 → Option U43} (h43 : CtrAll Try.prog ⟨43, A43, R43, G43⟩) {G44 : T44 → Option U44} (h44 : CtrAll Try.prog ⟨44, A44, R44, G44⟩) {G31 : T31 → Option U31} (h31 : CtrAll Try.prog ⟨31, A31, R31, G31⟩) {G : T11 → Option U11} (h : ∀ x y, G x = some y → ∃ k0, F11 G40 G41 G42 G43 G44 G31 k0 x.1 x.2 = some y) : CtrAll Try.prog ⟨11, A11, R11, G⟩ := by
  refine ctr_of mixed ⟨Try.f11, Try.func11, by decide, rfl⟩ rfl rfl fun x y hx => ?_
  obtain ⟨k0, hk⟩ := h x y hx
  exact ⟨E11 G40 G41 G42 G43 G44 G31 k0, 2, base.env (⟨h40, h41, h42, h43, h44, h31, trivial⟩ : CtrsOK Try.prog [⟨40, A40, R40, G40⟩, ⟨41, A41, R41, G41⟩, ⟨42, A42, R42, G42⟩, ⟨43, A43, R43, G43⟩, ⟨44, A44, R44, G44⟩, ⟨31, A31, R31, G31⟩]) ⟨⟨Try.func11, by decide⟩, trivial⟩, hk⟩

/-! roving/rovinglaw20.MetaFolds -/
abbrev A12 : Ty := metasT
abbrev R12 : Ty := .bool
abbrev T12 : Type := Metas
abbrev U12 : Type := Bool
noncomputable def E12 (G45 : T45 → Option U45) (G42 : T42 → Option U42) (G46 : T46 → Option U46) (G47 : T47 → Option U47) (G31 : T31 → Option U31) (k : Nat) : Env := mk [⟨45, A45, R45, G45⟩, ⟨42, A42, R42, G42⟩, ⟨46, A46, R46, G46⟩, ⟨47, A47, R47, G47⟩, ⟨31, A31, R31, G31⟩] [(12, Try.f12)] k
noncomputable def F12 (G45 : T45 → Option U45) (G42 : T42 → Option U42) (G46 : T46 → Option U46) (G47 : T47 → Option U47) (G31 : T31 → Option U31) (k0 : Nat) (l : Metas) : Option U12 := sem (E12 G45 G42 G46 G47 G31 k0) 2 12 A12 R12 (l : T12)
theorem F12_eq (G45 : T45 → Option U45) (G42 : T42 → Option U42) (G46 : T46 → Option U46) (G47 : T47 → Option U47) (G31 : T31 → Option U31)  (l : Metas) : F12 G45 G42 G46 G47 G31 8 l = Option.bind (G45 l) fun y => br y (Option.bind (G42 ()) fun y => some y) (Option.bind (G46 l) fun y_1 => Option.bind (G47 l) fun y_2 => Option.bind (G31 (y_1.1, y_2.1)) fun y => br y (br (eqI y_1.2.1 y_2.2.1) (br (eqI y_1.2.2 y_2.2.2) (Option.bind (G42 ()) fun y => some y) (some false)) (some false)) (some false)) := by kernel_rfl
theorem C12 {G45 : T45 → Option U45} (h45 : CtrAll Try.prog ⟨45, A45, R45, G45⟩) {G42 : T42 → Option U42} (h42 : CtrAll Try.prog ⟨42, A42, R42, G42⟩) {G46 : T46 → Option U46} (h46 : CtrAll Try.prog ⟨46, A46, R46, G46⟩) {G47 : T47 → Option U47} (h47 : CtrAll Try.prog ⟨47, A47, R47, G47⟩) {G31 : T31 → Option U31} (h31 : CtrAll Try.prog ⟨31, A31, R31, G31⟩) {G : T12 → Option U12} (h : ∀ x y, G x = some y → ∃ k0, F12 G45 G42 G46 G47 G31 k0 x = some y) : CtrAll Try.prog ⟨12, A12, R12, G⟩ := by
  refine ctr_of mixed ⟨Try.f12, Try.func12, by decide, rfl⟩ rfl rfl fun x y hx => ?_
  obtain ⟨k0, hk⟩ := h x y hx
  exact ⟨E12 G45 G42 G46 G47 G31 k0, 2, base.env (⟨h45, h42, h46, h47, h31, trivial⟩ : CtrsOK Try.prog [⟨45, A45, R45, G45⟩, ⟨42, A42, R42, G42⟩, ⟨46, A46, R46, G46⟩, ⟨47, A47, R47, G47⟩, ⟨31, A31, R31, G31⟩]) ⟨⟨Try.func12, by decide⟩, trivial⟩, hk⟩

/-! roving/rovinglaw20.MetaTurns -/
abbrev A14 : Ty := .pr stateT (.pr metaT metaT)
abbrev R14 : Ty := .bool
abbrev T14 : Type := State × MetaE × MetaE
abbrev U14 : Type := Bool
noncomputable def E14 (G40 : T40 → Option U40) (G41 : T41 → Option U41) (G50 : T50 → Option U50) (G42 : T42 → Option U42) (G43 : T43 → Option U43) (G51 : T51 → Option U51) (k : Nat) : Env := mk [⟨40, A40, R40, G40⟩, ⟨41, A41, R41, G41⟩, ⟨50, A50, R50, G50⟩, ⟨42, A42, R42, G42⟩, ⟨43, A43, R43, G43⟩, ⟨51, A51, R51, G51⟩] [(14, Try.f14)] k
noncomputable def F14 (G40 : T40 → Option U40) (G41 : T41 → Option U41) (G50 : T50 → Option U50) (G42 : T42 → Option U42) (G43 : T43 → Option U43) (G51 : T51 → Option U51) (k0 : Nat) (s : State) (a : MetaE) (b : MetaE) : Option U14 := sem (E14 G40 G41 G50 G42 G43 G51 k0) 2 14 A14 R14 ((s, a, b) : T14)
theorem F14_eq (G40 : T40 → Option U40) (G41 : T41 → Option U41) (G50 : T50 → Option U50) (G42 : T42 → Option U42) (G43 : T43 → Option U43) (G51 : T51 → Option U51)  (s : State) (a : MetaE) (b : MetaE) : F14 G40 G41 G50 G42 G43 G51 8 s a b = Option.bind (G40 s) fun y => br y (Option.bind (G42 ()) fun y => some y) (Option.bind (G41 a) fun y_1 => br y_1 (Option.bind (G42 ()) fun y => some y) (Option.bind (G41 b) fun y_2 => br y_2 (Option.bind (G42 ()) fun y => some y) (Option.bind (G50 a) fun y_3 => br (!y_3) (Option.bind (G42 ()) fun y => some y) (Option.bind (G50 b) fun y_4 => br (!y_4) (br (!eqI b.1 5) (Option.bind (G42 ()) fun y => some y) (Option.bind (G50 b) fun y_5 => br y_5 (br (eqI a.2.1 b.2.1) (Option.bind (G42 ()) fun y => some y) (Option.bind (G43 (s, a)) fun y_6 => Option.bind (G43 (s, b)) fun y_7 => br (!eqI y_6.2 0) (Option.bind (G42 ()) fun y => some y) (br (!eqI y_7.2 0) (Option.bind (G42 ()) fun y => some y) (Option.bind (G43 (y_6.1, b)) fun y_8 => Option.bind (G43 (y_7.1, a)) fun y_9 => br (eqI y_8.2 0) (br (eqI y_9.2 0) (Option.bind (G51 (y_8.1, y_9.1)) fun y => br y (Option.bind (G42 ()) fun y => some y) (some false)) (some false)) (some false))))) (Option.bind (G43 (s, a)) fun y_6 => Option.bind (G43 (s, b)) fun y_7 => br (!eqI y_6.2 0) (Option.bind (G42 ()) fun y => some y) (br (!eqI y_7.2 0) (Option.bind (G42 ()) fun y => some y) (Option.bind (G43 (y_6.1, b)) fun y_8 => Option.bind (G43 (y_7.1, a)) fun y_9 => br (eqI y_8.2 0) (br (eqI y_9.2 0) (Option.bind (G51 (y_8.1, y_9.1)) fun y => br y (Option.bind (G42 ()) fun y => some y) (some false)) (some false)) (some false)))))) (Option.bind (G50 b) fun y_5 => br y_5 (br (eqI a.2.1 b.2.1) (Option.bind (G42 ()) fun y => some y) (Option.bind (G43 (s, a)) fun y_6 => Option.bind (G43 (s, b)) fun y_7 => br (!eqI y_6.2 0) (Option.bind (G42 ()) fun y => some y) (br (!eqI y_7.2 0) (Option.bind (G42 ()) fun y => some y) (Option.bind (G43 (y_6.1, b)) fun y_8 => Option.bind (G43 (y_7.1, a)) fun y_9 => br (eqI y_8.2 0) (br (eqI y_9.2 0) (Option.bind (G51 (y_8.1, y_9.1)) fun y => br y (Option.bind (G42 ()) fun y => some y) (some false)) (some false)) (some false))))) (Option.bind (G43 (s, a)) fun y_6 => Option.bind (G43 (s, b)) fun y_7 => br (!eqI y_6.2 0) (Option.bind (G42 ()) fun y => some y) (br (!eqI y_7.2 0) (Option.bind (G42 ()) fun y => some y) (Option.bind (G43 (y_6.1, b)) fun y_8 => Option.bind (G43 (y_7.1, a)) fun y_9 => br (eqI y_8.2 0) (br (eqI y_9.2 0) (Option.bind (G51 (y_8.1, y_9.1)) fun y => br y (Option.bind (G42 ()) fun y => some y) (some false)) (some false)) (some false))))))))) := by kernel_rfl
theorem C14 {G40 : T40 → Option U40} (h40 : CtrAll Try.prog ⟨40, A40, R40, G40⟩) {G41 : T41 → Option U41} (h41 : CtrAll Try.prog ⟨41, A41, R41, G41⟩) {G50 : T50 → Option U50} (h50 : CtrAll Try.prog ⟨50, A50, R50, G50⟩) {G42 : T42 → Option U42} (h42 : CtrAll Try.prog ⟨42, A42, R42, G42⟩) {G43 : T43 → Option U43} (h43 : CtrAll Try.prog ⟨43, A43, R43, G43⟩) {G51 : T51 → Option U51} (h51 : CtrAll Try.prog ⟨51, A51, R51, G51⟩) {G : T14 → Option U14} (h : ∀ x y, G x = some y → ∃ k0, F14 G40 G41 G50 G42 G43 G51 k0 x.1 x.2.1 x.2.2 = some y) : CtrAll Try.prog ⟨14, A14, R14, G⟩ := by
  refine ctr_of mixed ⟨Try.f14, Try.func14, by decide, rfl⟩ rfl rfl fun x y hx => ?_
  obtain ⟨k0, hk⟩ := h x y hx
  exact ⟨E14 G40 G41 G50 G42 G43 G51 k0, 2, base.env (⟨h40, h41, h50, h42, h43, h51, trivial⟩ : CtrsOK Try.prog [⟨40, A40, R40, G40⟩, ⟨41, A41, R41, G41⟩, ⟨50, A50, R50, G50⟩, ⟨42, A42, R42, G42⟩, ⟨43, A43, R43, G43⟩, ⟨51, A51, R51, G51⟩]) ⟨⟨Try.func14, by decide⟩, trivial⟩, hk⟩

end Go.Ev.R3

set_option linter.unusedVariables false
set_option maxRecDepth 100000
namespace Go.Ev.R3
open Go.Proofs

/-! Folding. -/
noncomputable def foldR : State → Metas → Nat → State × Int × Int
  | s, [], i => (s, (i : Int), 0)
  | s, x :: l, i => if (nextM s x).2 = 0 then foldR (nextM s x).1 l (i + 1) else (s, (i : Int), (nextM s x).2)
theorem next_ok {s : State} {x : MetaE} (h : (nextM s x).2 = 0) : MayS s ∧ MayE x ∧ (moveS s x).2 = 0 ∧ MayS (moveS s x).1 ∧ nextM s x = ((moveS s x).1, 0) := by
  unfold nextM at h
  split at h
  · rename_i hb
    split at h
    · rename_i h0
      split at h
      · rename_i hm
        refine ⟨hb.1, hb.2, h0, hm, ?_⟩
        unfold nextM
        rw [if_pos hb, if_pos h0, if_pos hm]
      · exact absurd h (by show ¬ (2 : Int) = 0; omega)
    · rename_i h0
      exact absurd h h0
  · exact absurd h (by show ¬ (2 : Int) = 0; omega)
theorem next_may {s : State} {x : MetaE} (h : (nextM s x).2 = 0) : MayS (nextM s x).1 := by
  obtain ⟨_, _, _, h1, h2⟩ := next_ok h
  rw [h2]; exact h1
theorem first_may : MayS first := by
  refine ⟨⟨by show (0 : Int) ≤ 0 ∧ (0 : Int) ≤ 8; omega, ⟨may0, by show (0 : Int) ≤ 0; omega⟩, ⟨may0, by show (0 : Int) ≤ 0; omega⟩, ⟨may0, by show (0 : Int) ≤ 0; omega⟩, ?_, ?_, ?_⟩, ?_⟩
  · rintro ⟨k, _⟩; have k : (0 : Int) > 0 := k; omega
  · rintro ⟨k, _⟩; have k : (0 : Int) > 0 := k; omega
  · rintro ⟨k, _⟩; have k : (0 : Int) > 0 := k; omega
  · unfold OffP
    refine ⟨⟨?_, ?_, ?_⟩, ?_, ?_, ?_⟩ <;> (show (-1 : Int) ≤ -1 ∧ (-1 : Int) ≤ 1048576; omega)
theorem L46_spec (K : Nat) (l : Metas) (z : State) (hl : l.length ≤ 1000000) (hE : ∀ e, e ∈ l → FitE e) : ∀ (k i : Nat) (s : State), l.length < k + i → i ≤ l.length → FitS s →
    L46_3 G48 G43 (K + 1) k l l (lenI l) (i : Int) z s = some (foldR s (l.drop i) i)
  | 0, i, s, h, hi, _ => by omega
  | k + 1, i, s, h, hi, hs => by
    rw [L46_3_step]
    cases hx : l[i]? with
    | none =>
      have := List.getElem?_eq_none_iff.1 hx
      have hi : i = l.length := by omega
      rw [dF (show ¬ ((i : Int) < lenI l) by unfold lenI; omega), List.drop_eq_nil_of_le this, brF, J46_10_eq, hi]
      rfl
    | some x =>
      have hlt := (List.getElem?_eq_some_iff.1 hx).1
      have g43 : G43 (s, x) = some (nextM s x) := if_pos ⟨hs, hE x (List.mem_of_getElem? hx)⟩
      rw [dT (show (i : Int) < lenI l by unfold lenI; omega), brT, J46_4_eq, idxN, hx, Option.bind_some, g43, Option.bind_some, w1 (by omega), drop_consN hx]
      unfold foldR
      by_cases h0 : (nextM s x).2 = 0
      · rw [h0, eqI_refl, Bool.not_true, brF, if_pos rfl]
        exact L46_spec K l z hl hE k (i + 1) (nextM s x).1 (by omega) (by omega) (mayFitS (next_may h0))
      · rw [eqI_ne h0, Bool.not_false, brT, if_neg h0]
theorem L47_spec (K : Nat) (l : Metas) (z : State) (hl : l.length ≤ 1000000) (hE : ∀ e, e ∈ l → FitE e) : ∀ (k i : Nat) (s : State), l.length < k + i → i ≤ l.length → FitS s → I8S s →
    L47_3 G95 G44 (K + 1) k l (i : Int) z s = some (foldR s (l.drop i) i)
  | 0, i, s, h, hi, _, _ => by omega
  | k + 1, i, s, h, hi, hs, h8 => by
    rw [L47_3_step]
    cases hx : l[i]? with
    | none =>
      have := List.getElem?_eq_none_iff.1 hx
      have hi : i = l.length := by omega
      rw [dF (show ¬ ((i : Int) < lenI l) by unfold lenI; omega), List.drop_eq_nil_of_le this, brF, J47_9_eq, hi]
      rfl
    | some x =>
      have hlt := (List.getElem?_eq_some_iff.1 hx).1
      have g44 : G44 (s, x) = some (nextM s x) := if_pos ⟨hs, h8, hE x (List.mem_of_getElem? hx)⟩
      rw [dT (show (i : Int) < lenI l by unfold lenI; omega), brT, J47_5_eq, idxN, hx, Option.bind_some, g44, Option.bind_some, w1 (by omega), drop_consN hx]
      unfold foldR
      by_cases h0 : (nextM s x).2 = 0
      · rw [h0, eqI_refl, Bool.not_true, brF, if_pos rfl]
        exact L47_spec K l z hl hE k (i + 1) (nextM s x).1 (by omega) (by omega) (mayFitS (next_may h0)) (mayI8S (next_may h0))
      · rw [eqI_ne h0, Bool.not_false, brT, if_neg h0]
open Classical in
noncomputable def G46 : T46 → Option U46 := fun l => if l.length ≤ 1000000 ∧ ∀ e, e ∈ l → FitE e then some (foldR first l 0) else none
theorem c46 : CtrAll Try.prog ⟨46, A46, R46, G46⟩ := C46 c48 c43 fun x y h => by
  unfold G46 at h
  split at h
  · rename_i hb
    refine ⟨1000002, ?_⟩
    have := L46_spec 1000001 x zeroS hb.1 hb.2 1000002 0 first (by omega) (by omega) (mayFitS first_may)
    rw [List.drop_zero, show ((0 : Nat) : Int) = 0 from rfl] at this
    have g48 : G48 () = some first := rfl
    rw [F46_eq, g48, Option.bind_some]
    exact Eq.trans this h
  · cases h
open Classical in
noncomputable def G47 : T47 → Option U47 := fun l => if l.length ≤ 1000000 ∧ ∀ e, e ∈ l → FitE e then some (foldR first l 0) else none
theorem c47 : CtrAll Try.prog ⟨47, A47, R47, G47⟩ := C47 c95 c44 fun x y h => by
  unfold G47 at h
  split at h
  · rename_i hb
    refine ⟨1000002, ?_⟩
    have := L47_spec 1000001 x zeroS hb.1 hb.2 1000002 0 first (by omega) (by omega) (mayFitS first_may) (mayI8S first_may)
    rw [List.drop_zero, show ((0 : Nat) : Int) = 0 from rfl] at this
    have g95 : G95 () = some first := rfl
    rw [F47_eq, g95, Option.bind_some]
    exact Eq.trans this h
  · cases h
theorem fold_may : ∀ (l : Metas) (s : State) (i : Nat), MayS s → MayS (foldR s l i).1
  | [], s, i, h => h
  | x :: l, s, i, h => by
    unfold foldR
    split
    · rename_i h0
      exact fold_may l _ _ (next_may h0)
    · exact h

/-! wakes -/
theorem one_may {c : Coord} (hc : MayP c) (hp : c.2.1 = 1) {g : Groups} (hg : OffP (1, (c, coord0, coord0), g)) : MayS (1, (c, coord0, coord0), g) := by
  refine ⟨⟨by show (0 : Int) ≤ 1 ∧ (1 : Int) ≤ 8; omega, ⟨hc, by show c.2.1 ≤ 1; omega⟩, ⟨may0, by show (0 : Int) ≤ 1; omega⟩, ⟨may0, by show (0 : Int) ≤ 1; omega⟩, ?_, ?_, ?_⟩, hg⟩
  · rintro ⟨k, _⟩; have k : (0 : Int) > 0 := k; omega
  · rintro ⟨k, _⟩; have k : (0 : Int) > 0 := k; omega
  · rintro ⟨k, _⟩; have k : (0 : Int) > 0 := k; omega
theorem off_none {m : Int} {t : Tids} : OffP (m, t, ((-1, -1, -1), (-1, -1, -1))) := by
  unfold OffP
  refine ⟨⟨?_, ?_, ?_⟩, ?_, ?_, ?_⟩ <;> (show (-1 : Int) ≤ -1 ∧ (-1 : Int) ≤ 1048576; omega)
def we1 : MetaE := (1, 0, 5, (0, 0, 0), false, 0, (0, 0, 0, 0, 0, [], [], 0), 0)
def we2 : MetaE := (2, 0, 0, (1, 2, 9), false, 0, (0, 0, 0, 0, 0, [], [], 0), 0)
def we3 : MetaE := (3, 0, 0, (0, 0, 0), true, 0, (0, 0, 0, 0, 0, [], [], 0), 0)
def we4 : MetaE := (4, 0, 0, (0, 0, 0), false, 0, (0, 0, 0, 0, 0, [], [], 0), 0)
def wc1 : Coord := (1, 1, 0, 5, 0, [], [], 0)
def wc2 : Coord := (2, 1, 0, 5, 0, [], [(1, 2, 9)], 0)
def wc3 : Coord := (3, 1, 0, 5, 0, [], [(1, 2, 9)], 0)
def wc4 : Coord := (5, 1, 0, 5, 0, [], [], 0)
def gNone : Groups := ((-1, -1, -1), (-1, -1, -1))
def gNine : Groups := ((-1, -1, -1), (-1, -1, 9))
theorem wm1' : MayP wc1 := may_begun (n := 0) (by omega) (by omega)
theorem wm2 : MayP wc2 := by
  refine .inr ⟨?_, ?_, ?_, ?_, ?_, rfl, by decide, ?_, ?_, .inl rfl⟩
  · show (1 : Int) ≤ 2 ∧ (2 : Int) ≤ 6; omega
  · show (1 : Int) ≤ 1 ∧ (1 : Int) ≤ 8; omega
  · show (0 : Int) ≤ 0 ∧ (0 : Int) ≤ 100; omega
  · show (1 : Int) ≤ 5 ∧ (5 : Int) ≤ 20; omega
  · show (0 : Int) ≤ 0 ∧ (0 : Int) ≤ 1048576; omega
  · intro (k : (2 : Int) = 1 ∨ (2 : Int) = 5 ∨ (2 : Int) = 6); omega
  · rintro _ ⟨_, k⟩; cases k
theorem wm3 : MayP wc3 := by
  refine .inr ⟨?_, ?_, ?_, ?_, ?_, rfl, by decide, ?_, ?_, .inl rfl⟩
  · show (1 : Int) ≤ 3 ∧ (3 : Int) ≤ 6; omega
  · show (1 : Int) ≤ 1 ∧ (1 : Int) ≤ 8; omega
  · show (0 : Int) ≤ 0 ∧ (0 : Int) ≤ 100; omega
  · show (1 : Int) ≤ 5 ∧ (5 : Int) ≤ 20; omega
  · show (0 : Int) ≤ 0 ∧ (0 : Int) ≤ 1048576; omega
  · intro (k : (3 : Int) = 1 ∨ (3 : Int) = 5 ∨ (3 : Int) = 6); omega
  · intro (k : (3 : Int) = 2); omega
theorem wm4 : MayP wc4 := by
  refine .inr ⟨?_, ?_, ?_, ?_, ?_, rfl, rfl, fun _ => ⟨rfl, rfl, rfl⟩, ?_, .inl rfl⟩
  · show (1 : Int) ≤ 5 ∧ (5 : Int) ≤ 6; omega
  · show (1 : Int) ≤ 1 ∧ (1 : Int) ≤ 8; omega
  · show (0 : Int) ≤ 0 ∧ (0 : Int) ≤ 100; omega
  · show (1 : Int) ≤ 5 ∧ (5 : Int) ≤ 20; omega
  · show (0 : Int) ≤ 0 ∧ (0 : Int) ≤ 1048576; omega
  · intro (k : (5 : Int) = 2); omega
theorem next_of {s t : State} {x : MetaE} (hs : MayS s) (hx : MayE x) (h : moveS s x = (t, 0)) (ht : MayS t) : nextM s x = (t, 0) := by
  unfold nextM
  rw [if_pos ⟨hs, hx⟩, h, if_pos rfl, if_pos ht]
theorem wx (x : MetaE) (h : x = we1 ∨ x = we2 ∨ x = we3 ∨ x = we4) : MayE x := by
  rcases h with rfl | rfl | rfl | rfl
  · exact ⟨by decide, by decide, by decide, fun _ => by decide, (fun k => by rcases k with k | k <;> cases k), (fun k => by cases k), (fun k => by cases k), (fun k => by cases k)⟩
  · exact ⟨by decide, by decide, by decide, (fun k => by cases k), fun _ => by decide, (fun k => by cases k), (fun k => by cases k), (fun k => by cases k)⟩
  · exact ⟨by decide, by decide, by decide, (fun k => by cases k), (fun k => by rcases k with k | k <;> cases k), fun _ => by decide, (fun k => by cases k), (fun k => by cases k)⟩
  · exact ⟨by decide, by decide, by decide, (fun k => by cases k), (fun k => by rcases k with k | k <;> cases k), (fun k => by cases k), (fun k => by cases k), (fun k => by cases k)⟩
theorem wfold : foldR first [we1, we2, we3, we4] 0 = ((1, (wc4, coord0, coord0), gNine), 4, 0) := by
  have m1 : MayS (1, (wc1, coord0, coord0), gNone) := one_may wm1' rfl off_none
  have m2 : MayS (1, (wc2, coord0, coord0), gNone) := one_may wm2 rfl off_none
  have m3 : MayS (1, (wc3, coord0, coord0), gNone) := one_may wm3 rfl off_none
  have m4 : MayS (1, (wc4, coord0, coord0), gNine) := one_may wm4 rfl (by
    unfold OffP
    refine ⟨⟨?_, ?_, ?_⟩, ?_, ?_, ?_⟩ <;> first
      | (show (-1 : Int) ≤ -1 ∧ (-1 : Int) ≤ 1048576; omega)
      | (show (-1 : Int) ≤ 9 ∧ (9 : Int) ≤ 1048576; omega))
  have n1 : nextM first we1 = ((1, (wc1, coord0, coord0), gNone), 0) := next_of first_may (wx _ (by simp)) (by
    unfold moveS
    rw [if_pos (Or.inr ⟨rfl, rfl⟩), if_neg (by decide), if_neg (by decide)]
    rfl) m1
  have n2 : nextM (1, (wc1, coord0, coord0), gNone) we2 = ((1, (wc2, coord0, coord0), gNone), 0) := next_of m1 (wx _ (by simp)) (by
    have e : mvC wc1 we2 = (wc2, 0) := by
      unfold mvC
      rw [if_neg (by decide), if_pos (by decide)]
      unfold setM
      rw [mayT wm1', brT]
      rfl
    unfold moveS
    rw [if_neg (by decide), show nthC (1, (wc1, coord0, coord0), gNone) we2.2.1.toNat = wc1 from rfl, e]
    rfl) m2
  have n3 : nextM (1, (wc2, coord0, coord0), gNone) we3 = ((1, (wc3, coord0, coord0), gNone), 0) := next_of m2 (wx _ (by simp)) (by
    have e : mvC wc2 we3 = (wc3, 0) := by
      unfold mvC
      rw [if_neg (by decide), if_neg (by decide), if_pos (by decide)]
      unfold prepM
      rw [mayT wm2, brT]
      rfl
    unfold moveS
    rw [if_neg (by decide), show nthC (1, (wc2, coord0, coord0), gNone) we3.2.1.toNat = wc2 from rfl, e]
    rfl) m3
  have n4 : nextM (1, (wc3, coord0, coord0), gNone) we4 = ((1, (wc4, coord0, coord0), gNine), 0) := next_of m3 (wx _ (by simp)) (by
    have e : mvC wc3 we4 = (wc4, 0) := by
      unfold mvC
      rw [if_neg (by decide), if_neg (by decide), if_neg (by decide), if_pos (by decide)]
      unfold compM
      rw [mayT wm3, brT]
      rfl
    unfold moveS
    rw [if_neg (by decide), show nthC (1, (wc3, coord0, coord0), gNone) we4.2.1.toNat = wc3 from rfl, e]
    rfl) m4
  unfold foldR
  rw [n1, if_pos rfl]
  unfold foldR
  rw [n2, if_pos rfl]
  unfold foldR
  rw [n3, if_pos rfl]
  unfold foldR
  rw [n4, if_pos rfl]
  rfl
def G91 : T91 → Option U91 := fun x => some (br (!(ofM x.1 x.2).2) (br (decide (x.2 ≥ 1)) (decide (x.2 ≤ x.1.1)) false) false)
theorem c91 : CtrAll Try.prog ⟨91, A91, R91, G91⟩ := C91 c90 fun x y h => ⟨8, by
  rw [F91_eq, ← h]
  unfold G91
  simp only [G90, Option.bind_some]
  cases (ofM x.1 x.2).2 <;> cases decide (x.2 ≥ 1) <;> rfl⟩
theorem metaWakes : F42 G46 G90 G91 8 = some true := by
  have hE : ∀ e, e ∈ [we1, we2, we3, we4] → FitE e := by
    intro e he
    have he : e = we1 ∨ e = we2 ∨ e = we3 ∨ e = we4 := by simpa using he
    rcases he with rfl | rfl | rfl | rfl <;> exact ⟨⟨Nat.zero_le _, Nat.zero_le _⟩, by decide, by decide⟩
  have g46 : G46 [we1, we2, we3, we4] = some ((1, (wc4, coord0, coord0), gNine), 4, 0) := (if_pos ⟨by show 4 ≤ 1000000; omega, hE⟩).trans (by rw [wfold])
  have e : F42 G46 G90 G91 8 = Option.bind (G46 [we1, we2, we3, we4]) fun y => Option.bind (G90 (y.1, 1)) fun y_1 => br (eqI y.2.2 0) (br (eqI y.2.1 4) (br (eqI y.1.1 1) (br (eqI y.1.2.2.2.2.2 9) (br (eqI y.1.2.2.1.1 (-1)) (br (eqI y_1.1 0) (br y_1.2 (Option.bind (G91 (y.1, 1)) fun y => some !y) (some false)) (some false)) (some false)) (some false)) (some false)) (some false)) (some false) := F42_eq G46 G90 G91
  rw [e, g46]
  rfl
def G42 : T42 → Option U42 := fun _ => some true
theorem c42 : CtrAll Try.prog ⟨42, A42, R42, G42⟩ := C42 c46 c90 c91 fun x y h => ⟨8, metaWakes.trans h⟩

/-! MetaNext -/
def G41 : T41 → Option U41 := fun e => some (greatM e.2.2.2.2.2.2.1)
theorem c41 : CtrAll Try.prog ⟨41, A41, R41, G41⟩ := C41 c16 fun x y h => ⟨8, by
  rw [F41_eq, ← h]
  unfold G41 greatM lenI
  by_cases h1 : x.2.2.2.2.2.2.1.2.2.2.2.2.1.length > 40
  · rw [dT (show ((x.2.2.2.2.2.2.1.2.2.2.2.2.1.length : Nat) : Int) > 40 by omega), brT]
    exact congrArg some (decide_eq_true (Or.inl h1)).symm
  · rw [dF (show ¬ ((x.2.2.2.2.2.2.1.2.2.2.2.2.1.length : Nat) : Int) > 40 by omega), brF]
    refine congrArg some ?_
    rw [decide_eq_decide]
    omega⟩
def I8E (e : MetaE) : Prop := I8 e.2.2.2.2.2.2.1 ∧ (-128 ≤ e.1 ∧ e.1 ≤ 127)
instance (e : MetaE) : Decidable (I8E e) := by unfold I8E; infer_instance
theorem fitE_of {e : MetaE} (h : I8E e) (hg : greatM e.2.2.2.2.2.2.1 = false) : FitE e := by
  unfold greatM at hg
  rw [decide_eq_false_iff_not] at hg
  exact ⟨⟨by omega, by omega⟩, h.1, h.2⟩
theorem next_fit (s : State) (x : MetaE) : FitS (nextM s x).1 := by
  unfold nextM
  split
  · split
    · split
      · rename_i hm; exact mayFitS hm
      · exact ⟨⟨Nat.zero_le _, Nat.zero_le _⟩, ⟨Nat.zero_le _, Nat.zero_le _⟩, ⟨Nat.zero_le _, Nat.zero_le _⟩⟩
    · exact ⟨⟨Nat.zero_le _, Nat.zero_le _⟩, ⟨Nat.zero_le _, Nat.zero_le _⟩, ⟨Nat.zero_le _, Nat.zero_le _⟩⟩
  · exact ⟨⟨Nat.zero_le _, Nat.zero_le _⟩, ⟨Nat.zero_le _, Nat.zero_le _⟩, ⟨Nat.zero_le _, Nat.zero_le _⟩⟩
theorem metaNext_spec (s : State) (x : MetaE) (h8 : I8S s) (hx : I8E x) : F11 G40 G41 G42 G43 G44 G31 8 s x = some true := by
  rw [F11_eq]
  simp only [G40, G41, G42, Option.bind_some]
  cases hg : greatS s with
  | true => rfl
  | false =>
    rw [brF]
    cases hgx : greatM x.2.2.2.2.2.2.1 with
    | true => rfl
    | false =>
      have hf := great_fit hg
      have hxf := fitE_of hx hgx
      have g43 : G43 (s, x) = some (nextM s x) := if_pos ⟨hf, hxf⟩
      have g44 : G44 (s, x) = some (nextM s x) := if_pos ⟨hf, h8, hxf⟩
      have g31 : G31 ((nextM s x).1, (nextM s x).1) = some true := (if_pos (next_fit s x)).trans (by unfold sameS; rw [dT rfl])
      rw [brF, g43, Option.bind_some, g44, Option.bind_some, g31, Option.bind_some, eqI_refl]
      rfl
def G11 : T11 → Option U11 := fun x => if I8S x.1 ∧ I8E x.2 then some true else none
theorem metaNextC_ok : CtrAll Try.prog ⟨11, A11, R11, G11⟩ := C11 c40 c41 c42 c43 c44 c31 fun x y h => by
  unfold G11 at h
  split at h
  · rename_i hb; exact ⟨8, (metaNext_spec x.1 x.2 hb.1 hb.2).trans h⟩
  · cases h

/-! MetaFolds -/
def greatR (n : Nat) : Metas → Nat → Bool
  | [], _ => decide (n > 200)
  | x :: l, i => if i ≤ 200 then (if greatM x.2.2.2.2.2.2.1 = true then true else greatR n l (i + 1)) else decide (n > 200)
theorem L45_spec (K : Nat) (l : Metas) : ∀ (k i : Nat), 202 < k + i → i ≤ 201 → i ≤ l.length → L45_2 G41 K k l (i : Int) = some (greatR l.length (l.drop i) i)
  | 0, i, h, hi, _ => by omega
  | k + 1, i, h, hi, hl => by
    rw [L45_2_step]
    have e : decide (lenI l > 200) = decide (l.length > 200) := by unfold lenI; rw [decide_eq_decide]; omega
    rw [e]
    cases hx : l[i]? with
    | none =>
      have := List.getElem?_eq_none_iff.1 hx
      rw [dF (show ¬ ((i : Int) < lenI l) by unfold lenI; omega), List.drop_eq_nil_of_le this, brF]; rfl
    | some x =>
      have hlt := (List.getElem?_eq_some_iff.1 hx).1
      rw [dT (show (i : Int) < lenI l by unfold lenI; omega), brT, idxN, hx, drop_consN hx]
      unfold greatR
      by_cases h2 : i ≤ 200
      · rw [dT (show (i : Int) ≤ 200 by omega), brT, Option.bind_some, if_pos h2, show G41 x = some (greatM x.2.2.2.2.2.2.1) from rfl, Option.bind_some, w1 (by omega)]
        cases greatM x.2.2.2.2.2.2.1 with
        | true => rfl
        | false =>
          rw [brF, if_neg (by simp)]
          exact L45_spec K l k (i + 1) (by omega) (by omega) (by omega)
      · rw [dF (show ¬ (i : Int) ≤ 200 by omega), brF, if_neg h2]
def G45 : T45 → Option U45 := fun l => some (greatR l.length l 0)
theorem c45 : CtrAll Try.prog ⟨45, A45, R45, G45⟩ := C45 c41 fun x y h => ⟨300, by
  have := L45_spec 300 x 300 0 (by omega) (by omega) (by omega)
  rw [List.drop_zero, show ((0 : Nat) : Int) = 0 from rfl] at this
  rw [F45_eq, this]; exact h⟩
theorem greatR_false (n : Nat) : ∀ (l : Metas) (i : Nat), i + l.length = n → greatR n l i = false → n ≤ 200 ∧ ∀ x, x ∈ l → greatM x.2.2.2.2.2.2.1 = false
  | [], i, hn, h => by
    unfold greatR at h
    rw [decide_eq_false_iff_not] at h
    exact ⟨by omega, fun x hx => by cases hx⟩
  | x :: l, i, hn, h => by
    unfold greatR at h
    split at h
    · split at h
      · cases h
      · rename_i hx
        obtain ⟨h1, h2⟩ := greatR_false n l (i + 1) (by simp at hn; omega) h
        refine ⟨h1, fun y hy => ?_⟩
        rcases List.mem_cons.1 hy with rfl | hy
        · simpa using hx
        · exact h2 y hy
    · rw [decide_eq_false_iff_not] at h
      simp at hn
      omega
theorem metaFolds_spec (l : Metas) (h8 : ∀ x, x ∈ l → I8E x) : F12 G45 G42 G46 G47 G31 8 l = some true := by
  rw [F12_eq]
  simp only [G45, G42, Option.bind_some]
  cases hg : greatR l.length l 0 with
  | true => rfl
  | false =>
    obtain ⟨h1, h2⟩ := greatR_false l.length l 0 (by omega) hg
    have hE : ∀ e, e ∈ l → FitE e := fun e he => fitE_of (h8 e he) (h2 e he)
    have g46 : G46 l = some (foldR first l 0) := if_pos ⟨by omega, hE⟩
    have g47 : G47 l = some (foldR first l 0) := if_pos ⟨by omega, hE⟩
    have g31 : G31 ((foldR first l 0).1, (foldR first l 0).1) = some true := (if_pos (mayFitS (fold_may l first 0 first_may))).trans (by unfold sameS; rw [dT rfl])
    rw [brF, g46, Option.bind_some, g47, Option.bind_some, g31, Option.bind_some, eqI_refl, eqI_refl]
    rfl
open Classical in
noncomputable def G12 : T12 → Option U12 := fun l => if ∀ x, x ∈ l → I8E x then some true else none
theorem metaFoldsC_ok : CtrAll Try.prog ⟨12, A12, R12, G12⟩ := C12 c45 c42 c46 c47 c31 fun x y h => by
  unfold G12 at h
  split at h
  · rename_i hb; exact ⟨8, (metaFolds_spec x hb).trans h⟩
  · cases h
theorem i8S_of' {s : State} (h : Rng stateT s) : I8S s := ⟨i8_of h.2.1.1, i8_of h.2.1.2.1, i8_of h.2.1.2.2⟩
theorem i8E_of {e : MetaE} (h : Rng metaT e) : I8E e := by
  have h2 : (Lit.int .i8 e.1).wf = true := h.1
  have e1 : IntKind.i8.min = -128 := rfl
  have e2 : IntKind.i8.max = 127 := rfl
  simp [Lit.wf, e1, e2] at h2
  exact ⟨i8_of h.2.2.2.2.2.2.1, by omega⟩
theorem i8L_of {l : Metas} (h : Rng metasT l) : ∀ x, x ∈ l → I8E x := fun x hx => i8E_of (h.2 x hx)
end Go.Ev.R3

set_option linter.unusedVariables false
set_option maxRecDepth 100000
namespace Go.Ev.R3
open Go.Proofs

/-! Turning two moves. -/
theorem nth_set (s : State) (c : Coord) {i j : Nat} (hi : i < 3) (hj : j < 3) : nthC (setC s i c) j = if j = i then c else nthC s j := by
  rcases lt3m hi with rfl | rfl | rfl <;> rcases lt3m hj with rfl | rfl | rfl <;> rfl
theorem set_comm (s : State) (c d : Coord) {i j : Nat} (hi : i < 3) (hj : j < 3) (h : i ≠ j) : setC (setC s i c) j d = setC (setC s j d) i c := by
  rcases lt3m hi with rfl | rfl | rfl <;> rcases lt3m hj with rfl | rfl | rfl <;> first | rfl | exact absurd rfl h
theorem may_setC {s : State} {c : Coord} {i : Nat} (hi : i < 3) (hs : MayS s) (hc : MayP c) (hp : c.2.1 = (nthC s i).2.1) : MayS (setC s i c) := by
  obtain ⟨⟨h0, h1, h2, h3, d1, d2, d3⟩, ho⟩ := hs
  rcases lt3m hi with rfl | rfl | rfl
  · have hp : c.2.1 = s.2.1.1.2.1 := hp
    rw [← hp] at h1 d1 d2
    exact ⟨⟨h0, ⟨hc, h1.2⟩, h2, h3, d1, d2, d3⟩, ho⟩
  · have hp : c.2.1 = s.2.1.2.1.2.1 := hp
    rw [← hp] at h2 d1 d3
    exact ⟨⟨h0, h1, ⟨hc, h2.2⟩, h3, d1, d2, d3⟩, ho⟩
  · have hp : c.2.1 = s.2.1.2.2.2.1 := hp
    rw [← hp] at h3 d2 d3
    exact ⟨⟨h0, h1, h2, ⟨hc, h3.2⟩, d1, d2, d3⟩, ho⟩
theorem moves_pid {c : Coord} (h : (movesM c).2 = 0) : (movesM c).1.2.1 = c.2.1 := by
  unfold movesM at h ⊢
  split at h
  · exact absurd h (by show ¬ (180 : Int) = 0; omega)
  · rename_i hw; rw [if_neg hw]
theorem mv_pid {c : Coord} {x : MetaE} (hk : x.1 = 2 ∨ x.1 = 3) (h : (mvC c x).2 = 0) : (mvC c x).1.2.1 = c.2.1 := by
  unfold mvC at h ⊢
  rw [if_neg (by omega)] at h ⊢
  by_cases k2 : x.1 = 2
  · rw [if_pos k2] at h ⊢
    unfold setM at h ⊢
    cases hm : mayM c with
    | false => rw [hm, brF] at h; exact absurd h (by show ¬ (2 : Int) = 0; omega)
    | true =>
      rw [hm, brT] at h
      rw [brT]
      cases hp : pendB x.2.2.2.1 with
      | false => rw [hp, brF] at h; exact absurd h (by show ¬ (2 : Int) = 0; omega)
      | true =>
        rw [hp, brT] at h
        rw [brT]
        split at h
        · rename_i h0; rw [if_pos h0]; exact moves_pid h0
        · rename_i h0; exact absurd h h0
  · have k3 : x.1 = 3 := by omega
    rw [if_neg k2, if_pos k3] at h ⊢
    unfold prepM at h ⊢
    cases hm : mayM c with
    | false => rw [hm, brF] at h; exact absurd h (by show ¬ (2 : Int) = 0; omega)
    | true =>
      rw [hm, brT] at h
      rw [brT]
      split at h
      · rename_i h1
        rw [if_pos h1]
        split at h
        · rename_i h0
          rw [if_pos h0]
          split at h
          · exact absurd h (by show ¬ (102 : Int) = 0; omega)
          · rename_i h2
            rw [if_neg h2]; exact moves_pid h0
        · rename_i h0; exact absurd h h0
      · exact absurd h (by show ¬ (2 : Int) = 0; omega)
theorem mv23 (s : State) (x : MetaE) (hk : x.1 = 2 ∨ x.1 = 3) : moveS s x = (setC s x.2.1.toNat (mvC (nthC s x.2.1.toNat) x).1, (mvC (nthC s x.2.1.toNat) x).2) := by
  unfold moveS mvG
  rw [if_neg (by omega), if_neg (by omega), if_neg (by omega), if_neg (by omega)]
theorem mv5 (s : State) (x : MetaE) (hk : x.1 = 5) (ht : x.2.1.toNat < 3) : moveS s x = ((s.1, s.2.1, setG s.2.2 x.2.2.2.1), 0) := by
  unfold moveS mvG mvC
  rw [if_neg (by omega), if_neg (by omega), if_neg (by omega), if_pos hk, if_neg (by omega), if_neg (by omega), if_neg (by omega), if_neg (by omega), if_neg (by omega)]
  exact congrArg (fun t => (t, (0 : Int))) (setC_own (s.1, s.2.1, setG s.2.2 x.2.2.2.1) ht)
theorem next_to {s : State} {x : MetaE} (hs : MayS s) (hx : MayE x) (h0 : (moveS s x).2 = 0) (hm : MayS (moveS s x).1) : nextM s x = ((moveS s x).1, 0) := by
  unfold nextM
  rw [if_pos ⟨hs, hx⟩, if_pos h0, if_pos hm]
theorem turns (s : State) (a b : MetaE) (ha : a.1 = 2 ∨ a.1 = 3) (hb : (b.1 = 2 ∨ b.1 = 3) ∧ a.2.1 ≠ b.2.1 ∨ b.1 = 5) (h1 : (nextM s a).2 = 0) (h2 : (nextM s b).2 = 0) :
    ∃ u, nextM (nextM s a).1 b = (u, 0) ∧ nextM (nextM s b).1 a = (u, 0) ∧ MayS u := by
  obtain ⟨hs, ma, ra, ta, ea⟩ := next_ok h1
  obtain ⟨_, mb, rb, tb, eb⟩ := next_ok h2
  have la := (tid_of ma).2
  have lb := (tid_of mb).2
  rw [mv23 s a ha] at ra ta ea
  have ra : (mvC (nthC s a.2.1.toNat) a).2 = 0 := ra
  have ta : MayS (setC s a.2.1.toNat (mvC (nthC s a.2.1.toNat) a).1) := ta
  have pa := mv_pid ha ra
  have ca := nthC_mayM ta la
  rw [nth_set _ _ la la, if_pos rfl] at ca
  have ea : (nextM s a).1 = setC s a.2.1.toNat (mvC (nthC s a.2.1.toNat) a).1 := congrArg Prod.fst ea
  rw [ea]
  rcases hb with ⟨hb, hne⟩ | h5
  · rw [mv23 s b hb] at rb tb eb
    have rb : (mvC (nthC s b.2.1.toNat) b).2 = 0 := rb
    have tb : MayS (setC s b.2.1.toNat (mvC (nthC s b.2.1.toNat) b).1) := tb
    have pb := mv_pid hb rb
    have cb := nthC_mayM tb lb
    rw [nth_set _ _ lb lb, if_pos rfl] at cb
    have eb : (nextM s b).1 = setC s b.2.1.toNat (mvC (nthC s b.2.1.toNat) b).1 := congrArg Prod.fst eb
    rw [eb]
    have hij : a.2.1.toNat ≠ b.2.1.toNat := by
      have := ma.2.2.1; have := mb.2.2.1; omega
    have m1 : moveS (setC s a.2.1.toNat (mvC (nthC s a.2.1.toNat) a).1) b = (setC (setC s a.2.1.toNat (mvC (nthC s a.2.1.toNat) a).1) b.2.1.toNat (mvC (nthC s b.2.1.toNat) b).1, (mvC (nthC s b.2.1.toNat) b).2) := by
      rw [mv23 _ b hb, nth_set _ _ la lb, if_neg (Ne.symm hij)]
    have m2 : moveS (setC s b.2.1.toNat (mvC (nthC s b.2.1.toNat) b).1) a = (setC (setC s b.2.1.toNat (mvC (nthC s b.2.1.toNat) b).1) a.2.1.toNat (mvC (nthC s a.2.1.toNat) a).1, (mvC (nthC s a.2.1.toNat) a).2) := by
      rw [mv23 _ a ha, nth_set _ _ lb la, if_neg hij]
    have hu : MayS (setC (setC s a.2.1.toNat (mvC (nthC s a.2.1.toNat) a).1) b.2.1.toNat (mvC (nthC s b.2.1.toNat) b).1) :=
      may_setC lb ta cb (by rw [nth_set _ _ la lb, if_neg (Ne.symm hij)]; exact pb)
    refine ⟨_, ?_, ?_, hu⟩
    · rw [next_to ta mb (by rw [m1]; exact rb) (by rw [m1]; exact hu), m1]
    · rw [set_comm _ _ _ la lb hij] at hu ⊢
      rw [next_to tb ma (by rw [m2]; exact ra) (by rw [m2]; exact hu), m2]
  · rw [mv5 s b h5 lb] at tb eb
    have tb : MayS (s.1, s.2.1, setG s.2.2 b.2.2.2.1) := tb
    have eb : (nextM s b).1 = (s.1, s.2.1, setG s.2.2 b.2.2.2.1) := congrArg Prod.fst eb
    rw [eb]
    have hu : MayS (setC (s.1, s.2.1, setG s.2.2 b.2.2.2.1) a.2.1.toNat (mvC (nthC s a.2.1.toNat) a).1) := may_setC la tb ca pa
    have m1 := mv5 (setC s a.2.1.toNat (mvC (nthC s a.2.1.toNat) a).1) b h5 lb
    have m2 := mv23 (s.1, s.2.1, setG s.2.2 b.2.2.2.1) a ha
    refine ⟨_, ?_, ?_, hu⟩
    · rw [next_to ta mb (by rw [m1]) (by rw [m1]; exact hu), m1]; rfl
    · rw [next_to tb ma (by rw [m2]; exact ra) (by rw [m2]; exact hu), m2]; rfl
theorem end14 (s : State) (a b : MetaE) (hs : FitS s) (fa : FitE a) (fb : FitE b) (ha : a.1 = 2 ∨ a.1 = 3) (hb : (b.1 = 2 ∨ b.1 = 3) ∧ a.2.1 ≠ b.2.1 ∨ b.1 = 5) :
    (Option.bind (G43 (s, a)) fun y_6 => Option.bind (G43 (s, b)) fun y_7 => br (!eqI y_6.2 0) (Option.bind (G42 ()) fun y => some y) (br (!eqI y_7.2 0) (Option.bind (G42 ()) fun y => some y) (Option.bind (G43 (y_6.1, b)) fun y_8 => Option.bind (G43 (y_7.1, a)) fun y_9 => br (eqI y_8.2 0) (br (eqI y_9.2 0) (Option.bind (G51 (y_8.1, y_9.1)) fun y => br y (Option.bind (G42 ()) fun y => some y) (some false)) (some false)) (some false)))) = some true := by
  have g43 : ∀ s x, FitS s → FitE x → G43 (s, x) = some (nextM s x) := fun s x h1 h2 => if_pos ⟨h1, h2⟩
  have g42 : G42 () = some true := rfl
  rw [g43 s a hs fa, g43 s b hs fb, Option.bind_some, Option.bind_some, g42, Option.bind_some]
  by_cases h1 : (nextM s a).2 = 0
  · rw [h1, eqI_refl, Bool.not_true, brF]
    by_cases h2 : (nextM s b).2 = 0
    · rw [h2, eqI_refl, Bool.not_true, brF]
      obtain ⟨u, e1, e2, hu⟩ := turns s a b ha hb h1 h2
      have g51 : G51 (u, u) = some true := (if_pos (mayFitS hu)).trans (by unfold sameS; rw [dT rfl])
      rw [g43 _ b (next_fit s a) fb, g43 _ a (next_fit s b) fa, e1, e2, Option.bind_some, Option.bind_some, eqI_refl, brT, brT, g51, Option.bind_some]
      rfl
    · rw [eqI_ne h2, Bool.not_false, brT]
  · rw [eqI_ne h1, Bool.not_false, brT]
def G50 : T50 → Option U50 := fun e => some (decide (e.1 = 2 ∨ e.1 = 3))
theorem c50 : CtrAll Try.prog ⟨50, A50, R50, G50⟩ := C50 fun x y h => ⟨8, by
  rw [F50_eq, ← h]
  unfold G50 eqI
  by_cases h2 : x.1 = 2 <;> by_cases h3 : x.1 = 3 <;> simp [h2, h3, br]⟩
theorem metaTurns_spec (s : State) (a b : MetaE) (h8 : I8S s) (ha : I8E a) (hb : I8E b) : F14 G40 G41 G50 G42 G43 G51 8 s a b = some true := by
  rw [F14_eq]
  have g42 : G42 () = some true := rfl
  have g40 : G40 s = some (greatS s) := rfl
  have g41 : ∀ e, G41 e = some (greatM e.2.2.2.2.2.2.1) := fun e => rfl
  have g50 : ∀ e, G50 e = some (decide (e.1 = 2 ∨ e.1 = 3)) := fun e => rfl
  rw [g40, Option.bind_some]
  cases hg : greatS s with
  | true => rfl
  | false =>
    rw [brF, g41, Option.bind_some]
    cases hga : greatM a.2.2.2.2.2.2.1 with
    | true => rfl
    | false =>
      rw [brF, g41, Option.bind_some]
      cases hgb : greatM b.2.2.2.2.2.2.1 with
      | true => rfl
      | false =>
        have hf := great_fit hg
        have fa := fitE_of ha hga
        have fb := fitE_of hb hgb
        rw [brF, g50, Option.bind_some, g50, Option.bind_some]
        by_cases ka : a.1 = 2 ∨ a.1 = 3
        · rw [dT ka, Bool.not_true, brF]
          by_cases kb : b.1 = 2 ∨ b.1 = 3
          · rw [dT kb, Bool.not_true, brF, Option.bind_some, brT]
            by_cases ht : a.2.1 = b.2.1
            · rw [ht, eqI_refl, brT]; rfl
            · rw [eqI_ne ht, brF]
              exact end14 s a b hf fa fb ka (Or.inl ⟨kb, ht⟩)
          · rw [dF kb, Bool.not_false, brT]
            by_cases k5 : b.1 = 5
            · rw [k5, eqI_refl, Bool.not_true, brF, Option.bind_some, brF]
              exact end14 s a b hf fa fb ka (Or.inr k5)
            · rw [eqI_ne k5, Bool.not_false, brT]; rfl
        · rw [dF ka, Bool.not_false, brT]; rfl
def G14 : T14 → Option U14 := fun x => if I8S x.1 ∧ I8E x.2.1 ∧ I8E x.2.2 then some true else none
theorem metaTurnsC_ok : CtrAll Try.prog ⟨14, A14, R14, G14⟩ := C14 c40 c41 c50 c42 c43 c51 fun x y h => by
  unfold G14 at h
  split at h
  · rename_i hb; exact ⟨8, (metaTurns_spec x.1 x.2.1 x.2.2 hb.1 hb.2.1 hb.2.2).trans h⟩
  · cases h
end Go.Ev.R3
