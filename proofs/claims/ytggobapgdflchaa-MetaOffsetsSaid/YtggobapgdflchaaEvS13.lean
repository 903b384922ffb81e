import Derived.Test.YtggobapgdflchaaEvS12
set_option linter.unusedVariables false
set_option maxRecDepth 100000
namespace Go.Ev.R3
open Go.Proofs

/-! The document's May; Great; Same. -/
def I8 (c : Coord) : Prop := -128 ≤ c.1 ∧ c.1 ≤ 127
def I8S (s : State) : Prop := I8 s.2.1.1 ∧ I8 s.2.1.2.1 ∧ I8 s.2.1.2.2
instance (s : State) : Decidable (I8S s) := by unfold I8S I8; infer_instance
theorem g17 {c : Coord} (h : Fit c) (h8 : I8 c) : G17 c = some (mayM c) := if_pos ⟨h, h8⟩
theorem refMay_eq (s : State) (hf : FitS s) (h8 : I8S s) : F24 G17 8 s = some (mayS s) := by
  rw [F24_eq]
  simp only [g17 hf.1 h8.1, g17 hf.2.1 h8.2.1, g17 hf.2.2 h8.2.2, Option.bind_some]
  refine (ite_B (ite_B (may_B (ite_B (may_B (ite_B (two_B' (may_B (ite_B (two_B' (two_B' (tail_eq s)))))))))))).trans (congrArg some (B_congr ?_))
  unfold MayS HeadP
  constructor
  · rintro ⟨h1, h2, h3, h4, h5, h6, h7, h8, h9, h10, h11, h12⟩
    exact ⟨⟨by omega, ⟨h3, by omega⟩, ⟨h5, by omega⟩, ⟨h8, by omega⟩, fun k => h7 k.1 k.2, fun k => h10 k.1 k.2, fun k => h11 k.1 k.2⟩, h12⟩
  · rintro ⟨⟨h1, ⟨h2, h3⟩, ⟨h4, h5⟩, ⟨h6, h7⟩, h8, h9, h10⟩, h11⟩
    exact ⟨by omega, by omega, h2, by omega, h4, by omega, fun k e => h8 ⟨k, e⟩, h6, by omega, fun k e => h9 ⟨k, e⟩, fun k e => h10 ⟨k, e⟩, h11⟩
noncomputable def G24 : T24 → Option U24 := fun s => if FitS s ∧ I8S s then some (mayS s) else none
theorem c24 : CtrAll Try.prog ⟨24, A24, R24, G24⟩ := C24 c17 fun x y h => by
  unfold G24 at h
  split at h
  · rename_i hb; exact ⟨8, (refMay_eq x hb.1 hb.2).trans h⟩
  · cases h

/-- has a state more than the statements go through? -/
def greatS (s : State) : Bool := greatM s.2.1.1 || (greatM s.2.1.2.1 || greatM s.2.1.2.2)
theorem great_fit {s : State} (h : greatS s = false) : FitS s := by
  unfold greatS greatM at h
  simp only [Bool.or_eq_false_iff, decide_eq_false_iff_not] at h
  refine ⟨⟨?_, ?_⟩, ⟨?_, ?_⟩, ⟨?_, ?_⟩⟩ <;> omega
theorem gr_step (c : Coord) (x : Option Bool) : br (decide (lenI c.2.2.2.2.2.1 > 40)) (some true) (br (decide (lenI c.2.2.2.2.2.2.1 > 40)) (some true) x) = br (greatM c) (some true) x := by
  unfold greatM lenI
  by_cases h1 : c.2.2.2.2.2.1.length > 40
  · rw [dT (show ((c.2.2.2.2.2.1.length : Nat) : Int) > 40 by omega), dT (Or.inl h1)]; rfl
  · rw [dF (show ¬ ((c.2.2.2.2.2.1.length : Nat) : Int) > 40 by omega)]
    by_cases h2 : c.2.2.2.2.2.2.1.length > 40
    · rw [dT (show ((c.2.2.2.2.2.2.1.length : Nat) : Int) > 40 by omega), dT (Or.inr h2)]; rfl
    · rw [dF (show ¬ ((c.2.2.2.2.2.2.1.length : Nat) : Int) > 40 by omega), dF (by omega)]; rfl
theorem great23 (s : State) : F23 8 s = some (greatS s) := by
  rw [F23_eq, gr_step, gr_step, gr_step]
  unfold greatS
  cases greatM s.2.1.1 <;> cases greatM s.2.1.2.1 <;> cases greatM s.2.1.2.2 <;> rfl
def G23 : T23 → Option U23 := fun s => some (greatS s)
theorem c23 : CtrAll Try.prog ⟨23, A23, R23, G23⟩ := C23 fun x y h => ⟨8, (great23 x).trans h⟩
def G40 : T40 → Option U40 := fun s => some (greatS s)
theorem c40 : CtrAll Try.prog ⟨40, A40, R40, G40⟩ := C40 c16 fun x y h => ⟨8, by
  rw [F40_eq, ← h]
  unfold G40 greatS
  simp only [G16, Option.bind_some]
  cases greatM x.2.1.1 <;> cases greatM x.2.1.2.1 <;> cases greatM x.2.1.2.2 <;> rfl⟩

instance decG : DecidableEq Groups := inferInstanceAs (DecidableEq ((Int × Int × Int) × (Int × Int × Int)))
instance decT : DecidableEq Tids := inferInstanceAs (DecidableEq (Coord × Coord × Coord))
instance decS : DecidableEq State := inferInstanceAs (DecidableEq (Int × Tids × Groups))
def sameS (s t : State) : Bool := decide (s = t)
theorem groups_dec (g h : Groups) : (eqI g.1.1 h.1.1 && (eqI g.1.2.1 h.1.2.1 && eqI g.1.2.2 h.1.2.2) && (eqI g.2.1 h.2.1 && (eqI g.2.2.1 h.2.2.1 && eqI g.2.2.2 h.2.2.2))) = decide (g = h) := by
  obtain ⟨⟨a, b, c⟩, ⟨d, e, f⟩⟩ := g
  obtain ⟨⟨a', b', c'⟩, ⟨d', e', f'⟩⟩ := h
  unfold eqI
  simp only [Prod.mk.injEq, Bool.decide_and, Bool.and_assoc]
theorem same_step (q : Bool) (p r : Prop) [Decidable p] [Decidable r] (h : q = decide p) : br (!q) (some false) (some (decide r)) = some (decide (p ∧ r)) := by
  subst h
  by_cases hp : p
  · rw [dT hp]; simp [br, hp]
  · rw [dF hp]; simp [br, hp]
theorem same_core (s t : State) : br (!sameM s.2.1.1 t.2.1.1) (some false) (br (!sameM s.2.1.2.1 t.2.1.2.1) (some false) (br (!sameM s.2.1.2.2 t.2.1.2.2) (some false) (br (eqI s.1 t.1) (some (eqI s.2.2.1.1 t.2.2.1.1 && (eqI s.2.2.1.2.1 t.2.2.1.2.1 && eqI s.2.2.1.2.2 t.2.2.1.2.2) && (eqI s.2.2.2.1 t.2.2.2.1 && (eqI s.2.2.2.2.1 t.2.2.2.2.1 && eqI s.2.2.2.2.2 t.2.2.2.2.2)))) (some false)))) = some (sameS s t) := by
  rw [groups_dec s.2.2 t.2.2]
  have e : br (eqI s.1 t.1) (some (decide (s.2.2 = t.2.2))) (some false) = some (decide (s.1 = t.1 ∧ s.2.2 = t.2.2)) := by
    unfold eqI
    by_cases h : s.1 = t.1
    · rw [dT h]; simp [br, h]
    · rw [dF h]; simp [br, h]
  rw [e, same_step (sameM s.2.1.2.2 t.2.1.2.2) (s.2.1.2.2 = t.2.1.2.2) _ rfl, same_step (sameM s.2.1.2.1 t.2.1.2.1) (s.2.1.2.1 = t.2.1.2.1) _ rfl, same_step (sameM s.2.1.1 t.2.1.1) (s.2.1.1 = t.2.1.1) _ rfl]
  unfold sameS
  congr 1
  rw [decide_eq_decide]
  obtain ⟨m, ⟨a, b, c⟩, g⟩ := s
  obtain ⟨m', ⟨a', b', c'⟩, g'⟩ := t
  simp only [Prod.mk.injEq]
  constructor
  · rintro ⟨h1, h2, h3, h4, h5⟩; exact ⟨h4, ⟨h1, h2, h3⟩, h5⟩
  · rintro ⟨h4, ⟨h1, h2, h3⟩, h5⟩; exact ⟨h1, h2, h3, h4, h5⟩
def G31 : T31 → Option U31 := fun x => if FitS x.1 then some (sameS x.1 x.2) else none
theorem c31 : CtrAll Try.prog ⟨31, A31, R31, G31⟩ := C31 c30 fun x y h => by
  unfold G31 at h
  split at h
  · rename_i hb
    refine ⟨8, ?_⟩
    have g1 : G30 (x.1.2.1.1, x.2.2.1.1) = some (sameM x.1.2.1.1 x.2.2.1.1) := if_pos hb.1
    have g2 : G30 (x.1.2.1.2.1, x.2.2.1.2.1) = some (sameM x.1.2.1.2.1 x.2.2.1.2.1) := if_pos hb.2.1
    have g3 : G30 (x.1.2.1.2.2, x.2.2.1.2.2) = some (sameM x.1.2.1.2.2 x.2.2.1.2.2) := if_pos hb.2.2
    rw [F31_eq, g1, g2, g3]
    simp only [Option.bind_some]
    exact (same_core x.1 x.2).trans h
  · cases h
def G51 : T51 → Option U51 := fun x => if FitS x.1 then some (sameS x.1 x.2) else none
theorem c51 : CtrAll Try.prog ⟨51, A51, R51, G51⟩ := C51 c20 fun x y h => by
  unfold G51 at h
  split at h
  · rename_i hb
    refine ⟨8, ?_⟩
    have g1 : G20 (x.1.2.1.1, x.2.2.1.1) = some (sameM x.1.2.1.1 x.2.2.1.1) := if_pos hb.1
    have g2 : G20 (x.1.2.1.2.1, x.2.2.1.2.1) = some (sameM x.1.2.1.2.1 x.2.2.1.2.1) := if_pos hb.2.1
    have g3 : G20 (x.1.2.1.2.2, x.2.2.1.2.2) = some (sameM x.1.2.1.2.2 x.2.2.1.2.2) := if_pos hb.2.2
    rw [F51_eq, g1, g2, g3]
    simp only [Option.bind_some]
    exact (same_core x.1 x.2).trans h
  · cases h

/-! First, going -/
def first : State := (0, (coord0, coord0, coord0), ((-1, -1, -1), (-1, -1, -1)))
def G95 : T95 → Option U95 := fun _ => some first
theorem c95 : CtrAll Try.prog ⟨95, A95, R95, G95⟩ := C95 fun x y h => ⟨8, F95_eq.trans h⟩
def G48 : T48 → Option U48 := fun _ => some first
theorem c48 : CtrAll Try.prog ⟨48, A48, R48, G48⟩ := C48 fun x y h => ⟨8, F48_eq.trans h⟩
def going (a t : Int) : State := (1, (coord0, (2, 1, 0, t, 0, [0], [], a), coord0), ((-1, -1, -1), (-1, -1, -1)))
def G72 : T72 → Option U72 := fun x => some (going x.1 x.2)
theorem c72 : CtrAll Try.prog ⟨72, A72, R72, G72⟩ := C72 c95 fun x y h => ⟨8, (F72_eq G95 x.1 x.2).trans h⟩

/-! Tick, Young, Due, Left -/
noncomputable def tickS (s : State) : State := br (mayS s) (s.1, (tickM s.2.1.1, tickM s.2.1.2.1, tickM s.2.1.2.2), s.2.2) s
theorem g74 {s : State} (h : FitS s) : G74 s = some (mayS s) := if_pos h
noncomputable def G26 : T26 → Option U26 := fun s => if FitS s then some (tickS s) else none
theorem c26 : CtrAll Try.prog ⟨26, A26, R26, G26⟩ := C26 c74 c38 fun x y h => by
  unfold G26 at h
  split at h
  · rename_i hb
    refine ⟨8, ?_⟩
    have g1 : G38 x.2.1.1 = some (tickM x.2.1.1) := if_pos hb.1
    have g2 : G38 x.2.1.2.1 = some (tickM x.2.1.2.1) := if_pos hb.2.1
    have g3 : G38 x.2.1.2.2 = some (tickM x.2.1.2.2) := if_pos hb.2.2
    rw [F26_eq, g74 hb, g1, g2, g3, ← h]
    unfold tickS
    simp only [Option.bind_some]
    cases mayS x <;> rfl
  · cases h
def young (c : Coord) : Coord := (c.1, c.2.1, c.2.2.1, c.2.2.2.1, c.2.2.2.2.1, c.2.2.2.2.2.1, c.2.2.2.2.2.2.1, 0)
noncomputable def youngS (s : State) : State := br (mayS s) (s.1, (young s.2.1.1, young s.2.1.2.1, young s.2.1.2.2), s.2.2) s
noncomputable def G29 : T29 → Option U29 := fun s => if FitS s then some (youngS s) else none
theorem c29 : CtrAll Try.prog ⟨29, A29, R29, G29⟩ := C29 c74 fun x y h => by
  unfold G29 at h
  split at h
  · rename_i hb
    refine ⟨8, ?_⟩
    rw [F29_eq, g74 hb, ← h]
    unfold youngS
    simp only [Option.bind_some]
    cases mayS x <;> rfl
  · cases h
def dues (s : State) : Ints := (if dueM s.2.1.1 = true then [0] else []) ++ ((if dueM s.2.1.2.1 = true then [1] else []) ++ (if dueM s.2.1.2.2 = true then [2] else []))
noncomputable def dueS (s : State) : Ints := br (mayS s) (dues s) []
noncomputable def G28 : T28 → Option U28 := fun s => if FitS s then some (dueS s) else none
theorem c28 : CtrAll Try.prog ⟨28, A28, R28, G28⟩ := C28 c74 c37 fun x y h => by
  unfold G28 at h
  split at h
  · rename_i hb
    refine ⟨8, ?_⟩
    rw [F28_eq, g74 hb, ← h]
    unfold dueS dues
    simp only [Option.bind_some, G37]
    cases mayS x with
    | false => rfl
    | true =>
      simp only [Bool.not_true, brF, brT]
      cases dueM x.2.1.1 <;> cases dueM x.2.1.2.1 <;> cases dueM x.2.1.2.2 <;> rfl
  · cases h
def nthC (s : State) (i : Nat) : Coord := sel s.2.1.1 [s.2.1.1, s.2.1.2.1, s.2.1.2.2] i
def leftC (c : Coord) : Int := if c.1 = 2 then maxI (IntKind.wrap .i64 (c.2.2.2.1 - c.2.2.2.2.2.2.2)) 0 else -1
noncomputable def leftS (s : State) (i : Nat) : Int := br (mayS s) (leftC (nthC s i)) (-1)
noncomputable def G27 : T27 → Option U27 := fun x => if FitS x.1 ∧ 0 ≤ x.2 ∧ x.2 < 3 then some (leftS x.1 x.2.toNat) else none
theorem c27 : CtrAll Try.prog ⟨27, A27, R27, G27⟩ := C27 c74 fun x y h => by
  unfold G27 at h
  split at h
  · rename_i hb
    refine ⟨8, ?_⟩
    obtain ⟨s, i⟩ := x
    obtain ⟨hf, h0, h3⟩ := hb
    have h0 : 0 ≤ i := h0
    have h3 : i < 3 := h3
    have hin : inB i 3 = true := by unfold inB; rw [dT h0, dT (show i < ((3 : Nat) : Int) by omega)]; rfl
    rw [F27_eq, g74 hf, ← h, hin, dF (by omega), dF (by omega)]
    unfold leftS leftC nthC
    simp only [Option.bind_some, brF, brT]
    cases mayS s with
    | false => rfl
    | true =>
      obtain ⟨n, rfl⟩ : ∃ n : Nat, i = n := ⟨i.toNat, by omega⟩
      have hn : n < 3 := by omega
      match n, hn with
      | 0, _ => simp only [Bool.not_true, brF, brT, br_ndec, eqI, Int.toNat_natCast, sel, nth]; split <;> rfl
      | 1, _ => simp only [Bool.not_true, brF, brT, br_ndec, eqI, Int.toNat_natCast, sel, nth]; split <;> rfl
      | 2, _ => simp only [Bool.not_true, brF, brT, br_ndec, eqI, Int.toNat_natCast, sel, nth]; split <;> rfl
  · cases h

/-! Oldest -/
def G77 : T77 → Option U77 := fun c => some (decide (c.1 = 2))
theorem c77 : CtrAll Try.prog ⟨77, A77, R77, G77⟩ := C77 fun x y h => ⟨8, (F77_eq x).trans h⟩
def G78 : T78 → Option U78 := fun x => some (decide (x.1.2.2.2.2.2.2.2 > x.2.2.2.2.2.2.2.2))
theorem c78 : CtrAll Try.prog ⟨78, A78, R78, G78⟩ := C78 fun x y h => ⟨8, (F78_eq x.1 x.2).trans h⟩
/-- the place of the one that is ahead of all others -/
def bestR : List Coord → Nat → Int → Option Coord → Int × Bool
  | [], _, k, o => (k, o.isSome)
  | x :: l, i, k, o => if x.1 = 2 ∧ (∀ y, o = some y → x.2.2.2.2.2.2.2 > y.2.2.2.2.2.2.2) then bestR l (i + 1) i (some x) else bestR l (i + 1) k o
theorem L76_spec (K : Nat) (l : List Coord) (hl : l.length ≤ 1000000) : ∀ (k i j : Nat) (o : Option Coord), l.length < k + i → i ≤ l.length → (∀ y, o = some y → l[j]? = some y) →
    L76_2 G77 G78 (K + 1) k l (j : Int) o.isSome (lenI l) (i : Int) = some (bestR (l.drop i) i (j : Int) o)
  | 0, i, j, o, h, hi, _ => by omega
  | k + 1, i, j, o, h, hi, ho => by
    rw [L76_2_step]
    cases hx : l[i]? with
    | none =>
      have := List.getElem?_eq_none_iff.1 hx
      rw [dF (show ¬ ((i : Int) < lenI l) by unfold lenI; omega), List.drop_eq_nil_of_le this, brF]; rfl
    | some x =>
      have hlt := (List.getElem?_eq_some_iff.1 hx).1
      rw [dT (show (i : Int) < lenI l by unfold lenI; omega), brT, J76_3_eq, idxN, hx, w1 (by omega), drop_consN hx]
      simp only [Option.bind_some, G77, G78]
      unfold bestR
      have ih1 := L76_spec K l hl k (i + 1) i (some x) (by omega) (by omega) (fun y e => by cases e; exact hx)
      have ih2 := L76_spec K l hl k (i + 1) j o (by omega) (by omega) ho
      by_cases hs : x.1 = 2
      · rw [dT hs, brT]
        cases o with
        | none =>
          rw [if_pos ⟨hs, fun y e => by cases e⟩]
          exact ih1
        | some y =>
          rw [show (!(some y).isSome) = false from rfl, brF, idxN, ho y rfl, Option.bind_some]
          by_cases hy : x.2.2.2.2.2.2.2 > y.2.2.2.2.2.2.2
          · rw [dT hy, brT, if_pos ⟨hs, fun z e => by cases e; exact hy⟩]
            exact ih1
          · rw [dF hy, brF, if_neg (fun k => hy (k.2 y rfl))]
            exact ih2
      · rw [dF hs, brF, if_neg (fun k => hs k.1)]
        exact ih2
def G76 : T76 → Option U76 := fun x => if x.1.length ≤ 1000000 then some (bestR x.1 0 0 none) else none
theorem c76 : CtrAll Try.prog ⟨76, A76, R76, G76⟩ := C76 c77 c78 fun x y h => by
  unfold G76 at h
  split at h
  · rename_i hb
    refine ⟨1000001, ?_⟩
    rw [F76_eq]
    exact (L76_spec 1000000 x.1 hb _ 0 0 none (by omega) (by omega) (fun y e => by cases e)).trans h
  · cases h
def oldestS (s : State) : Int × Bool := bestR [s.2.1.1, s.2.1.2.1, s.2.1.2.2] 0 0 none
def G32 : T32 → Option U32 := fun s => some (oldestS s)
theorem c32 : CtrAll Try.prog ⟨32, A32, R32, G32⟩ := C32 c76 fun x y h => ⟨8, by
  have g : G76 ([x.2.1.1, x.2.1.2.1, x.2.1.2.2], ((), ()), (), ()) = some (oldestS x) := if_pos (by simp)
  rw [F32_eq, g, ← h]; rfl⟩
end Go.Ev.R3

set_option linter.unusedVariables false
set_option maxRecDepth 100000
namespace Go.Ev.R3
open Go.Proofs

/-! The document's moves of a transactional id. -/
instance (c : Coord) : Decidable (I8 c) := by unfold I8; infer_instance
theorem ref_init_eq (k : Nat) (c : Coord) (p t : Int) (hf : Fit c) (h8 : I8 c) : F82 G17 (k + 1) c p t = some (initM c p t) := by
  simp only [F82_eq, J82_3_eq, J82_5_eq, J82_7_eq, J82_9_eq, g17 hf h8, Option.bind_some, br_dec, br_ndec, eqI]
  unfold initM
  cases hm : mayM c with
  | false => rfl
  | true =>
    have h := mayM_iff.1 hm
    have hs := may_state h
    have he := may_epoch h
    rw [w64 (by omega) (by omega)]
    simp only [brT, brF, Bool.not_true]
    (repeat' split) <;> first | rfl | omega
noncomputable def G82 : T82 → Option U82 := fun x => if Fit x.1 ∧ I8 x.1 then some (initM x.1 x.2.1 x.2.2) else none
theorem c82 : CtrAll Try.prog ⟨82, A82, R82, G82⟩ := C82 c17 fun x y h => by
  unfold G82 at h
  split at h
  · rename_i hb; exact ⟨1, (ref_init_eq 0 x.1 x.2.1 x.2.2 hb.1 hb.2).trans h⟩
  · cases h

theorem ahead_tr {p y z : Pend} (h1 : aheadB y p = false) (h2 : aheadB y z = true) : aheadB p z = true := by
  unfold aheadB at *
  simp only [Bool.or_eq_false_iff, Bool.or_eq_true, Bool.and_eq_true, Bool.and_eq_false_iff, decide_eq_true_eq, decide_eq_false_iff_not] at *
  omega
def putR (p : Pend) : Bool → Pends → Pends → Pends
  | d, o, [] => if d = true then o else o ++ [p]
  | d, o, y :: l =>
    let d1 := !d && !aheadB y p
    let o1 := if d1 = true then o ++ [p] else o
    putR p (d || d1) (if aheadB y p = true ∨ aheadB p y = true then o1 ++ [y] else o1) l
theorem putR_done (p : Pend) : ∀ (l o : Pends), (∀ z, z ∈ l → aheadB p z = true) → putR p true o l = o ++ l
  | [], o, _ => by simp [putR]
  | y :: l, o, h => by
    unfold putR
    simp only [Bool.not_true, Bool.false_and, Bool.false_eq_true, if_false, Bool.true_or]
    rw [if_pos (Or.inr (h y (by simp))), putR_done p l _ (fun z hz => h z (by simp [hz]))]
    simp
theorem rise_all : ∀ (l : Pends) (y : Pend), riseP (some y) l = true → ∀ z, z ∈ l → aheadB y z = true
  | [], _, _, z, hz => by cases hz
  | x :: l, y, h, z, hz => by
    rw [riseP_cons] at h
    simp only [Bool.and_eq_true] at h
    rcases List.mem_cons.1 hz with rfl | hz
    · exact h.2.1
    · have h1 := rise_all l x h.2.2 z hz
      have h2 := h.2.1
      unfold aheadB at *
      simp only [Bool.or_eq_true, Bool.and_eq_true, decide_eq_true_eq] at *
      omega
theorem putR_eq (p : Pend) : ∀ (l o : Pends) (q : Option Pend), riseP q l = true → putR p false o l = o ++ putM aheadB p l
  | [], o, q, _ => by simp [putR, putM]
  | y :: l, o, q, h => by
    rw [riseP_cons] at h
    simp only [Bool.and_eq_true] at h
    unfold putR putM
    cases hy : aheadB y p with
    | true =>
      simp only [Bool.not_false, Bool.true_and, Bool.not_true, Bool.false_eq_true, if_false, true_or, if_true, Bool.or_self]
      rw [putR_eq p l _ (some y) h.2.2]; simp
    | false =>
      simp only [Bool.not_false, Bool.true_and, if_true, Bool.false_eq_true, false_or, Bool.false_or, if_false]
      have hall := fun z hz => ahead_tr hy (rise_all l y h.2.2 z hz)
      rw [putR_done p l _ hall]
      cases aheadB p y <;> simp
theorem L84_spec (K : Nat) (b : Coord) (p : Pend) (e : Coord) (hl : b.2.2.2.2.2.2.1.length ≤ 1000000) : ∀ (k i : Nat) (d : Bool) (o : Pends), b.2.2.2.2.2.2.1.length < k + i → i ≤ b.2.2.2.2.2.2.1.length → o.length ≤ 2 * i →
    L84_9 G17 G56 G57 (K + 1) k o d (i : Int) b p e = some ((b.1, b.2.1, b.2.2.1, b.2.2.2.1, b.2.2.2.2.1, b.2.2.2.2.2.1, putR p d o (b.2.2.2.2.2.2.1.drop i), b.2.2.2.2.2.2.2), 0)
  | 0, i, d, o, h, hi, _ => by omega
  | k + 1, i, d, o, h, hi, ho => by
    rw [L84_9_step]
    cases hx : b.2.2.2.2.2.2.1[i]? with
    | none =>
      have := List.getElem?_eq_none_iff.1 hx
      rw [dF (show ¬ ((i : Int) < lenI b.2.2.2.2.2.2.1) by unfold lenI; omega), List.drop_eq_nil_of_le this, brF, J84_17_eq]
      cases d with
      | true => rfl
      | false =>
        rw [fits_le (by simp; omega), J84_19_eq]
        rfl
    | some y =>
      have hlt := (List.getElem?_eq_some_iff.1 hx).1
      rw [dT (show (i : Int) < lenI b.2.2.2.2.2.2.1 by unfold lenI; omega), brT, J84_11_eq, idxN, hx, drop_consN hx]
      unfold putR
      have ih := fun d o ho => L84_spec K b p e hl k (i + 1) d o (by omega) (by omega) ho
      have fin : ∀ (d' : Bool) (o' : Pends), o'.length ≤ 2 * i + 1 → J84_15 G17 G56 G57 (K + 1) k (K + 1) o' d' (i : Int) b p e y = some ((b.1, b.2.1, b.2.2.1, b.2.2.2.1, b.2.2.2.2.1, b.2.2.2.2.2.1, putR p d' (if aheadB y p = true ∨ aheadB p y = true then o' ++ [y] else o') (b.2.2.2.2.2.2.1.drop (i + 1)), b.2.2.2.2.2.2.2), 0) := by
        intro d' o' ho'
        rw [J84_15_eq, w1 (by omega)]
        have g1 : G57 (y, p) = some (aheadB y p) := rfl
        have g2 : G57 (p, y) = some (aheadB p y) := rfl
        rw [g1, Option.bind_some, g2, Option.bind_some, fits_le (by simp; omega)]
        cases h1 : aheadB y p with
        | true => rw [brT, brT, if_pos (Or.inl rfl)]; exact ih d' (o' ++ [y]) (by simp; omega)
        | false =>
          cases h2 : aheadB p y with
          | true => rw [brF, brT, brT, if_pos (Or.inr rfl)]; exact ih d' (o' ++ [y]) (by simp; omega)
          | false => rw [brF, brF, if_neg (by simp)]; exact ih d' o' (by omega)
      have g1 : G57 (y, p) = some (aheadB y p) := rfl
      rw [Option.bind_some]
      cases d with
      | true =>
        rw [Bool.not_true, brF, J84_13_eq, brF]
        have := fin true o (by omega)
        simpa using this
      | false =>
        rw [Bool.not_false, brT, g1, Option.bind_some, J84_13_eq]
        cases h1 : aheadB y p with
        | true =>
          rw [Bool.not_true, brF]
          have := fin false o (by omega)
          rw [h1] at this
          simpa using this
        | false =>
          rw [Bool.not_false, brT, fits_le (by simp; omega), brT]
          have := fin true (o ++ [p]) (by simp; omega)
          rw [h1] at this
          simpa [app] using this
theorem moves_br {α : Type} (s : Int) (X E : α) : br (eqI s 1) X (br (eqI s 5) X (br (!eqI s 6) (br (!eqI s 2) E X) X)) = if whatM s = 0 ∨ whatM s = 3 then E else X := by
  simp only [eqI, br_dec, br_ndec]
  have hw := what_cases s
  generalize whatM s = m at *
  (repeat' split) <;> first | rfl | omega
theorem ref_set_eq (K : Nat) (c : Coord) (p : Pend) (hf : Fit c) (h8 : I8 c) (hK : 1000000 < K) : F84 G17 G56 G57 (K + 1) c p = some (setM c p) := by
  rw [F84_eq, g17 hf h8]
  have g56 : G56 p = some (pendB p) := rfl
  rw [g56]
  rw [Option.bind_some, Option.bind_some]
  unfold setM
  cases hm : mayM c with
  | false => rw [Bool.not_false, brT]; rfl
  | true =>
    rw [Bool.not_true, brF]
    cases hp : pendB p with
    | false => rw [Bool.not_false, brT]; rfl
    | true =>
      rw [Bool.not_true, brF]
      have h := mayM_iff.1 hm
      have hs := may_state h
      have h5 : J84_5 G17 G56 G57 (K + 1) (K + 1) c p (0, 0, 0, 0, 0, [], [], 0) = some ((2, c.2.1, c.2.2.1, c.2.2.2.1, c.2.2.2.2.1, c.2.2.2.2.2.1, putM aheadB p c.2.2.2.2.2.2.1, c.2.2.2.2.2.2.2), 0) := by
        rw [J84_5_eq]
        have := L84_spec K (2, c.2) p (0, 0, 0, 0, 0, [], [], 0) hf.2 (K + 1) 0 false [] (by have := hf.2; show c.2.2.2.2.2.2.1.length < _; omega) (by omega) (by simp)
        rw [List.drop_zero, show ((0 : Nat) : Int) = 0 from rfl] at this
        rw [this]
        have hr : riseP none c.2.2.2.2.2.2.1 = true := by
          rcases h with rfl | h
          · rfl
          · exact h.2.2.2.2.2.2.1
        have e : putR p false [] c.2.2.2.2.2.2.1 = putM aheadB p c.2.2.2.2.2.2.1 := by rw [putR_eq p _ [] none hr]; rfl
        rw [show putR p false [] (2, c.2).2.2.2.2.2.2.1 = putM aheadB p c.2.2.2.2.2.2.1 from e]
      rw [J84_3_eq, h5, moves_br, brT, brT]
      unfold movesM
      by_cases hq : whatM c.1 = 0 ∨ whatM c.1 = 3
      · rw [if_pos hq, if_pos hq]; rfl
      · rw [if_neg hq, if_neg hq]; rfl
noncomputable def G84 : T84 → Option U84 := fun x => if Fit x.1 ∧ I8 x.1 then some (setM x.1 x.2) else none
theorem c84 : CtrAll Try.prog ⟨84, A84, R84, G84⟩ := C84 c17 c56 c57 fun x y h => by
  unfold G84 at h
  split at h
  · rename_i hb; exact ⟨1000002, (ref_set_eq 1000001 x.1 x.2 hb.1 hb.2 (by omega)).trans h⟩
  · cases h
theorem ref_prep_eq (k : Nat) (c : Coord) (yes : Bool) (th : Int) (hf : Fit c) (h8 : I8 c) : F85 G17 (k + 1) c yes th = some (prepM c yes th) := by
  simp only [F85_eq, J85_3_eq, moves_br, J85_5_eq, J85_7_eq, J85_10_eq, g17 hf h8, Option.bind_some]
  unfold prepM movesM
  cases hm : mayM c with
  | false => rfl
  | true =>
    simp only [br_dec, br_ndec, eqI]
    by_cases hq : whatM c.1 = 0 ∨ whatM c.1 = 3
    · simp only [if_pos hq]
      cases yes <;> simp only [brT, brF, Bool.not_true, Bool.false_eq_true, false_and, not_false_eq_true, and_true, true_and, if_true, if_false] <;> (repeat' split) <;> first | rfl | omega
    · simp only [if_neg hq]
      cases yes <;> simp only [brT, brF, Bool.not_true, Bool.false_eq_true, false_and, not_false_eq_true, and_true, true_and, if_true, if_false] <;> (repeat' split) <;> first | rfl | omega
noncomputable def G85 : T85 → Option U85 := fun x => if Fit x.1 ∧ I8 x.1 then some (prepM x.1 x.2.1 x.2.2) else none
theorem c85 : CtrAll Try.prog ⟨85, A85, R85, G85⟩ := C85 c17 fun x y h => by
  unfold G85 at h
  split at h
  · rename_i hb; exact ⟨1, (ref_prep_eq 0 x.1 x.2.1 x.2.2 hb.1 hb.2).trans h⟩
  · cases h
theorem ref_comp_eq (c : Coord) (hf : Fit c) (h8 : I8 c) : F86 G17 0 c = some (compM c) := by
  simp only [F86_eq, g17 hf h8, Option.bind_some, br_dec, eqI]
  unfold compM
  cases hm : mayM c with
  | false => rfl
  | true =>
    have he := may_epoch (mayM_iff.1 hm)
    rw [w64 (by omega) (by omega)]
    simp only [brT, brF, Bool.not_true]
    (repeat' split) <;> first | rfl | omega
noncomputable def G86 : T86 → Option U86 := fun c => if Fit c ∧ I8 c then some (compM c) else none
theorem c86 : CtrAll Try.prog ⟨86, A86, R86, G86⟩ := C86 c17 fun x y h => by
  unfold G86 at h
  split at h
  · rename_i hb; exact ⟨0, (ref_comp_eq x hb.1 hb.2).trans h⟩
  · cases h
end Go.Ev.R3
