import Derived.Test.YtggobapgdflchaaEvS11
set_option linter.unusedVariables false
set_option maxRecDepth 100000
namespace Go.Ev.R3
open Go.Proofs

/-! roving/rovinglaw21.great -/
abbrev A23 : Ty := stateT
abbrev R23 : Ty := .bool
abbrev T23 : Type := State
abbrev U23 : Type := Bool
noncomputable def E23 (k : Nat) : Env := mk [] [(23, Try.f23)] k
noncomputable def F23 (k0 : Nat) (s : State) : Option U23 := sem (E23 k0) 2 23 A23 R23 (s : T23)
theorem F23_eq  (s : State) : F23 8 s = br (decide (lenI s.2.1.1.2.2.2.2.2.1 > 40)) (some true) (br (decide (lenI s.2.1.1.2.2.2.2.2.2.1 > 40)) (some true) (br (decide (lenI s.2.1.2.1.2.2.2.2.2.1 > 40)) (some true) (br (decide (lenI s.2.1.2.1.2.2.2.2.2.2.1 > 40)) (some true) (br (decide (lenI s.2.1.2.2.2.2.2.2.2.1 > 40)) (some true) (br (decide (lenI s.2.1.2.2.2.2.2.2.2.2.1 > 40)) (some true) (some false)))))) := by kernel_rfl
theorem C23  {G : T23 → Option U23} (h : ∀ x y, G x = some y → ∃ k0, F23 k0 x = some y) : CtrAll Try.prog ⟨23, A23, R23, G⟩ := by
  refine ctr_of mixed ⟨Try.f23, Try.func23, by decide, rfl⟩ rfl rfl fun x y hx => ?_
  obtain ⟨k0, hk⟩ := h x y hx
  exact ⟨E23 k0, 2, base.env (trivial : CtrsOK Try.prog []) ⟨⟨Try.func23, by decide⟩, trivial⟩, hk⟩

/-! roving/rovingref20.May -/
abbrev A24 : Ty := stateT
abbrev R24 : Ty := .bool
abbrev T24 : Type := State
abbrev U24 : Type := Bool
noncomputable def E24 (G17 : T17 → Option U17) (k : Nat) : Env := mk [⟨17, A17, R17, G17⟩] [(24, Try.f24)] k
noncomputable def F24 (G17 : T17 → Option U17) (k0 : Nat) (s : State) : Option U24 := sem (E24 G17 k0) 2 24 A24 R24 (s : T24)
theorem F24_eq (G17 : T17 → Option U17)  (s : State) : F24 G17 8 s = br (decide (s.1 < 0)) (some false) (br (decide (s.1 > 8)) (some false) (Option.bind (G17 s.2.1.1) fun y => br (!y) (some false) (br (decide (s.2.1.1.2.1 > s.1)) (some false) (Option.bind (G17 s.2.1.2.1) fun y => br (!y) (some false) (br (decide (s.2.1.2.1.2.1 > s.1)) (some false) (br (decide (s.2.1.2.1.2.1 > 0)) (br (eqI s.2.1.1.2.1 s.2.1.2.1.2.1) (some false) (Option.bind (G17 s.2.1.2.2) fun y => br (!y) (some false) (br (decide (s.2.1.2.2.2.1 > s.1)) (some false) (br (decide (s.2.1.2.2.2.1 > 0)) (br (eqI s.2.1.1.2.1 s.2.1.2.2.2.1) (some false) (br (decide (s.2.1.2.2.2.1 > 0)) (br (eqI s.2.1.2.1.2.1 s.2.1.2.2.2.1) (some false) (br (decide (s.2.2.1.1 < -1)) (some false) (br (decide (s.2.2.1.1 > 1048576)) (some false) (br (decide (s.2.2.1.2.1 < -1)) (some false) (br (decide (s.2.2.1.2.1 > 1048576)) (some false) (br (decide (s.2.2.1.2.2 < -1)) (some false) (br (decide (s.2.2.1.2.2 > 1048576)) (some false) (br (decide (s.2.2.2.1 < -1)) (some false) (br (decide (s.2.2.2.1 > 1048576)) (some false) (br (decide (s.2.2.2.2.1 < -1)) (some false) (br (decide (s.2.2.2.2.1 > 1048576)) (some false) (br (decide (s.2.2.2.2.2 < -1)) (some false) (br (decide (s.2.2.2.2.2 > 1048576)) (some false) (some true)))))))))))))) (br (decide (s.2.2.1.1 < -1)) (some false) (br (decide (s.2.2.1.1 > 1048576)) (some false) (br (decide (s.2.2.1.2.1 < -1)) (some false) (br (decide (s.2.2.1.2.1 > 1048576)) (some false) (br (decide (s.2.2.1.2.2 < -1)) (some false) (br (decide (s.2.2.1.2.2 > 1048576)) (some false) (br (decide (s.2.2.2.1 < -1)) (some false) (br (decide (s.2.2.2.1 > 1048576)) (some false) (br (decide (s.2.2.2.2.1 < -1)) (some false) (br (decide (s.2.2.2.2.1 > 1048576)) (some false) (br (decide (s.2.2.2.2.2 < -1)) (some false) (br (decide (s.2.2.2.2.2 > 1048576)) (some false) (some true))))))))))))))) (br (decide (s.2.1.2.2.2.1 > 0)) (br (eqI s.2.1.2.1.2.1 s.2.1.2.2.2.1) (some false) (br (decide (s.2.2.1.1 < -1)) (some false) (br (decide (s.2.2.1.1 > 1048576)) (some false) (br (decide (s.2.2.1.2.1 < -1)) (some false) (br (decide (s.2.2.1.2.1 > 1048576)) (some false) (br (decide (s.2.2.1.2.2 < -1)) (some false) (br (decide (s.2.2.1.2.2 > 1048576)) (some false) (br (decide (s.2.2.2.1 < -1)) (some false) (br (decide (s.2.2.2.1 > 1048576)) (some false) (br (decide (s.2.2.2.2.1 < -1)) (some false) (br (decide (s.2.2.2.2.1 > 1048576)) (some false) (br (decide (s.2.2.2.2.2 < -1)) (some false) (br (decide (s.2.2.2.2.2 > 1048576)) (some false) (some true)))))))))))))) (br (decide (s.2.2.1.1 < -1)) (some false) (br (decide (s.2.2.1.1 > 1048576)) (some false) (br (decide (s.2.2.1.2.1 < -1)) (some false) (br (decide (s.2.2.1.2.1 > 1048576)) (some false) (br (decide (s.2.2.1.2.2 < -1)) (some false) (br (decide (s.2.2.1.2.2 > 1048576)) (some false) (br (decide (s.2.2.2.1 < -1)) (some false) (br (decide (s.2.2.2.1 > 1048576)) (some false) (br (decide (s.2.2.2.2.1 < -1)) (some false) (br (decide (s.2.2.2.2.1 > 1048576)) (some false) (br (decide (s.2.2.2.2.2 < -1)) (some false) (br (decide (s.2.2.2.2.2 > 1048576)) (some false) (some true)))))))))))))))))) (Option.bind (G17 s.2.1.2.2) fun y => br (!y) (some false) (br (decide (s.2.1.2.2.2.1 > s.1)) (some false) (br (decide (s.2.1.2.2.2.1 > 0)) (br (eqI s.2.1.1.2.1 s.2.1.2.2.2.1) (some false) (br (decide (s.2.1.2.2.2.1 > 0)) (br (eqI s.2.1.2.1.2.1 s.2.1.2.2.2.1) (some false) (br (decide (s.2.2.1.1 < -1)) (some false) (br (decide (s.2.2.1.1 > 1048576)) (some false) (br (decide (s.2.2.1.2.1 < -1)) (some false) (br (decide (s.2.2.1.2.1 > 1048576)) (some false) (br (decide (s.2.2.1.2.2 < -1)) (some false) (br (decide (s.2.2.1.2.2 > 1048576)) (some false) (br (decide (s.2.2.2.1 < -1)) (some false) (br (decide (s.2.2.2.1 > 1048576)) (some false) (br (decide (s.2.2.2.2.1 < -1)) (some false) (br (decide (s.2.2.2.2.1 > 1048576)) (some false) (br (decide (s.2.2.2.2.2 < -1)) (some false) (br (decide (s.2.2.2.2.2 > 1048576)) (some false) (some true)))))))))))))) (br (decide (s.2.2.1.1 < -1)) (some false) (br (decide (s.2.2.1.1 > 1048576)) (some false) (br (decide (s.2.2.1.2.1 < -1)) (some false) (br (decide (s.2.2.1.2.1 > 1048576)) (some false) (br (decide (s.2.2.1.2.2 < -1)) (some false) (br (decide (s.2.2.1.2.2 > 1048576)) (some false) (br (decide (s.2.2.2.1 < -1)) (some false) (br (decide (s.2.2.2.1 > 1048576)) (some false) (br (decide (s.2.2.2.2.1 < -1)) (some false) (br (decide (s.2.2.2.2.1 > 1048576)) (some false) (br (decide (s.2.2.2.2.2 < -1)) (some false) (br (decide (s.2.2.2.2.2 > 1048576)) (some false) (some true))))))))))))))) (br (decide (s.2.1.2.2.2.1 > 0)) (br (eqI s.2.1.2.1.2.1 s.2.1.2.2.2.1) (some false) (br (decide (s.2.2.1.1 < -1)) (some false) (br (decide (s.2.2.1.1 > 1048576)) (some false) (br (decide (s.2.2.1.2.1 < -1)) (some false) (br (decide (s.2.2.1.2.1 > 1048576)) (some false) (br (decide (s.2.2.1.2.2 < -1)) (some false) (br (decide (s.2.2.1.2.2 > 1048576)) (some false) (br (decide (s.2.2.2.1 < -1)) (some false) (br (decide (s.2.2.2.1 > 1048576)) (some false) (br (decide (s.2.2.2.2.1 < -1)) (some false) (br (decide (s.2.2.2.2.1 > 1048576)) (some false) (br (decide (s.2.2.2.2.2 < -1)) (some false) (br (decide (s.2.2.2.2.2 > 1048576)) (some false) (some true)))))))))))))) (br (decide (s.2.2.1.1 < -1)) (some false) (br (decide (s.2.2.1.1 > 1048576)) (some false) (br (decide (s.2.2.1.2.1 < -1)) (some false) (br (decide (s.2.2.1.2.1 > 1048576)) (some false) (br (decide (s.2.2.1.2.2 < -1)) (some false) (br (decide (s.2.2.1.2.2 > 1048576)) (some false) (br (decide (s.2.2.2.1 < -1)) (some false) (br (decide (s.2.2.2.1 > 1048576)) (some false) (br (decide (s.2.2.2.2.1 < -1)) (some false) (br (decide (s.2.2.2.2.1 > 1048576)) (some false) (br (decide (s.2.2.2.2.2 < -1)) (some false) (br (decide (s.2.2.2.2.2 > 1048576)) (some false) (some true))))))))))))))))))))))) := by kernel_rfl
theorem C24 {G17 : T17 → Option U17} (h17 : CtrAll Try.prog ⟨17, A17, R17, G17⟩) {G : T24 → Option U24} (h : ∀ x y, G x = some y → ∃ k0, F24 G17 k0 x = some y) : CtrAll Try.prog ⟨24, A24, R24, G⟩ := by
  refine ctr_of mixed ⟨Try.f24, Try.func24, by decide, rfl⟩ rfl rfl fun x y hx => ?_
  obtain ⟨k0, hk⟩ := h x y hx
  exact ⟨E24 G17 k0, 2, base.env (⟨h17, trivial⟩ : CtrsOK Try.prog [⟨17, A17, R17, G17⟩]) ⟨⟨Try.func24, by decide⟩, trivial⟩, hk⟩

/-! roving/rovingref20.Great -/
abbrev A40 : Ty := stateT
abbrev R40 : Ty := .bool
abbrev T40 : Type := State
abbrev U40 : Type := Bool
noncomputable def E40 (G16 : T16 → Option U16) (k : Nat) : Env := mk [⟨16, A16, R16, G16⟩] [(40, Try.f40)] k
noncomputable def F40 (G16 : T16 → Option U16) (k0 : Nat) (s : State) : Option U40 := sem (E40 G16 k0) 2 40 A40 R40 (s : T40)
theorem F40_eq (G16 : T16 → Option U16)  (s : State) : F40 G16 8 s = Option.bind (G16 s.2.1.1) fun y => br y (some true) (Option.bind (G16 s.2.1.2.1) fun y => br y (some true) (Option.bind (G16 s.2.1.2.2) fun y => br y (some true) (some false))) := by kernel_rfl
theorem C40 {G16 : T16 → Option U16} (h16 : CtrAll Try.prog ⟨16, A16, R16, G16⟩) {G : T40 → Option U40} (h : ∀ x y, G x = some y → ∃ k0, F40 G16 k0 x = some y) : CtrAll Try.prog ⟨40, A40, R40, G⟩ := by
  refine ctr_of mixed ⟨Try.f40, Try.func40, by decide, rfl⟩ rfl rfl fun x y hx => ?_
  obtain ⟨k0, hk⟩ := h x y hx
  exact ⟨E40 G16 k0, 2, base.env (⟨h16, trivial⟩ : CtrsOK Try.prog [⟨16, A16, R16, G16⟩]) ⟨⟨Try.func40, by decide⟩, trivial⟩, hk⟩

/-! roving/rovingref20.First -/
abbrev A95 : Ty := .unit
abbrev R95 : Ty := stateT
abbrev T95 : Type := Unit
abbrev U95 : Type := State
noncomputable def E95 (k : Nat) : Env := mk [] [(95, Try.f95)] k
noncomputable def F95 (k0 : Nat) : Option U95 := sem (E95 k0) 2 95 A95 R95 (() : T95)
theorem F95_eq  : F95 8 = some (0, ((0, 0, 0, 0, 0, [], [], 0), (0, 0, 0, 0, 0, [], [], 0), 0, 0, 0, 0, 0, [], [], 0), ((-1), (-1), (-1)), (-1), (-1), (-1)) := by kernel_rfl
theorem C95  {G : T95 → Option U95} (h : ∀ x y, G x = some y → ∃ k0, F95 k0  = some y) : CtrAll Try.prog ⟨95, A95, R95, G⟩ := by
  refine ctr_of mixed ⟨Try.f95, Try.func95, by decide, rfl⟩ rfl rfl fun x y hx => ?_
  obtain ⟨k0, hk⟩ := h x y hx
  exact ⟨E95 k0, 2, base.env (trivial : CtrsOK Try.prog []) ⟨⟨Try.func95, by decide⟩, trivial⟩, hk⟩

/-! roving/meta.First -/
abbrev A48 : Ty := .unit
abbrev R48 : Ty := stateT
abbrev T48 : Type := Unit
abbrev U48 : Type := State
noncomputable def E48 (k : Nat) : Env := mk [] [(48, Try.f48), (96, Try.f96)] k
noncomputable def F48 (k0 : Nat) : Option U48 := sem (E48 k0) 3 48 A48 R48 (() : T48)
theorem F48_eq  : F48 8 = some (0, ((0, 0, 0, 0, 0, [], [], 0), (0, 0, 0, 0, 0, [], [], 0), 0, 0, 0, 0, 0, [], [], 0), ((-1), (-1), (-1)), (-1), (-1), (-1)) := by kernel_rfl
theorem C48  {G : T48 → Option U48} (h : ∀ x y, G x = some y → ∃ k0, F48 k0  = some y) : CtrAll Try.prog ⟨48, A48, R48, G⟩ := by
  refine ctr_of mixed ⟨Try.f48, Try.func48, by decide, rfl⟩ rfl rfl fun x y hx => ?_
  obtain ⟨k0, hk⟩ := h x y hx
  exact ⟨E48 k0, 3, base.env (trivial : CtrsOK Try.prog []) ⟨⟨Try.func48, by decide⟩, ⟨Try.func96, by decide⟩, trivial⟩, hk⟩

/-! roving/rovinglaw21.going -/
abbrev A72 : Ty := .pr (.int .i64) (.int .i64)
abbrev R72 : Ty := stateT
abbrev T72 : Type := Int × Int
abbrev U72 : Type := State
noncomputable def E72 (G95 : T95 → Option U95) (k : Nat) : Env := mk [⟨95, A95, R95, G95⟩] [(72, Try.f72)] k
noncomputable def F72 (G95 : T95 → Option U95) (k0 : Nat) (a : Int) (t : Int) : Option U72 := sem (E72 G95 k0) 2 72 A72 R72 ((a, t) : T72)
theorem F72_eq (G95 : T95 → Option U95)  (a : Int) (t : Int) : F72 G95 8 a t = Option.bind (G95 ()) fun y => some (1, (y.2.1.1, (2, 1, 0, t, 0, [0], [], a), y.2.1.2.2), y.2.2) := by kernel_rfl
theorem C72 {G95 : T95 → Option U95} (h95 : CtrAll Try.prog ⟨95, A95, R95, G95⟩) {G : T72 → Option U72} (h : ∀ x y, G x = some y → ∃ k0, F72 G95 k0 x.1 x.2 = some y) : CtrAll Try.prog ⟨72, A72, R72, G⟩ := by
  refine ctr_of mixed ⟨Try.f72, Try.func72, by decide, rfl⟩ rfl rfl fun x y hx => ?_
  obtain ⟨k0, hk⟩ := h x y hx
  exact ⟨E72 G95 k0, 2, base.env (⟨h95, trivial⟩ : CtrsOK Try.prog [⟨95, A95, R95, G95⟩]) ⟨⟨Try.func72, by decide⟩, trivial⟩, hk⟩

/-! roving/clock.Tick -/
abbrev A26 : Ty := stateT
abbrev R26 : Ty := stateT
abbrev T26 : Type := State
abbrev U26 : Type := State
noncomputable def E26 (G74 : T74 → Option U74) (G38 : T38 → Option U38) (k : Nat) : Env := mk [⟨74, A74, R74, G74⟩, ⟨38, A38, R38, G38⟩] [(26, Try.f26), (73, Try.f73)] k
noncomputable def F26 (G74 : T74 → Option U74) (G38 : T38 → Option U38) (k0 : Nat) (s : State) : Option U26 := sem (E26 G74 G38 k0) 3 26 A26 R26 (s : T26)
theorem F26_eq (G74 : T74 → Option U74) (G38 : T38 → Option U38)  (s : State) : F26 G74 G38 8 s = Option.bind (G74 s) fun y => br (!y) (some s) (Option.bind (G38 s.2.1.1) fun y_1 => Option.bind (G38 s.2.1.2.1) fun y_2 => Option.bind (G38 s.2.1.2.2) fun y_3 => some (s.1, (y_1, y_2, y_3), s.2.2)) := by kernel_rfl
theorem C26 {G74 : T74 → Option U74} (h74 : CtrAll Try.prog ⟨74, A74, R74, G74⟩) {G38 : T38 → Option U38} (h38 : CtrAll Try.prog ⟨38, A38, R38, G38⟩) {G : T26 → Option U26} (h : ∀ x y, G x = some y → ∃ k0, F26 G74 G38 k0 x = some y) : CtrAll Try.prog ⟨26, A26, R26, G⟩ := by
  refine ctr_of mixed ⟨Try.f26, Try.func26, by decide, rfl⟩ rfl rfl fun x y hx => ?_
  obtain ⟨k0, hk⟩ := h x y hx
  exact ⟨E26 G74 G38 k0, 3, base.env (⟨h74, h38, trivial⟩ : CtrsOK Try.prog [⟨74, A74, R74, G74⟩, ⟨38, A38, R38, G38⟩]) ⟨⟨Try.func26, by decide⟩, ⟨Try.func73, by decide⟩, trivial⟩, hk⟩

/-! roving/clock.Young -/
abbrev A29 : Ty := stateT
abbrev R29 : Ty := stateT
abbrev T29 : Type := State
abbrev U29 : Type := State
noncomputable def E29 (G74 : T74 → Option U74) (k : Nat) : Env := mk [⟨74, A74, R74, G74⟩] [(29, Try.f29), (73, Try.f73), (75, Try.f75)] k
noncomputable def F29 (G74 : T74 → Option U74) (k0 : Nat) (s : State) : Option U29 := sem (E29 G74 k0) 4 29 A29 R29 (s : T29)
theorem F29_eq (G74 : T74 → Option U74)  (s : State) : F29 G74 8 s = Option.bind (G74 s) fun y => br (!y) (some s) (some (s.1, ((s.2.1.1.1, s.2.1.1.2.1, s.2.1.1.2.2.1, s.2.1.1.2.2.2.1, s.2.1.1.2.2.2.2.1, s.2.1.1.2.2.2.2.2.1, s.2.1.1.2.2.2.2.2.2.1, 0), (s.2.1.2.1.1, s.2.1.2.1.2.1, s.2.1.2.1.2.2.1, s.2.1.2.1.2.2.2.1, s.2.1.2.1.2.2.2.2.1, s.2.1.2.1.2.2.2.2.2.1, s.2.1.2.1.2.2.2.2.2.2.1, 0), (s.2.1.2.2.1, s.2.1.2.2.2.1, s.2.1.2.2.2.2.1, s.2.1.2.2.2.2.2.1, s.2.1.2.2.2.2.2.2.1, s.2.1.2.2.2.2.2.2.2.1, s.2.1.2.2.2.2.2.2.2.2.1, 0)), s.2.2)) := by kernel_rfl
theorem C29 {G74 : T74 → Option U74} (h74 : CtrAll Try.prog ⟨74, A74, R74, G74⟩) {G : T29 → Option U29} (h : ∀ x y, G x = some y → ∃ k0, F29 G74 k0 x = some y) : CtrAll Try.prog ⟨29, A29, R29, G⟩ := by
  refine ctr_of mixed ⟨Try.f29, Try.func29, by decide, rfl⟩ rfl rfl fun x y hx => ?_
  obtain ⟨k0, hk⟩ := h x y hx
  exact ⟨E29 G74 k0, 4, base.env (⟨h74, trivial⟩ : CtrsOK Try.prog [⟨74, A74, R74, G74⟩]) ⟨⟨Try.func29, by decide⟩, ⟨Try.func73, by decide⟩, ⟨Try.func75, by decide⟩, trivial⟩, hk⟩

/-! roving/clock.Due -/
abbrev A28 : Ty := stateT
abbrev R28 : Ty := intsT
abbrev T28 : Type := State
abbrev U28 : Type := Ints
noncomputable def E28 (G74 : T74 → Option U74) (G37 : T37 → Option U37) (k : Nat) : Env := mk [⟨74, A74, R74, G74⟩, ⟨37, A37, R37, G37⟩] [(28, Try.f28)] k
noncomputable def F28 (G74 : T74 → Option U74) (G37 : T37 → Option U37) (k0 : Nat) (s : State) : Option U28 := sem (E28 G74 G37 k0) 2 28 A28 R28 (s : T28)
theorem F28_eq (G74 : T74 → Option U74) (G37 : T37 → Option U37)  (s : State) : F28 G74 G37 8 s = Option.bind (G74 s) fun y => br (!y) (some []) (Option.bind (G37 s.2.1.1) fun y => br y (br (fits ([] : List Unit) [0] 8) (Option.bind (G37 s.2.1.2.1) fun y => br y (br (fits (app [] [0]) [1] 8) (Option.bind (G37 s.2.1.2.2) fun y => br y (br (fits (app (app [] [0]) [1]) [2] 8) (some (app (app (app [] [0]) [1]) [2])) none) (some (app (app [] [0]) [1]))) none) (Option.bind (G37 s.2.1.2.2) fun y => br y (br (fits (app [] [0]) [2] 8) (some (app (app [] [0]) [2])) none) (some (app [] [0])))) none) (Option.bind (G37 s.2.1.2.1) fun y => br y (br (fits ([] : List Unit) [1] 8) (Option.bind (G37 s.2.1.2.2) fun y => br y (br (fits (app [] [1]) [2] 8) (some (app (app [] [1]) [2])) none) (some (app [] [1]))) none) (Option.bind (G37 s.2.1.2.2) fun y => br y (br (fits ([] : List Unit) [2] 8) (some (app [] [2])) none) (some [])))) := by kernel_rfl
theorem C28 {G74 : T74 → Option U74} (h74 : CtrAll Try.prog ⟨74, A74, R74, G74⟩) {G37 : T37 → Option U37} (h37 : CtrAll Try.prog ⟨37, A37, R37, G37⟩) {G : T28 → Option U28} (h : ∀ x y, G x = some y → ∃ k0, F28 G74 G37 k0 x = some y) : CtrAll Try.prog ⟨28, A28, R28, G⟩ := by
  refine ctr_of mixed ⟨Try.f28, Try.func28, by decide, rfl⟩ rfl rfl fun x y hx => ?_
  obtain ⟨k0, hk⟩ := h x y hx
  exact ⟨E28 G74 G37 k0, 2, base.env (⟨h74, h37, trivial⟩ : CtrsOK Try.prog [⟨74, A74, R74, G74⟩, ⟨37, A37, R37, G37⟩]) ⟨⟨Try.func28, by decide⟩, trivial⟩, hk⟩

/-! roving/clock.Left -/
abbrev A27 : Ty := .pr stateT (.int .i64)
abbrev R27 : Ty := .int .i64
abbrev T27 : Type := State × Int
abbrev U27 : Type := Int
noncomputable def E27 (G74 : T74 → Option U74) (k : Nat) : Env := mk [⟨74, A74, R74, G74⟩] [(27, Try.f27)] k
noncomputable def F27 (G74 : T74 → Option U74) (k0 : Nat) (s : State) (i : Int) : Option U27 := sem (E27 G74 k0) 2 27 A27 R27 ((s, i) : T27)
theorem F27_eq (G74 : T74 → Option U74)  (s : State) (i : Int) : F27 G74 8 s i = br (decide (i < 0)) (some (-1)) (br (decide (i ≥ 3)) (some (-1)) (Option.bind (G74 s) fun y => br (!y) (some (-1)) (br (inB i 3) (br (!eqI (sel s.2.1.1.1 [s.2.1.1.1, s.2.1.2.1.1, s.2.1.2.2.1] (Int.toNat i)) 2) (some (-1)) (br (inB i 3) (br (inB i 3) (some (maxI (IntKind.wrap IntKind.i64 (sel s.2.1.1.2.2.2.1 [s.2.1.1.2.2.2.1, s.2.1.2.1.2.2.2.1, s.2.1.2.2.2.2.2.1] (Int.toNat i) - sel s.2.1.1.2.2.2.2.2.2.2 [s.2.1.1.2.2.2.2.2.2.2, s.2.1.2.1.2.2.2.2.2.2.2, s.2.1.2.2.2.2.2.2.2.2.2] (Int.toNat i))) 0)) none) none)) none))) := by kernel_rfl
theorem C27 {G74 : T74 → Option U74} (h74 : CtrAll Try.prog ⟨74, A74, R74, G74⟩) {G : T27 → Option U27} (h : ∀ x y, G x = some y → ∃ k0, F27 G74 k0 x.1 x.2 = some y) : CtrAll Try.prog ⟨27, A27, R27, G⟩ := by
  refine ctr_of mixed ⟨Try.f27, Try.func27, by decide, rfl⟩ rfl rfl fun x y hx => ?_
  obtain ⟨k0, hk⟩ := h x y hx
  exact ⟨E27 G74 k0, 2, base.env (⟨h74, trivial⟩ : CtrsOK Try.prog [⟨74, A74, R74, G74⟩]) ⟨⟨Try.func27, by decide⟩, trivial⟩, hk⟩

/-! roving/clock.Oldest$1 -/
abbrev A77 : Ty := .ref coordT
abbrev R77 : Ty := .bool
abbrev T77 : Type := Coord
abbrev U77 : Type := Bool
noncomputable def E77 (k : Nat) : Env := mk [] [(77, Try.f77)] k
noncomputable def F77 (k0 : Nat) (c : Coord) : Option U77 := sem (E77 k0) 2 77 A77 R77 (c : T77)
theorem F77_eq  (c : Coord) : F77 8 c = some (eqI c.1 2) := by kernel_rfl
theorem C77  {G : T77 → Option U77} (h : ∀ x y, G x = some y → ∃ k0, F77 k0 x = some y) : CtrAll Try.prog ⟨77, A77, R77, G⟩ := by
  refine ctr_of mixed ⟨Try.f77, Try.func77, by decide, rfl⟩ rfl rfl fun x y hx => ?_
  obtain ⟨k0, hk⟩ := h x y hx
  exact ⟨E77 k0, 2, base.env (trivial : CtrsOK Try.prog []) ⟨⟨Try.func77, by decide⟩, trivial⟩, hk⟩

/-! roving/clock.Oldest$2 -/
abbrev A78 : Ty := .pr (.ref coordT) (.ref coordT)
abbrev R78 : Ty := .bool
abbrev T78 : Type := Coord × Coord
abbrev U78 : Type := Bool
noncomputable def E78 (k : Nat) : Env := mk [] [(78, Try.f78)] k
noncomputable def F78 (k0 : Nat) (c : Coord) (d : Coord) : Option U78 := sem (E78 k0) 2 78 A78 R78 ((c, d) : T78)
theorem F78_eq  (c : Coord) (d : Coord) : F78 8 c d = some (decide (c.2.2.2.2.2.2.2 > d.2.2.2.2.2.2.2)) := by kernel_rfl
theorem C78  {G : T78 → Option U78} (h : ∀ x y, G x = some y → ∃ k0, F78 k0 x.1 x.2 = some y) : CtrAll Try.prog ⟨78, A78, R78, G⟩ := by
  refine ctr_of mixed ⟨Try.f78, Try.func78, by decide, rfl⟩ rfl rfl fun x y hx => ?_
  obtain ⟨k0, hk⟩ := h x y hx
  exact ⟨E78 k0, 2, base.env (trivial : CtrsOK Try.prog []) ⟨⟨Try.func78, by decide⟩, trivial⟩, hk⟩

/-! roving/clock.best[roving/api.Coord] -/
abbrev A76 : Ty := .pr (.sl coordT) (.pr (.fn 77 .unit .unit) (.fn 78 .unit .unit))
abbrev R76 : Ty := .tup (.pr (.int .i64) .bool)
abbrev T76 : Type := (List Coord) × (Unit × Unit) × Unit × Unit
abbrev U76 : Type := Int × Bool
def annJ76 : List (Nat × List (Nat × List Nat)) := (76, [(2, [3, 4, 5, 8, 9, 12, 13, 14, 15, 16, 17, 18, 19, 20, 21, 22, 23, 24, 25, 26, 27, 28, 29, 30, 31, 32, 33, 34, 35, 36]), (100003, [3, 4, 5, 8, 9, 12, 13, 14, 15, 16, 17, 18, 19, 20, 21, 22, 23, 24, 25, 26, 27, 28, 29, 30, 31, 32, 33, 34, 35, 36])]) :: ann
noncomputable def E76 (G77 : T77 → Option U77) (G78 : T78 → Option U78) (k : Nat) : Env := mkA annJ76 [⟨77, A77, R77, G77⟩, ⟨78, A78, R78, G78⟩] [(76, Try.f76)] k
noncomputable def F76 (G77 : T77 → Option U77) (G78 : T78 → Option U78) (k0 : Nat) (l : List Coord) : Option U76 := sem (E76 G77 G78 k0) 2 76 A76 R76 ((l, ((), ()), ((), ())) : T76)
def An76 : List (Nat × List Nat) := (look annJ76 76).getD []
noncomputable def L76_2 (G77 : T77 → Option U77) (G78 : T78 → Option U78) (k0 k : Nat) (t0 : List Coord) (t6 : Int) (t7 : Bool) (t10 : Int) (t11 : Int) : Option U76 :=
  lp (E76 G77 G78 k0) (evCall (E76 G77 G78 k0) 1) An76 (sub [1, 0, 1, 0, 0] (bodyOf Try.f76)) 0 k ⟨[⟨.sl coordT, t0⟩, ⟨.fn 77 .unit .unit, ((), ())⟩, ⟨.fn 78 .unit .unit, ((), ())⟩] ++ tops 3 ++ [⟨.int .i64, t6⟩, ⟨.bool, t7⟩] ++ tops 2 ++ [⟨.int .i64, t10⟩, ⟨.int .i64, t11⟩] ++ tops 25, [], List.replicate 37 none⟩
    (blockK 0 (seqK (E76 G77 G78 k0) (evCall (E76 G77 G78 k0) 1) An76 (sub [1, 1] (bodyOf Try.f76)) (retK (E76 G77 G78 k0) 0 Try.f76.results.toList fun v _ => castTo R76 v)))
noncomputable def J76_3 (G77 : T77 → Option U77) (G78 : T78 → Option U78) (k0 ko1 k : Nat) (t0 : List Coord) (t6 : Int) (t7 : Bool) (t10 : Int) (t11 : Int) : Option U76 :=
  jn (E76 G77 G78 k0) (evCall (E76 G77 G78 k0) 1) An76 (sub [1, 0, 1, 0, 0, 1, 1] (bodyOf Try.f76)) k ⟨[⟨.sl coordT, t0⟩, ⟨.fn 77 .unit .unit, ((), ())⟩, ⟨.fn 78 .unit .unit, ((), ())⟩] ++ tops 3 ++ [⟨.int .i64, t6⟩, ⟨.bool, t7⟩] ++ tops 2 ++ [⟨.int .i64, t10⟩, ⟨.int .i64, t11⟩] ++ tops 25, [], List.replicate 37 none⟩
    (loopK (E76 G77 G78 k0) (evCall (E76 G77 G78 k0) 1) An76 (sub [1, 0, 1, 0, 0] (bodyOf Try.f76)) 0 ko1 (blockK 0 (seqK (E76 G77 G78 k0) (evCall (E76 G77 G78 k0) 1) An76 (sub [1, 1] (bodyOf Try.f76)) (retK (E76 G77 G78 k0) 0 Try.f76.results.toList fun v _ => castTo R76 v))))
theorem F76_eq (G77 : T77 → Option U77) (G78 : T78 → Option U78) (k0 : Nat) (l : List Coord) : F76 G77 G78 k0 l = L76_2 G77 G78 k0 k0 (l) (0) (false) (lenI l) (0) := by kernel_rfl
theorem L76_2_step (G77 : T77 → Option U77) (G78 : T78 → Option U78) (k0 k : Nat) (t0 : List Coord) (t6 : Int) (t7 : Bool) (t10 : Int) (t11 : Int) : L76_2 G77 G78 k0 (k + 1) t0 t6 t7 t10 t11 =
    br (decide (t11 < t10)) (J76_3 G77 G78 k0 k k0 (t0) (t6) (t7) (t10) (t11)) (some (t6, t7)) := by kernel_rfl
theorem J76_3_eq (G77 : T77 → Option U77) (G78 : T78 → Option U78) (k0 ko1 k : Nat) (t0 : List Coord) (t6 : Int) (t7 : Bool) (t10 : Int) (t11 : Int) : J76_3 G77 G78 k0 ko1 (k + 1) t0 t6 t7 t10 t11 =
    Option.bind (idx t0 t11) fun y => Option.bind (G77 y) fun y_1 => br y_1 (br (!t7) (L76_2 G77 G78 k0 ko1 (t0) (t11) (true) (t10) (IntKind.wrap IntKind.i64 (t11 + 1))) (Option.bind (idx t0 t11) fun y_2 => Option.bind (idx t0 t6) fun y_3 => Option.bind (G78 (y_2, y_3)) fun y => br y (L76_2 G77 G78 k0 ko1 (t0) (t11) (true) (t10) (IntKind.wrap IntKind.i64 (t11 + 1))) (L76_2 G77 G78 k0 ko1 (t0) (t6) (t7) (t10) (IntKind.wrap IntKind.i64 (t11 + 1))))) (L76_2 G77 G78 k0 ko1 (t0) (t6) (t7) (t10) (IntKind.wrap IntKind.i64 (t11 + 1))) := by kernel_rfl
theorem C76 {G77 : T77 → Option U77} (h77 : CtrAll Try.prog ⟨77, A77, R77, G77⟩) {G78 : T78 → Option U78} (h78 : CtrAll Try.prog ⟨78, A78, R78, G78⟩) {G : T76 → Option U76} (h : ∀ x y, G x = some y → ∃ k0, F76 G77 G78 k0 x.1 = some y) : CtrAll Try.prog ⟨76, A76, R76, G⟩ := by
  refine ctr_of mixed ⟨Try.f76, Try.func76, by decide, rfl⟩ rfl rfl fun x y hx => ?_
  obtain ⟨k0, hk⟩ := h x y hx
  exact ⟨E76 G77 G78 k0, 2, base.env (⟨h77, h78, trivial⟩ : CtrsOK Try.prog [⟨77, A77, R77, G77⟩, ⟨78, A78, R78, G78⟩]) ⟨⟨Try.func76, by decide⟩, trivial⟩, hk⟩

/-! roving/clock.Oldest -/
abbrev A32 : Ty := stateT
abbrev R32 : Ty := .tup (.pr (.int .i64) .bool)
abbrev T32 : Type := State
abbrev U32 : Type := Int × Bool
noncomputable def E32 (G76 : T76 → Option U76) (k : Nat) : Env := mk [⟨76, A76, R76, G76⟩] [(32, Try.f32)] k
noncomputable def F32 (G76 : T76 → Option U76) (k0 : Nat) (s : State) : Option U32 := sem (E32 G76 k0) 2 32 A32 R32 (s : T32)
theorem F32_eq (G76 : T76 → Option U76)  (s : State) : F32 G76 8 s = Option.bind (G76 ([s.2.1.1, s.2.1.2.1, s.2.1.2.2], ((), ()), (), ())) fun y => some (y.1, y.2) := by kernel_rfl
theorem C32 {G76 : T76 → Option U76} (h76 : CtrAll Try.prog ⟨76, A76, R76, G76⟩) {G : T32 → Option U32} (h : ∀ x y, G x = some y → ∃ k0, F32 G76 k0 x = some y) : CtrAll Try.prog ⟨32, A32, R32, G⟩ := by
  refine ctr_of mixed ⟨Try.f32, Try.func32, by decide, rfl⟩ rfl rfl fun x y hx => ?_
  obtain ⟨k0, hk⟩ := h x y hx
  exact ⟨E32 G76 k0, 2, base.env (⟨h76, trivial⟩ : CtrsOK Try.prog [⟨76, A76, R76, G76⟩]) ⟨⟨Try.func32, by decide⟩, trivial⟩, hk⟩

/-! roving/rovingref20.Same -/
abbrev A31 : Ty := .pr stateT stateT
abbrev R31 : Ty := .bool
abbrev T31 : Type := State × State
abbrev U31 : Type := Bool
noncomputable def E31 (G30 : T30 → Option U30) (k : Nat) : Env := mk [⟨30, A30, R30, G30⟩] [(31, Try.f31)] k
noncomputable def F31 (G30 : T30 → Option U30) (k0 : Nat) (s : State) (t : State) : Option U31 := sem (E31 G30 k0) 2 31 A31 R31 ((s, t) : T31)
theorem F31_eq (G30 : T30 → Option U30)  (s : State) (t : State) : F31 G30 8 s t = Option.bind (G30 (s.2.1.1, t.2.1.1)) fun y => br (!y) (some false) (Option.bind (G30 (s.2.1.2.1, t.2.1.2.1)) fun y => br (!y) (some false) (Option.bind (G30 (s.2.1.2.2, t.2.1.2.2)) fun y => br (!y) (some false) (br (eqI s.1 t.1) (some (eqI s.2.2.1.1 t.2.2.1.1 && (eqI s.2.2.1.2.1 t.2.2.1.2.1 && eqI s.2.2.1.2.2 t.2.2.1.2.2) && (eqI s.2.2.2.1 t.2.2.2.1 && (eqI s.2.2.2.2.1 t.2.2.2.2.1 && eqI s.2.2.2.2.2 t.2.2.2.2.2)))) (some false)))) := by kernel_rfl
theorem C31 {G30 : T30 → Option U30} (h30 : CtrAll Try.prog ⟨30, A30, R30, G30⟩) {G : T31 → Option U31} (h : ∀ x y, G x = some y → ∃ k0, F31 G30 k0 x.1 x.2 = some y) : CtrAll Try.prog ⟨31, A31, R31, G⟩ := by
  refine ctr_of mixed ⟨Try.f31, Try.func31, by decide, rfl⟩ rfl rfl fun x y hx => ?_
  obtain ⟨k0, hk⟩ := h x y hx
  exact ⟨E31 G30 k0, 2, base.env (⟨h30, trivial⟩ : CtrsOK Try.prog [⟨30, A30, R30, G30⟩]) ⟨⟨Try.func31, by decide⟩, trivial⟩, hk⟩

/-! roving/meta.Same -/
abbrev A51 : Ty := .pr stateT stateT
abbrev R51 : Ty := .bool
abbrev T51 : Type := State × State
abbrev U51 : Type := Bool
noncomputable def E51 (G20 : T20 → Option U20) (k : Nat) : Env := mk [⟨20, A20, R20, G20⟩] [(51, Try.f51)] k
noncomputable def F51 (G20 : T20 → Option U20) (k0 : Nat) (s : State) (t : State) : Option U51 := sem (E51 G20 k0) 2 51 A51 R51 ((s, t) : T51)
theorem F51_eq (G20 : T20 → Option U20)  (s : State) (t : State) : F51 G20 8 s t = Option.bind (G20 (s.2.1.1, t.2.1.1)) fun y => br (!y) (some false) (Option.bind (G20 (s.2.1.2.1, t.2.1.2.1)) fun y => br (!y) (some false) (Option.bind (G20 (s.2.1.2.2, t.2.1.2.2)) fun y => br (!y) (some false) (br (eqI s.1 t.1) (some (eqI s.2.2.1.1 t.2.2.1.1 && (eqI s.2.2.1.2.1 t.2.2.1.2.1 && eqI s.2.2.1.2.2 t.2.2.1.2.2) && (eqI s.2.2.2.1 t.2.2.2.1 && (eqI s.2.2.2.2.1 t.2.2.2.2.1 && eqI s.2.2.2.2.2 t.2.2.2.2.2)))) (some false)))) := by kernel_rfl
theorem C51 {G20 : T20 → Option U20} (h20 : CtrAll Try.prog ⟨20, A20, R20, G20⟩) {G : T51 → Option U51} (h : ∀ x y, G x = some y → ∃ k0, F51 G20 k0 x.1 x.2 = some y) : CtrAll Try.prog ⟨51, A51, R51, G⟩ := by
  refine ctr_of mixed ⟨Try.f51, Try.func51, by decide, rfl⟩ rfl rfl fun x y hx => ?_
  obtain ⟨k0, hk⟩ := h x y hx
  exact ⟨E51 G20 k0, 2, base.env (⟨h20, trivial⟩ : CtrsOK Try.prog [⟨20, A20, R20, G20⟩]) ⟨⟨Try.func51, by decide⟩, trivial⟩, hk⟩

end Go.Ev.R3

set_option linter.unusedVariables false
set_option maxRecDepth 100000
namespace Go.Ev.R3
open Go.Proofs

/-! States. -/

def FitS (s : State) : Prop := Fit s.2.1.1 ∧ Fit s.2.1.2.1 ∧ Fit s.2.1.2.2
instance (s : State) : Decidable (FitS s) := by unfold FitS; infer_instance

def ofM (s : State) (p : Int) : Int × Bool :=
  if p > 0 then (if s.2.1.1.2.1 = p then (0, true) else if s.2.1.2.1.2.1 = p then (1, true) else if s.2.1.2.2.2.1 = p then (2, true) else (0, false)) else (0, false)
def G90 : T90 → Option U90 := fun x => some (ofM x.1 x.2)
theorem of_eq (s : State) (p : Int) : F90 8 s p = some (ofM s p) := by
  rw [F90_eq]
  unfold ofM eqI
  simp only [br_dec]
  (repeat' split) <;> first | rfl | omega | contradiction
theorem c90 : CtrAll Try.prog ⟨90, A90, R90, G90⟩ := C90 fun x y h => ⟨8, (of_eq x.1 x.2).trans h⟩

/-- the offsets are right -/
def OffP (s : State) : Prop := ((-1 ≤ s.2.2.1.1 ∧ s.2.2.1.1 ≤ 1048576) ∧ (-1 ≤ s.2.2.1.2.1 ∧ s.2.2.1.2.1 ≤ 1048576) ∧ (-1 ≤ s.2.2.1.2.2 ∧ s.2.2.1.2.2 ≤ 1048576)) ∧
  ((-1 ≤ s.2.2.2.1 ∧ s.2.2.2.1 ≤ 1048576) ∧ (-1 ≤ s.2.2.2.2.1 ∧ s.2.2.2.2.1 ≤ 1048576) ∧ (-1 ≤ s.2.2.2.2.2 ∧ s.2.2.2.2.2 ≤ 1048576))
def HeadP (s : State) : Prop := (0 ≤ s.1 ∧ s.1 ≤ 8) ∧ (MayP s.2.1.1 ∧ s.2.1.1.2.1 ≤ s.1) ∧ (MayP s.2.1.2.1 ∧ s.2.1.2.1.2.1 ≤ s.1) ∧ (MayP s.2.1.2.2 ∧ s.2.1.2.2.2.1 ≤ s.1) ∧
  ¬ (s.2.1.2.1.2.1 > 0 ∧ s.2.1.1.2.1 = s.2.1.2.1.2.1) ∧ ¬ (s.2.1.2.2.2.1 > 0 ∧ s.2.1.1.2.1 = s.2.1.2.2.2.1) ∧ ¬ (s.2.1.2.2.2.1 > 0 ∧ s.2.1.2.1.2.1 = s.2.1.2.2.2.1)
def MayS (s : State) : Prop := HeadP s ∧ OffP s
noncomputable def mayS (s : State) : Bool := B (MayS s)
theorem mayS_iff {s : State} : mayS s = true ↔ MayS s := B_iff
theorem maySeq (s : State) : mayS s = (B (HeadP s) && B (OffP s)) := B_and _ _

def tailF (s : State) : Option Bool := br (decide (s.2.2.1.1 < -1)) (some false) (br (decide (s.2.2.1.1 > 1048576)) (some false) (br (decide (s.2.2.1.2.1 < -1)) (some false) (br (decide (s.2.2.1.2.1 > 1048576)) (some false) (br (decide (s.2.2.1.2.2 < -1)) (some false) (br (decide (s.2.2.1.2.2 > 1048576)) (some false) (br (decide (s.2.2.2.1 < -1)) (some false) (br (decide (s.2.2.2.1 > 1048576)) (some false) (br (decide (s.2.2.2.2.1 < -1)) (some false) (br (decide (s.2.2.2.2.1 > 1048576)) (some false) (br (decide (s.2.2.2.2.2 < -1)) (some false) (br (decide (s.2.2.2.2.2 > 1048576)) (some false) (some true))))))))))))
theorem ite_B {p : Prop} [Decidable p] {q : Prop} {x : Option Bool} (h : x = some (B q)) : br (decide p) (some false) x = some (B (¬ p ∧ q)) := by
  by_cases hp : p
  · rw [dT hp, brT, B_false (fun k => k.1 hp)]
  · rw [dF hp, brF, h, B_congr (show q ↔ ¬ p ∧ q from ⟨fun k => ⟨hp, k⟩, fun k => k.2⟩)]
theorem iteN_B {p : Prop} [Decidable p] {q : Prop} {x : Option Bool} (h : x = some (B q)) : br (!decide p) (some false) x = some (B (p ∧ q)) := by
  by_cases hp : p
  · rw [dT hp, Bool.not_true, brF, h, B_congr (show q ↔ p ∧ q from ⟨fun k => ⟨hp, k⟩, fun k => k.2⟩)]
  · rw [dF hp, Bool.not_false, brT, B_false (fun k => hp k.1)]
theorem may_B {c : Coord} {q : Prop} {x : Option Bool} (h : x = some (B q)) : br (!mayM c) (some false) x = some (B (MayP c ∧ q)) := by
  by_cases hp : MayP c
  · rw [mayT hp, Bool.not_true, brF, h, B_congr (show q ↔ MayP c ∧ q from ⟨fun k => ⟨hp, k⟩, fun k => k.2⟩)]
  · rw [mayF hp, Bool.not_false, brT, B_false (fun k => hp k.1)]
theorem two_B {p r : Prop} [Decidable p] [Decidable r] {q : Prop} {x : Option Bool} (h : x = some (B q)) : br (decide p) (br (!decide r) (some false) x) x = some (B ((p → r) ∧ q)) := by
  by_cases hp : p
  · rw [dT hp, brT, iteN_B h, B_congr (show (r ∧ q) ↔ ((p → r) ∧ q) from ⟨fun k => ⟨fun _ => k.1, k.2⟩, fun k => ⟨k.1 hp, k.2⟩⟩)]
  · rw [dF hp, brF, h, B_congr (show q ↔ ((p → r) ∧ q) from ⟨fun k => ⟨fun k => absurd k hp, k⟩, fun k => k.2⟩)]
theorem two_B' {p r : Prop} [Decidable p] [Decidable r] {q : Prop} {x : Option Bool} (h : x = some (B q)) : br (decide p) (br (decide r) (some false) x) x = some (B ((p → ¬ r) ∧ q)) := by
  by_cases hp : p
  · rw [dT hp, brT, ite_B h, B_congr (show (¬ r ∧ q) ↔ ((p → ¬ r) ∧ q) from ⟨fun k => ⟨fun _ => k.1, k.2⟩, fun k => ⟨k.1 hp, k.2⟩⟩)]
  · rw [dF hp, brF, h, B_congr (show q ↔ ((p → ¬ r) ∧ q) from ⟨fun k => ⟨fun k => absurd k hp, k⟩, fun k => k.2⟩)]
theorem end_B : (some true : Option Bool) = some (B True) := by rw [B_true trivial]

theorem tail_eq (s : State) : tailF s = some (B (OffP s)) := by
  unfold tailF
  refine (ite_B (ite_B (ite_B (ite_B (ite_B (ite_B (ite_B (ite_B (ite_B (ite_B (ite_B (ite_B end_B)))))))))))).trans (congrArg some (B_congr ?_))
  unfold OffP
  simp only [and_true]
  omega

theorem of0 {s : State} (h : s.2.1.1.2.1 > 0) : (ofM s s.2.1.1.2.1).1 = 0 := by unfold ofM; rw [if_pos h, if_pos rfl]
theorem of1 {s : State} (h : s.2.1.2.1.2.1 > 0) : (ofM s s.2.1.2.1.2.1).1 = 1 ↔ ¬ s.2.1.1.2.1 = s.2.1.2.1.2.1 := by
  unfold ofM
  rw [if_pos h]
  by_cases e : s.2.1.1.2.1 = s.2.1.2.1.2.1
  · rw [if_pos e]; simp [e]
  · rw [if_neg e, if_pos rfl]; simp [e]
theorem of2 {s : State} (h : s.2.1.2.2.2.1 > 0) : (ofM s s.2.1.2.2.2.1).1 = 2 ↔ ¬ s.2.1.1.2.1 = s.2.1.2.2.2.1 ∧ ¬ s.2.1.2.1.2.1 = s.2.1.2.2.2.1 := by
  unfold ofM
  rw [if_pos h]
  by_cases e : s.2.1.1.2.1 = s.2.1.2.2.2.1
  · rw [if_pos e]; simp [e]
  · rw [if_neg e]
    by_cases e2 : s.2.1.2.1.2.1 = s.2.1.2.2.2.1
    · rw [if_pos e2]; simp [e2]
    · rw [if_neg e2, if_pos rfl]; simp [e, e2]

theorem mayS_eq (s : State) (hf : FitS s) : F74 G21 G90 8 s = some (mayS s) := by
  have e : F74 G21 G90 8 s = br (decide (s.1 < 0)) (some false) (br (decide (s.1 > 8)) (some false) (Option.bind (G21 s.2.1.1) fun y => br (!y) (some false) (br (decide (s.2.1.1.2.1 > s.1)) (some false) (Option.bind (G90 (s, s.2.1.1.2.1)) fun y => br (decide (s.2.1.1.2.1 > 0)) (br (!eqI y.1 0) (some false) (Option.bind (G21 s.2.1.2.1) fun y => br (!y) (some false) (br (decide (s.2.1.2.1.2.1 > s.1)) (some false) (Option.bind (G90 (s, s.2.1.2.1.2.1)) fun y => br (decide (s.2.1.2.1.2.1 > 0)) (br (!eqI y.1 1) (some false) (Option.bind (G21 s.2.1.2.2) fun y => br (!y) (some false) (br (decide (s.2.1.2.2.2.1 > s.1)) (some false) (Option.bind (G90 (s, s.2.1.2.2.2.1)) fun y => br (decide (s.2.1.2.2.2.1 > 0)) (br (!eqI y.1 2) (some false) (tailF s)) (tailF s))))) (Option.bind (G21 s.2.1.2.2) fun y => br (!y) (some false) (br (decide (s.2.1.2.2.2.1 > s.1)) (some false) (Option.bind (G90 (s, s.2.1.2.2.2.1)) fun y => br (decide (s.2.1.2.2.2.1 > 0)) (br (!eqI y.1 2) (some false) (tailF s)) (tailF s)))))))) (Option.bind (G21 s.2.1.2.1) fun y => br (!y) (some false) (br (decide (s.2.1.2.1.2.1 > s.1)) (some false) (Option.bind (G90 (s, s.2.1.2.1.2.1)) fun y => br (decide (s.2.1.2.1.2.1 > 0)) (br (!eqI y.1 1) (some false) (Option.bind (G21 s.2.1.2.2) fun y => br (!y) (some false) (br (decide (s.2.1.2.2.2.1 > s.1)) (some false) (Option.bind (G90 (s, s.2.1.2.2.2.1)) fun y => br (decide (s.2.1.2.2.2.1 > 0)) (br (!eqI y.1 2) (some false) (tailF s)) (tailF s))))) (Option.bind (G21 s.2.1.2.2) fun y => br (!y) (some false) (br (decide (s.2.1.2.2.2.1 > s.1)) (some false) (Option.bind (G90 (s, s.2.1.2.2.2.1)) fun y => br (decide (s.2.1.2.2.2.1 > 0)) (br (!eqI y.1 2) (some false) (tailF s)) (tailF s))))))))))) := F74_eq G21 G90 s
  rw [e]
  simp only [g21 hf.1, g21 hf.2.1, g21 hf.2.2, G90, Option.bind_some]
  refine (ite_B (ite_B (may_B (ite_B (two_B (may_B (ite_B (two_B (may_B (ite_B (two_B (tail_eq s)))))))))))).trans (congrArg some (B_congr ?_))
  unfold MayS HeadP
  constructor
  · rintro ⟨h1, h2, h3, h4, h5, h6, h7, h8, h9, h10, h11, h12⟩
    refine ⟨⟨by omega, ⟨h3, by omega⟩, ⟨h6, by omega⟩, ⟨h9, by omega⟩, fun k => ?_, fun k => ?_, fun k => ?_⟩, h12⟩
    · exact (of1 k.1).1 (h8 k.1) k.2
    · exact ((of2 k.1).1 (h11 k.1)).1 k.2
    · exact ((of2 k.1).1 (h11 k.1)).2 k.2
  · rintro ⟨⟨h1, ⟨h2, h3⟩, ⟨h4, h5⟩, ⟨h6, h7⟩, h8, h9, h10⟩, h11⟩
    exact ⟨by omega, by omega, h2, by omega, fun k => of0 k, h4, by omega, fun k => (of1 k).2 (fun e => h8 ⟨k, e⟩), h6, by omega, fun k => (of2 k).2 ⟨fun e => h9 ⟨k, e⟩, fun e => h10 ⟨k, e⟩⟩, h11⟩
noncomputable def G74 : T74 → Option U74 := fun s => if FitS s then some (mayS s) else none
theorem c74 : CtrAll Try.prog ⟨74, A74, R74, G74⟩ := C74 c21 c90 fun x y h => by
  unfold G74 at h
  split at h
  · rename_i hb; exact ⟨8, (mayS_eq x hb).trans h⟩
  · cases h
end Go.Ev.R3
