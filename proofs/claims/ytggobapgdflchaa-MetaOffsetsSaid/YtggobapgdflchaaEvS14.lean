import Derived.Test.YtggobapgdflchaaEvS13
set_option linter.unusedVariables false
set_option maxRecDepth 100000
namespace Go.Ev.R3
open Go.Proofs

/-! roving/metalog.within -/
abbrev A108 : Ty := .pr (.int .i64) (.pr (.int .i64) (.int .i64))
abbrev R108 : Ty := .bool
abbrev T108 : Type := Pend
abbrev U108 : Type := Bool
noncomputable def E108 (k : Nat) : Env := mk [] [(108, Try.f108)] k
noncomputable def F108 (k0 : Nat) (n : Int) (a : Int) (b : Int) : Option U108 := sem (E108 k0) 2 108 A108 R108 ((n, a, b) : T108)
theorem F108_eq  (n : Int) (a : Int) (b : Int) : F108 8 n a b = br (decide (n ≥ a)) (some (decide (n ≤ b))) (some false) := by kernel_rfl
theorem C108  {G : T108 → Option U108} (h : ∀ x y, G x = some y → ∃ k0, F108 k0 x.1 x.2.1 x.2.2 = some y) : CtrAll Try.prog ⟨108, A108, R108, G⟩ := by
  refine ctr_of mixed ⟨Try.f108, Try.func108, by decide, rfl⟩ rfl rfl fun x y hx => ?_
  obtain ⟨k0, hk⟩ := h x y hx
  exact ⟨E108 k0, 2, base.env (trivial : CtrsOK Try.prog []) ⟨⟨Try.func108, by decide⟩, trivial⟩, hk⟩

/-! roving/metalog.Same -/
abbrev A109 : Ty := .pr metaT metaT
abbrev R109 : Ty := .bool
abbrev T109 : Type := MetaE × MetaE
abbrev U109 : Type := Bool
noncomputable def E109 (G20 : T20 → Option U20) (k : Nat) : Env := mk [⟨20, A20, R20, G20⟩] [(109, Try.f109)] k
noncomputable def F109 (G20 : T20 → Option U20) (k0 : Nat) (e : MetaE) (g : MetaE) : Option U109 := sem (E109 G20 k0) 2 109 A109 R109 ((e, g) : T109)
theorem F109_eq (G20 : T20 → Option U20)  (e : MetaE) (g : MetaE) : F109 G20 8 e g = br (eqI e.1 g.1) (br (eqI e.2.1 g.2.1) (br (eqI e.2.2.1 g.2.2.1) (br (eqI e.2.2.2.1.1 g.2.2.2.1.1 && (eqI e.2.2.2.1.2.1 g.2.2.2.1.2.1 && eqI e.2.2.2.1.2.2 g.2.2.2.1.2.2)) (br (eqB e.2.2.2.2.1 g.2.2.2.2.1) (br (eqI e.2.2.2.2.2.1 g.2.2.2.2.2.1) (br (eqI e.2.2.2.2.2.2.2 g.2.2.2.2.2.2.2) (Option.bind (G20 (e.2.2.2.2.2.2.1, g.2.2.2.2.2.2.1)) fun y => some y) (some false)) (some false)) (some false)) (some false)) (some false)) (some false)) (some false) := by kernel_rfl
theorem C109 {G20 : T20 → Option U20} (h20 : CtrAll Try.prog ⟨20, A20, R20, G20⟩) {G : T109 → Option U109} (h : ∀ x y, G x = some y → ∃ k0, F109 G20 k0 x.1 x.2 = some y) : CtrAll Try.prog ⟨109, A109, R109, G⟩ := by
  refine ctr_of mixed ⟨Try.f109, Try.func109, by decide, rfl⟩ rfl rfl fun x y hx => ?_
  obtain ⟨k0, hk⟩ := h x y hx
  exact ⟨E109 G20 k0, 2, base.env (⟨h20, trivial⟩ : CtrsOK Try.prog [⟨20, A20, R20, G20⟩]) ⟨⟨Try.func109, by decide⟩, trivial⟩, hk⟩

/-! roving/metalog.kept -/
abbrev A110 : Ty := .ref metaT
abbrev R110 : Ty := metaT
abbrev T110 : Type := MetaE
abbrev U110 : Type := MetaE
noncomputable def E110 (k : Nat) : Env := mk [] [(110, Try.f110)] k
noncomputable def F110 (k0 : Nat) (e : MetaE) : Option U110 := sem (E110 k0) 2 110 A110 R110 (e : T110)
theorem F110_eq  (e : MetaE) : F110 8 e = br (eqI e.1 2) (some (e.1, e.2.1, 0, e.2.2.2.1, false, 0, (0, 0, 0, 0, 0, [], [], 0), 0)) (br (eqI e.1 5) (some (e.1, 0, 0, e.2.2.2.1, false, 0, (0, 0, 0, 0, 0, [], [], 0), 0)) (br (eqI e.1 3) (some (e.1, e.2.1, 0, (0, 0, 0), e.2.2.2.2.1, e.2.2.2.2.2.1, (0, 0, 0, 0, 0, [], [], 0), 0)) (br (eqI e.1 4) (some (e.1, e.2.1, 0, (0, 0, 0), false, 0, (0, 0, 0, 0, 0, [], [], 0), 0)) (br (eqI e.1 1) (some (e.1, e.2.1, e.2.2.1, (0, 0, 0), false, 0, (0, 0, 0, 0, 0, [], [], 0), 0)) (br (eqI e.1 6) (some (e.1, e.2.1, 0, (0, 0, 0), false, 0, e.2.2.2.2.2.2.1, 0)) (br (eqI e.1 7) (some (e.1, 0, 0, (0, 0, 0), false, 0, (0, 0, 0, 0, 0, [], [], 0), e.2.2.2.2.2.2.2)) (some (e.1, 0, 0, (0, 0, 0), false, 0, (0, 0, 0, 0, 0, [], [], 0), 0)))))))) := by kernel_rfl
theorem C110  {G : T110 → Option U110} (h : ∀ x y, G x = some y → ∃ k0, F110 k0 x = some y) : CtrAll Try.prog ⟨110, A110, R110, G⟩ := by
  refine ctr_of mixed ⟨Try.f110, Try.func110, by decide, rfl⟩ rfl rfl fun x y hx => ?_
  obtain ⟨k0, hk⟩ := h x y hx
  exact ⟨E110 k0, 2, base.env (trivial : CtrsOK Try.prog []) ⟨⟨Try.func110, by decide⟩, trivial⟩, hk⟩

/-! roving/metalog.mayPend -/
abbrev A111 : Ty := pendT
abbrev R111 : Ty := .bool
abbrev T111 : Type := Pend
abbrev U111 : Type := Bool
noncomputable def E111 (k : Nat) : Env := mk [] [(111, Try.f111), (108, Try.f108)] k
noncomputable def F111 (k0 : Nat) (p : Pend) : Option U111 := sem (E111 k0) 3 111 A111 R111 (p : T111)
theorem F111_eq  (p : Pend) : F111 8 p = br (decide (p.1 ≥ 0)) (br (decide (p.1 ≤ 1)) (br (decide (p.2.1 ≥ 0)) (br (decide (p.2.1 ≤ 2)) (br (decide (p.2.2 ≥ 0)) (some (decide (p.2.2 ≤ 1048576))) (some false)) (some false)) (some false)) (some false)) (some false) := by kernel_rfl
theorem C111  {G : T111 → Option U111} (h : ∀ x y, G x = some y → ∃ k0, F111 k0 x = some y) : CtrAll Try.prog ⟨111, A111, R111, G⟩ := by
  refine ctr_of mixed ⟨Try.f111, Try.func111, by decide, rfl⟩ rfl rfl fun x y hx => ?_
  obtain ⟨k0, hk⟩ := h x y hx
  exact ⟨E111 k0, 3, base.env (trivial : CtrsOK Try.prog []) ⟨⟨Try.func111, by decide⟩, ⟨Try.func108, by decide⟩, trivial⟩, hk⟩

/-! roving/metalog.May -/
abbrev A92 : Ty := metaT
abbrev R92 : Ty := .bool
abbrev T92 : Type := MetaE
abbrev U92 : Type := Bool
noncomputable def E92 (G108 : T108 → Option U108) (G109 : T109 → Option U109) (G110 : T110 → Option U110) (G111 : T111 → Option U111) (G21 : T21 → Option U21) (k : Nat) : Env := mkA ((900000, []) :: ann) [⟨108, A108, R108, G108⟩, ⟨109, A109, R109, G109⟩, ⟨110, A110, R110, G110⟩, ⟨111, A111, R111, G111⟩, ⟨21, A21, R21, G21⟩] [(92, Try.f92)] k
noncomputable def F92 (G108 : T108 → Option U108) (G109 : T109 → Option U109) (G110 : T110 → Option U110) (G111 : T111 → Option U111) (G21 : T21 → Option U21) (k0 : Nat) (e : MetaE) : Option U92 := sem (E92 G108 G109 G110 G111 G21 k0) 2 92 A92 R92 (e : T92)
theorem F92_eq (G108 : T108 → Option U108) (G109 : T109 → Option U109) (G110 : T110 → Option U110) (G111 : T111 → Option U111) (G21 : T21 → Option U21)  (e : MetaE) : F92 G108 G109 G110 G111 G21 8 e = Option.bind (G108 (IntKind.wrap IntKind.i64 e.1, 0, 7)) fun y => br (!y) (some false) (Option.bind (G110 e) fun y_1 => Option.bind (G109 (e, y_1)) fun y_2 => br (!y_2) (some false) (Option.bind (G108 (e.2.1, 0, 2)) fun y_3 => br (!y_3) (some false) (br (eqI e.1 1) (Option.bind (G108 (e.2.2.1, 1, 20)) fun y => some y) (br (eqI e.1 2) (br (eqI e.1 2) (Option.bind (G111 e.2.2.2.1) fun y => some y) (br (eqI e.1 3) (Option.bind (G108 (e.2.2.2.2.2.1, 0, 20)) fun y => br y (br e.2.2.2.2.1 (some !decide (e.2.2.2.2.2.1 > 0)) (some true)) (some false)) (br (eqI e.1 6) (br (eqI (lenI e.2.2.2.2.2.2.1.2.2.2.2.2.1) 0) (Option.bind (G21 e.2.2.2.2.2.2.1) fun y => some y) (some false)) (Option.bind (G108 (e.2.2.2.2.2.2.2, 0, 8)) fun y => some y)))) (br (eqI e.1 5) (Option.bind (G111 e.2.2.2.1) fun y => some y) (br (eqI e.1 3) (Option.bind (G108 (e.2.2.2.2.2.1, 0, 20)) fun y => br y (br e.2.2.2.2.1 (some !decide (e.2.2.2.2.2.1 > 0)) (some true)) (some false)) (br (eqI e.1 6) (br (eqI (lenI e.2.2.2.2.2.2.1.2.2.2.2.2.1) 0) (Option.bind (G21 e.2.2.2.2.2.2.1) fun y => some y) (some false)) (Option.bind (G108 (e.2.2.2.2.2.2.2, 0, 8)) fun y => some y)))))))) := by kernel_rfl
theorem C92 {G108 : T108 → Option U108} (h108 : CtrAll Try.prog ⟨108, A108, R108, G108⟩) {G109 : T109 → Option U109} (h109 : CtrAll Try.prog ⟨109, A109, R109, G109⟩) {G110 : T110 → Option U110} (h110 : CtrAll Try.prog ⟨110, A110, R110, G110⟩) {G111 : T111 → Option U111} (h111 : CtrAll Try.prog ⟨111, A111, R111, G111⟩) {G21 : T21 → Option U21} (h21 : CtrAll Try.prog ⟨21, A21, R21, G21⟩) {G : T92 → Option U92} (h : ∀ x y, G x = some y → ∃ k0, F92 G108 G109 G110 G111 G21 k0 x = some y) : CtrAll Try.prog ⟨92, A92, R92, G⟩ := by
  refine ctr_of mixed ⟨Try.f92, Try.func92, by decide, rfl⟩ rfl rfl fun x y hx => ?_
  obtain ⟨k0, hk⟩ := h x y hx
  exact ⟨E92 G108 G109 G110 G111 G21 k0, 2, base.env (⟨h108, h109, h110, h111, h21, trivial⟩ : CtrsOK Try.prog [⟨108, A108, R108, G108⟩, ⟨109, A109, R109, G109⟩, ⟨110, A110, R110, G110⟩, ⟨111, A111, R111, G111⟩, ⟨21, A21, R21, G21⟩]) ⟨⟨Try.func92, by decide⟩, trivial⟩, hk⟩

/-! roving/rovingref19.Same -/
abbrev A97 : Ty := .pr metaT metaT
abbrev R97 : Ty := .bool
abbrev T97 : Type := MetaE × MetaE
abbrev U97 : Type := Bool
noncomputable def E97 (G30 : T30 → Option U30) (k : Nat) : Env := mk [⟨30, A30, R30, G30⟩] [(97, Try.f97)] k
noncomputable def F97 (G30 : T30 → Option U30) (k0 : Nat) (e : MetaE) (g : MetaE) : Option U97 := sem (E97 G30 k0) 2 97 A97 R97 ((e, g) : T97)
theorem F97_eq (G30 : T30 → Option U30)  (e : MetaE) (g : MetaE) : F97 G30 8 e g = br (eqI e.1 g.1) (br (eqI e.2.1 g.2.1) (br (eqI e.2.2.1 g.2.2.1) (br (eqI e.2.2.2.2.2.1 g.2.2.2.2.2.1) (br (eqI e.2.2.2.1.1 g.2.2.2.1.1 && (eqI e.2.2.2.1.2.1 g.2.2.2.1.2.1 && eqI e.2.2.2.1.2.2 g.2.2.2.1.2.2)) (br (eqB e.2.2.2.2.1 g.2.2.2.2.1) (Option.bind (G30 (e.2.2.2.2.2.2.1, g.2.2.2.2.2.2.1)) fun y => br y (some (eqI e.2.2.2.2.2.2.2 g.2.2.2.2.2.2.2)) (some false)) (some false)) (some false)) (some false)) (some false)) (some false)) (some false) := by kernel_rfl
theorem C97 {G30 : T30 → Option U30} (h30 : CtrAll Try.prog ⟨30, A30, R30, G30⟩) {G : T97 → Option U97} (h : ∀ x y, G x = some y → ∃ k0, F97 G30 k0 x.1 x.2 = some y) : CtrAll Try.prog ⟨97, A97, R97, G⟩ := by
  refine ctr_of mixed ⟨Try.f97, Try.func97, by decide, rfl⟩ rfl rfl fun x y hx => ?_
  obtain ⟨k0, hk⟩ := h x y hx
  exact ⟨E97 G30 k0, 2, base.env (⟨h30, trivial⟩ : CtrsOK Try.prog [⟨30, A30, R30, G30⟩]) ⟨⟨Try.func97, by decide⟩, trivial⟩, hk⟩

/-! roving/rovingref19.bare -/
abbrev A98 : Ty := metaT
abbrev R98 : Ty := metaT
abbrev T98 : Type := MetaE
abbrev U98 : Type := MetaE
noncomputable def E98 (k : Nat) : Env := mk [] [(98, Try.f98)] k
noncomputable def F98 (k0 : Nat) (e : MetaE) : Option U98 := sem (E98 k0) 2 98 A98 R98 (e : T98)
theorem F98_eq  (e : MetaE) : F98 8 e = br (eqI e.1 1) (some (e.1, e.2.1, e.2.2.1, (0, 0, 0), false, 0, (0, 0, 0, 0, 0, [], [], 0), 0)) (br (eqI e.1 2) (some (e.1, e.2.1, 0, e.2.2.2.1, false, 0, (0, 0, 0, 0, 0, [], [], 0), 0)) (br (eqI e.1 3) (some (e.1, e.2.1, 0, (0, 0, 0), e.2.2.2.2.1, e.2.2.2.2.2.1, (0, 0, 0, 0, 0, [], [], 0), 0)) (br (eqI e.1 4) (some (e.1, e.2.1, 0, (0, 0, 0), false, 0, (0, 0, 0, 0, 0, [], [], 0), 0)) (br (eqI e.1 5) (some (e.1, 0, 0, e.2.2.2.1, false, 0, (0, 0, 0, 0, 0, [], [], 0), 0)) (br (eqI e.1 6) (some (e.1, e.2.1, 0, (0, 0, 0), false, 0, e.2.2.2.2.2.2.1, 0)) (br (eqI e.1 7) (some (e.1, 0, 0, (0, 0, 0), false, 0, (0, 0, 0, 0, 0, [], [], 0), e.2.2.2.2.2.2.2)) (some (e.1, 0, 0, (0, 0, 0), false, 0, (0, 0, 0, 0, 0, [], [], 0), 0)))))))) := by kernel_rfl
theorem C98  {G : T98 → Option U98} (h : ∀ x y, G x = some y → ∃ k0, F98 k0 x = some y) : CtrAll Try.prog ⟨98, A98, R98, G⟩ := by
  refine ctr_of mixed ⟨Try.f98, Try.func98, by decide, rfl⟩ rfl rfl fun x y hx => ?_
  obtain ⟨k0, hk⟩ := h x y hx
  exact ⟨E98 k0, 2, base.env (trivial : CtrsOK Try.prog []) ⟨⟨Try.func98, by decide⟩, trivial⟩, hk⟩

/-! roving/rovingref19.within -/
abbrev A99 : Ty := .pr (.int .i64) (.pr (.int .i64) (.int .i64))
abbrev R99 : Ty := .bool
abbrev T99 : Type := Pend
abbrev U99 : Type := Bool
noncomputable def E99 (k : Nat) : Env := mk [] [(99, Try.f99)] k
noncomputable def F99 (k0 : Nat) (n : Int) (a : Int) (b : Int) : Option U99 := sem (E99 k0) 2 99 A99 R99 ((n, a, b) : T99)
theorem F99_eq  (n : Int) (a : Int) (b : Int) : F99 8 n a b = br (decide (n ≥ a)) (some (decide (n ≤ b))) (some false) := by kernel_rfl
theorem C99  {G : T99 → Option U99} (h : ∀ x y, G x = some y → ∃ k0, F99 k0 x.1 x.2.1 x.2.2 = some y) : CtrAll Try.prog ⟨99, A99, R99, G⟩ := by
  refine ctr_of mixed ⟨Try.f99, Try.func99, by decide, rfl⟩ rfl rfl fun x y hx => ?_
  obtain ⟨k0, hk⟩ := h x y hx
  exact ⟨E99 k0, 2, base.env (trivial : CtrsOK Try.prog []) ⟨⟨Try.func99, by decide⟩, trivial⟩, hk⟩

/-! roving/rovingref19.pend -/
abbrev A100 : Ty := pendT
abbrev R100 : Ty := .bool
abbrev T100 : Type := Pend
abbrev U100 : Type := Bool
noncomputable def E100 (k : Nat) : Env := mk [] [(100, Try.f100), (99, Try.f99)] k
noncomputable def F100 (k0 : Nat) (p : Pend) : Option U100 := sem (E100 k0) 3 100 A100 R100 (p : T100)
theorem F100_eq  (p : Pend) : F100 8 p = br (decide (p.1 ≥ 0)) (br (decide (p.1 ≤ 1)) (br (decide (p.2.1 ≥ 0)) (br (decide (p.2.1 ≤ 2)) (br (decide (p.2.2 ≥ 0)) (some (decide (p.2.2 ≤ 1048576))) (some false)) (some false)) (some false)) (some false)) (some false) := by kernel_rfl
theorem C100  {G : T100 → Option U100} (h : ∀ x y, G x = some y → ∃ k0, F100 k0 x = some y) : CtrAll Try.prog ⟨100, A100, R100, G⟩ := by
  refine ctr_of mixed ⟨Try.f100, Try.func100, by decide, rfl⟩ rfl rfl fun x y hx => ?_
  obtain ⟨k0, hk⟩ := h x y hx
  exact ⟨E100 k0, 3, base.env (trivial : CtrsOK Try.prog []) ⟨⟨Try.func100, by decide⟩, ⟨Try.func99, by decide⟩, trivial⟩, hk⟩

/-! roving/rovingref19.May -/
abbrev A49 : Ty := metaT
abbrev R49 : Ty := .bool
abbrev T49 : Type := MetaE
abbrev U49 : Type := Bool
noncomputable def E49 (G97 : T97 → Option U97) (G98 : T98 → Option U98) (G99 : T99 → Option U99) (G100 : T100 → Option U100) (G17 : T17 → Option U17) (k : Nat) : Env := mk [⟨97, A97, R97, G97⟩, ⟨98, A98, R98, G98⟩, ⟨99, A99, R99, G99⟩, ⟨100, A100, R100, G100⟩, ⟨17, A17, R17, G17⟩] [(49, Try.f49)] k
noncomputable def F49 (G97 : T97 → Option U97) (G98 : T98 → Option U98) (G99 : T99 → Option U99) (G100 : T100 → Option U100) (G17 : T17 → Option U17) (k0 : Nat) (e : MetaE) : Option U49 := sem (E49 G97 G98 G99 G100 G17 k0) 2 49 A49 R49 (e : T49)
theorem F49_eq (G97 : T97 → Option U97) (G98 : T98 → Option U98) (G99 : T99 → Option U99) (G100 : T100 → Option U100) (G17 : T17 → Option U17)  (e : MetaE) : F49 G97 G98 G99 G100 G17 8 e = Option.bind (G98 e) fun y => Option.bind (G97 (e, y)) fun y_1 => br (!y_1) (some false) (Option.bind (G99 (e.2.1, 0, 2)) fun y_2 => br (!y_2) (some false) (br (eqI e.1 0) (br (eqI e.1 0) (some true) (br (eqI e.1 3) (Option.bind (G99 (e.2.2.2.2.2.1, 0, 20)) fun y => br y (br (!e.2.2.2.2.1) (some true) (some (eqI e.2.2.2.2.2.1 0))) (some false)) (br (eqI e.1 1) (Option.bind (G99 (e.2.2.1, 1, 20)) fun y => some y) (br (eqI e.1 2) (br (eqI e.1 2) (Option.bind (G100 e.2.2.2.1) fun y => some y) (br (eqI e.1 6) (Option.bind (G17 e.2.2.2.2.2.2.1) fun y => br y (some (eqI (lenI e.2.2.2.2.2.2.1.2.2.2.2.2.1) 0)) (some false)) (br (eqI e.1 7) (Option.bind (G99 (e.2.2.2.2.2.2.2, 0, 8)) fun y => some y) (some false)))) (br (eqI e.1 5) (Option.bind (G100 e.2.2.2.1) fun y => some y) (br (eqI e.1 6) (Option.bind (G17 e.2.2.2.2.2.2.1) fun y => br y (some (eqI (lenI e.2.2.2.2.2.2.1.2.2.2.2.2.1) 0)) (some false)) (br (eqI e.1 7) (Option.bind (G99 (e.2.2.2.2.2.2.2, 0, 8)) fun y => some y) (some false)))))))) (br (eqI e.1 4) (some true) (br (eqI e.1 3) (Option.bind (G99 (e.2.2.2.2.2.1, 0, 20)) fun y => br y (br (!e.2.2.2.2.1) (some true) (some (eqI e.2.2.2.2.2.1 0))) (some false)) (br (eqI e.1 1) (Option.bind (G99 (e.2.2.1, 1, 20)) fun y => some y) (br (eqI e.1 2) (br (eqI e.1 2) (Option.bind (G100 e.2.2.2.1) fun y => some y) (br (eqI e.1 6) (Option.bind (G17 e.2.2.2.2.2.2.1) fun y => br y (some (eqI (lenI e.2.2.2.2.2.2.1.2.2.2.2.2.1) 0)) (some false)) (br (eqI e.1 7) (Option.bind (G99 (e.2.2.2.2.2.2.2, 0, 8)) fun y => some y) (some false)))) (br (eqI e.1 5) (Option.bind (G100 e.2.2.2.1) fun y => some y) (br (eqI e.1 6) (Option.bind (G17 e.2.2.2.2.2.2.1) fun y => br y (some (eqI (lenI e.2.2.2.2.2.2.1.2.2.2.2.2.1) 0)) (some false)) (br (eqI e.1 7) (Option.bind (G99 (e.2.2.2.2.2.2.2, 0, 8)) fun y => some y) (some false)))))))))) := by kernel_rfl
theorem C49 {G97 : T97 → Option U97} (h97 : CtrAll Try.prog ⟨97, A97, R97, G97⟩) {G98 : T98 → Option U98} (h98 : CtrAll Try.prog ⟨98, A98, R98, G98⟩) {G99 : T99 → Option U99} (h99 : CtrAll Try.prog ⟨99, A99, R99, G99⟩) {G100 : T100 → Option U100} (h100 : CtrAll Try.prog ⟨100, A100, R100, G100⟩) {G17 : T17 → Option U17} (h17 : CtrAll Try.prog ⟨17, A17, R17, G17⟩) {G : T49 → Option U49} (h : ∀ x y, G x = some y → ∃ k0, F49 G97 G98 G99 G100 G17 k0 x = some y) : CtrAll Try.prog ⟨49, A49, R49, G⟩ := by
  refine ctr_of mixed ⟨Try.f49, Try.func49, by decide, rfl⟩ rfl rfl fun x y hx => ?_
  obtain ⟨k0, hk⟩ := h x y hx
  exact ⟨E49 G97 G98 G99 G100 G17 k0, 2, base.env (⟨h97, h98, h99, h100, h17, trivial⟩ : CtrsOK Try.prog [⟨97, A97, R97, G97⟩, ⟨98, A98, R98, G98⟩, ⟨99, A99, R99, G99⟩, ⟨100, A100, R100, G100⟩, ⟨17, A17, R17, G17⟩]) ⟨⟨Try.func49, by decide⟩, trivial⟩, hk⟩

/-! roving/rovingref19.Great -/
abbrev A41 : Ty := metaT
abbrev R41 : Ty := .bool
abbrev T41 : Type := MetaE
abbrev U41 : Type := Bool
noncomputable def E41 (G16 : T16 → Option U16) (k : Nat) : Env := mk [⟨16, A16, R16, G16⟩] [(41, Try.f41)] k
noncomputable def F41 (G16 : T16 → Option U16) (k0 : Nat) (e : MetaE) : Option U41 := sem (E41 G16 k0) 2 41 A41 R41 (e : T41)
theorem F41_eq (G16 : T16 → Option U16)  (e : MetaE) : F41 G16 8 e = br (decide (lenI e.2.2.2.2.2.2.1.2.2.2.2.2.1 > 40)) (some true) (some (decide (lenI e.2.2.2.2.2.2.1.2.2.2.2.2.2.1 > 40))) := by kernel_rfl
theorem C41 {G16 : T16 → Option U16} (h16 : CtrAll Try.prog ⟨16, A16, R16, G16⟩) {G : T41 → Option U41} (h : ∀ x y, G x = some y → ∃ k0, F41 G16 k0 x = some y) : CtrAll Try.prog ⟨41, A41, R41, G⟩ := by
  refine ctr_of mixed ⟨Try.f41, Try.func41, by decide, rfl⟩ rfl rfl fun x y hx => ?_
  obtain ⟨k0, hk⟩ := h x y hx
  exact ⟨E41 G16 k0, 2, base.env (⟨h16, trivial⟩ : CtrsOK Try.prog [⟨16, A16, R16, G16⟩]) ⟨⟨Try.func41, by decide⟩, trivial⟩, hk⟩

/-! roving/rovinglaw20.moves -/
abbrev A50 : Ty := metaT
abbrev R50 : Ty := .bool
abbrev T50 : Type := MetaE
abbrev U50 : Type := Bool
noncomputable def E50 (k : Nat) : Env := mk [] [(50, Try.f50)] k
noncomputable def F50 (k0 : Nat) (e : MetaE) : Option U50 := sem (E50 k0) 2 50 A50 R50 (e : T50)
theorem F50_eq  (e : MetaE) : F50 8 e = br (eqI e.1 2) (some true) (some (eqI e.1 3)) := by kernel_rfl
theorem C50  {G : T50 → Option U50} (h : ∀ x y, G x = some y → ∃ k0, F50 k0 x = some y) : CtrAll Try.prog ⟨50, A50, R50, G⟩ := by
  refine ctr_of mixed ⟨Try.f50, Try.func50, by decide, rfl⟩ rfl rfl fun x y hx => ?_
  obtain ⟨k0, hk⟩ := h x y hx
  exact ⟨E50 k0, 2, base.env (trivial : CtrsOK Try.prog []) ⟨⟨Try.func50, by decide⟩, trivial⟩, hk⟩

/-! roving/meta.Plain -/
abbrev A91 : Ty := .pr stateT (.int .i64)
abbrev R91 : Ty := .bool
abbrev T91 : Type := State × Int
abbrev U91 : Type := Bool
noncomputable def E91 (G90 : T90 → Option U90) (k : Nat) : Env := mk [⟨90, A90, R90, G90⟩] [(91, Try.f91)] k
noncomputable def F91 (G90 : T90 → Option U90) (k0 : Nat) (s : State) (p : Int) : Option U91 := sem (E91 G90 k0) 2 91 A91 R91 ((s, p) : T91)
theorem F91_eq (G90 : T90 → Option U90)  (s : State) (p : Int) : F91 G90 8 s p = Option.bind (G90 (s, p)) fun y => br (!y.2) (br (decide (p ≥ 1)) (some (decide (p ≤ s.1))) (some false)) (some false) := by kernel_rfl
theorem C91 {G90 : T90 → Option U90} (h90 : CtrAll Try.prog ⟨90, A90, R90, G90⟩) {G : T91 → Option U91} (h : ∀ x y, G x = some y → ∃ k0, F91 G90 k0 x.1 x.2 = some y) : CtrAll Try.prog ⟨91, A91, R91, G⟩ := by
  refine ctr_of mixed ⟨Try.f91, Try.func91, by decide, rfl⟩ rfl rfl fun x y hx => ?_
  obtain ⟨k0, hk⟩ := h x y hx
  exact ⟨E91 G90 k0, 2, base.env (⟨h90, trivial⟩ : CtrsOK Try.prog [⟨90, A90, R90, G90⟩]) ⟨⟨Try.func91, by decide⟩, trivial⟩, hk⟩

/-! roving/rovingref20.move -/
abbrev A94 : Ty := .pr coordT (.pr metaT (.int .i64))
abbrev R94 : Ty := .tup (.pr coordT (.int .i64))
abbrev T94 : Type := Coord × MetaE × Int
abbrev U94 : Type := Coord × Int
noncomputable def E94 (G82 : T82 → Option U82) (G84 : T84 → Option U84) (G85 : T85 → Option U85) (G86 : T86 → Option U86) (k : Nat) : Env := mk [⟨82, A82, R82, G82⟩, ⟨84, A84, R84, G84⟩, ⟨85, A85, R85, G85⟩, ⟨86, A86, R86, G86⟩] [(94, Try.f94)] k
noncomputable def F94 (G82 : T82 → Option U82) (G84 : T84 → Option U84) (G85 : T85 → Option U85) (G86 : T86 → Option U86) (k0 : Nat) (c : Coord) (e : MetaE) (m : Int) : Option U94 := sem (E94 G82 G84 G85 G86 k0) 2 94 A94 R94 ((c, e, m) : T94)
theorem F94_eq (G82 : T82 → Option U82) (G84 : T84 → Option U84) (G85 : T85 → Option U85) (G86 : T86 → Option U86)  (c : Coord) (e : MetaE) (m : Int) : F94 G82 G84 G85 G86 8 c e m = br (eqI e.1 1) (Option.bind (G82 (c, minI (IntKind.wrap IntKind.i64 (m + 1)) 8, e.2.2.1)) fun y => some (y.1, y.2)) (br (eqI e.1 2) (Option.bind (G84 (c, e.2.2.2.1)) fun y => some (y.1, y.2)) (br (eqI e.1 3) (Option.bind (G85 (c, e.2.2.2.2.1, e.2.2.2.2.2.1)) fun y => some (y.1, y.2)) (br (eqI e.1 4) (Option.bind (G86 c) fun y => some (y.1, y.2)) (some (e.2.2.2.2.2.2.1, 0))))) := by kernel_rfl
theorem C94 {G82 : T82 → Option U82} (h82 : CtrAll Try.prog ⟨82, A82, R82, G82⟩) {G84 : T84 → Option U84} (h84 : CtrAll Try.prog ⟨84, A84, R84, G84⟩) {G85 : T85 → Option U85} (h85 : CtrAll Try.prog ⟨85, A85, R85, G85⟩) {G86 : T86 → Option U86} (h86 : CtrAll Try.prog ⟨86, A86, R86, G86⟩) {G : T94 → Option U94} (h : ∀ x y, G x = some y → ∃ k0, F94 G82 G84 G85 G86 k0 x.1 x.2.1 x.2.2 = some y) : CtrAll Try.prog ⟨94, A94, R94, G⟩ := by
  refine ctr_of mixed ⟨Try.f94, Try.func94, by decide, rfl⟩ rfl rfl fun x y hx => ?_
  obtain ⟨k0, hk⟩ := h x y hx
  exact ⟨E94 G82 G84 G85 G86 k0, 2, base.env (⟨h82, h84, h85, h86, trivial⟩ : CtrsOK Try.prog [⟨82, A82, R82, G82⟩, ⟨84, A84, R84, G84⟩, ⟨85, A85, R85, G85⟩, ⟨86, A86, R86, G86⟩]) ⟨⟨Try.func94, by decide⟩, trivial⟩, hk⟩

end Go.Ev.R3

set_option linter.unusedVariables false
set_option maxRecDepth 100000
namespace Go.Ev.R3
open Go.Proofs

/-! Entries of the coordinator's log. -/

/-- an entry with the fields alone that its kind names -/
def keptM (e : MetaE) : MetaE :=
  (e.1, if e.1 = 1 ∨ e.1 = 2 ∨ e.1 = 3 ∨ e.1 = 4 ∨ e.1 = 6 then e.2.1 else 0, if e.1 = 1 then e.2.2.1 else 0, if e.1 = 2 ∨ e.1 = 5 then e.2.2.2.1 else (0, 0, 0), if e.1 = 3 then e.2.2.2.2.1 else false,
    if e.1 = 3 then e.2.2.2.2.2.1 else 0, if e.1 = 6 then e.2.2.2.2.2.2.1 else coord0, if e.1 = 7 then e.2.2.2.2.2.2.2 else 0)
theorem kind_cases (k : Int) : (k = 1 ∨ k = 2 ∨ k = 3 ∨ k = 4 ∨ k = 5 ∨ k = 6 ∨ k = 7) ∨ (k ≠ 1 ∧ k ≠ 2 ∧ k ≠ 3 ∧ k ≠ 4 ∧ k ≠ 5 ∧ k ≠ 6 ∧ k ≠ 7) := by omega
theorem kept110 (e : MetaE) : F110 8 e = some (keptM e) := by
  rw [F110_eq]
  unfold keptM coord0
  obtain ⟨k, r⟩ := e
  simp only [eqI]
  rcases kind_cases k with (rfl | rfl | rfl | rfl | rfl | rfl | rfl) | ⟨h1, h2, h3, h4, h5, h6, h7⟩
  · rfl
  · rfl
  · rfl
  · rfl
  · rfl
  · rfl
  · rfl
  · simp [br, h1, h2, h3, h4, h5, h6, h7]
theorem kept98 (e : MetaE) : F98 8 e = some (keptM e) := by
  rw [F98_eq]
  unfold keptM coord0
  obtain ⟨k, r⟩ := e
  simp only [eqI]
  rcases kind_cases k with (rfl | rfl | rfl | rfl | rfl | rfl | rfl) | ⟨h1, h2, h3, h4, h5, h6, h7⟩
  · rfl
  · rfl
  · rfl
  · rfl
  · rfl
  · rfl
  · rfl
  · simp [br, h1, h2, h3, h4, h5, h6, h7]
def G110 : T110 → Option U110 := fun e => some (keptM e)
theorem c110 : CtrAll Try.prog ⟨110, A110, R110, G110⟩ := C110 fun x y h => ⟨8, (kept110 x).trans h⟩
def G98 : T98 → Option U98 := fun e => some (keptM e)
theorem c98 : CtrAll Try.prog ⟨98, A98, R98, G98⟩ := C98 fun x y h => ⟨8, (kept98 x).trans h⟩
def withinM (n a b : Int) : Bool := decide (a ≤ n) && decide (n ≤ b)
theorem within_br (n a b : Int) : br (decide (n ≥ a)) (some (decide (n ≤ b))) (some false) = some (withinM n a b) := by
  unfold withinM
  by_cases h : a ≤ n
  · rw [dT (show n ≥ a from h)]; rfl
  · rw [dF (show ¬ n ≥ a from h)]; rfl
def G108 : T108 → Option U108 := fun x => some (withinM x.1 x.2.1 x.2.2)
theorem c108 : CtrAll Try.prog ⟨108, A108, R108, G108⟩ := C108 fun x y h => ⟨8, by rw [F108_eq, within_br]; exact h⟩
def G99 : T99 → Option U99 := fun x => some (withinM x.1 x.2.1 x.2.2)
theorem c99 : CtrAll Try.prog ⟨99, A99, R99, G99⟩ := C99 fun x y h => ⟨8, by rw [F99_eq, within_br]; exact h⟩
theorem pend_br (p : Pend) : br (decide (p.1 ≥ 0)) (br (decide (p.1 ≤ 1)) (br (decide (p.2.1 ≥ 0)) (br (decide (p.2.1 ≤ 2)) (br (decide (p.2.2 ≥ 0)) (some (decide (p.2.2 ≤ 1048576))) (some false)) (some false)) (some false)) (some false)) (some false) = some (pendB p) := by
  unfold pendB
  simp only [ge_iff_le]
  cases decide (0 ≤ p.1) <;> cases decide (p.1 ≤ 1) <;> cases decide (0 ≤ p.2.1) <;> cases decide (p.2.1 ≤ 2) <;> cases decide (0 ≤ p.2.2) <;> rfl
def G111 : T111 → Option U111 := fun p => some (pendB p)
theorem c111 : CtrAll Try.prog ⟨111, A111, R111, G111⟩ := C111 fun x y h => ⟨8, by rw [F111_eq, pend_br]; exact h⟩
def G100 : T100 → Option U100 := fun p => some (pendB p)
theorem c100 : CtrAll Try.prog ⟨100, A100, R100, G100⟩ := C100 fun x y h => ⟨8, by rw [F100_eq, pend_br]; exact h⟩

instance decM7 : DecidableEq (Coord × Int) := inferInstance
instance decM6 : DecidableEq (Int × Coord × Int) := inferInstance
instance decM5 : DecidableEq (Bool × Int × Coord × Int) := inferInstance
instance decM4 : DecidableEq (Pend × Bool × Int × Coord × Int) := inferInstance
instance decM : DecidableEq MetaE := inferInstanceAs (DecidableEq (Int × Int × Int × Pend × Bool × Int × Coord × Int))
/-- not too long, and of a kind that an entry may have in memory -/
def FitE (e : MetaE) : Prop := Fit e.2.2.2.2.2.2.1 ∧ I8 e.2.2.2.2.2.2.1 ∧ (-128 ≤ e.1 ∧ e.1 ≤ 127)
instance (e : MetaE) : Decidable (FitE e) := by unfold FitE; infer_instance
theorem eqBd (x y : Bool) : eqB x y = decide (x = y) := by cases x <;> cases y <;> rfl
theorem and_step {p q : Prop} [Decidable p] [Decidable q] {x : Option Bool} (h : x = some (decide q)) : br (decide p) x (some false) = some (decide (p ∧ q)) := by
  by_cases hp : p
  · rw [dT hp, brT, h]; simp [hp]
  · rw [dF hp, brF]; simp [hp]
theorem pend3 (p q : Pend) : (eqI p.1 q.1 && (eqI p.2.1 q.2.1 && eqI p.2.2 q.2.2)) = decide (p = q) := eqP_dec p q
theorem sameE109 (e g : MetaE) (hf : Fit e.2.2.2.2.2.2.1) : F109 G20 8 e g = some (decide (e = g)) := by
  have g20 : G20 (e.2.2.2.2.2.2.1, g.2.2.2.2.2.2.1) = some (sameM e.2.2.2.2.2.2.1 g.2.2.2.2.2.2.1) := if_pos hf
  rw [F109_eq, g20, pend3, eqBd]
  unfold eqI sameM
  simp only [Option.bind_some]
  rw [and_step (p := e.2.2.2.2.2.2.2 = g.2.2.2.2.2.2.2) (q := e.2.2.2.2.2.2.1 = g.2.2.2.2.2.2.1) rfl]
  rw [and_step (p := e.2.2.2.2.2.1 = g.2.2.2.2.2.1) rfl, and_step (p := e.2.2.2.2.1 = g.2.2.2.2.1) rfl, and_step (p := e.2.2.2.1 = g.2.2.2.1) rfl, and_step (p := e.2.2.1 = g.2.2.1) rfl, and_step (p := e.2.1 = g.2.1) rfl, and_step (p := e.1 = g.1) rfl]
  congr 1
  rw [decide_eq_decide]
  obtain ⟨a, b, c, d, f, h, i, j⟩ := e
  obtain ⟨a', b', c', d', f', h', i', j'⟩ := g
  simp only [Prod.mk.injEq]
  constructor
  · rintro ⟨h1, h2, h3, h4, h5, h6, h7, h8⟩; exact ⟨h1, h2, h3, h4, h5, h6, h8, h7⟩
  · rintro ⟨h1, h2, h3, h4, h5, h6, h8, h7⟩; exact ⟨h1, h2, h3, h4, h5, h6, h7, h8⟩
theorem sameE97 (e g : MetaE) (hf : Fit e.2.2.2.2.2.2.1) : F97 G30 8 e g = some (decide (e = g)) := by
  have g30 : G30 (e.2.2.2.2.2.2.1, g.2.2.2.2.2.2.1) = some (sameM e.2.2.2.2.2.2.1 g.2.2.2.2.2.2.1) := if_pos hf
  rw [F97_eq, g30, pend3, eqBd]
  unfold eqI sameM
  simp only [Option.bind_some]
  rw [and_step (p := e.2.2.2.2.2.2.1 = g.2.2.2.2.2.2.1) (q := e.2.2.2.2.2.2.2 = g.2.2.2.2.2.2.2) rfl]
  rw [and_step (p := e.2.2.2.2.1 = g.2.2.2.2.1) rfl, and_step (p := e.2.2.2.1 = g.2.2.2.1) rfl, and_step (p := e.2.2.2.2.2.1 = g.2.2.2.2.2.1) rfl, and_step (p := e.2.2.1 = g.2.2.1) rfl, and_step (p := e.2.1 = g.2.1) rfl, and_step (p := e.1 = g.1) rfl]
  congr 1
  rw [decide_eq_decide]
  obtain ⟨a, b, c, d, f, h, i, j⟩ := e
  obtain ⟨a', b', c', d', f', h', i', j'⟩ := g
  simp only [Prod.mk.injEq]
  constructor
  · rintro ⟨h1, h2, h3, h6, h4, h5, h7, h8⟩; exact ⟨h1, h2, h3, h4, h5, h6, h7, h8⟩
  · rintro ⟨h1, h2, h3, h4, h5, h6, h7, h8⟩; exact ⟨h1, h2, h3, h6, h4, h5, h7, h8⟩
def G109 : T109 → Option U109 := fun x => if Fit x.1.2.2.2.2.2.2.1 then some (decide (x.1 = x.2)) else none
theorem c109 : CtrAll Try.prog ⟨109, A109, R109, G109⟩ := C109 c20 fun x y h => by
  unfold G109 at h
  split at h
  · rename_i hb; exact ⟨8, (sameE109 x.1 x.2 hb).trans h⟩
  · cases h
def G97 : T97 → Option U97 := fun x => if Fit x.1.2.2.2.2.2.2.1 then some (decide (x.1 = x.2)) else none
theorem c97 : CtrAll Try.prog ⟨97, A97, R97, G97⟩ := C97 c30 fun x y h => by
  unfold G97 at h
  split at h
  · rename_i hb; exact ⟨8, (sameE97 x.1 x.2 hb).trans h⟩
  · cases h

/-- may an entry be? -/
def MayE (e : MetaE) : Prop := (0 ≤ e.1 ∧ e.1 ≤ 7) ∧ e = keptM e ∧ (0 ≤ e.2.1 ∧ e.2.1 ≤ 2) ∧ (e.1 = 1 → 1 ≤ e.2.2.1 ∧ e.2.2.1 ≤ 20) ∧ (e.1 = 2 ∨ e.1 = 5 → pendB e.2.2.2.1 = true) ∧
  (e.1 = 3 → (0 ≤ e.2.2.2.2.2.1 ∧ e.2.2.2.2.2.1 ≤ 20) ∧ ¬ (e.2.2.2.2.1 = true ∧ e.2.2.2.2.2.1 > 0)) ∧ (e.1 = 6 → e.2.2.2.2.2.2.1.2.2.2.2.2.1 = [] ∧ MayP e.2.2.2.2.2.2.1) ∧ (e.1 = 7 → 0 ≤ e.2.2.2.2.2.2.2 ∧ e.2.2.2.2.2.2.2 ≤ 8)
noncomputable def mayE (e : MetaE) : Bool := B (MayE e)
theorem mayE_iff {e : MetaE} : mayE e = true ↔ MayE e := B_iff
theorem some_B {p : Prop} {b : Bool} (h : b = true ↔ p) : some b = some (B p) := by
  congr 1
  cases hb : b with
  | true => exact (B_true (h.1 hb)).symm
  | false => exact (B_false fun k => by rw [h.2 k] at hb; cases hb).symm
theorem within_iff {n a b : Int} : withinM n a b = true ↔ a ≤ n ∧ n ≤ b := by unfold withinM; simp
theorem mayE92 (e : MetaE) (hf : FitE e) : F92 G108 G109 G110 G111 G21 8 e = some (mayE e) := by
  have g109 : ∀ g, G109 (e, g) = some (decide (e = g)) := fun g => if_pos hf.1
  have g110 : G110 e = some (keptM e) := rfl
  rw [F92_eq, w64 (by have := hf.2.2; omega) (by have := hf.2.2; omega)]
  simp only [G108, G111, g109, g110, g21 hf.1, Option.bind_some]
  unfold mayE
  by_cases hk : 0 ≤ e.1 ∧ e.1 ≤ 7
  · rw [within_iff.2 hk, Bool.not_true, brF]
    by_cases he : e = keptM e
    · rw [dT he, Bool.not_true, brF]
      by_cases ht : 0 ≤ e.2.1 ∧ e.2.1 ≤ 2
      · rw [within_iff.2 ht, Bool.not_true, brF]
        have hB : B (MayE e) = B ((e.1 = 1 → 1 ≤ e.2.2.1 ∧ e.2.2.1 ≤ 20) ∧ (e.1 = 2 ∨ e.1 = 5 → pendB e.2.2.2.1 = true) ∧ (e.1 = 3 → (0 ≤ e.2.2.2.2.2.1 ∧ e.2.2.2.2.2.1 ≤ 20) ∧ ¬ (e.2.2.2.2.1 = true ∧ e.2.2.2.2.2.1 > 0)) ∧ (e.1 = 6 → e.2.2.2.2.2.2.1.2.2.2.2.2.1 = [] ∧ MayP e.2.2.2.2.2.2.1) ∧ (e.1 = 7 → 0 ≤ e.2.2.2.2.2.2.2 ∧ e.2.2.2.2.2.2.2 ≤ 8)) :=
          B_congr ⟨fun h => h.2.2.2, fun h => ⟨hk, he, ht, h⟩⟩
        rw [hB]
        have hn : e.1 ≠ 7 → e.2.2.2.2.2.2.2 = 0 := fun h => by
          have := congrArg (fun g : MetaE => g.2.2.2.2.2.2.2) he
          simpa [keptM, h] using this
        obtain ⟨k, r⟩ := e
        have hk : 0 ≤ k ∧ k ≤ 7 := hk
        simp only at hn ⊢
        have hc : k = 0 ∨ k = 1 ∨ k = 2 ∨ k = 3 ∨ k = 4 ∨ k = 5 ∨ k = 6 ∨ k = 7 := by omega
        rcases hc with rfl | rfl | rfl | rfl | rfl | rfl | rfl | rfl
        · have := hn (by omega)
          exact some_B (by rw [within_iff]; simp; omega)
        · exact some_B (by rw [within_iff]; simp)
        · exact some_B (by simp)
        · show br (withinM r.2.2.2.2.1 0 20) (br r.2.2.2.1 (some !decide (r.2.2.2.2.1 > 0)) (some true)) (some false) = _
          by_cases hw : 0 ≤ r.2.2.2.2.1 ∧ r.2.2.2.2.1 ≤ 20
          · rw [within_iff.2 hw, brT]
            cases hy : r.2.2.2.1 with
            | true => exact some_B (by simp; omega)
            | false => exact some_B (by simp; omega)
          · rw [show withinM r.2.2.2.2.1 0 20 = false from by rw [← Bool.not_eq_true, within_iff]; exact hw, brF]
            exact some_B (by simp; intro a b; omega)
        · have := hn (by omega)
          exact some_B (by rw [within_iff]; simp; omega)
        · exact some_B (by simp)
        · show br (eqI (lenI r.2.2.2.2.2.1.2.2.2.2.2.1) 0) (some (mayM r.2.2.2.2.2.1)) (some false) = _
          by_cases hl : r.2.2.2.2.2.1.2.2.2.2.2.1 = []
          · rw [lenI_zero.2 hl, eqI_refl, brT]
            exact some_B (by rw [mayM_iff]; simp [hl])
          · rw [eqI_ne (fun h => hl (lenI_zero.1 h)), brF]
            exact some_B (by simp [hl])
        · exact some_B (by rw [within_iff]; simp)
      · rw [show withinM e.2.1 0 2 = false from by rw [← Bool.not_eq_true, within_iff]; exact ht, Bool.not_false, brT, B_false fun h => ht h.2.2.1]
    · rw [dF he, Bool.not_false, brT, B_false fun h => he h.2.1]
  · rw [show withinM e.1 0 7 = false from by rw [← Bool.not_eq_true, within_iff]; exact hk, Bool.not_false, brT, B_false fun h => hk h.1]
noncomputable def G92 : T92 → Option U92 := fun e => if FitE e then some (mayE e) else none
theorem c92 : CtrAll Try.prog ⟨92, A92, R92, G92⟩ := C92 c108 c109 c110 c111 c21 fun x y h => by
  unfold G92 at h
  split at h
  · rename_i hb; exact ⟨8, (mayE92 x hb).trans h⟩
  · cases h
end Go.Ev.R3
