import Derived.Test.YtggobapgdflchaaEvS3
set_option linter.unusedVariables false
set_option maxRecDepth 100000
namespace Go.Ev.R3
open Go.Proofs

/-! roving/states.rising[int] -/
abbrev A59 : Ty := .pr intsT (.pr (.fn 60 .unit .unit) (.fn 61 .unit .unit))
abbrev R59 : Ty := .bool
abbrev T59 : Type := Ints × (Unit × Unit) × Unit × Unit
abbrev U59 : Type := Bool
noncomputable def E59 (k : Nat) : Env := mk [] [(59, Try.f59), (60, Try.f60), (61, Try.f61), (67, Try.f67)] k
noncomputable def F59 (k0 : Nat) (l : Ints) : Option U59 := sem (E59 k0) 5 59 A59 R59 ((l, ((), ()), ((), ())) : T59)
def An59 : List (Nat × List Nat) := (look ann 59).getD []
noncomputable def L59_2 (k0 k : Nat) (t0 : Ints) (t9 : Ints) (t10 : Int) (t11 : Int) : Option U59 :=
  lp (E59 k0) (evCall (E59 k0) 4) An59 (sub [1, 0, 1, 0, 0] (bodyOf Try.f59)) 0 k ⟨[⟨intsT, t0⟩, ⟨.fn 60 .unit .unit, ((), ())⟩, ⟨.fn 61 .unit .unit, ((), ())⟩] ++ tops 6 ++ [⟨intsT, t9⟩, ⟨.int .i64, t10⟩, ⟨.int .i64, t11⟩] ++ tops 24, [], List.replicate 36 none⟩
    (blockK 0 (seqK (E59 k0) (evCall (E59 k0) 4) An59 (sub [1, 1] (bodyOf Try.f59)) (retK (E59 k0) 0 Try.f59.results.toList fun v _ => castTo R59 v)))
theorem F59_eq (k0 : Nat) (l : Ints) : F59 k0 l = L59_2 k0 k0 (l) (l) (lenI l) (0) := by kernel_rfl
theorem L59_2_step (k0 k : Nat) (t0 : Ints) (t9 : Ints) (t10 : Int) (t11 : Int) : L59_2 k0 (k + 1) t0 t9 t10 t11 =
    br (decide (t11 < t10)) (Option.bind (idx t9 t11) fun y => br (decide (y ≥ 0)) (br (!decide (y ≤ 2)) (some false) (br (decide (t11 > 0)) (Option.bind (idx t0 (IntKind.wrap IntKind.i64 (t11 - 1))) fun y_1 => br (!decide (y_1 < y)) (some false) (L59_2 k0 k (t0) (t9) (t10) (IntKind.wrap IntKind.i64 (t11 + 1)))) (L59_2 k0 k (t0) (t9) (t10) (IntKind.wrap IntKind.i64 (t11 + 1))))) (some false)) (some true) := by kernel_rfl
theorem C59  {G : T59 → Option U59} (h : ∀ x y, G x = some y → ∃ k0, F59 k0 x.1 = some y) : CtrAll Try.prog ⟨59, A59, R59, G⟩ := by
  refine ctr_of mixed ⟨Try.f59, Try.func59, by decide, rfl⟩ rfl rfl fun x y hx => ?_
  obtain ⟨k0, hk⟩ := h x y hx
  exact ⟨E59 k0, 5, base.env (trivial : CtrsOK Try.prog []) ⟨⟨Try.func59, by decide⟩, ⟨Try.func60, by decide⟩, ⟨Try.func61, by decide⟩, ⟨Try.func67, by decide⟩, trivial⟩, hk⟩

/-! roving/states.less -/
abbrev A61 : Ty := .pr (.int .i64) (.int .i64)
abbrev R61 : Ty := .bool
abbrev T61 : Type := Int × Int
abbrev U61 : Type := Bool
noncomputable def E61 (k : Nat) : Env := mk [] [(61, Try.f61)] k
noncomputable def F61 (k0 : Nat) (x0 : Int) (x1 : Int) : Option U61 := sem (E61 k0) 2 61 A61 R61 ((x0, x1) : T61)
theorem F61_eq (k0 : Nat) (x0 : Int) (x1 : Int) : F61 k0 x0 x1 = some (decide (x0 < x1)) := by kernel_rfl
theorem C61  {G : T61 → Option U61} (h : ∀ x y, G x = some y → ∃ k0, F61 k0 x.1 x.2 = some y) : CtrAll Try.prog ⟨61, A61, R61, G⟩ := by
  refine ctr_of mixed ⟨Try.f61, Try.func61, by decide, rfl⟩ rfl rfl fun x y hx => ?_
  obtain ⟨k0, hk⟩ := h x y hx
  exact ⟨E61 k0, 2, base.env (trivial : CtrsOK Try.prog []) ⟨⟨Try.func61, by decide⟩, trivial⟩, hk⟩

/-! roving/states.pend -/
abbrev A69 : Ty := pendT
abbrev R69 : Ty := .bool
abbrev T69 : Type := Pend
abbrev U69 : Type := Bool
noncomputable def E69 (k : Nat) : Env := mk [] [(69, Try.f69), (60, Try.f60), (67, Try.f67)] k
noncomputable def F69 (k0 : Nat) (x0 : Pend) : Option U69 := sem (E69 k0) 4 69 A69 R69 (x0 : T69)
theorem F69_eq (k0 : Nat) (x0 : Pend) : F69 k0 x0 = br (decide (x0.1 ≥ 0)) (br (decide (x0.1 ≤ 1)) (br (decide (x0.2.1 ≥ 0)) (br (decide (x0.2.1 ≤ 2)) (br (decide (x0.2.2 ≥ 0)) (some (decide (x0.2.2 ≤ 1048576))) (some false)) (some false)) (some false)) (some false)) (some false) := by kernel_rfl
theorem C69  {G : T69 → Option U69} (h : ∀ x y, G x = some y → ∃ k0, F69 k0 x = some y) : CtrAll Try.prog ⟨69, A69, R69, G⟩ := by
  refine ctr_of mixed ⟨Try.f69, Try.func69, by decide, rfl⟩ rfl rfl fun x y hx => ?_
  obtain ⟨k0, hk⟩ := h x y hx
  exact ⟨E69 k0, 4, base.env (trivial : CtrsOK Try.prog []) ⟨⟨Try.func69, by decide⟩, ⟨Try.func60, by decide⟩, ⟨Try.func67, by decide⟩, trivial⟩, hk⟩

/-! roving/states.ahead -/
abbrev A70 : Ty := .pr pendT pendT
abbrev R70 : Ty := .bool
abbrev T70 : Type := Pend × Pend
abbrev U70 : Type := Bool
noncomputable def E70 (k : Nat) : Env := mk [] [(70, Try.f70)] k
noncomputable def F70 (k0 : Nat) (x0 : Pend) (x1 : Pend) : Option U70 := sem (E70 k0) 2 70 A70 R70 ((x0, x1) : T70)
theorem F70_eq (k0 : Nat) (x0 : Pend) (x1 : Pend) : F70 k0 x0 x1 = br (decide (x0.1 < x1.1)) (some true) (br (eqI x0.1 x1.1) (some (decide (x0.2.1 < x1.2.1))) (some false)) := by kernel_rfl
theorem C70  {G : T70 → Option U70} (h : ∀ x y, G x = some y → ∃ k0, F70 k0 x.1 x.2 = some y) : CtrAll Try.prog ⟨70, A70, R70, G⟩ := by
  refine ctr_of mixed ⟨Try.f70, Try.func70, by decide, rfl⟩ rfl rfl fun x y hx => ?_
  obtain ⟨k0, hk⟩ := h x y hx
  exact ⟨E70 k0, 2, base.env (trivial : CtrsOK Try.prog []) ⟨⟨Try.func70, by decide⟩, trivial⟩, hk⟩

/-! roving/states.rising[roving/api.Pend] -/
abbrev A68 : Ty := .pr pendsT (.pr (.fn 69 .unit .unit) (.fn 70 .unit .unit))
abbrev R68 : Ty := .bool
abbrev T68 : Type := Pends × (Unit × Unit) × Unit × Unit
abbrev U68 : Type := Bool
noncomputable def E68 (G69 : T69 → Option U69) (G70 : T70 → Option U70) (k : Nat) : Env := mk [⟨69, A69, R69, G69⟩, ⟨70, A70, R70, G70⟩] [(68, Try.f68)] k
noncomputable def F68 (G69 : T69 → Option U69) (G70 : T70 → Option U70) (k0 : Nat) (l : Pends) : Option U68 := sem (E68 G69 G70 k0) 2 68 A68 R68 ((l, ((), ()), ((), ())) : T68)
def An68 : List (Nat × List Nat) := (look ann 68).getD []
noncomputable def L68_2 (G69 : T69 → Option U69) (G70 : T70 → Option U70) (k0 k : Nat) (t0 : Pends) (t9 : Pends) (t10 : Int) (t11 : Int) : Option U68 :=
  lp (E68 G69 G70 k0) (evCall (E68 G69 G70 k0) 1) An68 (sub [1, 0, 1, 0, 0] (bodyOf Try.f68)) 0 k ⟨[⟨pendsT, t0⟩, ⟨.fn 69 .unit .unit, ((), ())⟩, ⟨.fn 70 .unit .unit, ((), ())⟩] ++ tops 6 ++ [⟨pendsT, t9⟩, ⟨.int .i64, t10⟩, ⟨.int .i64, t11⟩] ++ tops 24, [], List.replicate 36 none⟩
    (blockK 0 (seqK (E68 G69 G70 k0) (evCall (E68 G69 G70 k0) 1) An68 (sub [1, 1] (bodyOf Try.f68)) (retK (E68 G69 G70 k0) 0 Try.f68.results.toList fun v _ => castTo R68 v)))
theorem F68_eq (G69 : T69 → Option U69) (G70 : T70 → Option U70) (k0 : Nat) (l : Pends) : F68 G69 G70 k0 l = L68_2 G69 G70 k0 k0 (l) (l) (lenI l) (0) := by kernel_rfl
theorem L68_2_step (G69 : T69 → Option U69) (G70 : T70 → Option U70) (k0 k : Nat) (t0 : Pends) (t9 : Pends) (t10 : Int) (t11 : Int) : L68_2 G69 G70 k0 (k + 1) t0 t9 t10 t11 =
    br (decide (t11 < t10)) (Option.bind (idx t9 t11) fun y => Option.bind (G69 y) fun y_1 => br (!y_1) (some false) (br (decide (t11 > 0)) (Option.bind (idx t0 (IntKind.wrap IntKind.i64 (t11 - 1))) fun y_2 => Option.bind (G70 (y_2, y)) fun y => br (!y) (some false) (L68_2 G69 G70 k0 k (t0) (t9) (t10) (IntKind.wrap IntKind.i64 (t11 + 1)))) (L68_2 G69 G70 k0 k (t0) (t9) (t10) (IntKind.wrap IntKind.i64 (t11 + 1))))) (some true) := by kernel_rfl
theorem C68 {G69 : T69 → Option U69} (h69 : CtrAll Try.prog ⟨69, A69, R69, G69⟩) {G70 : T70 → Option U70} (h70 : CtrAll Try.prog ⟨70, A70, R70, G70⟩) {G : T68 → Option U68} (h : ∀ x y, G x = some y → ∃ k0, F68 G69 G70 k0 x.1 = some y) : CtrAll Try.prog ⟨68, A68, R68, G⟩ := by
  refine ctr_of mixed ⟨Try.f68, Try.func68, by decide, rfl⟩ rfl rfl fun x y hx => ?_
  obtain ⟨k0, hk⟩ := h x y hx
  exact ⟨E68 G69 G70 k0, 2, base.env (⟨h69, h70, trivial⟩ : CtrsOK Try.prog [⟨69, A69, R69, G69⟩, ⟨70, A70, R70, G70⟩]) ⟨⟨Try.func68, by decide⟩, trivial⟩, hk⟩

/-! roving/states.what -/
abbrev A62 : Ty := coordT
abbrev R62 : Ty := .int .i64
abbrev T62 : Type := Coord
abbrev U62 : Type := Int
noncomputable def E62 (k : Nat) : Env := mk [] [(62, Try.f62)] k
noncomputable def F62 (k0 : Nat) (x0 : Coord) : Option U62 := sem (E62 k0) 2 62 A62 R62 (x0 : T62)
theorem F62_eq (k0 : Nat) (x0 : Coord) : F62 k0 x0 = br (eqI x0.1 1) (some 1) (br (eqI x0.1 5) (br (eqI x0.1 5) (some 1) (br (eqI x0.1 3) (some 3) (br (eqI x0.1 4) (some 3) (br (eqI x0.1 2) (some 2) (some 0))))) (br (eqI x0.1 6) (some 1) (br (eqI x0.1 3) (some 3) (br (eqI x0.1 4) (some 3) (br (eqI x0.1 2) (some 2) (some 0)))))) := by kernel_rfl
theorem C62  {G : T62 → Option U62} (h : ∀ x y, G x = some y → ∃ k0, F62 k0 x = some y) : CtrAll Try.prog ⟨62, A62, R62, G⟩ := by
  refine ctr_of mixed ⟨Try.f62, Try.func62, by decide, rfl⟩ rfl rfl fun x y hx => ?_
  obtain ⟨k0, hk⟩ := h x y hx
  exact ⟨E62 k0, 2, base.env (trivial : CtrsOK Try.prog []) ⟨⟨Try.func62, by decide⟩, trivial⟩, hk⟩

/-! slices.Equal[[]int,int] -/
abbrev A65 : Ty := .pr intsT intsT
abbrev R65 : Ty := .bool
abbrev T65 : Type := Ints × Ints
abbrev U65 : Type := Bool
noncomputable def E65 (k : Nat) : Env := mk [] [(65, Try.f65)] k
noncomputable def F65 (k0 : Nat) (x0 : Ints) (x1 : Ints) : Option U65 := sem (E65 k0) 2 65 A65 R65 ((x0, x1) : T65)
def An65 : List (Nat × List Nat) := (look ann 65).getD []
noncomputable def L65_4 (k0 k : Nat) (t0 : Ints) (t1 : Ints) (t12 : Int) (t13 : Int) : Option U65 :=
  lp (E65 k0) (evCall (E65 k0) 1) An65 (sub [1, 1, 0, 1, 0, 0] (bodyOf Try.f65)) 0 k ⟨[⟨intsT, t0⟩, ⟨intsT, t1⟩] ++ tops 10 ++ [⟨.int .i64, t12⟩, ⟨.int .i64, t13⟩] ++ tops 12, [], List.replicate 26 none⟩
    (blockK 0 (seqK (E65 k0) (evCall (E65 k0) 1) An65 (sub [1, 1, 1] (bodyOf Try.f65)) (retK (E65 k0) 0 Try.f65.results.toList fun v _ => castTo R65 v)))
theorem F65_eq (k0 : Nat) (x0 : Ints) (x1 : Ints) : F65 k0 x0 x1 = br (!eqI (lenI x0) (lenI x1)) (some false) (L65_4 k0 k0 (x0) (x1) (lenI x0) (0)) := by kernel_rfl
theorem L65_4_step (k0 k : Nat) (t0 : Ints) (t1 : Ints) (t12 : Int) (t13 : Int) : L65_4 k0 (k + 1) t0 t1 t12 t13 =
    br (decide (t13 < t12)) (Option.bind (idx t0 t13) fun y => Option.bind (idx t1 t13) fun y_1 => br (!eqI y y_1) (some false) (L65_4 k0 k (t0) (t1) (t12) (IntKind.wrap IntKind.i64 (t13 + 1)))) (some true) := by kernel_rfl
theorem C65  {G : T65 → Option U65} (h : ∀ x y, G x = some y → ∃ k0, F65 k0 x.1 x.2 = some y) : CtrAll Try.prog ⟨65, A65, R65, G⟩ := by
  refine ctr_of mixed ⟨Try.f65, Try.func65, by decide, rfl⟩ rfl rfl fun x y hx => ?_
  obtain ⟨k0, hk⟩ := h x y hx
  exact ⟨E65 k0, 2, base.env (trivial : CtrsOK Try.prog []) ⟨⟨Try.func65, by decide⟩, trivial⟩, hk⟩

/-! slices.Equal[[]roving/api.Pend,roving/api.Pend] -/
abbrev A66 : Ty := .pr pendsT pendsT
abbrev R66 : Ty := .bool
abbrev T66 : Type := Pends × Pends
abbrev U66 : Type := Bool
noncomputable def E66 (k : Nat) : Env := mk [] [(66, Try.f66)] k
noncomputable def F66 (k0 : Nat) (x0 : Pends) (x1 : Pends) : Option U66 := sem (E66 k0) 2 66 A66 R66 ((x0, x1) : T66)
def An66 : List (Nat × List Nat) := (look ann 66).getD []
noncomputable def L66_4 (k0 k : Nat) (t0 : Pends) (t1 : Pends) (t12 : Int) (t13 : Int) : Option U66 :=
  lp (E66 k0) (evCall (E66 k0) 1) An66 (sub [1, 1, 0, 1, 0, 0] (bodyOf Try.f66)) 0 k ⟨[⟨pendsT, t0⟩, ⟨pendsT, t1⟩] ++ tops 10 ++ [⟨.int .i64, t12⟩, ⟨.int .i64, t13⟩] ++ tops 12, [], List.replicate 26 none⟩
    (blockK 0 (seqK (E66 k0) (evCall (E66 k0) 1) An66 (sub [1, 1, 1] (bodyOf Try.f66)) (retK (E66 k0) 0 Try.f66.results.toList fun v _ => castTo R66 v)))
theorem F66_eq (k0 : Nat) (x0 : Pends) (x1 : Pends) : F66 k0 x0 x1 = br (!eqI (lenI x0) (lenI x1)) (some false) (L66_4 k0 k0 (x0) (x1) (lenI x0) (0)) := by kernel_rfl
theorem L66_4_step (k0 k : Nat) (t0 : Pends) (t1 : Pends) (t12 : Int) (t13 : Int) : L66_4 k0 (k + 1) t0 t1 t12 t13 =
    br (decide (t13 < t12)) (Option.bind (idx t0 t13) fun y => Option.bind (idx t1 t13) fun y_1 => br (!(eqI y.1 y_1.1 && (eqI y.2.1 y_1.2.1 && eqI y.2.2 y_1.2.2))) (some false) (L66_4 k0 k (t0) (t1) (t12) (IntKind.wrap IntKind.i64 (t13 + 1)))) (some true) := by kernel_rfl
theorem C66  {G : T66 → Option U66} (h : ∀ x y, G x = some y → ∃ k0, F66 k0 x.1 x.2 = some y) : CtrAll Try.prog ⟨66, A66, R66, G⟩ := by
  refine ctr_of mixed ⟨Try.f66, Try.func66, by decide, rfl⟩ rfl rfl fun x y hx => ?_
  obtain ⟨k0, hk⟩ := h x y hx
  exact ⟨E66 k0, 2, base.env (trivial : CtrsOK Try.prog []) ⟨⟨Try.func66, by decide⟩, trivial⟩, hk⟩

/-! slices.Index[[]int,int] -/
abbrev A102 : Ty := .pr intsT (.int .i64)
abbrev R102 : Ty := .int .i64
abbrev T102 : Type := Ints × Int
abbrev U102 : Type := Int
noncomputable def E102 (k : Nat) : Env := mk [] [(102, Try.f102)] k
noncomputable def F102 (k0 : Nat) (x0 : Ints) (x1 : Int) : Option U102 := sem (E102 k0) 2 102 A102 R102 ((x0, x1) : T102)
def An102 : List (Nat × List Nat) := (look ann 102).getD []
noncomputable def L102_2 (k0 k : Nat) (t0 : Ints) (t1 : Int) (t7 : Int) (t8 : Int) : Option U102 :=
  lp (E102 k0) (evCall (E102 k0) 1) An102 (sub [1, 0, 1, 0, 0] (bodyOf Try.f102)) 0 k ⟨[⟨intsT, t0⟩, ⟨.int .i64, t1⟩] ++ tops 5 ++ [⟨.int .i64, t7⟩, ⟨.int .i64, t8⟩] ++ tops 10, [], List.replicate 19 none⟩
    (blockK 0 (seqK (E102 k0) (evCall (E102 k0) 1) An102 (sub [1, 1] (bodyOf Try.f102)) (retK (E102 k0) 0 Try.f102.results.toList fun v _ => castTo R102 v)))
theorem F102_eq (k0 : Nat) (x0 : Ints) (x1 : Int) : F102 k0 x0 x1 = L102_2 k0 k0 (x0) (x1) (lenI x0) (0) := by kernel_rfl
theorem L102_2_step (k0 k : Nat) (t0 : Ints) (t1 : Int) (t7 : Int) (t8 : Int) : L102_2 k0 (k + 1) t0 t1 t7 t8 =
    br (decide (t8 < t7)) (Option.bind (idx t0 t8) fun y => br (eqI t1 y) (some t8) (L102_2 k0 k (t0) (t1) (t7) (IntKind.wrap IntKind.i64 (t8 + 1)))) (some (-1)) := by kernel_rfl
theorem C102  {G : T102 → Option U102} (h : ∀ x y, G x = some y → ∃ k0, F102 k0 x.1 x.2 = some y) : CtrAll Try.prog ⟨102, A102, R102, G⟩ := by
  refine ctr_of mixed ⟨Try.f102, Try.func102, by decide, rfl⟩ rfl rfl fun x y hx => ?_
  obtain ⟨k0, hk⟩ := h x y hx
  exact ⟨E102 k0, 2, base.env (trivial : CtrsOK Try.prog []) ⟨⟨Try.func102, by decide⟩, trivial⟩, hk⟩

/-! slices.Contains[[]int,int] -/
abbrev A71 : Ty := .pr intsT (.int .i64)
abbrev R71 : Ty := .bool
abbrev T71 : Type := Ints × Int
abbrev U71 : Type := Bool
noncomputable def E71 (G102 : T102 → Option U102) (k : Nat) : Env := mk [⟨102, A102, R102, G102⟩] [(71, Try.f71)] k
noncomputable def F71 (G102 : T102 → Option U102) (k0 : Nat) (x0 : Ints) (x1 : Int) : Option U71 := sem (E71 G102 k0) 2 71 A71 R71 ((x0, x1) : T71)
theorem F71_eq (G102 : T102 → Option U102) (k0 : Nat) (x0 : Ints) (x1 : Int) : F71 G102 k0 x0 x1 = Option.bind (G102 (x0, x1)) fun y => some (decide (y ≥ 0)) := by kernel_rfl
theorem C71 {G102 : T102 → Option U102} (h102 : CtrAll Try.prog ⟨102, A102, R102, G102⟩) {G : T71 → Option U71} (h : ∀ x y, G x = some y → ∃ k0, F71 G102 k0 x.1 x.2 = some y) : CtrAll Try.prog ⟨71, A71, R71, G⟩ := by
  refine ctr_of mixed ⟨Try.f71, Try.func71, by decide, rfl⟩ rfl rfl fun x y hx => ?_
  obtain ⟨k0, hk⟩ := h x y hx
  exact ⟨E71 G102 k0, 2, base.env (⟨h102, trivial⟩ : CtrsOK Try.prog [⟨102, A102, R102, G102⟩]) ⟨⟨Try.func71, by decide⟩, trivial⟩, hk⟩

/-! slices.Clone[[]int,int] -/
abbrev A64 : Ty := intsT
abbrev R64 : Ty := intsT
abbrev T64 : Type := Ints
abbrev U64 : Type := Ints
noncomputable def E64 (k : Nat) : Env := mk [] [(64, Try.f64)] k
noncomputable def F64 (k0 : Nat) (x0 : Ints) : Option U64 := sem (E64 k0) 2 64 A64 R64 (x0 : T64)
theorem F64_eq (k0 : Nat) (x0 : Ints) : F64 k0 x0 = br (decide (0 < lenI x0)) (br (fits ([] : List Unit) x0 8) (some (app [] x0)) none) (both (some []) (br (fits ([] : List Unit) x0 8) (some (app [] x0)) none)) := by kernel_rfl
theorem C64  {G : T64 → Option U64} (h : ∀ x y, G x = some y → ∃ k0, F64 k0 x = some y) : CtrAll Try.prog ⟨64, A64, R64, G⟩ := by
  refine ctr_of mixed ⟨Try.f64, Try.func64, by decide, rfl⟩ rfl rfl fun x y hx => ?_
  obtain ⟨k0, hk⟩ := h x y hx
  exact ⟨E64 k0, 2, base.env (trivial : CtrsOK Try.prog []) ⟨⟨Try.func64, by decide⟩, trivial⟩, hk⟩

/-! slices.IndexFunc[[]int,int] -/
abbrev A106 : Ty := .pr intsT (.fn 107 .unit (.pr (.box 1 0) (.box 0 0)))
abbrev R106 : Ty := .int .i64
abbrev T106 : Type := Ints × Unit × (Unit × Unit)
abbrev U106 : Type := Int
noncomputable def E106 (k : Nat) : Env := mk [] [(106, Try.f106), (107, Try.f107), (61, Try.f61)] k
abbrev B106 : Ty := .pr (.int .i64) (.fn 61 .unit .unit)
abbrev W106 : Type := Int × Unit × Unit
noncomputable def F106 {R : Type} (K : AV → List AV → Option R) (k0 : Nat) (l : Ints) (b : Int) : Option R := evCall (E106 k0) 4 106 (unchain A106 ((l, ((), ((), ()))) : T106)) (unchain B106 ((b, ((), ())) : W106)) K
def An106 : List (Nat × List Nat) := (look ann 106).getD []
noncomputable def L106_2 {R : Type} (K : AV → List AV → Option R) (k0 k : Nat) (t0 : Ints) (t7 : Int) (t8 : Int) (b0 : Int) : Option R :=
  lp (E106 k0) (evCall (E106 k0) 3) An106 (sub [1, 0, 1, 0, 0] (bodyOf Try.f106)) 2 k ⟨[⟨intsT, t0⟩, ⟨.fn 107 .unit (.pr (.box 1 0) (.box 0 0)), ((), ((), ()))⟩] ++ tops 5 ++ [⟨.int .i64, t7⟩, ⟨.int .i64, t8⟩] ++ tops 10, [⟨.int .i64, b0⟩, ⟨.fn 61 .unit .unit, ((), ())⟩], List.replicate 19 none⟩
    (blockK 0 (seqK (E106 k0) (evCall (E106 k0) 3) An106 (sub [1, 1] (bodyOf Try.f106)) (retK (E106 k0) 2 Try.f106.results.toList K)))
theorem F106_eq {R : Type} (K : AV → List AV → Option R) (k0 : Nat) (l : Ints) (b : Int) : F106 K k0 l b = L106_2 K k0 k0 (l) (lenI l) (0) (b) := by kernel_rfl
theorem L106_2_step {R : Type} (K : AV → List AV → Option R) (k0 k : Nat) (t0 : Ints) (t7 : Int) (t8 : Int) (b0 : Int) : L106_2 K k0 (k + 1) t0 t7 t8 b0 =
    br (decide (t8 < t7)) (Option.bind (idx t0 t8) fun y => br (!decide (y < b0)) (K ⟨.int .i64, (t8 : Int)⟩ [⟨.int .i64, (b0 : Int)⟩, ⟨.fn 61 .unit .unit, (((), ()) : Unit × Unit)⟩]) (L106_2 K k0 k (t0) (t7) (IntKind.wrap IntKind.i64 (t8 + 1)) (b0))) (K ⟨.int .i64, (-1 : Int)⟩ [⟨.int .i64, (b0 : Int)⟩, ⟨.fn 61 .unit .unit, (((), ()) : Unit × Unit)⟩]) := by kernel_rfl
theorem C106  {G : T106 × W106 → Option (U106 × W106)} (k0 : Nat) (h : ∀ x y z, G (x, y) = some z → ∀ {R : Type} (K : AV → List AV → Option R), F106 K k0 x.1 y.1 = K ⟨R106, z.1⟩ (unchain B106 z.2)) {R : Type} : CallOK Try.prog (bC ⟨106, A106, B106, R106, G⟩ : CallSem R) :=
  bC_ok (E := E106 k0) (d := 4) (base.env (trivial : CtrsOK Try.prog []) ⟨⟨Try.func106, by decide⟩, ⟨Try.func107, by decide⟩, ⟨Try.func61, by decide⟩, trivial⟩) mixed rfl fun x y z hG K => h x y z hG K

/-! roving/states.put[int] -/
abbrev A89 : Ty := .pr intsT (.pr (.int .i64) (.fn 61 .unit .unit))
abbrev R89 : Ty := intsT
abbrev T89 : Type := Ints × Int × Unit × Unit
abbrev U89 : Type := Ints
noncomputable def E89 (G61 : T61 → Option U61) (k : Nat) : Env := mk [⟨61, A61, R61, G61⟩] [(89, Try.f89)] k
noncomputable def F89 (G61 : T61 → Option U61) (G106 : T106 × W106 → Option (U106 × W106)) (k0 : Nat) (l : Ints) (x : Int) : Option U89 := semC (E89 G61 k0) (a := A89) (r := R89) (orC 106 (bC ⟨106, A106, B106, R106, G106⟩) <| evCall (E89 G61 k0) 1) 89 ((l, x, ((), ())) : T89)
theorem F89_eq (G61 : T61 → Option U61) (G106 : T106 × W106 → Option (U106 × W106)) (k0 : Nat) (l : Ints) (x : Int) : F89 G61 G106 k0 l x = Option.bind (G106 ((l, (), (), ()), x, (), ())) fun y => br (decide (y.1 < 0)) (br (decide (0 ≤ lenI l) && decide (lenI l ≤ lenI l) && decide (lenI l ≤ lenI l) && decide (lenI l ≤ lenI l)) (br (decide (lenI (cut l (lenI l) (lenI l)) > 0)) (Option.bind (idx (cut l (lenI l) (lenI l)) 0) fun y_1 => Option.bind (G61 (y.2.1, y_1)) fun y_2 => br (!y_2) (br (decide (1 ≤ lenI (cut l (lenI l) (lenI l))) && decide (lenI (cut l (lenI l) (lenI l)) ≤ lenI (cut l (lenI l) (lenI l))) && decide (lenI (cut l (lenI l) (lenI l)) ≤ lenI (cut l (lenI l) (lenI l)))) (br (decide (0 ≤ lenI l) && decide (lenI l ≤ lenI l) && decide (lenI l ≤ lenI l)) (br (eqI (lenI l) (lenI l)) (br (fits (cut l 0 (lenI l)) [y.2.1] 8) (br (fits (app (cut l 0 (lenI l)) [y.2.1]) (cut (cut l (lenI l) (lenI l)) 1 (lenI (cut l (lenI l) (lenI l)))) 8) (some (app (app (cut l 0 (lenI l)) [y.2.1]) (cut (cut l (lenI l) (lenI l)) 1 (lenI (cut l (lenI l) (lenI l)))))) none) none) none) none) none) (br (decide (0 ≤ lenI l) && decide (lenI l ≤ lenI l) && decide (lenI l ≤ lenI l)) (br (eqI (lenI l) (lenI l)) (br (fits (cut l 0 (lenI l)) [y.2.1] 8) (br (fits (app (cut l 0 (lenI l)) [y.2.1]) (cut l (lenI l) (lenI l)) 8) (some (app (app (cut l 0 (lenI l)) [y.2.1]) (cut l (lenI l) (lenI l)))) none) none) none) none)) (br (decide (0 ≤ lenI l) && decide (lenI l ≤ lenI l) && decide (lenI l ≤ lenI l)) (br (eqI (lenI l) (lenI l)) (br (fits (cut l 0 (lenI l)) [y.2.1] 8) (br (fits (app (cut l 0 (lenI l)) [y.2.1]) (cut l (lenI l) (lenI l)) 8) (some (app (app (cut l 0 (lenI l)) [y.2.1]) (cut l (lenI l) (lenI l)))) none) none) none) none)) none) (br (decide (0 ≤ y.1) && decide (y.1 ≤ lenI l) && decide (lenI l ≤ lenI l) && decide (lenI l ≤ lenI l)) (br (decide (lenI (cut l y.1 (lenI l)) > 0)) (Option.bind (idx (cut l y.1 (lenI l)) 0) fun y_1 => Option.bind (G61 (y.2.1, y_1)) fun y_2 => br (!y_2) (br (decide (1 ≤ lenI (cut l y.1 (lenI l))) && decide (lenI (cut l y.1 (lenI l)) ≤ lenI (cut l y.1 (lenI l))) && decide (lenI (cut l y.1 (lenI l)) ≤ lenI (cut l y.1 (lenI l)))) (br (decide (0 ≤ y.1) && decide (y.1 ≤ y.1) && decide (y.1 ≤ lenI l)) (br (eqI y.1 y.1) (br (fits (cut l 0 y.1) [y.2.1] 8) (br (fits (app (cut l 0 y.1) [y.2.1]) (cut (cut l y.1 (lenI l)) 1 (lenI (cut l y.1 (lenI l)))) 8) (some (app (app (cut l 0 y.1) [y.2.1]) (cut (cut l y.1 (lenI l)) 1 (lenI (cut l y.1 (lenI l)))))) none) none) none) none) none) (br (decide (0 ≤ y.1) && decide (y.1 ≤ y.1) && decide (y.1 ≤ lenI l)) (br (eqI y.1 y.1) (br (fits (cut l 0 y.1) [y.2.1] 8) (br (fits (app (cut l 0 y.1) [y.2.1]) (cut l y.1 (lenI l)) 8) (some (app (app (cut l 0 y.1) [y.2.1]) (cut l y.1 (lenI l)))) none) none) none) none)) (br (decide (0 ≤ y.1) && decide (y.1 ≤ y.1) && decide (y.1 ≤ lenI l)) (br (eqI y.1 y.1) (br (fits (cut l 0 y.1) [y.2.1] 8) (br (fits (app (cut l 0 y.1) [y.2.1]) (cut l y.1 (lenI l)) 8) (some (app (app (cut l 0 y.1) [y.2.1]) (cut l y.1 (lenI l)))) none) none) none) none)) none) := by kernel_rfl
theorem C89 {G61 : T61 → Option U61} (h61 : CtrAll Try.prog ⟨61, A61, R61, G61⟩) {G106 : T106 × W106 → Option (U106 × W106)} (h106 : ∀ {R : Type}, CallOK Try.prog (bC ⟨106, A106, B106, R106, G106⟩ : CallSem R)) {G : T89 → Option U89} (h : ∀ x y, G x = some y → ∃ k0, F89 G61 G106 k0 x.1 x.2.1 = some y) : CtrAll Try.prog ⟨89, A89, R89, G⟩ := by
  refine ctrC_of mixed ⟨Try.f89, Try.func89, by decide, rfl⟩ rfl rfl fun x y hx => ?_
  obtain ⟨k0, hk⟩ := h x y hx
  have hE : EnvOK Try.prog (E89 G61 k0) := base.env (⟨h61, trivial⟩ : CtrsOK Try.prog [⟨61, A61, R61, G61⟩]) ⟨⟨Try.func89, by decide⟩, trivial⟩
  exact ⟨E89 G61 k0, _, hE, orC_ok h106 (evCall_ok hE mixed _), hk⟩

/-! slices.IndexFunc[[]roving/api.Pend,roving/api.Pend] -/
abbrev A113 : Ty := .pr pendsT (.fn 114 .unit (.pr (.box 1 0) (.box 0 0)))
abbrev R113 : Ty := .int .i64
abbrev T113 : Type := Pends × Unit × (Unit × Unit)
abbrev U113 : Type := Int
noncomputable def E113 (G70 : T70 → Option U70) (k : Nat) : Env := mk [⟨70, A70, R70, G70⟩] [(113, Try.f113), (114, Try.f114)] k
abbrev B113 : Ty := .pr pendT (.fn 70 .unit .unit)
abbrev W113 : Type := Pend × Unit × Unit
noncomputable def F113 {R : Type} (K : AV → List AV → Option R) (G70 : T70 → Option U70) (k0 : Nat) (l : Pends) (b : Pend) : Option R := evCall (E113 G70 k0) 3 113 (unchain A113 ((l, ((), ((), ()))) : T113)) (unchain B113 ((b, ((), ())) : W113)) K
def An113 : List (Nat × List Nat) := (look ann 113).getD []
noncomputable def L113_2 {R : Type} (K : AV → List AV → Option R) (G70 : T70 → Option U70) (k0 k : Nat) (t0 : Pends) (t7 : Int) (t8 : Int) (b0 : Pend) : Option R :=
  lp (E113 G70 k0) (evCall (E113 G70 k0) 2) An113 (sub [1, 0, 1, 0, 0] (bodyOf Try.f113)) 2 k ⟨[⟨pendsT, t0⟩, ⟨.fn 114 .unit (.pr (.box 1 0) (.box 0 0)), ((), ((), ()))⟩] ++ tops 5 ++ [⟨.int .i64, t7⟩, ⟨.int .i64, t8⟩] ++ tops 10, [⟨pendT, b0⟩, ⟨.fn 70 .unit .unit, ((), ())⟩], List.replicate 19 none⟩
    (blockK 0 (seqK (E113 G70 k0) (evCall (E113 G70 k0) 2) An113 (sub [1, 1] (bodyOf Try.f113)) (retK (E113 G70 k0) 2 Try.f113.results.toList K)))
theorem F113_eq {R : Type} (K : AV → List AV → Option R) (G70 : T70 → Option U70) (k0 : Nat) (l : Pends) (b : Pend) : F113 K G70 k0 l b = L113_2 K G70 k0 k0 (l) (lenI l) (0) (b) := by kernel_rfl
theorem L113_2_step {R : Type} (K : AV → List AV → Option R) (G70 : T70 → Option U70) (k0 k : Nat) (t0 : Pends) (t7 : Int) (t8 : Int) (b0 : Pend) : L113_2 K G70 k0 (k + 1) t0 t7 t8 b0 =
    br (decide (t8 < t7)) (Option.bind (idx t0 t8) fun y => Option.bind (G70 (y, b0)) fun y => br (!y) (K ⟨.int .i64, (t8 : Int)⟩ [⟨pendT, (b0 : Pend)⟩, ⟨.fn 70 .unit .unit, (((), ()) : Unit × Unit)⟩]) (L113_2 K G70 k0 k (t0) (t7) (IntKind.wrap IntKind.i64 (t8 + 1)) (b0))) (K ⟨.int .i64, (-1 : Int)⟩ [⟨pendT, (b0 : Pend)⟩, ⟨.fn 70 .unit .unit, (((), ()) : Unit × Unit)⟩]) := by kernel_rfl
theorem C113 {G70 : T70 → Option U70} (h70 : CtrAll Try.prog ⟨70, A70, R70, G70⟩) {G : T113 × W113 → Option (U113 × W113)} (k0 : Nat) (h : ∀ x y z, G (x, y) = some z → ∀ {R : Type} (K : AV → List AV → Option R), F113 K G70 k0 x.1 y.1 = K ⟨R113, z.1⟩ (unchain B113 z.2)) {R : Type} : CallOK Try.prog (bC ⟨113, A113, B113, R113, G⟩ : CallSem R) :=
  bC_ok (E := E113 G70 k0) (d := 3) (base.env (⟨h70, trivial⟩ : CtrsOK Try.prog [⟨70, A70, R70, G70⟩]) ⟨⟨Try.func113, by decide⟩, ⟨Try.func114, by decide⟩, trivial⟩) mixed rfl fun x y z hG K => h x y z hG K

/-! roving/states.put[roving/api.Pend] -/
abbrev A103 : Ty := .pr pendsT (.pr pendT (.fn 70 .unit .unit))
abbrev R103 : Ty := pendsT
abbrev T103 : Type := Pends × Pend × Unit × Unit
abbrev U103 : Type := Pends
noncomputable def E103 (G70 : T70 → Option U70) (k : Nat) : Env := mk [⟨70, A70, R70, G70⟩] [(103, Try.f103)] k
noncomputable def F103 (G70 : T70 → Option U70) (G113 : T113 × W113 → Option (U113 × W113)) (k0 : Nat) (l : Pends) (x : Pend) : Option U103 := semC (E103 G70 k0) (a := A103) (r := R103) (orC 113 (bC ⟨113, A113, B113, R113, G113⟩) <| evCall (E103 G70 k0) 1) 103 ((l, x, ((), ())) : T103)
theorem F103_eq (G70 : T70 → Option U70) (G113 : T113 × W113 → Option (U113 × W113)) (k0 : Nat) (l : Pends) (x : Pend) : F103 G70 G113 k0 l x = Option.bind (G113 ((l, (), (), ()), x, (), ())) fun y => br (decide (y.1 < 0)) (br (decide (0 ≤ lenI l) && decide (lenI l ≤ lenI l) && decide (lenI l ≤ lenI l) && decide (lenI l ≤ lenI l)) (br (decide (lenI (cut l (lenI l) (lenI l)) > 0)) (Option.bind (idx (cut l (lenI l) (lenI l)) 0) fun y_1 => Option.bind (G70 (y.2.1, y_1)) fun y_2 => br (!y_2) (br (decide (1 ≤ lenI (cut l (lenI l) (lenI l))) && decide (lenI (cut l (lenI l) (lenI l)) ≤ lenI (cut l (lenI l) (lenI l))) && decide (lenI (cut l (lenI l) (lenI l)) ≤ lenI (cut l (lenI l) (lenI l)))) (br (decide (0 ≤ lenI l) && decide (lenI l ≤ lenI l) && decide (lenI l ≤ lenI l)) (br (eqI (lenI l) (lenI l)) (br (fits (cut l 0 (lenI l)) [y.2.1] 24) (br (fits (app (cut l 0 (lenI l)) [y.2.1]) (cut (cut l (lenI l) (lenI l)) 1 (lenI (cut l (lenI l) (lenI l)))) 24) (some (app (app (cut l 0 (lenI l)) [y.2.1]) (cut (cut l (lenI l) (lenI l)) 1 (lenI (cut l (lenI l) (lenI l)))))) none) none) none) none) none) (br (decide (0 ≤ lenI l) && decide (lenI l ≤ lenI l) && decide (lenI l ≤ lenI l)) (br (eqI (lenI l) (lenI l)) (br (fits (cut l 0 (lenI l)) [y.2.1] 24) (br (fits (app (cut l 0 (lenI l)) [y.2.1]) (cut l (lenI l) (lenI l)) 24) (some (app (app (cut l 0 (lenI l)) [y.2.1]) (cut l (lenI l) (lenI l)))) none) none) none) none)) (br (decide (0 ≤ lenI l) && decide (lenI l ≤ lenI l) && decide (lenI l ≤ lenI l)) (br (eqI (lenI l) (lenI l)) (br (fits (cut l 0 (lenI l)) [y.2.1] 24) (br (fits (app (cut l 0 (lenI l)) [y.2.1]) (cut l (lenI l) (lenI l)) 24) (some (app (app (cut l 0 (lenI l)) [y.2.1]) (cut l (lenI l) (lenI l)))) none) none) none) none)) none) (br (decide (0 ≤ y.1) && decide (y.1 ≤ lenI l) && decide (lenI l ≤ lenI l) && decide (lenI l ≤ lenI l)) (br (decide (lenI (cut l y.1 (lenI l)) > 0)) (Option.bind (idx (cut l y.1 (lenI l)) 0) fun y_1 => Option.bind (G70 (y.2.1, y_1)) fun y_2 => br (!y_2) (br (decide (1 ≤ lenI (cut l y.1 (lenI l))) && decide (lenI (cut l y.1 (lenI l)) ≤ lenI (cut l y.1 (lenI l))) && decide (lenI (cut l y.1 (lenI l)) ≤ lenI (cut l y.1 (lenI l)))) (br (decide (0 ≤ y.1) && decide (y.1 ≤ y.1) && decide (y.1 ≤ lenI l)) (br (eqI y.1 y.1) (br (fits (cut l 0 y.1) [y.2.1] 24) (br (fits (app (cut l 0 y.1) [y.2.1]) (cut (cut l y.1 (lenI l)) 1 (lenI (cut l y.1 (lenI l)))) 24) (some (app (app (cut l 0 y.1) [y.2.1]) (cut (cut l y.1 (lenI l)) 1 (lenI (cut l y.1 (lenI l)))))) none) none) none) none) none) (br (decide (0 ≤ y.1) && decide (y.1 ≤ y.1) && decide (y.1 ≤ lenI l)) (br (eqI y.1 y.1) (br (fits (cut l 0 y.1) [y.2.1] 24) (br (fits (app (cut l 0 y.1) [y.2.1]) (cut l y.1 (lenI l)) 24) (some (app (app (cut l 0 y.1) [y.2.1]) (cut l y.1 (lenI l)))) none) none) none) none)) (br (decide (0 ≤ y.1) && decide (y.1 ≤ y.1) && decide (y.1 ≤ lenI l)) (br (eqI y.1 y.1) (br (fits (cut l 0 y.1) [y.2.1] 24) (br (fits (app (cut l 0 y.1) [y.2.1]) (cut l y.1 (lenI l)) 24) (some (app (app (cut l 0 y.1) [y.2.1]) (cut l y.1 (lenI l)))) none) none) none) none)) none) := by kernel_rfl
theorem C103 {G70 : T70 → Option U70} (h70 : CtrAll Try.prog ⟨70, A70, R70, G70⟩) {G113 : T113 × W113 → Option (U113 × W113)} (h113 : ∀ {R : Type}, CallOK Try.prog (bC ⟨113, A113, B113, R113, G113⟩ : CallSem R)) {G : T103 → Option U103} (h : ∀ x y, G x = some y → ∃ k0, F103 G70 G113 k0 x.1 x.2.1 = some y) : CtrAll Try.prog ⟨103, A103, R103, G⟩ := by
  refine ctrC_of mixed ⟨Try.f103, Try.func103, by decide, rfl⟩ rfl rfl fun x y hx => ?_
  obtain ⟨k0, hk⟩ := h x y hx
  have hE : EnvOK Try.prog (E103 G70 k0) := base.env (⟨h70, trivial⟩ : CtrsOK Try.prog [⟨70, A70, R70, G70⟩]) ⟨⟨Try.func103, by decide⟩, trivial⟩
  exact ⟨E103 G70 k0, _, hE, orC_ok h113 (evCall_ok hE mixed _), hk⟩

/-! roving/states.Same -/
abbrev A20 : Ty := .pr coordT coordT
abbrev R20 : Ty := .bool
abbrev T20 : Type := Coord × Coord
abbrev U20 : Type := Bool
noncomputable def E20 (G65 : T65 → Option U65) (G66 : T66 → Option U66) (k : Nat) : Env := mk [⟨65, A65, R65, G65⟩, ⟨66, A66, R66, G66⟩] [(20, Try.f20)] k
noncomputable def F20 (G65 : T65 → Option U65) (G66 : T66 → Option U66) (k0 : Nat) (x0 : Coord) (x1 : Coord) : Option U20 := sem (E20 G65 G66 k0) 2 20 A20 R20 ((x0, x1) : T20)
theorem F20_eq (G65 : T65 → Option U65) (G66 : T66 → Option U66) (k0 : Nat) (x0 : Coord) (x1 : Coord) : F20 G65 G66 k0 x0 x1 = br (eqI x0.1 x1.1) (br (eqI x0.2.1 x1.2.1) (br (eqI x0.2.2.1 x1.2.2.1) (br (eqI x0.2.2.2.1 x1.2.2.2.1) (br (eqI x0.2.2.2.2.1 x1.2.2.2.2.1) (br (eqI x0.2.2.2.2.2.2.2 x1.2.2.2.2.2.2.2) (Option.bind (G65 (x0.2.2.2.2.2.1, x1.2.2.2.2.2.1)) fun y => br y (Option.bind (G66 (x0.2.2.2.2.2.2.1, x1.2.2.2.2.2.2.1)) fun y => some y) (some false)) (some false)) (some false)) (some false)) (some false)) (some false)) (some false) := by kernel_rfl
theorem C20 {G65 : T65 → Option U65} (h65 : CtrAll Try.prog ⟨65, A65, R65, G65⟩) {G66 : T66 → Option U66} (h66 : CtrAll Try.prog ⟨66, A66, R66, G66⟩) {G : T20 → Option U20} (h : ∀ x y, G x = some y → ∃ k0, F20 G65 G66 k0 x.1 x.2 = some y) : CtrAll Try.prog ⟨20, A20, R20, G⟩ := by
  refine ctr_of mixed ⟨Try.f20, Try.func20, by decide, rfl⟩ rfl rfl fun x y hx => ?_
  obtain ⟨k0, hk⟩ := h x y hx
  exact ⟨E20 G65 G66 k0, 2, base.env (⟨h65, h66, trivial⟩ : CtrsOK Try.prog [⟨65, A65, R65, G65⟩, ⟨66, A66, R66, G66⟩]) ⟨⟨Try.func20, by decide⟩, trivial⟩, hk⟩

/-! roving/states.May -/
abbrev A21 : Ty := coordT
abbrev R21 : Ty := .bool
abbrev T21 : Type := Coord
abbrev U21 : Type := Bool
def annJ21 : List (Nat × List (Nat × List Nat)) := (21, [(100015, [0, 2, 3, 4, 5, 6, 7, 8, 9, 10, 11, 12, 13, 14, 15, 16, 17, 18, 19, 20, 21, 22, 23, 24, 25, 26, 27, 28, 29, 30, 31, 32, 33, 34, 35, 36, 37, 38, 39, 40, 41, 42, 43, 44, 45, 46, 47, 48, 49, 50, 51, 52, 53, 54, 55, 56, 57, 58, 59, 60, 61, 62, 63, 64, 65, 66, 67, 68, 69, 70, 71, 72, 73, 74, 75, 76, 77, 78, 79, 80]), (100013, [0, 2, 3, 4, 5, 6, 7, 8, 9, 10, 11, 12, 13, 14, 15, 16, 17, 18, 19, 20, 21, 22, 23, 24, 25, 26, 27, 28, 29, 30, 31, 32, 33, 34, 35, 36, 37, 38, 39, 40, 41, 42, 43, 44, 45, 46, 47, 48, 49, 50, 51, 52, 53, 54, 55, 56, 57, 58, 59, 60, 61, 62, 63, 64, 65, 66, 67, 68, 69, 70, 71, 72, 73, 74, 75, 76, 77, 78, 79, 80]), (100003, [0, 2, 3, 4, 5, 6, 7, 8, 9, 10, 11, 12, 13, 14, 15, 16, 17, 18, 19, 20, 21, 22, 23, 24, 25, 26, 27, 28, 29, 30, 31, 32, 33, 34, 35, 36, 37, 38, 39, 40, 41, 42, 43, 44, 45, 46, 47, 48, 49, 50, 51, 52, 53, 54, 55, 56, 57, 58, 59, 60, 61, 62, 63, 64, 65, 66, 67, 68, 69, 70, 71, 72, 73, 74, 75, 76, 77, 78, 79, 80])]) :: ann
noncomputable def E21 (G20 : T20 → Option U20) (G59 : T59 → Option U59) (G68 : T68 → Option U68) (G62 : T62 → Option U62) (k : Nat) : Env := mkA annJ21 [⟨20, A20, R20, G20⟩, ⟨59, A59, R59, G59⟩, ⟨68, A68, R68, G68⟩, ⟨62, A62, R62, G62⟩] [(21, Try.f21), (67, Try.f67)] k
noncomputable def F21 (G20 : T20 → Option U20) (G59 : T59 → Option U59) (G68 : T68 → Option U68) (G62 : T62 → Option U62) (k0 : Nat) (x0 : Coord) : Option U21 := sem (E21 G20 G59 G68 G62 k0) 3 21 A21 R21 (x0 : T21)
def An21 : List (Nat × List Nat) := (look annJ21 21).getD []
noncomputable def J21_3 (G20 : T20 → Option U20) (G59 : T59 → Option U59) (G68 : T68 → Option U68) (G62 : T62 → Option U62) (k0 k : Nat) (b0 : Coord) : Option U21 :=
  jn (E21 G20 G59 G68 G62 k0) (evCall (E21 G20 G59 G68 G62 k0) 2) An21 (sub [1, 1] (bodyOf Try.f21)) k ⟨tops 1 ++ [⟨.box 0 0, ()⟩] ++ tops 79, [⟨coordT, b0⟩], List.replicate 81 none⟩
    (retK (E21 G20 G59 G68 G62 k0) 0 Try.f21.results.toList fun v _ => castTo R21 v)
noncomputable def J21_13 (G20 : T20 → Option U20) (G59 : T59 → Option U59) (G68 : T68 → Option U68) (G62 : T62 → Option U62) (k0 k : Nat) (b0 : Coord) : Option U21 :=
  jn (E21 G20 G59 G68 G62 k0) (evCall (E21 G20 G59 G68 G62 k0) 2) An21 (sub [1, 1, 1, 1] (bodyOf Try.f21)) k ⟨tops 1 ++ [⟨.box 0 0, ()⟩] ++ tops 79, [⟨coordT, b0⟩], List.replicate 81 none⟩
    (retK (E21 G20 G59 G68 G62 k0) 0 Try.f21.results.toList fun v _ => castTo R21 v)
noncomputable def J21_15 (G20 : T20 → Option U20) (G59 : T59 → Option U59) (G68 : T68 → Option U68) (G62 : T62 → Option U62) (k0 k : Nat) (b0 : Coord) : Option U21 :=
  jn (E21 G20 G59 G68 G62 k0) (evCall (E21 G20 G59 G68 G62 k0) 2) An21 (sub [1, 1, 1, 1, 1] (bodyOf Try.f21)) k ⟨tops 1 ++ [⟨.box 0 0, ()⟩] ++ tops 79, [⟨coordT, b0⟩], List.replicate 81 none⟩
    (retK (E21 G20 G59 G68 G62 k0) 0 Try.f21.results.toList fun v _ => castTo R21 v)
theorem F21_eq (G20 : T20 → Option U20) (G59 : T59 → Option U59) (G68 : T68 → Option U68) (G62 : T62 → Option U62) (k0 : Nat) (x0 : Coord) : F21 G20 G59 G68 G62 k0 x0 = br (eqI x0.1 0) (Option.bind (G20 (x0, 0, 0, 0, 0, 0, [], [], 0)) fun y => some y) (J21_3 G20 G59 G68 G62 k0 k0 (x0)) := by kernel_rfl
theorem J21_3_eq (G20 : T20 → Option U20) (G59 : T59 → Option U59) (G68 : T68 → Option U68) (G62 : T62 → Option U62) (k0 k : Nat) (b0 : Coord) : J21_3 G20 G59 G68 G62 k0 (k + 1) b0 =
    Option.bind (G62 b0) fun y => br (eqI y 0) (some false) (br (eqI y 1) (br (decide (IntKind.wrap IntKind.i64 (lenI b0.2.2.2.2.2.1 + lenI b0.2.2.2.2.2.2.1) > 0)) (some false) (br (!eqI b0.2.2.2.2.2.2.2 0) (some false) (J21_13 G20 G59 G68 G62 k0 k0 (b0)))) (br (eqI y 2) (br (!decide (IntKind.wrap IntKind.i64 (lenI b0.2.2.2.2.2.1 + lenI b0.2.2.2.2.2.2.1) > 0)) (some false) (J21_13 G20 G59 G68 G62 k0 k0 (b0))) (J21_13 G20 G59 G68 G62 k0 k0 (b0)))) := by kernel_rfl
theorem J21_13_eq (G20 : T20 → Option U20) (G59 : T59 → Option U59) (G68 : T68 → Option U68) (G62 : T62 → Option U62) (k0 k : Nat) (b0 : Coord) : J21_13 G20 G59 G68 G62 k0 (k + 1) b0 =
    br (!eqI b0.2.2.2.2.1 0) (br (!eqI b0.1 4) (some false) (br (decide (b0.2.2.2.2.1 ≥ 1)) (br (!decide (b0.2.2.2.2.1 ≤ 20)) (some false) (br (decide (b0.2.2.1 ≥ 100)) (some false) (J21_15 G20 G59 G68 G62 k0 k0 (b0)))) (some false))) (J21_15 G20 G59 G68 G62 k0 k0 (b0)) := by kernel_rfl
theorem J21_15_eq (G20 : T20 → Option U20) (G59 : T59 → Option U59) (G68 : T68 → Option U68) (G62 : T62 → Option U62) (k0 k : Nat) (b0 : Coord) : J21_15 G20 G59 G68 G62 k0 (k + 1) b0 =
    br (decide (b0.2.1 ≥ 1)) (br (decide (b0.2.1 ≤ 8)) (br (decide (b0.2.2.1 ≥ 0)) (br (decide (b0.2.2.1 ≤ 100)) (br (decide (b0.2.2.2.1 ≥ 1)) (br (decide (b0.2.2.2.1 ≤ 20)) (br (decide (b0.2.2.2.2.2.2.2 ≥ 0)) (br (decide (b0.2.2.2.2.2.2.2 ≤ 1048576)) (Option.bind (G59 (b0.2.2.2.2.2.1, ((), ()), (), ())) fun y => br y (Option.bind (G68 (b0.2.2.2.2.2.2.1, ((), ()), (), ())) fun y => some y) (some false)) (some false)) (some false)) (some false)) (some false)) (some false)) (some false)) (some false)) (some false) := by kernel_rfl
theorem C21 {G20 : T20 → Option U20} (h20 : CtrAll Try.prog ⟨20, A20, R20, G20⟩) {G59 : T59 → Option U59} (h59 : CtrAll Try.prog ⟨59, A59, R59, G59⟩) {G68 : T68 → Option U68} (h68 : CtrAll Try.prog ⟨68, A68, R68, G68⟩) {G62 : T62 → Option U62} (h62 : CtrAll Try.prog ⟨62, A62, R62, G62⟩) {G : T21 → Option U21} (h : ∀ x y, G x = some y → ∃ k0, F21 G20 G59 G68 G62 k0 x = some y) : CtrAll Try.prog ⟨21, A21, R21, G⟩ := by
  refine ctr_of mixed ⟨Try.f21, Try.func21, by decide, rfl⟩ rfl rfl fun x y hx => ?_
  obtain ⟨k0, hk⟩ := h x y hx
  exact ⟨E21 G20 G59 G68 G62 k0, 3, base.env (⟨h20, h59, h68, h62, trivial⟩ : CtrsOK Try.prog [⟨20, A20, R20, G20⟩, ⟨59, A59, R59, G59⟩, ⟨68, A68, R68, G68⟩, ⟨62, A62, R62, G62⟩]) ⟨⟨Try.func21, by decide⟩, ⟨Try.func67, by decide⟩, trivial⟩, hk⟩

/-! roving/states.Has -/
abbrev A22 : Ty := .pr coordT (.int .i64)
abbrev R22 : Ty := .bool
abbrev T22 : Type := Coord × Int
abbrev U22 : Type := Bool
noncomputable def E22 (G71 : T71 → Option U71) (k : Nat) : Env := mk [⟨71, A71, R71, G71⟩] [(22, Try.f22)] k
noncomputable def F22 (G71 : T71 → Option U71) (k0 : Nat) (x0 : Coord) (x1 : Int) : Option U22 := sem (E22 G71 k0) 2 22 A22 R22 ((x0, x1) : T22)
theorem F22_eq (G71 : T71 → Option U71) (k0 : Nat) (x0 : Coord) (x1 : Int) : F22 G71 k0 x0 x1 = Option.bind (G71 (x0.2.2.2.2.2.1, x1)) fun y => some y := by kernel_rfl
theorem C22 {G71 : T71 → Option U71} (h71 : CtrAll Try.prog ⟨71, A71, R71, G71⟩) {G : T22 → Option U22} (h : ∀ x y, G x = some y → ∃ k0, F22 G71 k0 x.1 x.2 = some y) : CtrAll Try.prog ⟨22, A22, R22, G⟩ := by
  refine ctr_of mixed ⟨Try.f22, Try.func22, by decide, rfl⟩ rfl rfl fun x y hx => ?_
  obtain ⟨k0, hk⟩ := h x y hx
  exact ⟨E22 G71 k0, 2, base.env (⟨h71, trivial⟩ : CtrsOK Try.prog [⟨71, A71, R71, G71⟩]) ⟨⟨Try.func22, by decide⟩, trivial⟩, hk⟩

end Go.Ev.R3
