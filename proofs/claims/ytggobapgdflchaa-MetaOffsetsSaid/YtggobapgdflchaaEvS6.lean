import Derived.Test.YtggobapgdflchaaEvS4
set_option linter.unusedVariables false
set_option maxRecDepth 100000
namespace Go.Ev.R3
open Go.Proofs

/-! roving/states.Due -/
abbrev A37 : Ty := coordT
abbrev R37 : Ty := .bool
abbrev T37 : Type := Coord
abbrev U37 : Type := Bool
noncomputable def E37 (k : Nat) : Env := mk [] [(37, Try.f37)] k
noncomputable def F37 (k0 : Nat) (x0 : Coord) : Option U37 := sem (E37 k0) 2 37 A37 R37 (x0 : T37)
theorem F37_eq (k0 : Nat) (x0 : Coord) : F37 k0 x0 = br (eqI x0.1 2) (some (decide (x0.2.2.2.2.2.2.2 ≥ x0.2.2.2.1))) (some false) := by kernel_rfl
theorem C37  {G : T37 → Option U37} (h : ∀ x y, G x = some y → ∃ k0, F37 k0 x = some y) : CtrAll Try.prog ⟨37, A37, R37, G⟩ := by
  refine ctr_of mixed ⟨Try.f37, Try.func37, by decide, rfl⟩ rfl rfl fun x y hx => ?_
  obtain ⟨k0, hk⟩ := h x y hx
  exact ⟨E37 k0, 2, base.env (trivial : CtrsOK Try.prog []) ⟨⟨Try.func37, by decide⟩, trivial⟩, hk⟩

/-! roving/states.Ended -/
abbrev A39 : Ty := .pr coordT .bool
abbrev R39 : Ty := .bool
abbrev T39 : Type := Coord × Bool
abbrev U39 : Type := Bool
noncomputable def E39 (k : Nat) : Env := mk [] [(39, Try.f39)] k
noncomputable def F39 (k0 : Nat) (x0 : Coord) (x1 : Bool) : Option U39 := sem (E39 k0) 2 39 A39 R39 ((x0, x1) : T39)
theorem F39_eq (k0 : Nat) (x0 : Coord) (x1 : Bool) : F39 k0 x0 x1 = br x1 (some (eqI x0.1 5)) (some (eqI x0.1 6)) := by kernel_rfl
theorem C39  {G : T39 → Option U39} (h : ∀ x y, G x = some y → ∃ k0, F39 k0 x.1 x.2 = some y) : CtrAll Try.prog ⟨39, A39, R39, G⟩ := by
  refine ctr_of mixed ⟨Try.f39, Try.func39, by decide, rfl⟩ rfl rfl fun x y hx => ?_
  obtain ⟨k0, hk⟩ := h x y hx
  exact ⟨E39 k0, 2, base.env (trivial : CtrsOK Try.prog []) ⟨⟨Try.func39, by decide⟩, trivial⟩, hk⟩

/-! roving/states.Init -/
abbrev A35 : Ty := .pr coordT (.pr (.int .i64) (.int .i64))
abbrev R35 : Ty := .tup (.pr coordT (.int .i64))
abbrev T35 : Type := Coord × Int × Int
abbrev U35 : Type := Coord × Int
def annJ35 : List (Nat × List (Nat × List Nat)) := (35, [(100011, [0, 1, 4, 5, 7, 8, 9, 10, 11, 12, 13, 14, 15, 16, 17, 18, 19, 20, 21, 22, 23, 24, 25, 26, 27, 28, 29, 30, 31, 32, 33, 34, 35, 36, 37, 38, 39, 40, 41, 42, 43, 44, 45]), (100009, [0, 1, 4, 5, 7, 8, 9, 10, 11, 12, 13, 14, 15, 16, 17, 18, 19, 20, 21, 22, 23, 24, 25, 26, 27, 28, 29, 30, 31, 32, 33, 34, 35, 36, 37, 38, 39, 40, 41, 42, 43, 44, 45]), (100003, [0, 4, 5, 7, 8, 9, 10, 11, 12, 13, 14, 15, 16, 17, 18, 19, 20, 21, 22, 23, 24, 25, 26, 27, 28, 29, 30, 31, 32, 33, 34, 35, 36, 37, 38, 39, 40, 41, 42, 43, 44, 45])]) :: ann
noncomputable def E35 (G21 : T21 → Option U21) (G62 : T62 → Option U62) (k : Nat) : Env := mkA annJ35 [⟨21, A21, R21, G21⟩, ⟨62, A62, R62, G62⟩] [(35, Try.f35), (63, Try.f63), (67, Try.f67)] k
noncomputable def F35 (G21 : T21 → Option U21) (G62 : T62 → Option U62) (k0 : Nat) (x0 : Coord) (x1 : Int) (x2 : Int) : Option U35 := sem (E35 G21 G62 k0) 4 35 A35 R35 ((x0, x1, x2) : T35)
def An35 : List (Nat × List Nat) := (look annJ35 35).getD []
noncomputable def J35_3 (G21 : T21 → Option U21) (G62 : T62 → Option U62) (k0 k : Nat) (t1 : Int) (t2 : Int) (b0 : Coord) (b1 : Coord) : Option U35 :=
  jn (E35 G21 G62 k0) (evCall (E35 G21 G62 k0) 3) An35 (sub [1, 1] (bodyOf Try.f35)) k ⟨tops 1 ++ [⟨.int .i64, t1⟩, ⟨.int .i64, t2⟩, ⟨.box 0 0, ()⟩] ++ tops 2 ++ [⟨.box 1 0, ()⟩] ++ tops 39, [⟨coordT, b0⟩, ⟨coordT, b1⟩], List.replicate 46 none⟩
    (retK (E35 G21 G62 k0) 0 Try.f35.results.toList fun v _ => castTo R35 v)
noncomputable def J35_9 (G21 : T21 → Option U21) (G62 : T62 → Option U62) (k0 k : Nat) (t2 : Int) (b0 : Coord) (b1 : Coord) : Option U35 :=
  jn (E35 G21 G62 k0) (evCall (E35 G21 G62 k0) 3) An35 (sub [1, 1, 1] (bodyOf Try.f35)) k ⟨tops 2 ++ [⟨.int .i64, t2⟩, ⟨.box 0 0, ()⟩] ++ tops 2 ++ [⟨.box 1 0, ()⟩] ++ tops 39, [⟨coordT, b0⟩, ⟨coordT, b1⟩], List.replicate 46 none⟩
    (retK (E35 G21 G62 k0) 0 Try.f35.results.toList fun v _ => castTo R35 v)
noncomputable def J35_11 (G21 : T21 → Option U21) (G62 : T62 → Option U62) (k0 k : Nat) (t2 : Int) (b0 : Coord) (b1 : Coord) : Option U35 :=
  jn (E35 G21 G62 k0) (evCall (E35 G21 G62 k0) 3) An35 (sub [1, 1, 1, 1] (bodyOf Try.f35)) k ⟨tops 2 ++ [⟨.int .i64, t2⟩, ⟨.box 0 0, ()⟩] ++ tops 2 ++ [⟨.box 1 0, ()⟩] ++ tops 39, [⟨coordT, b0⟩, ⟨coordT, b1⟩], List.replicate 46 none⟩
    (retK (E35 G21 G62 k0) 0 Try.f35.results.toList fun v _ => castTo R35 v)
theorem F35_eq (G21 : T21 → Option U21) (G62 : T62 → Option U62) (k0 : Nat) (x0 : Coord) (x1 : Int) (x2 : Int) : F35 G21 G62 k0 x0 x1 x2 = Option.bind (G21 x0) fun y => br (!y) (some ((0, 0, 0, 0, 0, [], [], 0), 2)) (br (decide (x1 ≥ 1)) (br (!decide (x1 ≤ 8)) (some ((0, 0, 0, 0, 0, [], [], 0), 2)) (br (decide (x2 ≥ 1)) (br (!decide (x2 ≤ 20)) (some ((0, 0, 0, 0, 0, [], [], 0), 2)) (J35_3 G21 G62 k0 k0 (x1) (x2) (x0) ((0, 0, 0, 0, 0, [], [], 0)))) (some ((0, 0, 0, 0, 0, [], [], 0), 2)))) (some ((0, 0, 0, 0, 0, [], [], 0), 2))) := by kernel_rfl
theorem J35_3_eq (G21 : T21 → Option U21) (G62 : T62 → Option U62) (k0 k : Nat) (t1 : Int) (t2 : Int) (b0 : Coord) (b1 : Coord) : J35_3 G21 G62 k0 (k + 1) t1 t2 b0 b1 =
    Option.bind (G62 b0) fun y => br (eqI y 0) (some ((1, t1, 0, t2, 0, [], [], 0), 0)) (br (eqI y 2) (br (eqI y 2) (some (b1, 180)) (J35_9 G21 G62 k0 k0 (t2) (b0) (b1))) (br (eqI y 3) (some (b1, 180)) (J35_9 G21 G62 k0 k0 (t2) (b0) (b1)))) := by kernel_rfl
theorem J35_9_eq (G21 : T21 → Option U21) (G62 : T62 → Option U62) (k0 k : Nat) (t2 : Int) (b0 : Coord) (b1 : Coord) : J35_9 G21 G62 k0 (k + 1) t2 b0 b1 =
    br (eqI b0.2.2.1 100) (some (b1, 102)) (J35_11 G21 G62 k0 k0 (t2) (b0) (b1)) := by kernel_rfl
theorem J35_11_eq (G21 : T21 → Option U21) (G62 : T62 → Option U62) (k0 k : Nat) (t2 : Int) (b0 : Coord) (b1 : Coord) : J35_11 G21 G62 k0 (k + 1) t2 b0 b1 =
    some ((1, b0.2.1, IntKind.wrap IntKind.i64 (b0.2.2.1 + 1), t2, 0, [], [], 0), 0) := by kernel_rfl
theorem C35 {G21 : T21 → Option U21} (h21 : CtrAll Try.prog ⟨21, A21, R21, G21⟩) {G62 : T62 → Option U62} (h62 : CtrAll Try.prog ⟨62, A62, R62, G62⟩) {G : T35 → Option U35} (h : ∀ x y, G x = some y → ∃ k0, F35 G21 G62 k0 x.1 x.2.1 x.2.2 = some y) : CtrAll Try.prog ⟨35, A35, R35, G⟩ := by
  refine ctr_of mixed ⟨Try.f35, Try.func35, by decide, rfl⟩ rfl rfl fun x y hx => ?_
  obtain ⟨k0, hk⟩ := h x y hx
  exact ⟨E35 G21 G62 k0, 4, base.env (⟨h21, h62, trivial⟩ : CtrsOK Try.prog [⟨21, A21, R21, G21⟩, ⟨62, A62, R62, G62⟩]) ⟨⟨Try.func35, by decide⟩, ⟨Try.func63, by decide⟩, ⟨Try.func67, by decide⟩, trivial⟩, hk⟩

/-! roving/states.moves -/
abbrev A88 : Ty := coordT
abbrev R88 : Ty := .tup (.pr coordT (.int .i64))
abbrev T88 : Type := Coord
abbrev U88 : Type := Coord × Int
noncomputable def E88 (G62 : T62 → Option U62) (k : Nat) : Env := mk [⟨62, A62, R62, G62⟩] [(88, Try.f88)] k
noncomputable def F88 (G62 : T62 → Option U62) (k0 : Nat) (x0 : Coord) : Option U88 := sem (E88 G62 k0) 2 88 A88 R88 (x0 : T88)
theorem F88_eq (G62 : T62 → Option U62) (k0 : Nat) (x0 : Coord) : F88 G62 k0 x0 = Option.bind (G62 x0) fun y => br (eqI y 0) (br (eqI y 0) (some ((0, 0, 0, 0, 0, [], [], 0), 180)) (some ((2, x0.2), 0))) (br (eqI y 3) (some ((0, 0, 0, 0, 0, [], [], 0), 180)) (some ((2, x0.2), 0))) := by kernel_rfl
theorem C88 {G62 : T62 → Option U62} (h62 : CtrAll Try.prog ⟨62, A62, R62, G62⟩) {G : T88 → Option U88} (h : ∀ x y, G x = some y → ∃ k0, F88 G62 k0 x = some y) : CtrAll Try.prog ⟨88, A88, R88, G⟩ := by
  refine ctr_of mixed ⟨Try.f88, Try.func88, by decide, rfl⟩ rfl rfl fun x y hx => ?_
  obtain ⟨k0, hk⟩ := h x y hx
  exact ⟨E88 G62 k0, 2, base.env (⟨h62, trivial⟩ : CtrsOK Try.prog [⟨62, A62, R62, G62⟩]) ⟨⟨Try.func88, by decide⟩, trivial⟩, hk⟩

/-! roving/states.Add -/
abbrev A36 : Ty := .pr coordT (.int .i64)
abbrev R36 : Ty := .tup (.pr coordT (.int .i64))
abbrev T36 : Type := Coord × Int
abbrev U36 : Type := Coord × Int
noncomputable def E36 (G21 : T21 → Option U21) (G88 : T88 → Option U88) (G89 : T89 → Option U89) (k : Nat) : Env := mk [⟨21, A21, R21, G21⟩, ⟨88, A88, R88, G88⟩, ⟨89, A89, R89, G89⟩] [(36, Try.f36), (60, Try.f60), (67, Try.f67)] k
noncomputable def F36 (G21 : T21 → Option U21) (G88 : T88 → Option U88) (G89 : T89 → Option U89) (k0 : Nat) (x0 : Coord) (x1 : Int) : Option U36 := sem (E36 G21 G88 G89 k0) 4 36 A36 R36 ((x0, x1) : T36)
theorem F36_eq (G21 : T21 → Option U21) (G88 : T88 → Option U88) (G89 : T89 → Option U89) (k0 : Nat) (x0 : Coord) (x1 : Int) : F36 G21 G88 G89 k0 x0 x1 = Option.bind (G21 x0) fun y => br (!y) (some ((0, 0, 0, 0, 0, [], [], 0), 2)) (br (decide (x1 ≥ 0)) (br (!decide (x1 ≤ 2)) (some ((0, 0, 0, 0, 0, [], [], 0), 2)) (Option.bind (G88 x0) fun y_1 => br (eqI y_1.2 0) (Option.bind (G89 (y_1.1.2.2.2.2.2.1, x1, (), ())) fun y_2 => some ((y_1.1.1, y_1.1.2.1, y_1.1.2.2.1, y_1.1.2.2.2.1, y_1.1.2.2.2.2.1, y_2, y_1.1.2.2.2.2.2.2), y_1.2)) (some (y_1.1, y_1.2)))) (some ((0, 0, 0, 0, 0, [], [], 0), 2))) := by kernel_rfl
theorem C36 {G21 : T21 → Option U21} (h21 : CtrAll Try.prog ⟨21, A21, R21, G21⟩) {G88 : T88 → Option U88} (h88 : CtrAll Try.prog ⟨88, A88, R88, G88⟩) {G89 : T89 → Option U89} (h89 : CtrAll Try.prog ⟨89, A89, R89, G89⟩) {G : T36 → Option U36} (h : ∀ x y, G x = some y → ∃ k0, F36 G21 G88 G89 k0 x.1 x.2 = some y) : CtrAll Try.prog ⟨36, A36, R36, G⟩ := by
  refine ctr_of mixed ⟨Try.f36, Try.func36, by decide, rfl⟩ rfl rfl fun x y hx => ?_
  obtain ⟨k0, hk⟩ := h x y hx
  exact ⟨E36 G21 G88 G89 k0, 4, base.env (⟨h21, h88, h89, trivial⟩ : CtrsOK Try.prog [⟨21, A21, R21, G21⟩, ⟨88, A88, R88, G88⟩, ⟨89, A89, R89, G89⟩]) ⟨⟨Try.func36, by decide⟩, ⟨Try.func60, by decide⟩, ⟨Try.func67, by decide⟩, trivial⟩, hk⟩

/-! roving/states.Set -/
abbrev A79 : Ty := .pr coordT pendT
abbrev R79 : Ty := .tup (.pr coordT (.int .i64))
abbrev T79 : Type := Coord × Pend
abbrev U79 : Type := Coord × Int
noncomputable def E79 (G21 : T21 → Option U21) (G88 : T88 → Option U88) (G103 : T103 → Option U103) (G69 : T69 → Option U69) (k : Nat) : Env := mk [⟨21, A21, R21, G21⟩, ⟨88, A88, R88, G88⟩, ⟨103, A103, R103, G103⟩, ⟨69, A69, R69, G69⟩] [(79, Try.f79)] k
noncomputable def F79 (G21 : T21 → Option U21) (G88 : T88 → Option U88) (G103 : T103 → Option U103) (G69 : T69 → Option U69) (k0 : Nat) (x0 : Coord) (x1 : Pend) : Option U79 := sem (E79 G21 G88 G103 G69 k0) 2 79 A79 R79 ((x0, x1) : T79)
theorem F79_eq (G21 : T21 → Option U21) (G88 : T88 → Option U88) (G103 : T103 → Option U103) (G69 : T69 → Option U69) (k0 : Nat) (x0 : Coord) (x1 : Pend) : F79 G21 G88 G103 G69 k0 x0 x1 = Option.bind (G21 x0) fun y => br (!y) (some ((0, 0, 0, 0, 0, [], [], 0), 2)) (Option.bind (G69 x1) fun y_1 => br (!y_1) (some ((0, 0, 0, 0, 0, [], [], 0), 2)) (Option.bind (G88 x0) fun y_2 => br (eqI y_2.2 0) (Option.bind (G103 (y_2.1.2.2.2.2.2.2.1, x1, (), ())) fun y_3 => some ((y_2.1.1, y_2.1.2.1, y_2.1.2.2.1, y_2.1.2.2.2.1, y_2.1.2.2.2.2.1, y_2.1.2.2.2.2.2.1, y_3, y_2.1.2.2.2.2.2.2.2), y_2.2)) (some (y_2.1, y_2.2)))) := by kernel_rfl
theorem C79 {G21 : T21 → Option U21} (h21 : CtrAll Try.prog ⟨21, A21, R21, G21⟩) {G88 : T88 → Option U88} (h88 : CtrAll Try.prog ⟨88, A88, R88, G88⟩) {G103 : T103 → Option U103} (h103 : CtrAll Try.prog ⟨103, A103, R103, G103⟩) {G69 : T69 → Option U69} (h69 : CtrAll Try.prog ⟨69, A69, R69, G69⟩) {G : T79 → Option U79} (h : ∀ x y, G x = some y → ∃ k0, F79 G21 G88 G103 G69 k0 x.1 x.2 = some y) : CtrAll Try.prog ⟨79, A79, R79, G⟩ := by
  refine ctr_of mixed ⟨Try.f79, Try.func79, by decide, rfl⟩ rfl rfl fun x y hx => ?_
  obtain ⟨k0, hk⟩ := h x y hx
  exact ⟨E79 G21 G88 G103 G69 k0, 2, base.env (⟨h21, h88, h103, h69, trivial⟩ : CtrsOK Try.prog [⟨21, A21, R21, G21⟩, ⟨88, A88, R88, G88⟩, ⟨103, A103, R103, G103⟩, ⟨69, A69, R69, G69⟩]) ⟨⟨Try.func79, by decide⟩, trivial⟩, hk⟩

/-! roving/states.Prepare -/
abbrev A80 : Ty := .pr coordT (.pr .bool (.int .i64))
abbrev R80 : Ty := .tup (.pr coordT (.int .i64))
abbrev T80 : Type := Coord × Bool × Int
abbrev U80 : Type := Coord × Int
def annJ80 : List (Nat × List (Nat × List Nat)) := (80, [(100008, [0, 3, 4, 5, 7, 9, 10, 11, 12, 13, 14, 15, 16, 17, 18, 19, 20, 21, 22, 23, 24, 25, 26, 27, 28, 29, 30, 31, 32, 33, 34, 35, 36, 37, 38, 39, 40, 41, 42, 43, 44, 45, 46, 47, 48]), (100006, [0, 4, 5, 7, 9, 10, 11, 12, 13, 14, 15, 16, 17, 18, 19, 20, 21, 22, 23, 24, 25, 26, 27, 28, 29, 30, 31, 32, 33, 34, 35, 36, 37, 38, 39, 40, 41, 42, 43, 44, 45, 46, 47, 48]), (100003, [0, 4, 5, 7, 8, 9, 10, 11, 12, 13, 14, 15, 16, 17, 18, 19, 20, 21, 22, 23, 24, 25, 26, 27, 28, 29, 30, 31, 32, 33, 34, 35, 36, 37, 38, 39, 40, 41, 42, 43, 44, 45, 46, 47, 48])]) :: ann
noncomputable def E80 (G21 : T21 → Option U21) (G88 : T88 → Option U88) (k : Nat) : Env := mkA annJ80 [⟨21, A21, R21, G21⟩, ⟨88, A88, R88, G88⟩] [(80, Try.f80), (67, Try.f67)] k
noncomputable def F80 (G21 : T21 → Option U21) (G88 : T88 → Option U88) (k0 : Nat) (x0 : Coord) (x1 : Bool) (x2 : Int) : Option U80 := sem (E80 G21 G88 k0) 3 80 A80 R80 ((x0, x1, x2) : T80)
def An80 : List (Nat × List Nat) := (look annJ80 80).getD []
noncomputable def J80_3 (G21 : T21 → Option U21) (G88 : T88 → Option U88) (k0 k : Nat) (t1 : Bool) (t2 : Int) (b0 : Coord) (b1 : Coord) : Option U80 :=
  jn (E80 G21 G88 k0) (evCall (E80 G21 G88 k0) 2) An80 (sub [1, 1] (bodyOf Try.f80)) k ⟨tops 1 ++ [⟨.bool, t1⟩, ⟨.int .i64, t2⟩, ⟨.box 0 0, ()⟩] ++ tops 2 ++ [⟨.box 1 0, ()⟩] ++ tops 42, [⟨coordT, b0⟩, ⟨coordT, b1⟩], List.replicate 49 none⟩
    (retK (E80 G21 G88 k0) 0 Try.f80.results.toList fun v _ => castTo R80 v)
noncomputable def J80_6 (G21 : T21 → Option U21) (G88 : T88 → Option U88) (k0 k : Nat) (t1 : Bool) (t2 : Int) (b0 : Coord) (b1 : Coord) (b2 : Coord) : Option U80 :=
  jn (E80 G21 G88 k0) (evCall (E80 G21 G88 k0) 2) An80 (sub [1, 1, 1, 1] (bodyOf Try.f80)) k ⟨tops 1 ++ [⟨.bool, t1⟩, ⟨.int .i64, t2⟩, ⟨.box 0 0, ()⟩] ++ tops 2 ++ [⟨.box 1 0, ()⟩] ++ tops 1 ++ [⟨.box 2 0, ()⟩] ++ tops 40, [⟨coordT, b0⟩, ⟨coordT, b1⟩, ⟨coordT, b2⟩], List.replicate 49 none⟩
    (retK (E80 G21 G88 k0) 0 Try.f80.results.toList fun v _ => castTo R80 v)
noncomputable def J80_8 (G21 : T21 → Option U21) (G88 : T88 → Option U88) (k0 k : Nat) (t1 : Bool) (t2 : Int) (b0 : Coord) (b1 : Coord) (b2 : Coord) : Option U80 :=
  jn (E80 G21 G88 k0) (evCall (E80 G21 G88 k0) 2) An80 (sub [1, 1, 1, 1, 1] (bodyOf Try.f80)) k ⟨tops 1 ++ [⟨.bool, t1⟩, ⟨.int .i64, t2⟩] ++ tops 3 ++ [⟨.box 1 0, ()⟩] ++ tops 1 ++ [⟨.box 2 0, ()⟩] ++ tops 40, [⟨coordT, b0⟩, ⟨coordT, b1⟩, ⟨coordT, b2⟩], List.replicate 49 none⟩
    (retK (E80 G21 G88 k0) 0 Try.f80.results.toList fun v _ => castTo R80 v)
theorem F80_eq (G21 : T21 → Option U21) (G88 : T88 → Option U88) (k0 : Nat) (x0 : Coord) (x1 : Bool) (x2 : Int) : F80 G21 G88 k0 x0 x1 x2 = Option.bind (G21 x0) fun y => br (!y) (some ((0, 0, 0, 0, 0, [], [], 0), 2)) (br (decide (x2 ≥ 0)) (br (!decide (x2 ≤ 20)) (some ((0, 0, 0, 0, 0, [], [], 0), 2)) (br x1 (br (decide (x2 > 0)) (some ((0, 0, 0, 0, 0, [], [], 0), 2)) (J80_3 G21 G88 k0 k0 (x1) (x2) (x0) ((0, 0, 0, 0, 0, [], [], 0)))) (J80_3 G21 G88 k0 k0 (x1) (x2) (x0) ((0, 0, 0, 0, 0, [], [], 0))))) (some ((0, 0, 0, 0, 0, [], [], 0), 2))) := by kernel_rfl
theorem J80_3_eq (G21 : T21 → Option U21) (G88 : T88 → Option U88) (k0 k : Nat) (t1 : Bool) (t2 : Int) (b0 : Coord) (b1 : Coord) : J80_3 G21 G88 k0 (k + 1) t1 t2 b0 b1 =
    Option.bind (G88 b0) fun y => br (!eqI y.2 0) (some (y.1, y.2)) (J80_6 G21 G88 k0 k0 (t1) (t2) (b0) (b1) (y.1)) := by kernel_rfl
theorem J80_6_eq (G21 : T21 → Option U21) (G88 : T88 → Option U88) (k0 k : Nat) (t1 : Bool) (t2 : Int) (b0 : Coord) (b1 : Coord) (b2 : Coord) : J80_6 G21 G88 k0 (k + 1) t1 t2 b0 b1 b2 =
    br (decide (t2 > 0)) (br (eqI b0.2.2.1 100) (some ((0, 0, 0, 0, 0, [], [], 0), 102)) (J80_8 G21 G88 k0 k0 (t1) (t2) (b0) (b1) (b2))) (J80_8 G21 G88 k0 k0 (t1) (t2) (b0) (b1) (b2)) := by kernel_rfl
theorem J80_8_eq (G21 : T21 → Option U21) (G88 : T88 → Option U88) (k0 k : Nat) (t1 : Bool) (t2 : Int) (b0 : Coord) (b1 : Coord) (b2 : Coord) : J80_8 G21 G88 k0 (k + 1) t1 t2 b0 b1 b2 =
    br t1 (some ((3, b2.2.1, b2.2.2.1, b2.2.2.2.1, t2, b2.2.2.2.2.2), 0)) (some ((4, b2.2.1, b2.2.2.1, b2.2.2.2.1, t2, b2.2.2.2.2.2), 0)) := by kernel_rfl
theorem C80 {G21 : T21 → Option U21} (h21 : CtrAll Try.prog ⟨21, A21, R21, G21⟩) {G88 : T88 → Option U88} (h88 : CtrAll Try.prog ⟨88, A88, R88, G88⟩) {G : T80 → Option U80} (h : ∀ x y, G x = some y → ∃ k0, F80 G21 G88 k0 x.1 x.2.1 x.2.2 = some y) : CtrAll Try.prog ⟨80, A80, R80, G⟩ := by
  refine ctr_of mixed ⟨Try.f80, Try.func80, by decide, rfl⟩ rfl rfl fun x y hx => ?_
  obtain ⟨k0, hk⟩ := h x y hx
  exact ⟨E80 G21 G88 k0, 3, base.env (⟨h21, h88, trivial⟩ : CtrsOK Try.prog [⟨21, A21, R21, G21⟩, ⟨88, A88, R88, G88⟩]) ⟨⟨Try.func80, by decide⟩, ⟨Try.func67, by decide⟩, trivial⟩, hk⟩

/-! roving/states.Complete -/
abbrev A81 : Ty := coordT
abbrev R81 : Ty := .tup (.pr coordT (.int .i64))
abbrev T81 : Type := Coord
abbrev U81 : Type := Coord × Int
noncomputable def E81 (G21 : T21 → Option U21) (G62 : T62 → Option U62) (k : Nat) : Env := mk [⟨21, A21, R21, G21⟩, ⟨62, A62, R62, G62⟩] [(81, Try.f81), (63, Try.f63)] k
noncomputable def F81 (G21 : T21 → Option U21) (G62 : T62 → Option U62) (k0 : Nat) (x0 : Coord) : Option U81 := sem (E81 G21 G62 k0) 3 81 A81 R81 (x0 : T81)
theorem F81_eq (G21 : T21 → Option U21) (G62 : T62 → Option U62) (k0 : Nat) (x0 : Coord) : F81 G21 G62 k0 x0 = Option.bind (G21 x0) fun y => br (!y) (some ((0, 0, 0, 0, 0, [], [], 0), 2)) (Option.bind (G62 x0) fun y_1 => br (!eqI y_1 3) (some ((0, 0, 0, 0, 0, [], [], 0), 180)) (br (eqI x0.1 3) (some ((5, x0.2.1, x0.2.2.1, x0.2.2.2.1, 0, [], [], 0), 0)) (br (decide (x0.2.2.2.2.1 > 0)) (some ((1, x0.2.1, IntKind.wrap IntKind.i64 (x0.2.2.1 + 1), x0.2.2.2.2.1, 0, [], [], 0), 0)) (some ((6, x0.2.1, x0.2.2.1, x0.2.2.2.1, 0, [], [], 0), 0))))) := by kernel_rfl
theorem C81 {G21 : T21 → Option U21} (h21 : CtrAll Try.prog ⟨21, A21, R21, G21⟩) {G62 : T62 → Option U62} (h62 : CtrAll Try.prog ⟨62, A62, R62, G62⟩) {G : T81 → Option U81} (h : ∀ x y, G x = some y → ∃ k0, F81 G21 G62 k0 x = some y) : CtrAll Try.prog ⟨81, A81, R81, G⟩ := by
  refine ctr_of mixed ⟨Try.f81, Try.func81, by decide, rfl⟩ rfl rfl fun x y hx => ?_
  obtain ⟨k0, hk⟩ := h x y hx
  exact ⟨E81 G21 G62 k0, 3, base.env (⟨h21, h62, trivial⟩ : CtrsOK Try.prog [⟨21, A21, R21, G21⟩, ⟨62, A62, R62, G62⟩]) ⟨⟨Try.func81, by decide⟩, ⟨Try.func63, by decide⟩, trivial⟩, hk⟩

/-! roving/states.Place -/
abbrev A19 : Ty := .pr coordT intsT
abbrev R19 : Ty := .tup (.pr coordT (.int .i64))
abbrev T19 : Type := Coord × Ints
abbrev U19 : Type := Coord × Int
def annJ19 : List (Nat × List (Nat × List Nat)) := (19, [(100013, [0, 3, 5, 7, 8, 9, 10, 11, 12, 13, 14, 15, 16, 17, 18, 19, 20, 21, 22, 23, 24, 25, 26, 27, 28, 29, 30, 31, 32, 33, 34, 35, 36, 37, 38, 39, 40, 41, 42, 43, 44, 45, 46, 47, 48, 49, 50, 51, 52, 53, 54, 55, 56, 57, 58, 59, 60, 61, 62]), (100010, [0, 3, 5, 8, 9, 10, 11, 12, 13, 14, 15, 16, 17, 18, 19, 20, 21, 22, 23, 24, 25, 26, 27, 28, 29, 30, 31, 32, 34, 35, 36, 37, 38, 39, 40, 41, 42, 43, 44, 45, 46, 47, 48, 49, 50, 51, 52, 53, 54, 55, 56, 57, 58, 59, 60, 61, 62]), (100006, [0, 3, 5, 8, 9, 10, 11, 12, 13, 14, 15, 16, 17, 18, 19, 20, 22, 23, 24, 25, 26, 27, 28, 29, 30, 31, 32, 33, 34, 35, 36, 37, 38, 39, 40, 41, 42, 43, 44, 45, 46, 47, 48, 49, 50, 51, 52, 53, 54, 55, 56, 57, 58, 59, 60, 61, 62]), (100003, [0, 3, 5, 6, 7, 8, 9, 10, 11, 12, 13, 14, 15, 16, 17, 18, 19, 20, 21, 22, 23, 24, 25, 26, 27, 28, 29, 30, 31, 32, 33, 34, 35, 36, 37, 38, 39, 40, 41, 42, 43, 44, 45, 46, 47, 48, 49, 50, 51, 52, 53, 54, 55, 56, 57, 58, 59, 60, 61, 62])]) :: ann
noncomputable def E19 (G21 : T21 → Option U21) (G59 : T59 → Option U59) (G62 : T62 → Option U62) (G64 : T64 → Option U64) (k : Nat) : Env := mkA annJ19 [⟨21, A21, R21, G21⟩, ⟨59, A59, R59, G59⟩, ⟨62, A62, R62, G62⟩, ⟨64, A64, R64, G64⟩] [(19, Try.f19), (63, Try.f63)] k
noncomputable def F19 (G21 : T21 → Option U21) (G59 : T59 → Option U59) (G62 : T62 → Option U62) (G64 : T64 → Option U64) (k0 : Nat) (x0 : Coord) (x1 : Ints) : Option U19 := sem (E19 G21 G59 G62 G64 k0) 3 19 A19 R19 ((x0, x1) : T19)
def An19 : List (Nat × List Nat) := (look annJ19 19).getD []
noncomputable def J19_3 (G21 : T21 → Option U21) (G59 : T59 → Option U59) (G62 : T62 → Option U62) (G64 : T64 → Option U64) (k0 k : Nat) (t1 : Ints) (b0 : Coord) (b1 : Coord) : Option U19 :=
  jn (E19 G21 G59 G62 G64 k0) (evCall (E19 G21 G59 G62 G64 k0) 2) An19 (sub [1, 1] (bodyOf Try.f19)) k ⟨tops 1 ++ [⟨intsT, t1⟩, ⟨.box 0 0, ()⟩] ++ tops 1 ++ [⟨.box 1 0, ()⟩] ++ tops 58, [⟨coordT, b0⟩, ⟨coordT, b1⟩], List.replicate 63 none⟩
    (retK (E19 G21 G59 G62 G64 k0) 0 Try.f19.results.toList fun v _ => castTo R19 v)
noncomputable def J19_6 (G21 : T21 → Option U21) (G59 : T59 → Option U59) (G62 : T62 → Option U62) (G64 : T64 → Option U64) (k0 k : Nat) (t1 : Ints) (t6 : Int) (t7 : Int) (t21 : Bool) (b0 : Coord) (b1 : Coord) : Option U19 :=
  jn (E19 G21 G59 G62 G64 k0) (evCall (E19 G21 G59 G62 G64 k0) 2) An19 (sub [1, 1, 1, 0, 1, 0, 1] (bodyOf Try.f19)) k ⟨tops 1 ++ [⟨intsT, t1⟩, ⟨.box 0 0, ()⟩] ++ tops 1 ++ [⟨.box 1 0, ()⟩] ++ tops 1 ++ [⟨.int .i64, t6⟩, ⟨.int .i64, t7⟩] ++ tops 13 ++ [⟨.bool, t21⟩] ++ tops 41, [⟨coordT, b0⟩, ⟨coordT, b1⟩], List.replicate 63 none⟩
    (blockK 0 (seqK (E19 G21 G59 G62 G64 k0) (evCall (E19 G21 G59 G62 G64 k0) 2) An19 (sub [1, 1, 1, 1] (bodyOf Try.f19)) (retK (E19 G21 G59 G62 G64 k0) 0 Try.f19.results.toList fun v _ => castTo R19 v)))
noncomputable def J19_10 (G21 : T21 → Option U21) (G59 : T59 → Option U59) (G62 : T62 → Option U62) (G64 : T64 → Option U64) (k0 k : Nat) (t1 : Ints) (t6 : Int) (t7 : Int) (t33 : Bool) (b0 : Coord) (b1 : Coord) : Option U19 :=
  jn (E19 G21 G59 G62 G64 k0) (evCall (E19 G21 G59 G62 G64 k0) 2) An19 (sub [1, 1, 1, 0, 1, 0, 1, 1, 1, 1, 1] (bodyOf Try.f19)) k ⟨tops 1 ++ [⟨intsT, t1⟩, ⟨.box 0 0, ()⟩] ++ tops 1 ++ [⟨.box 1 0, ()⟩] ++ tops 1 ++ [⟨.int .i64, t6⟩, ⟨.int .i64, t7⟩] ++ tops 25 ++ [⟨.bool, t33⟩] ++ tops 29, [⟨coordT, b0⟩, ⟨coordT, b1⟩], List.replicate 63 none⟩
    (blockK 0 (seqK (E19 G21 G59 G62 G64 k0) (evCall (E19 G21 G59 G62 G64 k0) 2) An19 (sub [1, 1, 1, 1] (bodyOf Try.f19)) (retK (E19 G21 G59 G62 G64 k0) 0 Try.f19.results.toList fun v _ => castTo R19 v)))
noncomputable def J19_13 (G21 : T21 → Option U21) (G59 : T59 → Option U59) (G62 : T62 → Option U62) (G64 : T64 → Option U64) (k0 k : Nat) (t1 : Ints) (t6 : Int) (b0 : Coord) (b1 : Coord) : Option U19 :=
  jn (E19 G21 G59 G62 G64 k0) (evCall (E19 G21 G59 G62 G64 k0) 2) An19 (sub [1, 1, 1, 1] (bodyOf Try.f19)) k ⟨tops 1 ++ [⟨intsT, t1⟩, ⟨.box 0 0, ()⟩] ++ tops 1 ++ [⟨.box 1 0, ()⟩] ++ tops 1 ++ [⟨.int .i64, t6⟩] ++ tops 56, [⟨coordT, b0⟩, ⟨coordT, b1⟩], List.replicate 63 none⟩
    (retK (E19 G21 G59 G62 G64 k0) 0 Try.f19.results.toList fun v _ => castTo R19 v)
theorem F19_eq (G21 : T21 → Option U21) (G59 : T59 → Option U59) (G62 : T62 → Option U62) (G64 : T64 → Option U64) (k0 : Nat) (x0 : Coord) (x1 : Ints) : F19 G21 G59 G62 G64 k0 x0 x1 = Option.bind (G21 x0) fun y => br (!y) (some ((0, 0, 0, 0, 0, [], [], 0), 2)) (Option.bind (G59 (x1, ((), ()), (), ())) fun y_1 => br (!y_1) (some ((0, 0, 0, 0, 0, [], [], 0), 2)) (J19_3 G21 G59 G62 G64 k0 k0 (x1) (x0) ((0, 0, 0, 0, 0, [], [], 0)))) := by kernel_rfl
theorem J19_3_eq (G21 : T21 → Option U21) (G59 : T59 → Option U59) (G62 : T62 → Option U62) (G64 : T64 → Option U64) (k0 k : Nat) (t1 : Ints) (b0 : Coord) (b1 : Coord) : J19_3 G21 G59 G62 G64 k0 (k + 1) t1 b0 b1 =
    Option.bind (G62 b0) fun y => br (eqI y 0) (J19_6 G21 G59 G62 G64 k0 k0 (t1) (lenI t1) (y) (decide (lenI t1 > 0)) (b0) (b1)) (J19_6 G21 G59 G62 G64 k0 k0 (t1) (lenI t1) (y) (false) (b0) (b1)) := by kernel_rfl
theorem J19_6_eq (G21 : T21 → Option U21) (G59 : T59 → Option U59) (G62 : T62 → Option U62) (G64 : T64 → Option U64) (k0 k : Nat) (t1 : Ints) (t6 : Int) (t7 : Int) (t21 : Bool) (b0 : Coord) (b1 : Coord) : J19_6 G21 G59 G62 G64 k0 (k + 1) t1 t6 t7 t21 b0 b1 =
    br t21 (some ((0, 0, 0, 0, 0, [], [], 0), 180)) (br (eqI t7 0) (some (b0, 0)) (br (eqI t7 2) (br (eqI t6 0) (J19_10 G21 G59 G62 G64 k0 k0 (t1) (t6) (t7) (eqI (lenI b0.2.2.2.2.2.2.1) 0) (b0) (b1)) (J19_10 G21 G59 G62 G64 k0 k0 (t1) (t6) (t7) (false) (b0) (b1))) (J19_10 G21 G59 G62 G64 k0 k0 (t1) (t6) (t7) (false) (b0) (b1)))) := by kernel_rfl
theorem J19_10_eq (G21 : T21 → Option U21) (G59 : T59 → Option U59) (G62 : T62 → Option U62) (G64 : T64 → Option U64) (k0 k : Nat) (t1 : Ints) (t6 : Int) (t7 : Int) (t33 : Bool) (b0 : Coord) (b1 : Coord) : J19_10 G21 G59 G62 G64 k0 (k + 1) t1 t6 t7 t33 b0 b1 =
    br t33 (some ((1, b0.2.1, b0.2.2.1, b0.2.2.2.1, 0, [], [], 0), 0)) (br (!eqI t7 3) (br (decide (t6 > 0)) (J19_13 G21 G59 G62 G64 k0 k0 (t1) (t6) ((2, b0.2)) (b1)) (J19_13 G21 G59 G62 G64 k0 k0 (t1) (t6) (b0) (b1))) (J19_13 G21 G59 G62 G64 k0 k0 (t1) (t6) (b0) (b1))) := by kernel_rfl
theorem J19_13_eq (G21 : T21 → Option U21) (G59 : T59 → Option U59) (G62 : T62 → Option U62) (G64 : T64 → Option U64) (k0 k : Nat) (t1 : Ints) (t6 : Int) (b0 : Coord) (b1 : Coord) : J19_13 G21 G59 G62 G64 k0 (k + 1) t1 t6 b0 b1 =
    br (decide (0 ≤ t6) && decide (t6 ≤ t6) && decide (t6 ≤ lenI t1)) (br (eqI t6 t6) (Option.bind (G64 (cut t1 0 t6)) fun y => some ((b0.1, b0.2.1, b0.2.2.1, b0.2.2.2.1, b0.2.2.2.2.1, y, b0.2.2.2.2.2.2), 0)) none) none := by kernel_rfl
theorem C19 {G21 : T21 → Option U21} (h21 : CtrAll Try.prog ⟨21, A21, R21, G21⟩) {G59 : T59 → Option U59} (h59 : CtrAll Try.prog ⟨59, A59, R59, G59⟩) {G62 : T62 → Option U62} (h62 : CtrAll Try.prog ⟨62, A62, R62, G62⟩) {G64 : T64 → Option U64} (h64 : CtrAll Try.prog ⟨64, A64, R64, G64⟩) {G : T19 → Option U19} (h : ∀ x y, G x = some y → ∃ k0, F19 G21 G59 G62 G64 k0 x.1 x.2 = some y) : CtrAll Try.prog ⟨19, A19, R19, G⟩ := by
  refine ctr_of mixed ⟨Try.f19, Try.func19, by decide, rfl⟩ rfl rfl fun x y hx => ?_
  obtain ⟨k0, hk⟩ := h x y hx
  exact ⟨E19 G21 G59 G62 G64 k0, 3, base.env (⟨h21, h59, h62, h64, trivial⟩ : CtrsOK Try.prog [⟨21, A21, R21, G21⟩, ⟨59, A59, R59, G59⟩, ⟨62, A62, R62, G62⟩, ⟨64, A64, R64, G64⟩]) ⟨⟨Try.func19, by decide⟩, ⟨Try.func63, by decide⟩, trivial⟩, hk⟩

/-! roving/states.Tick -/
abbrev A38 : Ty := coordT
abbrev R38 : Ty := coordT
abbrev T38 : Type := Coord
abbrev U38 : Type := Coord
noncomputable def E38 (G21 : T21 → Option U21) (k : Nat) : Env := mk [⟨21, A21, R21, G21⟩] [(38, Try.f38)] k
noncomputable def F38 (G21 : T21 → Option U21) (k0 : Nat) (x0 : Coord) : Option U38 := sem (E38 G21 k0) 2 38 A38 R38 (x0 : T38)
theorem F38_eq (G21 : T21 → Option U21) (k0 : Nat) (x0 : Coord) : F38 G21 k0 x0 = Option.bind (G21 x0) fun y => br y (br (eqI x0.1 2) (br (decide (x0.2.2.2.2.2.2.2 < 1048576)) (some (x0.1, x0.2.1, x0.2.2.1, x0.2.2.2.1, x0.2.2.2.2.1, x0.2.2.2.2.2.1, x0.2.2.2.2.2.2.1, IntKind.wrap IntKind.i64 (x0.2.2.2.2.2.2.2 + 1))) (some x0)) (some x0)) (some x0) := by kernel_rfl
theorem C38 {G21 : T21 → Option U21} (h21 : CtrAll Try.prog ⟨21, A21, R21, G21⟩) {G : T38 → Option U38} (h : ∀ x y, G x = some y → ∃ k0, F38 G21 k0 x = some y) : CtrAll Try.prog ⟨38, A38, R38, G⟩ := by
  refine ctr_of mixed ⟨Try.f38, Try.func38, by decide, rfl⟩ rfl rfl fun x y hx => ?_
  obtain ⟨k0, hk⟩ := h x y hx
  exact ⟨E38 G21 k0, 2, base.env (⟨h21, trivial⟩ : CtrsOK Try.prog [⟨21, A21, R21, G21⟩]) ⟨⟨Try.func38, by decide⟩, trivial⟩, hk⟩

end Go.Ev.R3
