import Derived.Test.YtggobapgdflchaaEvS3
set_option linter.unusedVariables false
set_option maxRecDepth 100000
namespace Go.Ev.R3
open Go.Proofs

/-! roving/rovingref18.rise -/
abbrev A55 : Ty := intsT
abbrev R55 : Ty := .bool
abbrev T55 : Type := Ints
abbrev U55 : Type := Bool
noncomputable def E55 (k : Nat) : Env := mk [] [(55, Try.f55)] k
noncomputable def F55 (k0 : Nat) (x0 : Ints) : Option U55 := sem (E55 k0) 2 55 A55 R55 (x0 : T55)
def An55 : List (Nat × List Nat) := (look ann 55).getD []
noncomputable def L55_3 (k0 k : Nat) (t0 : Ints) (t3 : Int) (t4 : Int) : Option U55 :=
  lp (E55 k0) (evCall (E55 k0) 1) An55 (sub [1, 1, 0, 1, 0, 0] (bodyOf Try.f55)) 0 k ⟨[⟨intsT, t0⟩] ++ tops 2 ++ [⟨.int .i64, t3⟩, ⟨.int .i64, t4⟩] ++ tops 23, [], List.replicate 28 none⟩
    (blockK 0 (seqK (E55 k0) (evCall (E55 k0) 1) An55 (sub [1, 1, 1] (bodyOf Try.f55)) (retK (E55 k0) 0 Try.f55.results.toList fun v _ => castTo R55 v)))
theorem F55_eq (k0 : Nat) (x0 : Ints) : F55 k0 x0 = L55_3 k0 k0 (x0) (-1) (0) := by kernel_rfl
theorem L55_3_step (k0 k : Nat) (t0 : Ints) (t3 : Int) (t4 : Int) : L55_3 k0 (k + 1) t0 t3 t4 =
    br (decide (t4 < lenI t0)) (Option.bind (idx t0 t4) fun y => br (decide (y ≤ t3)) (some false) (Option.bind (idx t0 t4) fun y => br (decide (y ≥ 3)) (some false) (Option.bind (idx t0 t4) fun y => L55_3 k0 k (t0) (y) (IntKind.wrap IntKind.i64 (t4 + 1))))) (some true) := by kernel_rfl
theorem C55  {G : T55 → Option U55} (h : ∀ x y, G x = some y → ∃ k0, F55 k0 x = some y) : CtrAll Try.prog ⟨55, A55, R55, G⟩ := by
  refine ctr_of mixed ⟨Try.f55, Try.func55, by decide, rfl⟩ rfl rfl fun x y hx => ?_
  obtain ⟨k0, hk⟩ := h x y hx
  exact ⟨E55 k0, 2, base.env (trivial : CtrsOK Try.prog []) ⟨⟨Try.func55, by decide⟩, trivial⟩, hk⟩

/-! roving/rovingref18.pend -/
abbrev A56 : Ty := pendT
abbrev R56 : Ty := .bool
abbrev T56 : Type := Pend
abbrev U56 : Type := Bool
noncomputable def E56 (k : Nat) : Env := mk [] [(56, Try.f56), (54, Try.f54)] k
noncomputable def F56 (k0 : Nat) (x0 : Pend) : Option U56 := sem (E56 k0) 3 56 A56 R56 (x0 : T56)
theorem F56_eq (k0 : Nat) (x0 : Pend) : F56 k0 x0 = br (decide (x0.1 ≥ 0)) (br (decide (x0.1 ≤ 1)) (br (decide (x0.2.1 ≥ 0)) (br (decide (x0.2.1 ≤ 2)) (br (decide (x0.2.2 ≥ 0)) (some (decide (x0.2.2 ≤ 1048576))) (some false)) (some false)) (some false)) (some false)) (some false) := by kernel_rfl
theorem C56  {G : T56 → Option U56} (h : ∀ x y, G x = some y → ∃ k0, F56 k0 x = some y) : CtrAll Try.prog ⟨56, A56, R56, G⟩ := by
  refine ctr_of mixed ⟨Try.f56, Try.func56, by decide, rfl⟩ rfl rfl fun x y hx => ?_
  obtain ⟨k0, hk⟩ := h x y hx
  exact ⟨E56 k0, 3, base.env (trivial : CtrsOK Try.prog []) ⟨⟨Try.func56, by decide⟩, ⟨Try.func54, by decide⟩, trivial⟩, hk⟩

/-! roving/rovingref18.ahead -/
abbrev A57 : Ty := .pr pendT pendT
abbrev R57 : Ty := .bool
abbrev T57 : Type := Pend × Pend
abbrev U57 : Type := Bool
noncomputable def E57 (k : Nat) : Env := mk [] [(57, Try.f57)] k
noncomputable def F57 (k0 : Nat) (x0 : Pend) (x1 : Pend) : Option U57 := sem (E57 k0) 2 57 A57 R57 ((x0, x1) : T57)
theorem F57_eq (k0 : Nat) (x0 : Pend) (x1 : Pend) : F57 k0 x0 x1 = br (decide (x0.1 < x1.1)) (some true) (br (eqI x0.1 x1.1) (some (decide (x0.2.1 < x1.2.1))) (some false)) := by kernel_rfl
theorem C57  {G : T57 → Option U57} (h : ∀ x y, G x = some y → ∃ k0, F57 k0 x.1 x.2 = some y) : CtrAll Try.prog ⟨57, A57, R57, G⟩ := by
  refine ctr_of mixed ⟨Try.f57, Try.func57, by decide, rfl⟩ rfl rfl fun x y hx => ?_
  obtain ⟨k0, hk⟩ := h x y hx
  exact ⟨E57 k0, 2, base.env (trivial : CtrsOK Try.prog []) ⟨⟨Try.func57, by decide⟩, trivial⟩, hk⟩

/-! roving/rovingref18.Same -/
abbrev A30 : Ty := .pr coordT coordT
abbrev R30 : Ty := .bool
abbrev T30 : Type := Coord × Coord
abbrev U30 : Type := Bool
noncomputable def E30 (k : Nat) : Env := mk [] [(30, Try.f30)] k
noncomputable def F30 (k0 : Nat) (x0 : Coord) (x1 : Coord) : Option U30 := sem (E30 k0) 2 30 A30 R30 ((x0, x1) : T30)
def An30 : List (Nat × List Nat) := (look ann 30).getD []
noncomputable def L30_4 (k0 k : Nat) (t5 : Int) (b0 : Coord) (b1 : Coord) : Option U30 :=
  lp (E30 k0) (evCall (E30 k0) 1) An30 (sub [1, 1, 0, 1, 0, 0] (bodyOf Try.f30)) 2 k ⟨tops 2 ++ [⟨.box 0 0, ()⟩, ⟨.box 1 0, ()⟩] ++ tops 1 ++ [⟨.int .i64, t5⟩] ++ tops 95, [⟨coordT, b0⟩, ⟨coordT, b1⟩], List.replicate 101 none⟩
    (blockK 0 (seqK (E30 k0) (evCall (E30 k0) 1) An30 (sub [1, 1, 1] (bodyOf Try.f30)) (retK (E30 k0) 0 Try.f30.results.toList fun v _ => castTo R30 v)))
noncomputable def L30_9 (k0 k : Nat) (t6 : Int) (b0 : Coord) (b1 : Coord) : Option U30 :=
  lp (E30 k0) (evCall (E30 k0) 1) An30 (sub [1, 1, 1, 0, 1, 0, 0] (bodyOf Try.f30)) 2 k ⟨tops 2 ++ [⟨.box 0 0, ()⟩, ⟨.box 1 0, ()⟩] ++ tops 2 ++ [⟨.int .i64, t6⟩] ++ tops 94, [⟨coordT, b0⟩, ⟨coordT, b1⟩], List.replicate 101 none⟩
    (blockK 2 (seqK (E30 k0) (evCall (E30 k0) 1) An30 (sub [1, 1, 1, 1] (bodyOf Try.f30)) (retK (E30 k0) 0 Try.f30.results.toList fun v _ => castTo R30 v)))
theorem F30_eq (k0 : Nat) (x0 : Coord) (x1 : Coord) : F30 k0 x0 x1 = br (!eqI x0.1 x1.1) (some false) (br (!eqI x0.2.1 x1.2.1) (some false) (br (!eqI x0.2.2.1 x1.2.2.1) (some false) (br (!eqI x0.2.2.2.1 x1.2.2.2.1) (some false) (br (!eqI x0.2.2.2.2.1 x1.2.2.2.2.1) (some false) (br (!eqI x0.2.2.2.2.2.2.2 x1.2.2.2.2.2.2.2) (some false) (br (!eqI (lenI x0.2.2.2.2.2.1) (lenI x1.2.2.2.2.2.1)) (some false) (br (!eqI (lenI x0.2.2.2.2.2.2.1) (lenI x1.2.2.2.2.2.2.1)) (some false) (L30_4 k0 k0 (0) (x0) (x1))))))))) := by kernel_rfl
theorem L30_4_step (k0 k : Nat) (t5 : Int) (b0 : Coord) (b1 : Coord) : L30_4 k0 (k + 1) t5 b0 b1 =
    br (decide (t5 < lenI b0.2.2.2.2.2.1)) (Option.bind (idx b0.2.2.2.2.2.1 t5) fun y => Option.bind (idx b1.2.2.2.2.2.1 t5) fun y_1 => br (!eqI y y_1) (some false) (L30_4 k0 k (IntKind.wrap IntKind.i64 (t5 + 1)) (b0) (b1))) (L30_9 k0 k0 (0) (b0) (b1)) := by kernel_rfl
theorem L30_9_step (k0 k : Nat) (t6 : Int) (b0 : Coord) (b1 : Coord) : L30_9 k0 (k + 1) t6 b0 b1 =
    br (decide (t6 < lenI b0.2.2.2.2.2.2.1)) (Option.bind (idx b0.2.2.2.2.2.2.1 t6) fun y => Option.bind (idx b1.2.2.2.2.2.2.1 t6) fun y_1 => br (!(eqI y.1 y_1.1 && (eqI y.2.1 y_1.2.1 && eqI y.2.2 y_1.2.2))) (some false) (L30_9 k0 k (IntKind.wrap IntKind.i64 (t6 + 1)) (b0) (b1))) (some true) := by kernel_rfl
theorem C30  {G : T30 → Option U30} (h : ∀ x y, G x = some y → ∃ k0, F30 k0 x.1 x.2 = some y) : CtrAll Try.prog ⟨30, A30, R30, G⟩ := by
  refine ctr_of mixed ⟨Try.f30, Try.func30, by decide, rfl⟩ rfl rfl fun x y hx => ?_
  obtain ⟨k0, hk⟩ := h x y hx
  exact ⟨E30 k0, 2, base.env (trivial : CtrsOK Try.prog []) ⟨⟨Try.func30, by decide⟩, trivial⟩, hk⟩

/-! roving/rovingref18.May -/
abbrev A17 : Ty := coordT
abbrev R17 : Ty := .bool
abbrev T17 : Type := Coord
abbrev U17 : Type := Bool
def annJ17 : List (Nat × List (Nat × List Nat)) := (17, [(6, [0, 2, 4, 5, 6, 7, 8, 9, 10, 11, 12, 13, 14, 15, 16, 17, 18, 19, 20, 21, 22, 23, 24, 25, 26, 27, 28, 29, 30, 31, 32, 33, 34, 35, 36, 37, 38, 39, 40, 41, 42, 43, 44, 45, 46, 47, 48, 49, 50, 51, 52, 53, 54, 55, 56, 57, 58, 59, 60, 61, 62, 63, 64, 65, 66, 67, 68, 69, 70, 71, 72, 73, 74, 75, 76, 77, 78, 79, 80, 81, 82, 83, 84, 85, 86, 87, 88, 89, 90, 91, 92, 93, 94, 95, 96, 97, 98, 99, 100, 101, 102, 103, 104, 105, 106, 107, 108, 109, 110, 111, 112, 113, 114, 115, 116, 117, 118, 119, 120, 121, 122, 123, 124, 125, 126, 127, 128, 129, 130, 131, 132, 133]), (100012, [0, 2, 3, 4, 5, 6, 7, 8, 9, 10, 11, 12, 13, 14, 15, 16, 17, 18, 19, 20, 21, 22, 23, 24, 25, 26, 27, 28, 29, 30, 31, 32, 33, 34, 35, 36, 37, 38, 39, 40, 41, 42, 43, 44, 45, 46, 47, 48, 49, 50, 51, 52, 53, 54, 55, 56, 57, 58, 59, 60, 61, 62, 63, 64, 65, 66, 67, 68, 69, 70, 71, 72, 73, 74, 75, 76, 77, 78, 79, 80, 81, 82, 83, 84, 85, 86, 87, 88, 89, 90, 91, 92, 93, 94, 95, 96, 97, 98, 99, 100, 101, 102, 103, 104, 105, 106, 107, 108, 109, 110, 111, 112, 113, 114, 115, 116, 117, 118, 119, 120, 121, 122, 123, 124, 125, 126, 127, 128, 129, 130, 131, 132, 133]), (100010, [0, 2, 3, 4, 5, 6, 7, 8, 9, 10, 11, 12, 13, 14, 15, 16, 17, 18, 19, 20, 21, 22, 23, 24, 25, 26, 27, 28, 29, 30, 31, 32, 33, 34, 35, 36, 37, 38, 39, 40, 41, 42, 43, 44, 45, 46, 47, 48, 49, 50, 51, 52, 53, 54, 55, 56, 57, 58, 59, 60, 61, 62, 63, 64, 65, 66, 67, 68, 69, 70, 71, 72, 73, 74, 75, 76, 77, 78, 79, 80, 81, 82, 83, 84, 85, 86, 87, 88, 89, 90, 91, 92, 93, 94, 95, 96, 97, 98, 99, 100, 101, 102, 103, 104, 105, 106, 107, 108, 109, 110, 111, 112, 113, 114, 115, 116, 117, 118, 119, 120, 121, 122, 123, 124, 125, 126, 127, 128, 129, 130, 131, 132, 133]), (100008, [0, 2, 4, 5, 6, 7, 8, 9, 10, 11, 12, 13, 14, 15, 16, 17, 18, 19, 20, 21, 22, 23, 24, 25, 26, 27, 28, 29, 30, 31, 32, 33, 34, 35, 36, 37, 38, 39, 40, 41, 42, 43, 44, 45, 46, 47, 48, 49, 50, 51, 52, 53, 54, 55, 56, 57, 58, 59, 60, 61, 62, 63, 64, 65, 66, 67, 68, 69, 70, 71, 72, 73, 74, 75, 76, 77, 78, 79, 80, 81, 82, 83, 84, 85, 86, 87, 88, 89, 90, 91, 92, 93, 94, 95, 96, 97, 98, 99, 100, 101, 102, 103, 104, 105, 106, 107, 108, 109, 110, 111, 112, 113, 114, 115, 116, 117, 118, 119, 120, 121, 122, 123, 124, 125, 126, 127, 128, 129, 130, 131, 132, 133]), (100005, [0, 2, 3, 4, 5, 6, 7, 8, 9, 10, 11, 12, 13, 14, 15, 16, 17, 18, 19, 20, 21, 22, 23, 24, 25, 26, 27, 28, 29, 30, 31, 32, 33, 34, 35, 36, 37, 38, 39, 40, 41, 42, 43, 44, 45, 46, 47, 48, 49, 50, 51, 52, 53, 54, 55, 56, 57, 58, 59, 60, 61, 62, 63, 64, 65, 66, 67, 68, 69, 70, 71, 72, 73, 74, 75, 76, 77, 78, 79, 80, 81, 82, 83, 84, 85, 86, 87, 88, 89, 90, 91, 92, 93, 94, 95, 96, 97, 98, 99, 100, 101, 102, 103, 104, 105, 106, 107, 108, 109, 110, 111, 112, 113, 114, 115, 116, 117, 118, 119, 120, 121, 122, 123, 124, 125, 126, 127, 128, 129, 130, 131, 132, 133]), (100003, [0, 2, 3, 4, 5, 6, 7, 8, 9, 10, 11, 12, 13, 14, 15, 16, 17, 18, 19, 20, 21, 22, 23, 24, 25, 26, 27, 28, 29, 30, 31, 32, 33, 34, 35, 36, 37, 38, 39, 40, 41, 42, 43, 44, 45, 46, 47, 48, 49, 50, 51, 52, 53, 54, 55, 56, 57, 58, 59, 60, 61, 62, 63, 64, 65, 66, 67, 68, 69, 70, 71, 72, 73, 74, 75, 76, 77, 78, 79, 80, 81, 82, 83, 84, 85, 86, 87, 88, 89, 90, 91, 92, 93, 94, 95, 96, 97, 98, 99, 100, 101, 102, 103, 104, 105, 106, 107, 108, 109, 110, 111, 112, 113, 114, 115, 116, 117, 118, 119, 120, 121, 122, 123, 124, 125, 126, 127, 128, 129, 130, 131, 132, 133])]) :: ann
noncomputable def E17 (G30 : T30 → Option U30) (G55 : T55 → Option U55) (G56 : T56 → Option U56) (G57 : T57 → Option U57) (k : Nat) : Env := mkA annJ17 [⟨30, A30, R30, G30⟩, ⟨55, A55, R55, G55⟩, ⟨56, A56, R56, G56⟩, ⟨57, A57, R57, G57⟩] [(17, Try.f17), (54, Try.f54), (58, Try.f58)] k
noncomputable def F17 (G30 : T30 → Option U30) (G55 : T55 → Option U55) (G56 : T56 → Option U56) (G57 : T57 → Option U57) (k0 : Nat) (x0 : Coord) : Option U17 := sem (E17 G30 G55 G56 G57 k0) 4 17 A17 R17 (x0 : T17)
def An17 : List (Nat × List Nat) := (look annJ17 17).getD []
noncomputable def J17_3 (G30 : T30 → Option U30) (G55 : T55 → Option U55) (G56 : T56 → Option U56) (G57 : T57 → Option U57) (k0 k : Nat) (b0 : Coord) : Option U17 :=
  jn (E17 G30 G55 G56 G57 k0) (evCall (E17 G30 G55 G56 G57 k0) 3) An17 (sub [1, 1] (bodyOf Try.f17)) k ⟨tops 1 ++ [⟨.box 0 0, ()⟩] ++ tops 132, [⟨coordT, b0⟩], List.replicate 134 none⟩
    (retK (E17 G30 G55 G56 G57 k0) 0 Try.f17.results.toList fun v _ => castTo R17 v)
noncomputable def J17_5 (G30 : T30 → Option U30) (G55 : T55 → Option U55) (G56 : T56 → Option U56) (G57 : T57 → Option U57) (k0 k : Nat) (b0 : Coord) : Option U17 :=
  jn (E17 G30 G55 G56 G57 k0) (evCall (E17 G30 G55 G56 G57 k0) 3) An17 (sub [1, 1, 1] (bodyOf Try.f17)) k ⟨tops 1 ++ [⟨.box 0 0, ()⟩] ++ tops 132, [⟨coordT, b0⟩], List.replicate 134 none⟩
    (retK (E17 G30 G55 G56 G57 k0) 0 Try.f17.results.toList fun v _ => castTo R17 v)
noncomputable def L17_6 (G30 : T30 → Option U30) (G55 : T55 → Option U55) (G56 : T56 → Option U56) (G57 : T57 → Option U57) (k0 k : Nat) (t3 : Int) (b0 : Coord) : Option U17 :=
  lp (E17 G30 G55 G56 G57 k0) (evCall (E17 G30 G55 G56 G57 k0) 3) An17 (sub [1, 1, 1, 0, 1, 0, 0] (bodyOf Try.f17)) 1 k ⟨tops 1 ++ [⟨.box 0 0, ()⟩] ++ tops 1 ++ [⟨.int .i64, t3⟩] ++ tops 130, [⟨coordT, b0⟩], List.replicate 134 none⟩
    (blockK 0 (seqK (E17 G30 G55 G56 G57 k0) (evCall (E17 G30 G55 G56 G57 k0) 3) An17 (sub [1, 1, 1, 1] (bodyOf Try.f17)) (retK (E17 G30 G55 G56 G57 k0) 0 Try.f17.results.toList fun v _ => castTo R17 v)))
noncomputable def J17_10 (G30 : T30 → Option U30) (G55 : T55 → Option U55) (G56 : T56 → Option U56) (G57 : T57 → Option U57) (k0 k : Nat) (b0 : Coord) : Option U17 :=
  jn (E17 G30 G55 G56 G57 k0) (evCall (E17 G30 G55 G56 G57 k0) 3) An17 (sub [1, 1, 1, 1] (bodyOf Try.f17)) k ⟨tops 1 ++ [⟨.box 0 0, ()⟩] ++ tops 132, [⟨coordT, b0⟩], List.replicate 134 none⟩
    (retK (E17 G30 G55 G56 G57 k0) 0 Try.f17.results.toList fun v _ => castTo R17 v)
noncomputable def J17_8 (G30 : T30 → Option U30) (G55 : T55 → Option U55) (G56 : T56 → Option U56) (G57 : T57 → Option U57) (k0 ko1 k : Nat) (t3 : Int) (b0 : Coord) : Option U17 :=
  jn (E17 G30 G55 G56 G57 k0) (evCall (E17 G30 G55 G56 G57 k0) 3) An17 (sub [1, 1, 1, 0, 1, 0, 0, 1] (bodyOf Try.f17)) k ⟨tops 1 ++ [⟨.box 0 0, ()⟩] ++ tops 1 ++ [⟨.int .i64, t3⟩] ++ tops 130, [⟨coordT, b0⟩], List.replicate 134 none⟩
    (loopK (E17 G30 G55 G56 G57 k0) (evCall (E17 G30 G55 G56 G57 k0) 3) An17 (sub [1, 1, 1, 0, 1, 0, 0] (bodyOf Try.f17)) 1 ko1 (blockK 0 (seqK (E17 G30 G55 G56 G57 k0) (evCall (E17 G30 G55 G56 G57 k0) 3) An17 (sub [1, 1, 1, 1] (bodyOf Try.f17)) (retK (E17 G30 G55 G56 G57 k0) 0 Try.f17.results.toList fun v _ => castTo R17 v))))
noncomputable def J17_12 (G30 : T30 → Option U30) (G55 : T55 → Option U55) (G56 : T56 → Option U56) (G57 : T57 → Option U57) (k0 k : Nat) (b0 : Coord) : Option U17 :=
  jn (E17 G30 G55 G56 G57 k0) (evCall (E17 G30 G55 G56 G57 k0) 3) An17 (sub [1, 1, 1, 1, 1] (bodyOf Try.f17)) k ⟨tops 1 ++ [⟨.box 0 0, ()⟩] ++ tops 132, [⟨coordT, b0⟩], List.replicate 134 none⟩
    (retK (E17 G30 G55 G56 G57 k0) 0 Try.f17.results.toList fun v _ => castTo R17 v)
theorem F17_eq (G30 : T30 → Option U30) (G55 : T55 → Option U55) (G56 : T56 → Option U56) (G57 : T57 → Option U57) (k0 : Nat) (x0 : Coord) : F17 G30 G55 G56 G57 k0 x0 = br (eqI x0.1 0) (Option.bind (G30 (x0, 0, 0, 0, 0, 0, [], [], 0)) fun y => some y) (J17_3 G30 G55 G56 G57 k0 k0 (x0)) := by kernel_rfl
theorem J17_3_eq (G30 : T30 → Option U30) (G55 : T55 → Option U55) (G56 : T56 → Option U56) (G57 : T57 → Option U57) (k0 k : Nat) (b0 : Coord) : J17_3 G30 G55 G56 G57 k0 (k + 1) b0 =
    br (decide (IntKind.wrap IntKind.i64 b0.1 ≥ 1)) (br (!decide (IntKind.wrap IntKind.i64 b0.1 ≤ 6)) (some false) (br (decide (b0.2.1 ≥ 1)) (br (!decide (b0.2.1 ≤ 8)) (some false) (br (decide (b0.2.2.1 ≥ 0)) (br (!decide (b0.2.2.1 ≤ 100)) (some false) (br (decide (b0.2.2.2.1 ≥ 1)) (br (!decide (b0.2.2.2.1 ≤ 20)) (some false) (br (decide (b0.2.2.2.2.2.2.2 ≥ 0)) (br (!decide (b0.2.2.2.2.2.2.2 ≤ 1048576)) (some false) (Option.bind (G55 b0.2.2.2.2.2.1) fun y => br (!y) (some false) (br (decide (b0.2.2.2.2.1 ≥ 0)) (br (!decide (b0.2.2.2.2.1 ≤ 20)) (some false) (J17_5 G30 G55 G56 G57 k0 k0 (b0))) (some false)))) (some false))) (some false))) (some false))) (some false))) (some false) := by kernel_rfl
theorem J17_5_eq (G30 : T30 → Option U30) (G55 : T55 → Option U55) (G56 : T56 → Option U56) (G57 : T57 → Option U57) (k0 k : Nat) (b0 : Coord) : J17_5 G30 G55 G56 G57 k0 (k + 1) b0 =
    L17_6 G30 G55 G56 G57 k0 k0 (0) (b0) := by kernel_rfl
theorem L17_6_step (G30 : T30 → Option U30) (G55 : T55 → Option U55) (G56 : T56 → Option U56) (G57 : T57 → Option U57) (k0 k : Nat) (t3 : Int) (b0 : Coord) : L17_6 G30 G55 G56 G57 k0 (k + 1) t3 b0 =
    br (decide (t3 < lenI b0.2.2.2.2.2.2.1)) (J17_8 G30 G55 G56 G57 k0 k k0 (t3) (b0)) (J17_10 G30 G55 G56 G57 k0 k0 (b0)) := by kernel_rfl
theorem J17_10_eq (G30 : T30 → Option U30) (G55 : T55 → Option U55) (G56 : T56 → Option U56) (G57 : T57 → Option U57) (k0 k : Nat) (b0 : Coord) : J17_10 G30 G55 G56 G57 k0 (k + 1) b0 =
    br (eqI b0.1 2) (br (eqI b0.1 2) (br (eqI (lenI b0.2.2.2.2.2.1) 0) (br (eqI (lenI b0.2.2.2.2.2.2.1) 0) (some false) (J17_12 G30 G55 G56 G57 k0 k0 (b0))) (J17_12 G30 G55 G56 G57 k0 k0 (b0))) (J17_12 G30 G55 G56 G57 k0 k0 (b0))) (br (eqI b0.1 3) (br (eqI b0.1 2) (br (eqI (lenI b0.2.2.2.2.2.1) 0) (br (eqI (lenI b0.2.2.2.2.2.2.1) 0) (some false) (J17_12 G30 G55 G56 G57 k0 k0 (b0))) (J17_12 G30 G55 G56 G57 k0 k0 (b0))) (J17_12 G30 G55 G56 G57 k0 k0 (b0))) (br (!eqI b0.1 4) (br (decide (lenI b0.2.2.2.2.2.1 > 0)) (some false) (br (decide (lenI b0.2.2.2.2.2.2.1 > 0)) (some false) (br (decide (b0.2.2.2.2.2.2.2 > 0)) (some false) (br (eqI b0.1 2) (br (eqI (lenI b0.2.2.2.2.2.1) 0) (br (eqI (lenI b0.2.2.2.2.2.2.1) 0) (some false) (J17_12 G30 G55 G56 G57 k0 k0 (b0))) (J17_12 G30 G55 G56 G57 k0 k0 (b0))) (J17_12 G30 G55 G56 G57 k0 k0 (b0)))))) (br (eqI b0.1 2) (br (eqI (lenI b0.2.2.2.2.2.1) 0) (br (eqI (lenI b0.2.2.2.2.2.2.1) 0) (some false) (J17_12 G30 G55 G56 G57 k0 k0 (b0))) (J17_12 G30 G55 G56 G57 k0 k0 (b0))) (J17_12 G30 G55 G56 G57 k0 k0 (b0))))) := by kernel_rfl
theorem J17_8_eq (G30 : T30 → Option U30) (G55 : T55 → Option U55) (G56 : T56 → Option U56) (G57 : T57 → Option U57) (k0 ko1 k : Nat) (t3 : Int) (b0 : Coord) : J17_8 G30 G55 G56 G57 k0 ko1 (k + 1) t3 b0 =
    Option.bind (idx b0.2.2.2.2.2.2.1 t3) fun y => Option.bind (G56 y) fun y_1 => br (!y_1) (some false) (br (decide (t3 > 0)) (Option.bind (idx b0.2.2.2.2.2.2.1 (IntKind.wrap IntKind.i64 (t3 - 1))) fun y_2 => Option.bind (idx b0.2.2.2.2.2.2.1 t3) fun y_3 => Option.bind (G57 (y_2, y_3)) fun y => br (!y) (some false) (L17_6 G30 G55 G56 G57 k0 ko1 (IntKind.wrap IntKind.i64 (t3 + 1)) (b0))) (L17_6 G30 G55 G56 G57 k0 ko1 (IntKind.wrap IntKind.i64 (t3 + 1)) (b0))) := by kernel_rfl
theorem J17_12_eq (G30 : T30 → Option U30) (G55 : T55 → Option U55) (G56 : T56 → Option U56) (G57 : T57 → Option U57) (k0 k : Nat) (b0 : Coord) : J17_12 G30 G55 G56 G57 k0 (k + 1) b0 =
    br (eqI b0.2.2.2.2.1 0) (some true) (br (eqI b0.1 4) (some (decide (b0.2.2.1 < 100))) (some false)) := by kernel_rfl
theorem C17 {G30 : T30 → Option U30} (h30 : CtrAll Try.prog ⟨30, A30, R30, G30⟩) {G55 : T55 → Option U55} (h55 : CtrAll Try.prog ⟨55, A55, R55, G55⟩) {G56 : T56 → Option U56} (h56 : CtrAll Try.prog ⟨56, A56, R56, G56⟩) {G57 : T57 → Option U57} (h57 : CtrAll Try.prog ⟨57, A57, R57, G57⟩) {G : T17 → Option U17} (h : ∀ x y, G x = some y → ∃ k0, F17 G30 G55 G56 G57 k0 x = some y) : CtrAll Try.prog ⟨17, A17, R17, G⟩ := by
  refine ctr_of mixed ⟨Try.f17, Try.func17, by decide, rfl⟩ rfl rfl fun x y hx => ?_
  obtain ⟨k0, hk⟩ := h x y hx
  exact ⟨E17 G30 G55 G56 G57 k0, 4, base.env (⟨h30, h55, h56, h57, trivial⟩ : CtrsOK Try.prog [⟨30, A30, R30, G30⟩, ⟨55, A55, R55, G55⟩, ⟨56, A56, R56, G56⟩, ⟨57, A57, R57, G57⟩]) ⟨⟨Try.func17, by decide⟩, ⟨Try.func54, by decide⟩, ⟨Try.func58, by decide⟩, trivial⟩, hk⟩

/-! roving/rovingref18.Has -/
abbrev A105 : Ty := .pr coordT (.int .i64)
abbrev R105 : Ty := .bool
abbrev T105 : Type := Coord × Int
abbrev U105 : Type := Bool
noncomputable def E105 (k : Nat) : Env := mk [] [(105, Try.f105)] k
noncomputable def F105 (k0 : Nat) (x0 : Coord) (x1 : Int) : Option U105 := sem (E105 k0) 2 105 A105 R105 ((x0, x1) : T105)
def An105 : List (Nat × List Nat) := (look ann 105).getD []
noncomputable def L105_2 (k0 k : Nat) (t1 : Int) (t5 : Int) (b0 : Coord) : Option U105 :=
  lp (E105 k0) (evCall (E105 k0) 1) An105 (sub [1, 0, 1, 0, 0] (bodyOf Try.f105)) 1 k ⟨tops 1 ++ [⟨.int .i64, t1⟩, ⟨.box 0 0, ()⟩] ++ tops 2 ++ [⟨.int .i64, t5⟩] ++ tops 14, [⟨coordT, b0⟩], List.replicate 20 none⟩
    (blockK 0 (seqK (E105 k0) (evCall (E105 k0) 1) An105 (sub [1, 1] (bodyOf Try.f105)) (retK (E105 k0) 0 Try.f105.results.toList fun v _ => castTo R105 v)))
theorem F105_eq (k0 : Nat) (x0 : Coord) (x1 : Int) : F105 k0 x0 x1 = L105_2 k0 k0 (x1) (0) (x0) := by kernel_rfl
theorem L105_2_step (k0 k : Nat) (t1 : Int) (t5 : Int) (b0 : Coord) : L105_2 k0 (k + 1) t1 t5 b0 =
    br (decide (t5 < lenI b0.2.2.2.2.2.1)) (Option.bind (idx b0.2.2.2.2.2.1 t5) fun y => br (eqI y t1) (some true) (L105_2 k0 k (t1) (IntKind.wrap IntKind.i64 (t5 + 1)) (b0))) (some false) := by kernel_rfl
theorem C105  {G : T105 → Option U105} (h : ∀ x y, G x = some y → ∃ k0, F105 k0 x.1 x.2 = some y) : CtrAll Try.prog ⟨105, A105, R105, G⟩ := by
  refine ctr_of mixed ⟨Try.f105, Try.func105, by decide, rfl⟩ rfl rfl fun x y hx => ?_
  obtain ⟨k0, hk⟩ := h x y hx
  exact ⟨E105 k0, 2, base.env (trivial : CtrsOK Try.prog []) ⟨⟨Try.func105, by decide⟩, trivial⟩, hk⟩

/-! roving/rovingref18.Init -/
abbrev A82 : Ty := .pr coordT (.pr (.int .i64) (.int .i64))
abbrev R82 : Ty := .tup (.pr coordT (.int .i64))
abbrev T82 : Type := Coord × Int × Int
abbrev U82 : Type := Coord × Int
def annJ82 : List (Nat × List (Nat × List Nat)) := (82, [(100009, [0, 1, 4, 5, 7, 8, 9, 10, 11, 12, 13, 14, 15, 16, 17, 18, 19, 20, 21, 22, 23, 24, 25, 26, 27, 28, 29, 30, 31, 32, 33, 34, 35, 36, 37, 38, 39, 40, 41, 42]), (100007, [0, 1, 4, 5, 7, 8, 9, 10, 11, 12, 13, 14, 15, 16, 17, 18, 19, 20, 21, 22, 23, 24, 25, 26, 27, 28, 29, 30, 31, 32, 33, 34, 35, 36, 37, 38, 39, 40, 41, 42]), (100005, [0, 1, 4, 5, 7, 8, 9, 10, 11, 12, 13, 14, 15, 16, 17, 18, 19, 20, 21, 22, 23, 24, 25, 26, 27, 28, 29, 30, 31, 32, 33, 34, 35, 36, 37, 38, 39, 40, 41, 42]), (100003, [0, 4, 5, 7, 8, 9, 10, 11, 12, 13, 14, 15, 16, 17, 18, 19, 20, 21, 22, 23, 24, 25, 26, 27, 28, 29, 30, 31, 32, 33, 34, 35, 36, 37, 38, 39, 40, 41, 42])]) :: ann
noncomputable def E82 (G17 : T17 → Option U17) (k : Nat) : Env := mkA annJ82 [⟨17, A17, R17, G17⟩] [(82, Try.f82), (54, Try.f54), (104, Try.f104)] k
noncomputable def F82 (G17 : T17 → Option U17) (k0 : Nat) (x0 : Coord) (x1 : Int) (x2 : Int) : Option U82 := sem (E82 G17 k0) 4 82 A82 R82 ((x0, x1, x2) : T82)
def An82 : List (Nat × List Nat) := (look annJ82 82).getD []
noncomputable def J82_3 (G17 : T17 → Option U17) (k0 k : Nat) (t1 : Int) (t2 : Int) (b0 : Coord) (b1 : Coord) : Option U82 :=
  jn (E82 G17 k0) (evCall (E82 G17 k0) 3) An82 (sub [1, 1] (bodyOf Try.f82)) k ⟨tops 1 ++ [⟨.int .i64, t1⟩, ⟨.int .i64, t2⟩, ⟨.box 0 0, ()⟩] ++ tops 2 ++ [⟨.box 1 0, ()⟩] ++ tops 36, [⟨coordT, b0⟩, ⟨coordT, b1⟩], List.replicate 43 none⟩
    (retK (E82 G17 k0) 0 Try.f82.results.toList fun v _ => castTo R82 v)
noncomputable def J82_5 (G17 : T17 → Option U17) (k0 k : Nat) (t2 : Int) (b0 : Coord) (b1 : Coord) : Option U82 :=
  jn (E82 G17 k0) (evCall (E82 G17 k0) 3) An82 (sub [1, 1, 1] (bodyOf Try.f82)) k ⟨tops 2 ++ [⟨.int .i64, t2⟩, ⟨.box 0 0, ()⟩] ++ tops 2 ++ [⟨.box 1 0, ()⟩] ++ tops 36, [⟨coordT, b0⟩, ⟨coordT, b1⟩], List.replicate 43 none⟩
    (retK (E82 G17 k0) 0 Try.f82.results.toList fun v _ => castTo R82 v)
noncomputable def J82_7 (G17 : T17 → Option U17) (k0 k : Nat) (t2 : Int) (b0 : Coord) (b1 : Coord) : Option U82 :=
  jn (E82 G17 k0) (evCall (E82 G17 k0) 3) An82 (sub [1, 1, 1, 1] (bodyOf Try.f82)) k ⟨tops 2 ++ [⟨.int .i64, t2⟩, ⟨.box 0 0, ()⟩] ++ tops 2 ++ [⟨.box 1 0, ()⟩] ++ tops 36, [⟨coordT, b0⟩, ⟨coordT, b1⟩], List.replicate 43 none⟩
    (retK (E82 G17 k0) 0 Try.f82.results.toList fun v _ => castTo R82 v)
noncomputable def J82_9 (G17 : T17 → Option U17) (k0 k : Nat) (t2 : Int) (b0 : Coord) (b1 : Coord) : Option U82 :=
  jn (E82 G17 k0) (evCall (E82 G17 k0) 3) An82 (sub [1, 1, 1, 1, 1] (bodyOf Try.f82)) k ⟨tops 2 ++ [⟨.int .i64, t2⟩, ⟨.box 0 0, ()⟩] ++ tops 2 ++ [⟨.box 1 0, ()⟩] ++ tops 36, [⟨coordT, b0⟩, ⟨coordT, b1⟩], List.replicate 43 none⟩
    (retK (E82 G17 k0) 0 Try.f82.results.toList fun v _ => castTo R82 v)
theorem F82_eq (G17 : T17 → Option U17) (k0 : Nat) (x0 : Coord) (x1 : Int) (x2 : Int) : F82 G17 k0 x0 x1 x2 = Option.bind (G17 x0) fun y => br (!y) (some ((0, 0, 0, 0, 0, [], [], 0), 2)) (br (decide (x1 ≥ 1)) (br (!decide (x1 ≤ 8)) (some ((0, 0, 0, 0, 0, [], [], 0), 2)) (br (decide (x2 ≥ 1)) (br (!decide (x2 ≤ 20)) (some ((0, 0, 0, 0, 0, [], [], 0), 2)) (J82_3 G17 k0 k0 (x1) (x2) (x0) ((0, 0, 0, 0, 0, [], [], 0)))) (some ((0, 0, 0, 0, 0, [], [], 0), 2)))) (some ((0, 0, 0, 0, 0, [], [], 0), 2))) := by kernel_rfl
theorem J82_3_eq (G17 : T17 → Option U17) (k0 k : Nat) (t1 : Int) (t2 : Int) (b0 : Coord) (b1 : Coord) : J82_3 G17 k0 (k + 1) t1 t2 b0 b1 =
    br (eqI b0.1 0) (some ((1, t1, 0, t2, 0, [], [], 0), 0)) (J82_5 G17 k0 k0 (t2) (b0) (b1)) := by kernel_rfl
theorem J82_5_eq (G17 : T17 → Option U17) (k0 k : Nat) (t2 : Int) (b0 : Coord) (b1 : Coord) : J82_5 G17 k0 (k + 1) t2 b0 b1 =
    br (eqI b0.1 1) (J82_7 G17 k0 k0 (t2) (b0) (b1)) (br (eqI b0.1 5) (J82_7 G17 k0 k0 (t2) (b0) (b1)) (br (!eqI b0.1 6) (some ((0, 0, 0, 0, 0, [], [], 0), 180)) (J82_7 G17 k0 k0 (t2) (b0) (b1)))) := by kernel_rfl
theorem J82_7_eq (G17 : T17 → Option U17) (k0 k : Nat) (t2 : Int) (b0 : Coord) (b1 : Coord) : J82_7 G17 k0 (k + 1) t2 b0 b1 =
    br (eqI b0.2.2.1 100) (some ((0, 0, 0, 0, 0, [], [], 0), 102)) (J82_9 G17 k0 k0 (t2) (b0) (b1)) := by kernel_rfl
theorem J82_9_eq (G17 : T17 → Option U17) (k0 k : Nat) (t2 : Int) (b0 : Coord) (b1 : Coord) : J82_9 G17 k0 (k + 1) t2 b0 b1 =
    some ((1, b0.2.1, IntKind.wrap IntKind.i64 (b0.2.2.1 + 1), t2, 0, [], [], 0), 0) := by kernel_rfl
theorem C82 {G17 : T17 → Option U17} (h17 : CtrAll Try.prog ⟨17, A17, R17, G17⟩) {G : T82 → Option U82} (h : ∀ x y, G x = some y → ∃ k0, F82 G17 k0 x.1 x.2.1 x.2.2 = some y) : CtrAll Try.prog ⟨82, A82, R82, G⟩ := by
  refine ctr_of mixed ⟨Try.f82, Try.func82, by decide, rfl⟩ rfl rfl fun x y hx => ?_
  obtain ⟨k0, hk⟩ := h x y hx
  exact ⟨E82 G17 k0, 4, base.env (⟨h17, trivial⟩ : CtrsOK Try.prog [⟨17, A17, R17, G17⟩]) ⟨⟨Try.func82, by decide⟩, ⟨Try.func54, by decide⟩, ⟨Try.func104, by decide⟩, trivial⟩, hk⟩

/-! roving/rovingref18.Add -/
abbrev A83 : Ty := .pr coordT (.int .i64)
abbrev R83 : Ty := .tup (.pr coordT (.int .i64))
abbrev T83 : Type := Coord × Int
abbrev U83 : Type := Coord × Int
def annJ83 : List (Nat × List (Nat × List Nat)) := (83, [(9, [0, 3, 5, 9, 10, 11, 12, 13, 14, 15, 16, 17, 18, 19, 20, 21, 22, 23, 24, 25, 26, 27, 28, 29, 30, 31, 32, 33, 34, 35, 36, 37, 38, 39, 40, 41, 42, 43, 44, 45, 46, 47, 48, 49, 50, 51, 52, 53, 54, 55, 56, 57, 58, 59, 60, 61, 62, 63, 64, 65, 66, 67, 68, 69]), (100017, [0, 1, 3, 5, 7, 8, 9, 10, 11, 12, 13, 14, 15, 16, 17, 18, 19, 20, 21, 22, 23, 24, 25, 26, 27, 28, 29, 30, 31, 32, 33, 34, 35, 36, 37, 38, 39, 40, 41, 42, 43, 44, 45, 46, 47, 48, 49, 50, 51, 52, 53, 54, 55, 56, 57, 58, 59, 60, 61, 62, 63, 64, 65, 66, 67, 68, 69]), (100015, [0, 3, 5, 8, 9, 10, 11, 12, 13, 14, 15, 16, 17, 18, 19, 20, 21, 22, 23, 24, 25, 26, 27, 28, 29, 30, 31, 32, 33, 34, 35, 36, 37, 38, 39, 40, 41, 42, 43, 44, 45, 46, 47, 48, 49, 50, 51, 52, 53, 54, 55, 56, 57, 58, 59, 60, 61, 62, 63, 64, 65, 66, 67, 68, 69]), (100014, [0, 3, 5, 9, 10, 11, 12, 13, 14, 15, 16, 17, 18, 19, 20, 21, 22, 23, 24, 25, 26, 27, 28, 29, 30, 31, 32, 33, 34, 35, 36, 37, 38, 39, 40, 41, 42, 43, 44, 45, 46, 47, 48, 49, 50, 51, 52, 53, 54, 55, 56, 57, 58, 59, 60, 61, 62, 63, 64, 65, 66, 67, 68, 69]), (100012, [0, 3, 5, 9, 10, 11, 12, 13, 14, 15, 16, 17, 18, 19, 20, 21, 22, 23, 24, 25, 26, 27, 28, 29, 30, 31, 32, 33, 34, 35, 36, 37, 38, 39, 40, 41, 42, 43, 44, 45, 46, 47, 49, 50, 51, 52, 53, 54, 55, 56, 57, 58, 59, 60, 61, 62, 63, 64, 65, 66, 67, 68, 69]), (100011, [0, 3, 5, 9, 10, 11, 12, 13, 14, 15, 16, 17, 18, 19, 20, 21, 22, 23, 24, 25, 26, 27, 28, 29, 30, 31, 32, 33, 34, 35, 36, 37, 38, 39, 40, 41, 42, 43, 44, 45, 46, 47, 48, 49, 50, 51, 52, 53, 54, 55, 56, 57, 58, 59, 60, 61, 62, 63, 64, 65, 66, 67, 68, 69]), (100005, [0, 3, 5, 6, 7, 8, 9, 10, 11, 12, 13, 14, 15, 16, 17, 18, 19, 20, 21, 22, 23, 24, 25, 26, 27, 28, 29, 30, 31, 32, 33, 34, 35, 36, 37, 38, 39, 40, 41, 42, 43, 44, 45, 46, 47, 48, 49, 50, 51, 52, 53, 54, 55, 56, 57, 58, 59, 60, 61, 62, 63, 64, 65, 66, 67, 68, 69]), (100003, [0, 3, 5, 6, 7, 8, 9, 10, 11, 12, 13, 14, 15, 16, 17, 18, 19, 20, 21, 22, 23, 24, 25, 26, 27, 28, 29, 30, 31, 32, 33, 34, 35, 36, 37, 38, 39, 40, 41, 42, 43, 44, 45, 46, 47, 48, 49, 50, 51, 52, 53, 54, 55, 56, 57, 58, 59, 60, 61, 62, 63, 64, 65, 66, 67, 68, 69])]) :: ann
noncomputable def E83 (G17 : T17 → Option U17) (G105 : T105 → Option U105) (k : Nat) : Env := mkA annJ83 [⟨17, A17, R17, G17⟩, ⟨105, A105, R105, G105⟩] [(83, Try.f83), (54, Try.f54), (104, Try.f104)] k
noncomputable def F83 (G17 : T17 → Option U17) (G105 : T105 → Option U105) (k0 : Nat) (x0 : Coord) (x1 : Int) : Option U83 := sem (E83 G17 G105 k0) 4 83 A83 R83 ((x0, x1) : T83)
def An83 : List (Nat × List Nat) := (look annJ83 83).getD []
noncomputable def J83_3 (G17 : T17 → Option U17) (G105 : T105 → Option U105) (k0 k : Nat) (t1 : Int) (b0 : Coord) (b1 : Coord) : Option U83 :=
  jn (E83 G17 G105 k0) (evCall (E83 G17 G105 k0) 3) An83 (sub [1, 1] (bodyOf Try.f83)) k ⟨tops 1 ++ [⟨.int .i64, t1⟩, ⟨.box 0 0, ()⟩] ++ tops 1 ++ [⟨.box 1 0, ()⟩] ++ tops 65, [⟨coordT, b0⟩, ⟨coordT, b1⟩], List.replicate 70 none⟩
    (retK (E83 G17 G105 k0) 0 Try.f83.results.toList fun v _ => castTo R83 v)
noncomputable def J83_5 (G17 : T17 → Option U17) (G105 : T105 → Option U105) (k0 k : Nat) (t1 : Int) (b0 : Coord) (b1 : Coord) : Option U83 :=
  jn (E83 G17 G105 k0) (evCall (E83 G17 G105 k0) 3) An83 (sub [1, 1, 1] (bodyOf Try.f83)) k ⟨tops 1 ++ [⟨.int .i64, t1⟩, ⟨.box 0 0, ()⟩] ++ tops 1 ++ [⟨.box 1 0, ()⟩] ++ tops 65, [⟨coordT, b0⟩, ⟨coordT, b1⟩], List.replicate 70 none⟩
    (retK (E83 G17 G105 k0) 0 Try.f83.results.toList fun v _ => castTo R83 v)
noncomputable def L83_9 (G17 : T17 → Option U17) (G105 : T105 → Option U105) (k0 k : Nat) (t1 : Int) (t6 : Ints) (t7 : Bool) (t8 : Int) (b0 : Coord) (b1 : Coord) : Option U83 :=
  lp (E83 G17 G105 k0) (evCall (E83 G17 G105 k0) 3) An83 (sub [1, 1, 1, 1, 1, 1, 0, 1, 0, 0] (bodyOf Try.f83)) 2 k ⟨tops 1 ++ [⟨.int .i64, t1⟩, ⟨.box 0 0, ()⟩] ++ tops 1 ++ [⟨.box 1 0, ()⟩] ++ tops 1 ++ [⟨intsT, t6⟩, ⟨.bool, t7⟩, ⟨.int .i64, t8⟩] ++ tops 61, [⟨coordT, b0⟩, ⟨coordT, b1⟩], setN (List.replicate 70 none) 6 (some 6)⟩
    (blockK 0 (seqK (E83 G17 G105 k0) (evCall (E83 G17 G105 k0) 3) An83 (sub [1, 1, 1, 1, 1, 1, 1] (bodyOf Try.f83)) (retK (E83 G17 G105 k0) 0 Try.f83.results.toList fun v _ => castTo R83 v)))
noncomputable def J83_15 (G17 : T17 → Option U17) (G105 : T105 → Option U105) (k0 k : Nat) (t1 : Int) (t6 : Ints) (t7 : Bool) (b0 : Coord) (b1 : Coord) : Option U83 :=
  jn (E83 G17 G105 k0) (evCall (E83 G17 G105 k0) 3) An83 (sub [1, 1, 1, 1, 1, 1, 1] (bodyOf Try.f83)) k ⟨tops 1 ++ [⟨.int .i64, t1⟩, ⟨.box 0 0, ()⟩] ++ tops 1 ++ [⟨.box 1 0, ()⟩] ++ tops 1 ++ [⟨intsT, t6⟩, ⟨.bool, t7⟩] ++ tops 62, [⟨coordT, b0⟩, ⟨coordT, b1⟩], setN (List.replicate 70 none) 6 (some 6)⟩
    (retK (E83 G17 G105 k0) 0 Try.f83.results.toList fun v _ => castTo R83 v)
noncomputable def J83_11 (G17 : T17 → Option U17) (G105 : T105 → Option U105) (k0 ko1 k : Nat) (t1 : Int) (t6 : Ints) (t7 : Bool) (t8 : Int) (b0 : Coord) (b1 : Coord) : Option U83 :=
  jn (E83 G17 G105 k0) (evCall (E83 G17 G105 k0) 3) An83 (sub [1, 1, 1, 1, 1, 1, 0, 1, 0, 0, 1] (bodyOf Try.f83)) k ⟨tops 1 ++ [⟨.int .i64, t1⟩, ⟨.box 0 0, ()⟩] ++ tops 1 ++ [⟨.box 1 0, ()⟩] ++ tops 1 ++ [⟨intsT, t6⟩, ⟨.bool, t7⟩, ⟨.int .i64, t8⟩] ++ tops 61, [⟨coordT, b0⟩, ⟨coordT, b1⟩], setN (List.replicate 70 none) 6 (some 6)⟩
    (loopK (E83 G17 G105 k0) (evCall (E83 G17 G105 k0) 3) An83 (sub [1, 1, 1, 1, 1, 1, 0, 1, 0, 0] (bodyOf Try.f83)) 2 ko1 (blockK 0 (seqK (E83 G17 G105 k0) (evCall (E83 G17 G105 k0) 3) An83 (sub [1, 1, 1, 1, 1, 1, 1] (bodyOf Try.f83)) (retK (E83 G17 G105 k0) 0 Try.f83.results.toList fun v _ => castTo R83 v))))
noncomputable def J83_17 (G17 : T17 → Option U17) (G105 : T105 → Option U105) (k0 k : Nat) (t6 : Ints) (b0 : Coord) (b1 : Coord) : Option U83 :=
  jn (E83 G17 G105 k0) (evCall (E83 G17 G105 k0) 3) An83 (sub [1, 1, 1, 1, 1, 1, 1, 1] (bodyOf Try.f83)) k ⟨tops 2 ++ [⟨.box 0 0, ()⟩] ++ tops 1 ++ [⟨.box 1 0, ()⟩] ++ tops 1 ++ [⟨intsT, t6⟩] ++ tops 63, [⟨coordT, b0⟩, ⟨coordT, b1⟩], setN (List.replicate 70 none) 6 (some 6)⟩
    (retK (E83 G17 G105 k0) 0 Try.f83.results.toList fun v _ => castTo R83 v)
noncomputable def J83_12 (G17 : T17 → Option U17) (G105 : T105 → Option U105) (k0 ko1 k : Nat) (t1 : Int) (t6 : Ints) (t7 : Bool) (t8 : Int) (t48 : Bool) (b0 : Coord) (b1 : Coord) : Option U83 :=
  jn (E83 G17 G105 k0) (evCall (E83 G17 G105 k0) 3) An83 (sub [1, 1, 1, 1, 1, 1, 0, 1, 0, 0, 1, 0, 0, 0, 1] (bodyOf Try.f83)) k ⟨tops 1 ++ [⟨.int .i64, t1⟩, ⟨.box 0 0, ()⟩] ++ tops 1 ++ [⟨.box 1 0, ()⟩] ++ tops 1 ++ [⟨intsT, t6⟩, ⟨.bool, t7⟩, ⟨.int .i64, t8⟩] ++ tops 39 ++ [⟨.bool, t48⟩] ++ tops 21, [⟨coordT, b0⟩, ⟨coordT, b1⟩], setN (List.replicate 70 none) 6 (some 6)⟩
    (seqK (E83 G17 G105 k0) (evCall (E83 G17 G105 k0) 3) An83 (sub [1, 1, 1, 1, 1, 1, 0, 1, 0, 0, 1, 0, 0, 1] (bodyOf Try.f83)) (blockK 1 (seqK (E83 G17 G105 k0) (evCall (E83 G17 G105 k0) 3) An83 (sub [1, 1, 1, 1, 1, 1, 0, 1, 0, 0, 1, 1] (bodyOf Try.f83)) (loopK (E83 G17 G105 k0) (evCall (E83 G17 G105 k0) 3) An83 (sub [1, 1, 1, 1, 1, 1, 0, 1, 0, 0] (bodyOf Try.f83)) 2 ko1 (blockK 0 (seqK (E83 G17 G105 k0) (evCall (E83 G17 G105 k0) 3) An83 (sub [1, 1, 1, 1, 1, 1, 1] (bodyOf Try.f83)) (retK (E83 G17 G105 k0) 0 Try.f83.results.toList fun v _ => castTo R83 v)))))))
noncomputable def J83_14 (G17 : T17 → Option U17) (G105 : T105 → Option U105) (k0 ko1 k : Nat) (t1 : Int) (t6 : Ints) (t7 : Bool) (t8 : Int) (b0 : Coord) (b1 : Coord) : Option U83 :=
  jn (E83 G17 G105 k0) (evCall (E83 G17 G105 k0) 3) An83 (sub [1, 1, 1, 1, 1, 1, 0, 1, 0, 0, 1, 0, 0, 1] (bodyOf Try.f83)) k ⟨tops 1 ++ [⟨.int .i64, t1⟩, ⟨.box 0 0, ()⟩] ++ tops 1 ++ [⟨.box 1 0, ()⟩] ++ tops 1 ++ [⟨intsT, t6⟩, ⟨.bool, t7⟩, ⟨.int .i64, t8⟩] ++ tops 61, [⟨coordT, b0⟩, ⟨coordT, b1⟩], setN (List.replicate 70 none) 6 (some 6)⟩
    (blockK 1 (seqK (E83 G17 G105 k0) (evCall (E83 G17 G105 k0) 3) An83 (sub [1, 1, 1, 1, 1, 1, 0, 1, 0, 0, 1, 1] (bodyOf Try.f83)) (loopK (E83 G17 G105 k0) (evCall (E83 G17 G105 k0) 3) An83 (sub [1, 1, 1, 1, 1, 1, 0, 1, 0, 0] (bodyOf Try.f83)) 2 ko1 (blockK 0 (seqK (E83 G17 G105 k0) (evCall (E83 G17 G105 k0) 3) An83 (sub [1, 1, 1, 1, 1, 1, 1] (bodyOf Try.f83)) (retK (E83 G17 G105 k0) 0 Try.f83.results.toList fun v _ => castTo R83 v))))))
theorem F83_eq (G17 : T17 → Option U17) (G105 : T105 → Option U105) (k0 : Nat) (x0 : Coord) (x1 : Int) : F83 G17 G105 k0 x0 x1 = Option.bind (G17 x0) fun y => br (!y) (some ((0, 0, 0, 0, 0, [], [], 0), 2)) (br (decide (x1 ≥ 0)) (br (!decide (x1 ≤ 2)) (some ((0, 0, 0, 0, 0, [], [], 0), 2)) (J83_3 G17 G105 k0 k0 (x1) (x0) ((0, 0, 0, 0, 0, [], [], 0)))) (some ((0, 0, 0, 0, 0, [], [], 0), 2))) := by kernel_rfl
theorem J83_3_eq (G17 : T17 → Option U17) (G105 : T105 → Option U105) (k0 k : Nat) (t1 : Int) (b0 : Coord) (b1 : Coord) : J83_3 G17 G105 k0 (k + 1) t1 b0 b1 =
    br (eqI b0.1 1) (J83_5 G17 G105 k0 k0 (t1) (b0) (b1)) (br (eqI b0.1 5) (J83_5 G17 G105 k0 k0 (t1) (b0) (b1)) (br (!eqI b0.1 6) (br (!eqI b0.1 2) (some ((0, 0, 0, 0, 0, [], [], 0), 180)) (J83_5 G17 G105 k0 k0 (t1) (b0) (b1))) (J83_5 G17 G105 k0 k0 (t1) (b0) (b1)))) := by kernel_rfl
theorem J83_5_eq (G17 : T17 → Option U17) (G105 : T105 → Option U105) (k0 k : Nat) (t1 : Int) (b0 : Coord) (b1 : Coord) : J83_5 G17 G105 k0 (k + 1) t1 b0 b1 =
    Option.bind (G105 ((2, b0.2), t1)) fun y => L83_9 G17 G105 k0 k0 (t1) ([]) (y) (0) ((2, b0.2)) (b1) := by kernel_rfl
theorem L83_9_step (G17 : T17 → Option U17) (G105 : T105 → Option U105) (k0 k : Nat) (t1 : Int) (t6 : Ints) (t7 : Bool) (t8 : Int) (b0 : Coord) (b1 : Coord) : L83_9 G17 G105 k0 (k + 1) t1 t6 t7 t8 b0 b1 =
    br (decide (t8 < lenI b0.2.2.2.2.2.1)) (J83_11 G17 G105 k0 k k0 (t1) (t6) (t7) (t8) (b0) (b1)) (J83_15 G17 G105 k0 k0 (t1) (t6) (t7) (b0) (b1)) := by kernel_rfl
theorem J83_15_eq (G17 : T17 → Option U17) (G105 : T105 → Option U105) (k0 k : Nat) (t1 : Int) (t6 : Ints) (t7 : Bool) (b0 : Coord) (b1 : Coord) : J83_15 G17 G105 k0 (k + 1) t1 t6 t7 b0 b1 =
    br (!t7) (br (fits t6 [t1] 8) (J83_17 G17 G105 k0 k0 (app t6 [t1]) (b0) (b1)) none) (J83_17 G17 G105 k0 k0 (t6) (b0) (b1)) := by kernel_rfl
theorem J83_11_eq (G17 : T17 → Option U17) (G105 : T105 → Option U105) (k0 ko1 k : Nat) (t1 : Int) (t6 : Ints) (t7 : Bool) (t8 : Int) (b0 : Coord) (b1 : Coord) : J83_11 G17 G105 k0 ko1 (k + 1) t1 t6 t7 t8 b0 b1 =
    br (!t7) (Option.bind (idx b0.2.2.2.2.2.1 t8) fun y => J83_12 G17 G105 k0 ko1 k0 (t1) (t6) (t7) (t8) (decide (y > t1)) (b0) (b1)) (J83_12 G17 G105 k0 ko1 k0 (t1) (t6) (t7) (t8) (false) (b0) (b1)) := by kernel_rfl
theorem J83_17_eq (G17 : T17 → Option U17) (G105 : T105 → Option U105) (k0 k : Nat) (t6 : Ints) (b0 : Coord) (b1 : Coord) : J83_17 G17 G105 k0 (k + 1) t6 b0 b1 =
    some ((b0.1, b0.2.1, b0.2.2.1, b0.2.2.2.1, b0.2.2.2.2.1, t6, b0.2.2.2.2.2.2), 0) := by kernel_rfl
theorem J83_12_eq (G17 : T17 → Option U17) (G105 : T105 → Option U105) (k0 ko1 k : Nat) (t1 : Int) (t6 : Ints) (t7 : Bool) (t8 : Int) (t48 : Bool) (b0 : Coord) (b1 : Coord) : J83_12 G17 G105 k0 ko1 (k + 1) t1 t6 t7 t8 t48 b0 b1 =
    br t48 (br (fits t6 [t1] 8) (J83_14 G17 G105 k0 ko1 k0 (t1) (app t6 [t1]) (true) (t8) (b0) (b1)) none) (J83_14 G17 G105 k0 ko1 k0 (t1) (t6) (t7) (t8) (b0) (b1)) := by kernel_rfl
theorem J83_14_eq (G17 : T17 → Option U17) (G105 : T105 → Option U105) (k0 ko1 k : Nat) (t1 : Int) (t6 : Ints) (t7 : Bool) (t8 : Int) (b0 : Coord) (b1 : Coord) : J83_14 G17 G105 k0 ko1 (k + 1) t1 t6 t7 t8 b0 b1 =
    Option.bind (idx b0.2.2.2.2.2.1 t8) fun y => br (fits t6 [y] 8) (L83_9 G17 G105 k0 ko1 (t1) (app t6 [y]) (t7) (IntKind.wrap IntKind.i64 (t8 + 1)) (b0) (b1)) none := by kernel_rfl
theorem C83 {G17 : T17 → Option U17} (h17 : CtrAll Try.prog ⟨17, A17, R17, G17⟩) {G105 : T105 → Option U105} (h105 : CtrAll Try.prog ⟨105, A105, R105, G105⟩) {G : T83 → Option U83} (h : ∀ x y, G x = some y → ∃ k0, F83 G17 G105 k0 x.1 x.2 = some y) : CtrAll Try.prog ⟨83, A83, R83, G⟩ := by
  refine ctr_of mixed ⟨Try.f83, Try.func83, by decide, rfl⟩ rfl rfl fun x y hx => ?_
  obtain ⟨k0, hk⟩ := h x y hx
  exact ⟨E83 G17 G105 k0, 4, base.env (⟨h17, h105, trivial⟩ : CtrsOK Try.prog [⟨17, A17, R17, G17⟩, ⟨105, A105, R105, G105⟩]) ⟨⟨Try.func83, by decide⟩, ⟨Try.func54, by decide⟩, ⟨Try.func104, by decide⟩, trivial⟩, hk⟩

/-! roving/rovingref18.Set -/
abbrev A84 : Ty := .pr coordT pendT
abbrev R84 : Ty := .tup (.pr coordT (.int .i64))
abbrev T84 : Type := Coord × Pend
abbrev U84 : Type := Coord × Int
def annJ84 : List (Nat × List (Nat × List Nat)) := (84, [(9, [0, 1, 5, 9, 10, 11, 12, 13, 14, 15, 16, 17, 18, 19, 20, 21, 22, 23, 24, 25, 26, 27, 28, 29, 30, 31, 32, 33, 34, 35, 36, 37, 38, 39, 40, 41, 42, 43, 44, 45, 46, 47, 48, 49, 50, 51, 52, 53, 54, 55, 56, 57, 58, 59, 60, 61, 62, 63, 64, 65, 66, 67, 68, 69, 70, 71, 72, 73]), (100019, [0, 1, 3, 5, 7, 8, 9, 10, 11, 12, 13, 14, 15, 16, 17, 18, 19, 20, 21, 22, 23, 24, 25, 26, 27, 28, 29, 30, 31, 32, 33, 34, 35, 36, 37, 38, 39, 40, 41, 42, 43, 44, 45, 46, 47, 48, 49, 50, 51, 52, 53, 54, 55, 56, 57, 58, 59, 60, 61, 62, 63, 64, 65, 66, 67, 68, 69, 70, 71, 72, 73]), (100017, [0, 1, 5, 8, 9, 10, 11, 12, 13, 14, 15, 16, 17, 18, 19, 20, 21, 22, 23, 24, 25, 26, 27, 28, 29, 30, 31, 32, 33, 34, 35, 36, 37, 38, 39, 40, 41, 42, 43, 44, 45, 46, 47, 48, 49, 50, 51, 52, 53, 54, 55, 56, 57, 58, 59, 60, 61, 62, 63, 64, 65, 66, 67, 68, 69, 70, 71, 72, 73]), (100015, [0, 1, 5, 10, 11, 12, 13, 14, 15, 16, 17, 18, 19, 20, 21, 22, 23, 24, 25, 26, 27, 28, 29, 30, 31, 32, 33, 34, 35, 36, 37, 38, 39, 40, 41, 42, 43, 44, 45, 46, 47, 48, 49, 50, 51, 52, 53, 54, 55, 56, 57, 58, 59, 60, 61, 62, 63, 64, 65, 66, 67, 68, 69, 70, 71, 72, 73]), (100013, [0, 1, 5, 10, 11, 12, 13, 14, 15, 16, 17, 18, 19, 20, 21, 22, 23, 24, 25, 26, 27, 28, 29, 30, 31, 32, 33, 34, 35, 36, 37, 38, 39, 40, 41, 42, 43, 44, 45, 46, 47, 49, 50, 51, 52, 53, 54, 55, 56, 57, 58, 59, 60, 61, 62, 63, 64, 65, 66, 67, 68, 69, 70, 71, 72, 73]), (100011, [0, 1, 5, 9, 10, 11, 12, 13, 14, 15, 16, 17, 18, 19, 20, 21, 22, 23, 24, 25, 26, 27, 28, 29, 30, 31, 32, 33, 34, 35, 36, 37, 38, 39, 40, 41, 42, 43, 44, 45, 46, 47, 48, 49, 50, 51, 52, 53, 54, 55, 56, 57, 58, 59, 60, 61, 62, 63, 64, 65, 66, 67, 68, 69, 70, 71, 72, 73]), (100005, [0, 1, 5, 6, 7, 8, 9, 10, 11, 12, 13, 14, 15, 16, 17, 18, 19, 20, 21, 22, 23, 24, 25, 26, 27, 28, 29, 30, 31, 32, 33, 34, 35, 36, 37, 38, 39, 40, 41, 42, 43, 44, 45, 46, 47, 48, 49, 50, 51, 52, 53, 54, 55, 56, 57, 58, 59, 60, 61, 62, 63, 64, 65, 66, 67, 68, 69, 70, 71, 72, 73]), (100003, [0, 1, 5, 6, 7, 8, 9, 10, 11, 12, 13, 14, 15, 16, 17, 18, 19, 20, 21, 22, 23, 24, 25, 26, 27, 28, 29, 30, 31, 32, 33, 34, 35, 36, 37, 38, 39, 40, 41, 42, 43, 44, 45, 46, 47, 48, 49, 50, 51, 52, 53, 54, 55, 56, 57, 58, 59, 60, 61, 62, 63, 64, 65, 66, 67, 68, 69, 70, 71, 72, 73])]) :: ann
noncomputable def E84 (G17 : T17 → Option U17) (G56 : T56 → Option U56) (G57 : T57 → Option U57) (k : Nat) : Env := mkA annJ84 [⟨17, A17, R17, G17⟩, ⟨56, A56, R56, G56⟩, ⟨57, A57, R57, G57⟩] [(84, Try.f84), (104, Try.f104)] k
noncomputable def F84 (G17 : T17 → Option U17) (G56 : T56 → Option U56) (G57 : T57 → Option U57) (k0 : Nat) (x0 : Coord) (x1 : Pend) : Option U84 := sem (E84 G17 G56 G57 k0) 3 84 A84 R84 ((x0, x1) : T84)
def An84 : List (Nat × List Nat) := (look annJ84 84).getD []
noncomputable def J84_3 (G17 : T17 → Option U17) (G56 : T56 → Option U56) (G57 : T57 → Option U57) (k0 k : Nat) (b0 : Coord) (b1 : Pend) (b2 : Coord) : Option U84 :=
  jn (E84 G17 G56 G57 k0) (evCall (E84 G17 G56 G57 k0) 2) An84 (sub [1, 1] (bodyOf Try.f84)) k ⟨tops 2 ++ [⟨.box 0 0, ()⟩, ⟨.box 1 0, ()⟩, ⟨.box 2 0, ()⟩] ++ tops 69, [⟨coordT, b0⟩, ⟨pendT, b1⟩, ⟨coordT, b2⟩], List.replicate 74 none⟩
    (retK (E84 G17 G56 G57 k0) 0 Try.f84.results.toList fun v _ => castTo R84 v)
noncomputable def J84_5 (G17 : T17 → Option U17) (G56 : T56 → Option U56) (G57 : T57 → Option U57) (k0 k : Nat) (b0 : Coord) (b1 : Pend) (b2 : Coord) : Option U84 :=
  jn (E84 G17 G56 G57 k0) (evCall (E84 G17 G56 G57 k0) 2) An84 (sub [1, 1, 1] (bodyOf Try.f84)) k ⟨tops 2 ++ [⟨.box 0 0, ()⟩, ⟨.box 1 0, ()⟩, ⟨.box 2 0, ()⟩] ++ tops 69, [⟨coordT, b0⟩, ⟨pendT, b1⟩, ⟨coordT, b2⟩], List.replicate 74 none⟩
    (retK (E84 G17 G56 G57 k0) 0 Try.f84.results.toList fun v _ => castTo R84 v)
noncomputable def L84_9 (G17 : T17 → Option U17) (G56 : T56 → Option U56) (G57 : T57 → Option U57) (k0 k : Nat) (t6 : Pends) (t7 : Bool) (t8 : Int) (b0 : Coord) (b1 : Pend) (b2 : Coord) : Option U84 :=
  lp (E84 G17 G56 G57 k0) (evCall (E84 G17 G56 G57 k0) 2) An84 (sub [1, 1, 1, 1, 1, 1, 0, 1, 0, 0] (bodyOf Try.f84)) 3 k ⟨tops 2 ++ [⟨.box 0 0, ()⟩, ⟨.box 1 0, ()⟩, ⟨.box 2 0, ()⟩] ++ tops 1 ++ [⟨pendsT, t6⟩, ⟨.bool, t7⟩, ⟨.int .i64, t8⟩] ++ tops 65, [⟨coordT, b0⟩, ⟨pendT, b1⟩, ⟨coordT, b2⟩], setN (List.replicate 74 none) 6 (some 6)⟩
    (blockK 0 (seqK (E84 G17 G56 G57 k0) (evCall (E84 G17 G56 G57 k0) 2) An84 (sub [1, 1, 1, 1, 1, 1, 1] (bodyOf Try.f84)) (retK (E84 G17 G56 G57 k0) 0 Try.f84.results.toList fun v _ => castTo R84 v)))
noncomputable def J84_17 (G17 : T17 → Option U17) (G56 : T56 → Option U56) (G57 : T57 → Option U57) (k0 k : Nat) (t6 : Pends) (t7 : Bool) (b0 : Coord) (b1 : Pend) (b2 : Coord) : Option U84 :=
  jn (E84 G17 G56 G57 k0) (evCall (E84 G17 G56 G57 k0) 2) An84 (sub [1, 1, 1, 1, 1, 1, 1] (bodyOf Try.f84)) k ⟨tops 2 ++ [⟨.box 0 0, ()⟩, ⟨.box 1 0, ()⟩, ⟨.box 2 0, ()⟩] ++ tops 1 ++ [⟨pendsT, t6⟩, ⟨.bool, t7⟩] ++ tops 66, [⟨coordT, b0⟩, ⟨pendT, b1⟩, ⟨coordT, b2⟩], setN (List.replicate 74 none) 6 (some 6)⟩
    (retK (E84 G17 G56 G57 k0) 0 Try.f84.results.toList fun v _ => castTo R84 v)
noncomputable def J84_11 (G17 : T17 → Option U17) (G56 : T56 → Option U56) (G57 : T57 → Option U57) (k0 ko1 k : Nat) (t6 : Pends) (t7 : Bool) (t8 : Int) (b0 : Coord) (b1 : Pend) (b2 : Coord) : Option U84 :=
  jn (E84 G17 G56 G57 k0) (evCall (E84 G17 G56 G57 k0) 2) An84 (sub [1, 1, 1, 1, 1, 1, 0, 1, 0, 0, 1] (bodyOf Try.f84)) k ⟨tops 2 ++ [⟨.box 0 0, ()⟩, ⟨.box 1 0, ()⟩, ⟨.box 2 0, ()⟩] ++ tops 1 ++ [⟨pendsT, t6⟩, ⟨.bool, t7⟩, ⟨.int .i64, t8⟩] ++ tops 65, [⟨coordT, b0⟩, ⟨pendT, b1⟩, ⟨coordT, b2⟩], setN (List.replicate 74 none) 6 (some 6)⟩
    (loopK (E84 G17 G56 G57 k0) (evCall (E84 G17 G56 G57 k0) 2) An84 (sub [1, 1, 1, 1, 1, 1, 0, 1, 0, 0] (bodyOf Try.f84)) 3 ko1 (blockK 0 (seqK (E84 G17 G56 G57 k0) (evCall (E84 G17 G56 G57 k0) 2) An84 (sub [1, 1, 1, 1, 1, 1, 1] (bodyOf Try.f84)) (retK (E84 G17 G56 G57 k0) 0 Try.f84.results.toList fun v _ => castTo R84 v))))
noncomputable def J84_19 (G17 : T17 → Option U17) (G56 : T56 → Option U56) (G57 : T57 → Option U57) (k0 k : Nat) (t6 : Pends) (b0 : Coord) (b1 : Pend) (b2 : Coord) : Option U84 :=
  jn (E84 G17 G56 G57 k0) (evCall (E84 G17 G56 G57 k0) 2) An84 (sub [1, 1, 1, 1, 1, 1, 1, 1] (bodyOf Try.f84)) k ⟨tops 2 ++ [⟨.box 0 0, ()⟩] ++ tops 1 ++ [⟨.box 2 0, ()⟩] ++ tops 1 ++ [⟨pendsT, t6⟩] ++ tops 67, [⟨coordT, b0⟩, ⟨pendT, b1⟩, ⟨coordT, b2⟩], setN (List.replicate 74 none) 6 (some 6)⟩
    (retK (E84 G17 G56 G57 k0) 0 Try.f84.results.toList fun v _ => castTo R84 v)
noncomputable def J84_13 (G17 : T17 → Option U17) (G56 : T56 → Option U56) (G57 : T57 → Option U57) (k0 ko1 k : Nat) (t6 : Pends) (t7 : Bool) (t8 : Int) (t48 : Bool) (b0 : Coord) (b1 : Pend) (b2 : Coord) (b3 : Pend) : Option U84 :=
  jn (E84 G17 G56 G57 k0) (evCall (E84 G17 G56 G57 k0) 2) An84 (sub [1, 1, 1, 1, 1, 1, 0, 1, 0, 0, 1, 0, 0, 1, 0, 1] (bodyOf Try.f84)) k ⟨tops 2 ++ [⟨.box 0 0, ()⟩, ⟨.box 1 0, ()⟩, ⟨.box 2 0, ()⟩] ++ tops 1 ++ [⟨pendsT, t6⟩, ⟨.bool, t7⟩, ⟨.int .i64, t8⟩, ⟨.box 3 0, ()⟩] ++ tops 38 ++ [⟨.bool, t48⟩] ++ tops 25, [⟨coordT, b0⟩, ⟨pendT, b1⟩, ⟨coordT, b2⟩, ⟨pendT, b3⟩], setN (List.replicate 74 none) 6 (some 6)⟩
    (seqK (E84 G17 G56 G57 k0) (evCall (E84 G17 G56 G57 k0) 2) An84 (sub [1, 1, 1, 1, 1, 1, 0, 1, 0, 0, 1, 0, 0, 1, 1] (bodyOf Try.f84)) (blockK 1 (seqK (E84 G17 G56 G57 k0) (evCall (E84 G17 G56 G57 k0) 2) An84 (sub [1, 1, 1, 1, 1, 1, 0, 1, 0, 0, 1, 1] (bodyOf Try.f84)) (loopK (E84 G17 G56 G57 k0) (evCall (E84 G17 G56 G57 k0) 2) An84 (sub [1, 1, 1, 1, 1, 1, 0, 1, 0, 0] (bodyOf Try.f84)) 3 ko1 (blockK 0 (seqK (E84 G17 G56 G57 k0) (evCall (E84 G17 G56 G57 k0) 2) An84 (sub [1, 1, 1, 1, 1, 1, 1] (bodyOf Try.f84)) (retK (E84 G17 G56 G57 k0) 0 Try.f84.results.toList fun v _ => castTo R84 v)))))))
noncomputable def J84_15 (G17 : T17 → Option U17) (G56 : T56 → Option U56) (G57 : T57 → Option U57) (k0 ko1 k : Nat) (t6 : Pends) (t7 : Bool) (t8 : Int) (b0 : Coord) (b1 : Pend) (b2 : Coord) (b3 : Pend) : Option U84 :=
  jn (E84 G17 G56 G57 k0) (evCall (E84 G17 G56 G57 k0) 2) An84 (sub [1, 1, 1, 1, 1, 1, 0, 1, 0, 0, 1, 0, 0, 1, 1] (bodyOf Try.f84)) k ⟨tops 2 ++ [⟨.box 0 0, ()⟩, ⟨.box 1 0, ()⟩, ⟨.box 2 0, ()⟩] ++ tops 1 ++ [⟨pendsT, t6⟩, ⟨.bool, t7⟩, ⟨.int .i64, t8⟩, ⟨.box 3 0, ()⟩] ++ tops 64, [⟨coordT, b0⟩, ⟨pendT, b1⟩, ⟨coordT, b2⟩, ⟨pendT, b3⟩], setN (List.replicate 74 none) 6 (some 6)⟩
    (blockK 1 (seqK (E84 G17 G56 G57 k0) (evCall (E84 G17 G56 G57 k0) 2) An84 (sub [1, 1, 1, 1, 1, 1, 0, 1, 0, 0, 1, 1] (bodyOf Try.f84)) (loopK (E84 G17 G56 G57 k0) (evCall (E84 G17 G56 G57 k0) 2) An84 (sub [1, 1, 1, 1, 1, 1, 0, 1, 0, 0] (bodyOf Try.f84)) 3 ko1 (blockK 0 (seqK (E84 G17 G56 G57 k0) (evCall (E84 G17 G56 G57 k0) 2) An84 (sub [1, 1, 1, 1, 1, 1, 1] (bodyOf Try.f84)) (retK (E84 G17 G56 G57 k0) 0 Try.f84.results.toList fun v _ => castTo R84 v))))))
theorem F84_eq (G17 : T17 → Option U17) (G56 : T56 → Option U56) (G57 : T57 → Option U57) (k0 : Nat) (x0 : Coord) (x1 : Pend) : F84 G17 G56 G57 k0 x0 x1 = Option.bind (G17 x0) fun y => br (!y) (some ((0, 0, 0, 0, 0, [], [], 0), 2)) (Option.bind (G56 x1) fun y_1 => br (!y_1) (some ((0, 0, 0, 0, 0, [], [], 0), 2)) (J84_3 G17 G56 G57 k0 k0 (x0) (x1) ((0, 0, 0, 0, 0, [], [], 0)))) := by kernel_rfl
theorem J84_3_eq (G17 : T17 → Option U17) (G56 : T56 → Option U56) (G57 : T57 → Option U57) (k0 k : Nat) (b0 : Coord) (b1 : Pend) (b2 : Coord) : J84_3 G17 G56 G57 k0 (k + 1) b0 b1 b2 =
    br (eqI b0.1 1) (J84_5 G17 G56 G57 k0 k0 (b0) (b1) (b2)) (br (eqI b0.1 5) (J84_5 G17 G56 G57 k0 k0 (b0) (b1) (b2)) (br (!eqI b0.1 6) (br (!eqI b0.1 2) (some ((0, 0, 0, 0, 0, [], [], 0), 180)) (J84_5 G17 G56 G57 k0 k0 (b0) (b1) (b2))) (J84_5 G17 G56 G57 k0 k0 (b0) (b1) (b2)))) := by kernel_rfl
theorem J84_5_eq (G17 : T17 → Option U17) (G56 : T56 → Option U56) (G57 : T57 → Option U57) (k0 k : Nat) (b0 : Coord) (b1 : Pend) (b2 : Coord) : J84_5 G17 G56 G57 k0 (k + 1) b0 b1 b2 =
    L84_9 G17 G56 G57 k0 k0 ([]) (false) (0) ((2, b0.2)) (b1) (b2) := by kernel_rfl
theorem L84_9_step (G17 : T17 → Option U17) (G56 : T56 → Option U56) (G57 : T57 → Option U57) (k0 k : Nat) (t6 : Pends) (t7 : Bool) (t8 : Int) (b0 : Coord) (b1 : Pend) (b2 : Coord) : L84_9 G17 G56 G57 k0 (k + 1) t6 t7 t8 b0 b1 b2 =
    br (decide (t8 < lenI b0.2.2.2.2.2.2.1)) (J84_11 G17 G56 G57 k0 k k0 (t6) (t7) (t8) (b0) (b1) (b2)) (J84_17 G17 G56 G57 k0 k0 (t6) (t7) (b0) (b1) (b2)) := by kernel_rfl
theorem J84_17_eq (G17 : T17 → Option U17) (G56 : T56 → Option U56) (G57 : T57 → Option U57) (k0 k : Nat) (t6 : Pends) (t7 : Bool) (b0 : Coord) (b1 : Pend) (b2 : Coord) : J84_17 G17 G56 G57 k0 (k + 1) t6 t7 b0 b1 b2 =
    br (!t7) (br (fits t6 [b1] 24) (J84_19 G17 G56 G57 k0 k0 (app t6 [b1]) (b0) (b1) (b2)) none) (J84_19 G17 G56 G57 k0 k0 (t6) (b0) (b1) (b2)) := by kernel_rfl
theorem J84_11_eq (G17 : T17 → Option U17) (G56 : T56 → Option U56) (G57 : T57 → Option U57) (k0 ko1 k : Nat) (t6 : Pends) (t7 : Bool) (t8 : Int) (b0 : Coord) (b1 : Pend) (b2 : Coord) : J84_11 G17 G56 G57 k0 ko1 (k + 1) t6 t7 t8 b0 b1 b2 =
    Option.bind (idx b0.2.2.2.2.2.2.1 t8) fun y => br (!t7) (Option.bind (G57 (y, b1)) fun y_1 => J84_13 G17 G56 G57 k0 ko1 k0 (t6) (t7) (t8) (!y_1) (b0) (b1) (b2) (y)) (J84_13 G17 G56 G57 k0 ko1 k0 (t6) (t7) (t8) (false) (b0) (b1) (b2) (y)) := by kernel_rfl
theorem J84_19_eq (G17 : T17 → Option U17) (G56 : T56 → Option U56) (G57 : T57 → Option U57) (k0 k : Nat) (t6 : Pends) (b0 : Coord) (b1 : Pend) (b2 : Coord) : J84_19 G17 G56 G57 k0 (k + 1) t6 b0 b1 b2 =
    some ((b0.1, b0.2.1, b0.2.2.1, b0.2.2.2.1, b0.2.2.2.2.1, b0.2.2.2.2.2.1, t6, b0.2.2.2.2.2.2.2), 0) := by kernel_rfl
theorem J84_13_eq (G17 : T17 → Option U17) (G56 : T56 → Option U56) (G57 : T57 → Option U57) (k0 ko1 k : Nat) (t6 : Pends) (t7 : Bool) (t8 : Int) (t48 : Bool) (b0 : Coord) (b1 : Pend) (b2 : Coord) (b3 : Pend) : J84_13 G17 G56 G57 k0 ko1 (k + 1) t6 t7 t8 t48 b0 b1 b2 b3 =
    br t48 (br (fits t6 [b1] 24) (J84_15 G17 G56 G57 k0 ko1 k0 (app t6 [b1]) (true) (t8) (b0) (b1) (b2) (b3)) none) (J84_15 G17 G56 G57 k0 ko1 k0 (t6) (t7) (t8) (b0) (b1) (b2) (b3)) := by kernel_rfl
theorem J84_15_eq (G17 : T17 → Option U17) (G56 : T56 → Option U56) (G57 : T57 → Option U57) (k0 ko1 k : Nat) (t6 : Pends) (t7 : Bool) (t8 : Int) (b0 : Coord) (b1 : Pend) (b2 : Coord) (b3 : Pend) : J84_15 G17 G56 G57 k0 ko1 (k + 1) t6 t7 t8 b0 b1 b2 b3 =
    Option.bind (G57 (b3, b1)) fun y => br y (br (fits t6 [b3] 24) (L84_9 G17 G56 G57 k0 ko1 (app t6 [b3]) (t7) (IntKind.wrap IntKind.i64 (t8 + 1)) (b0) (b1) (b2)) none) (Option.bind (G57 (b1, b3)) fun y => br y (br (fits t6 [b3] 24) (L84_9 G17 G56 G57 k0 ko1 (app t6 [b3]) (t7) (IntKind.wrap IntKind.i64 (t8 + 1)) (b0) (b1) (b2)) none) (L84_9 G17 G56 G57 k0 ko1 (t6) (t7) (IntKind.wrap IntKind.i64 (t8 + 1)) (b0) (b1) (b2))) := by kernel_rfl
theorem C84 {G17 : T17 → Option U17} (h17 : CtrAll Try.prog ⟨17, A17, R17, G17⟩) {G56 : T56 → Option U56} (h56 : CtrAll Try.prog ⟨56, A56, R56, G56⟩) {G57 : T57 → Option U57} (h57 : CtrAll Try.prog ⟨57, A57, R57, G57⟩) {G : T84 → Option U84} (h : ∀ x y, G x = some y → ∃ k0, F84 G17 G56 G57 k0 x.1 x.2 = some y) : CtrAll Try.prog ⟨84, A84, R84, G⟩ := by
  refine ctr_of mixed ⟨Try.f84, Try.func84, by decide, rfl⟩ rfl rfl fun x y hx => ?_
  obtain ⟨k0, hk⟩ := h x y hx
  exact ⟨E84 G17 G56 G57 k0, 3, base.env (⟨h17, h56, h57, trivial⟩ : CtrsOK Try.prog [⟨17, A17, R17, G17⟩, ⟨56, A56, R56, G56⟩, ⟨57, A57, R57, G57⟩]) ⟨⟨Try.func84, by decide⟩, ⟨Try.func104, by decide⟩, trivial⟩, hk⟩

/-! roving/rovingref18.Prepare -/
abbrev A85 : Ty := .pr coordT (.pr .bool (.int .i64))
abbrev R85 : Ty := .tup (.pr coordT (.int .i64))
abbrev T85 : Type := Coord × Bool × Int
abbrev U85 : Type := Coord × Int
def annJ85 : List (Nat × List (Nat × List Nat)) := (85, [(100010, [0, 1, 4, 5, 7, 8, 9, 10, 11, 12, 13, 14, 15, 16, 17, 18, 19, 20, 21, 22, 23, 24, 25, 26, 27, 28, 29, 30, 31, 32, 33, 34, 35, 36, 37, 38, 39, 40, 41, 42, 43, 44, 45, 46]), (100007, [0, 4, 5, 7, 8, 9, 10, 11, 12, 13, 14, 15, 16, 17, 18, 19, 20, 21, 22, 23, 24, 25, 26, 27, 28, 29, 30, 31, 32, 33, 34, 35, 36, 37, 38, 39, 40, 41, 42, 43, 44, 45, 46]), (100005, [0, 4, 5, 7, 8, 9, 10, 11, 12, 13, 14, 15, 16, 17, 18, 19, 20, 21, 22, 23, 24, 25, 26, 27, 28, 29, 30, 31, 32, 33, 34, 35, 36, 37, 38, 39, 40, 41, 42, 43, 44, 45, 46]), (100003, [0, 4, 5, 7, 8, 9, 10, 11, 12, 13, 14, 15, 16, 17, 18, 19, 20, 21, 22, 23, 24, 25, 26, 27, 28, 29, 30, 31, 32, 33, 34, 35, 36, 37, 38, 39, 40, 41, 42, 43, 44, 45, 46])]) :: ann
noncomputable def E85 (G17 : T17 → Option U17) (k : Nat) : Env := mkA annJ85 [⟨17, A17, R17, G17⟩] [(85, Try.f85), (54, Try.f54), (104, Try.f104)] k
noncomputable def F85 (G17 : T17 → Option U17) (k0 : Nat) (x0 : Coord) (x1 : Bool) (x2 : Int) : Option U85 := sem (E85 G17 k0) 4 85 A85 R85 ((x0, x1, x2) : T85)
def An85 : List (Nat × List Nat) := (look annJ85 85).getD []
noncomputable def J85_3 (G17 : T17 → Option U17) (k0 k : Nat) (t1 : Bool) (t2 : Int) (b0 : Coord) (b1 : Coord) : Option U85 :=
  jn (E85 G17 k0) (evCall (E85 G17 k0) 3) An85 (sub [1, 1] (bodyOf Try.f85)) k ⟨tops 1 ++ [⟨.bool, t1⟩, ⟨.int .i64, t2⟩, ⟨.box 0 0, ()⟩] ++ tops 2 ++ [⟨.box 1 0, ()⟩] ++ tops 40, [⟨coordT, b0⟩, ⟨coordT, b1⟩], List.replicate 47 none⟩
    (retK (E85 G17 k0) 0 Try.f85.results.toList fun v _ => castTo R85 v)
noncomputable def J85_5 (G17 : T17 → Option U17) (k0 k : Nat) (t1 : Bool) (t2 : Int) (b0 : Coord) (b1 : Coord) : Option U85 :=
  jn (E85 G17 k0) (evCall (E85 G17 k0) 3) An85 (sub [1, 1, 1] (bodyOf Try.f85)) k ⟨tops 1 ++ [⟨.bool, t1⟩, ⟨.int .i64, t2⟩, ⟨.box 0 0, ()⟩] ++ tops 2 ++ [⟨.box 1 0, ()⟩] ++ tops 40, [⟨coordT, b0⟩, ⟨coordT, b1⟩], List.replicate 47 none⟩
    (retK (E85 G17 k0) 0 Try.f85.results.toList fun v _ => castTo R85 v)
noncomputable def J85_7 (G17 : T17 → Option U17) (k0 k : Nat) (t1 : Bool) (t2 : Int) (b0 : Coord) (b1 : Coord) : Option U85 :=
  jn (E85 G17 k0) (evCall (E85 G17 k0) 3) An85 (sub [1, 1, 1, 1] (bodyOf Try.f85)) k ⟨tops 1 ++ [⟨.bool, t1⟩, ⟨.int .i64, t2⟩, ⟨.box 0 0, ()⟩] ++ tops 2 ++ [⟨.box 1 0, ()⟩] ++ tops 40, [⟨coordT, b0⟩, ⟨coordT, b1⟩], List.replicate 47 none⟩
    (retK (E85 G17 k0) 0 Try.f85.results.toList fun v _ => castTo R85 v)
noncomputable def J85_10 (G17 : T17 → Option U17) (k0 k : Nat) (t2 : Int) (b0 : Coord) (b1 : Coord) : Option U85 :=
  jn (E85 G17 k0) (evCall (E85 G17 k0) 3) An85 (sub [1, 1, 1, 1, 1, 1] (bodyOf Try.f85)) k ⟨tops 2 ++ [⟨.int .i64, t2⟩, ⟨.box 0 0, ()⟩] ++ tops 2 ++ [⟨.box 1 0, ()⟩] ++ tops 40, [⟨coordT, b0⟩, ⟨coordT, b1⟩], List.replicate 47 none⟩
    (retK (E85 G17 k0) 0 Try.f85.results.toList fun v _ => castTo R85 v)
theorem F85_eq (G17 : T17 → Option U17) (k0 : Nat) (x0 : Coord) (x1 : Bool) (x2 : Int) : F85 G17 k0 x0 x1 x2 = Option.bind (G17 x0) fun y => br (!y) (some ((0, 0, 0, 0, 0, [], [], 0), 2)) (br (decide (x2 ≥ 0)) (br (!decide (x2 ≤ 20)) (some ((0, 0, 0, 0, 0, [], [], 0), 2)) (br x1 (br (decide (x2 > 0)) (some ((0, 0, 0, 0, 0, [], [], 0), 2)) (J85_3 G17 k0 k0 (x1) (x2) (x0) ((0, 0, 0, 0, 0, [], [], 0)))) (J85_3 G17 k0 k0 (x1) (x2) (x0) ((0, 0, 0, 0, 0, [], [], 0))))) (some ((0, 0, 0, 0, 0, [], [], 0), 2))) := by kernel_rfl
theorem J85_3_eq (G17 : T17 → Option U17) (k0 k : Nat) (t1 : Bool) (t2 : Int) (b0 : Coord) (b1 : Coord) : J85_3 G17 k0 (k + 1) t1 t2 b0 b1 =
    br (eqI b0.1 1) (J85_5 G17 k0 k0 (t1) (t2) (b0) (b1)) (br (eqI b0.1 5) (J85_5 G17 k0 k0 (t1) (t2) (b0) (b1)) (br (!eqI b0.1 6) (br (!eqI b0.1 2) (some ((0, 0, 0, 0, 0, [], [], 0), 180)) (J85_5 G17 k0 k0 (t1) (t2) (b0) (b1))) (J85_5 G17 k0 k0 (t1) (t2) (b0) (b1)))) := by kernel_rfl
theorem J85_5_eq (G17 : T17 → Option U17) (k0 k : Nat) (t1 : Bool) (t2 : Int) (b0 : Coord) (b1 : Coord) : J85_5 G17 k0 (k + 1) t1 t2 b0 b1 =
    br (decide (t2 > 0)) (br (eqI b0.2.2.1 100) (some ((0, 0, 0, 0, 0, [], [], 0), 102)) (J85_7 G17 k0 k0 (t1) (t2) (b0) (b1))) (J85_7 G17 k0 k0 (t1) (t2) (b0) (b1)) := by kernel_rfl
theorem J85_7_eq (G17 : T17 → Option U17) (k0 k : Nat) (t1 : Bool) (t2 : Int) (b0 : Coord) (b1 : Coord) : J85_7 G17 k0 (k + 1) t1 t2 b0 b1 =
    br t1 (J85_10 G17 k0 k0 (t2) ((3, b0.2)) (b1)) (J85_10 G17 k0 k0 (t2) ((4, b0.2)) (b1)) := by kernel_rfl
theorem J85_10_eq (G17 : T17 → Option U17) (k0 k : Nat) (t2 : Int) (b0 : Coord) (b1 : Coord) : J85_10 G17 k0 (k + 1) t2 b0 b1 =
    some ((b0.1, b0.2.1, b0.2.2.1, b0.2.2.2.1, t2, b0.2.2.2.2.2), 0) := by kernel_rfl
theorem C85 {G17 : T17 → Option U17} (h17 : CtrAll Try.prog ⟨17, A17, R17, G17⟩) {G : T85 → Option U85} (h : ∀ x y, G x = some y → ∃ k0, F85 G17 k0 x.1 x.2.1 x.2.2 = some y) : CtrAll Try.prog ⟨85, A85, R85, G⟩ := by
  refine ctr_of mixed ⟨Try.f85, Try.func85, by decide, rfl⟩ rfl rfl fun x y hx => ?_
  obtain ⟨k0, hk⟩ := h x y hx
  exact ⟨E85 G17 k0, 4, base.env (⟨h17, trivial⟩ : CtrsOK Try.prog [⟨17, A17, R17, G17⟩]) ⟨⟨Try.func85, by decide⟩, ⟨Try.func54, by decide⟩, ⟨Try.func104, by decide⟩, trivial⟩, hk⟩

/-! roving/rovingref18.Complete -/
abbrev A86 : Ty := coordT
abbrev R86 : Ty := .tup (.pr coordT (.int .i64))
abbrev T86 : Type := Coord
abbrev U86 : Type := Coord × Int
noncomputable def E86 (G17 : T17 → Option U17) (k : Nat) : Env := mk [⟨17, A17, R17, G17⟩] [(86, Try.f86)] k
noncomputable def F86 (G17 : T17 → Option U17) (k0 : Nat) (x0 : Coord) : Option U86 := sem (E86 G17 k0) 2 86 A86 R86 (x0 : T86)
theorem F86_eq (G17 : T17 → Option U17) (k0 : Nat) (x0 : Coord) : F86 G17 k0 x0 = Option.bind (G17 x0) fun y => br (!y) (some ((0, 0, 0, 0, 0, [], [], 0), 2)) (br (eqI x0.1 3) (some ((5, x0.2.1, x0.2.2.1, x0.2.2.2.1, 0, [], [], 0), 0)) (br (eqI x0.1 4) (br (decide (x0.2.2.2.2.1 > 0)) (some ((1, x0.2.1, IntKind.wrap IntKind.i64 (x0.2.2.1 + 1), x0.2.2.2.2.1, 0, [], [], 0), 0)) (some ((6, x0.2.1, x0.2.2.1, x0.2.2.2.1, 0, [], [], 0), 0))) (some ((0, 0, 0, 0, 0, [], [], 0), 180)))) := by kernel_rfl
theorem C86 {G17 : T17 → Option U17} (h17 : CtrAll Try.prog ⟨17, A17, R17, G17⟩) {G : T86 → Option U86} (h : ∀ x y, G x = some y → ∃ k0, F86 G17 k0 x = some y) : CtrAll Try.prog ⟨86, A86, R86, G⟩ := by
  refine ctr_of mixed ⟨Try.f86, Try.func86, by decide, rfl⟩ rfl rfl fun x y hx => ?_
  obtain ⟨k0, hk⟩ := h x y hx
  exact ⟨E86 G17 k0, 2, base.env (⟨h17, trivial⟩ : CtrsOK Try.prog [⟨17, A17, R17, G17⟩]) ⟨⟨Try.func86, by decide⟩, trivial⟩, hk⟩

/-! roving/rovingref18.Place -/
abbrev A53 : Ty := .pr coordT intsT
abbrev R53 : Ty := .tup (.pr coordT (.int .i64))
abbrev T53 : Type := Coord × Ints
abbrev U53 : Type := Coord × Int
def annJ53 : List (Nat × List (Nat × List Nat)) := (53, [(100013, [0, 3, 5, 6, 7, 8, 9, 10, 11, 12, 13, 14, 15, 16, 17, 18, 19, 20, 21, 22, 23, 24, 25, 26, 27, 28, 29, 30, 31, 32, 33, 34, 35, 36, 37, 38, 39, 40, 41, 42, 43, 44, 45, 46, 47, 48, 49, 50, 51, 52, 53, 54, 55, 56, 57, 58, 59, 60, 61, 62, 63, 64, 65, 66, 67, 68, 69]), (100012, [0, 3, 5, 6, 7, 8, 9, 10, 11, 12, 13, 14, 15, 16, 17, 18, 19, 20, 21, 22, 23, 24, 25, 26, 27, 28, 29, 30, 31, 32, 33, 34, 35, 36, 37, 38, 39, 40, 41, 42, 43, 44, 45, 46, 47, 48, 49, 50, 52, 53, 54, 55, 56, 57, 58, 59, 60, 61, 62, 63, 64, 65, 66, 67, 68, 69]), (100011, [0, 3, 5, 6, 7, 8, 9, 10, 11, 12, 13, 14, 15, 16, 17, 18, 19, 20, 21, 22, 23, 24, 25, 26, 27, 28, 29, 30, 31, 32, 33, 34, 35, 36, 37, 38, 39, 40, 41, 42, 43, 44, 45, 46, 47, 48, 49, 50, 51, 52, 53, 54, 55, 56, 57, 58, 59, 60, 61, 62, 63, 64, 65, 66, 67, 68, 69]), (100008, [0, 3, 5, 6, 7, 8, 9, 10, 11, 12, 13, 14, 15, 16, 17, 18, 19, 20, 21, 22, 23, 24, 25, 26, 27, 28, 29, 31, 32, 33, 34, 35, 36, 37, 38, 39, 40, 41, 42, 43, 44, 45, 46, 47, 48, 49, 50, 51, 52, 53, 54, 55, 56, 57, 58, 59, 60, 61, 62, 63, 64, 65, 66, 67, 68, 69]), (100007, [0, 3, 5, 6, 7, 8, 9, 10, 11, 12, 13, 14, 15, 16, 17, 18, 19, 20, 21, 22, 23, 24, 25, 26, 27, 28, 29, 30, 31, 32, 33, 34, 35, 36, 37, 38, 39, 40, 41, 42, 43, 44, 45, 46, 47, 48, 49, 50, 51, 52, 53, 54, 55, 56, 57, 58, 59, 60, 61, 62, 63, 64, 65, 66, 67, 68, 69]), (100003, [0, 3, 5, 6, 7, 8, 9, 10, 11, 12, 13, 14, 15, 16, 17, 18, 19, 20, 21, 22, 23, 24, 25, 26, 27, 28, 29, 30, 31, 32, 33, 34, 35, 36, 37, 38, 39, 40, 41, 42, 43, 44, 45, 46, 47, 48, 49, 50, 51, 52, 53, 54, 55, 56, 57, 58, 59, 60, 61, 62, 63, 64, 65, 66, 67, 68, 69])]) :: ann
noncomputable def E53 (G17 : T17 → Option U17) (G55 : T55 → Option U55) (k : Nat) : Env := mkA annJ53 [⟨17, A17, R17, G17⟩, ⟨55, A55, R55, G55⟩] [(53, Try.f53)] k
noncomputable def F53 (G17 : T17 → Option U17) (G55 : T55 → Option U55) (k0 : Nat) (x0 : Coord) (x1 : Ints) : Option U53 := sem (E53 G17 G55 k0) 2 53 A53 R53 ((x0, x1) : T53)
def An53 : List (Nat × List Nat) := (look annJ53 53).getD []
noncomputable def J53_3 (G17 : T17 → Option U17) (G55 : T55 → Option U55) (k0 k : Nat) (t1 : Ints) (b0 : Coord) (b1 : Coord) : Option U53 :=
  jn (E53 G17 G55 k0) (evCall (E53 G17 G55 k0) 1) An53 (sub [1, 1] (bodyOf Try.f53)) k ⟨tops 1 ++ [⟨intsT, t1⟩, ⟨.box 0 0, ()⟩] ++ tops 1 ++ [⟨.box 1 0, ()⟩] ++ tops 65, [⟨coordT, b0⟩, ⟨coordT, b1⟩], List.replicate 70 none⟩
    (retK (E53 G17 G55 k0) 0 Try.f53.results.toList fun v _ => castTo R53 v)
noncomputable def J53_7 (G17 : T17 → Option U17) (G55 : T55 → Option U55) (k0 k : Nat) (t1 : Ints) (b0 : Coord) (b1 : Coord) : Option U53 :=
  jn (E53 G17 G55 k0) (evCall (E53 G17 G55 k0) 1) An53 (sub [1, 1, 1] (bodyOf Try.f53)) k ⟨tops 1 ++ [⟨intsT, t1⟩, ⟨.box 0 0, ()⟩] ++ tops 1 ++ [⟨.box 1 0, ()⟩] ++ tops 65, [⟨coordT, b0⟩, ⟨coordT, b1⟩], List.replicate 70 none⟩
    (retK (E53 G17 G55 k0) 0 Try.f53.results.toList fun v _ => castTo R53 v)
noncomputable def J53_8 (G17 : T17 → Option U17) (G55 : T55 → Option U55) (k0 k : Nat) (t1 : Ints) (t30 : Bool) (b0 : Coord) (b1 : Coord) : Option U53 :=
  jn (E53 G17 G55 k0) (evCall (E53 G17 G55 k0) 1) An53 (sub [1, 1, 1, 0, 1] (bodyOf Try.f53)) k ⟨tops 1 ++ [⟨intsT, t1⟩, ⟨.box 0 0, ()⟩] ++ tops 1 ++ [⟨.box 1 0, ()⟩] ++ tops 25 ++ [⟨.bool, t30⟩] ++ tops 39, [⟨coordT, b0⟩, ⟨coordT, b1⟩], List.replicate 70 none⟩
    (seqK (E53 G17 G55 k0) (evCall (E53 G17 G55 k0) 1) An53 (sub [1, 1, 1, 1] (bodyOf Try.f53)) (retK (E53 G17 G55 k0) 0 Try.f53.results.toList fun v _ => castTo R53 v))
noncomputable def J53_11 (G17 : T17 → Option U17) (G55 : T55 → Option U55) (k0 k : Nat) (t1 : Ints) (b0 : Coord) (b1 : Coord) : Option U53 :=
  jn (E53 G17 G55 k0) (evCall (E53 G17 G55 k0) 1) An53 (sub [1, 1, 1, 1] (bodyOf Try.f53)) k ⟨tops 1 ++ [⟨intsT, t1⟩, ⟨.box 0 0, ()⟩] ++ tops 1 ++ [⟨.box 1 0, ()⟩] ++ tops 65, [⟨coordT, b0⟩, ⟨coordT, b1⟩], List.replicate 70 none⟩
    (retK (E53 G17 G55 k0) 0 Try.f53.results.toList fun v _ => castTo R53 v)
noncomputable def J53_12 (G17 : T17 → Option U17) (G55 : T55 → Option U55) (k0 k : Nat) (t1 : Ints) (t51 : Bool) (b0 : Coord) (b1 : Coord) : Option U53 :=
  jn (E53 G17 G55 k0) (evCall (E53 G17 G55 k0) 1) An53 (sub [1, 1, 1, 1, 0, 1] (bodyOf Try.f53)) k ⟨tops 1 ++ [⟨intsT, t1⟩, ⟨.box 0 0, ()⟩] ++ tops 1 ++ [⟨.box 1 0, ()⟩] ++ tops 46 ++ [⟨.bool, t51⟩] ++ tops 18, [⟨coordT, b0⟩, ⟨coordT, b1⟩], List.replicate 70 none⟩
    (seqK (E53 G17 G55 k0) (evCall (E53 G17 G55 k0) 1) An53 (sub [1, 1, 1, 1, 1] (bodyOf Try.f53)) (retK (E53 G17 G55 k0) 0 Try.f53.results.toList fun v _ => castTo R53 v))
noncomputable def J53_13 (G17 : T17 → Option U17) (G55 : T55 → Option U55) (k0 k : Nat) (t1 : Ints) (b0 : Coord) (b1 : Coord) : Option U53 :=
  jn (E53 G17 G55 k0) (evCall (E53 G17 G55 k0) 1) An53 (sub [1, 1, 1, 1, 1] (bodyOf Try.f53)) k ⟨tops 1 ++ [⟨intsT, t1⟩, ⟨.box 0 0, ()⟩] ++ tops 1 ++ [⟨.box 1 0, ()⟩] ++ tops 65, [⟨coordT, b0⟩, ⟨coordT, b1⟩], List.replicate 70 none⟩
    (retK (E53 G17 G55 k0) 0 Try.f53.results.toList fun v _ => castTo R53 v)
theorem F53_eq (G17 : T17 → Option U17) (G55 : T55 → Option U55) (k0 : Nat) (x0 : Coord) (x1 : Ints) : F53 G17 G55 k0 x0 x1 = Option.bind (G17 x0) fun y => br (!y) (some ((0, 0, 0, 0, 0, [], [], 0), 2)) (Option.bind (G55 x1) fun y_1 => br (!y_1) (some ((0, 0, 0, 0, 0, [], [], 0), 2)) (J53_3 G17 G55 k0 k0 (x1) (x0) ((0, 0, 0, 0, 0, [], [], 0)))) := by kernel_rfl
theorem J53_3_eq (G17 : T17 → Option U17) (G55 : T55 → Option U55) (k0 k : Nat) (t1 : Ints) (b0 : Coord) (b1 : Coord) : J53_3 G17 G55 k0 (k + 1) t1 b0 b1 =
    br (eqI b0.1 0) (br (decide (lenI t1 > 0)) (some ((0, 0, 0, 0, 0, [], [], 0), 180)) (some (b0, 0))) (J53_7 G17 G55 k0 k0 (t1) (b0) (b1)) := by kernel_rfl
theorem J53_7_eq (G17 : T17 → Option U17) (G55 : T55 → Option U55) (k0 k : Nat) (t1 : Ints) (b0 : Coord) (b1 : Coord) : J53_7 G17 G55 k0 (k + 1) t1 b0 b1 =
    br (eqI b0.1 3) (J53_8 G17 G55 k0 k0 (t1) (true) (b0) (b1)) (J53_8 G17 G55 k0 k0 (t1) (eqI b0.1 4) (b0) (b1)) := by kernel_rfl
theorem J53_8_eq (G17 : T17 → Option U17) (G55 : T55 → Option U55) (k0 k : Nat) (t1 : Ints) (t30 : Bool) (b0 : Coord) (b1 : Coord) : J53_8 G17 G55 k0 (k + 1) t1 t30 b0 b1 =
    br t30 none (J53_11 G17 G55 k0 k0 (t1) (b0) (b1)) := by kernel_rfl
theorem J53_11_eq (G17 : T17 → Option U17) (G55 : T55 → Option U55) (k0 k : Nat) (t1 : Ints) (b0 : Coord) (b1 : Coord) : J53_11 G17 G55 k0 (k + 1) t1 b0 b1 =
    br (eqI b0.1 2) (br (eqI (lenI t1) 0) (J53_12 G17 G55 k0 k0 (t1) (eqI (lenI b0.2.2.2.2.2.2.1) 0) (b0) (b1)) (J53_12 G17 G55 k0 k0 (t1) (false) (b0) (b1))) (J53_12 G17 G55 k0 k0 (t1) (false) (b0) (b1)) := by kernel_rfl
theorem J53_12_eq (G17 : T17 → Option U17) (G55 : T55 → Option U55) (k0 k : Nat) (t1 : Ints) (t51 : Bool) (b0 : Coord) (b1 : Coord) : J53_12 G17 G55 k0 (k + 1) t1 t51 b0 b1 =
    br t51 (some ((1, b0.2.1, b0.2.2.1, b0.2.2.2.1, 0, [], [], 0), 0)) (J53_13 G17 G55 k0 k0 (t1) (b0) (b1)) := by kernel_rfl
theorem J53_13_eq (G17 : T17 → Option U17) (G55 : T55 → Option U55) (k0 k : Nat) (t1 : Ints) (b0 : Coord) (b1 : Coord) : J53_13 G17 G55 k0 (k + 1) t1 b0 b1 =
    br (decide (lenI t1 > 0)) none (some ((b0.1, b0.2.1, b0.2.2.1, b0.2.2.2.1, b0.2.2.2.2.1, [], b0.2.2.2.2.2.2), 0)) := by kernel_rfl
theorem C53 {G17 : T17 → Option U17} (h17 : CtrAll Try.prog ⟨17, A17, R17, G17⟩) {G55 : T55 → Option U55} (h55 : CtrAll Try.prog ⟨55, A55, R55, G55⟩) {G : T53 → Option U53} (h : ∀ x y, G x = some y → ∃ k0, F53 G17 G55 k0 x.1 x.2 = some y) : CtrAll Try.prog ⟨53, A53, R53, G⟩ := by
  refine ctr_of mixed ⟨Try.f53, Try.func53, by decide, rfl⟩ rfl rfl fun x y hx => ?_
  obtain ⟨k0, hk⟩ := h x y hx
  exact ⟨E53 G17 G55 k0, 2, base.env (⟨h17, h55, trivial⟩ : CtrsOK Try.prog [⟨17, A17, R17, G17⟩, ⟨55, A55, R55, G55⟩]) ⟨⟨Try.func53, by decide⟩, trivial⟩, hk⟩

/-! roving/rovingref18.Tick -/
abbrev A87 : Ty := coordT
abbrev R87 : Ty := coordT
abbrev T87 : Type := Coord
abbrev U87 : Type := Coord
noncomputable def E87 (G17 : T17 → Option U17) (k : Nat) : Env := mk [⟨17, A17, R17, G17⟩] [(87, Try.f87)] k
noncomputable def F87 (G17 : T17 → Option U17) (k0 : Nat) (x0 : Coord) : Option U87 := sem (E87 G17 k0) 2 87 A87 R87 (x0 : T87)
theorem F87_eq (G17 : T17 → Option U17) (k0 : Nat) (x0 : Coord) : F87 G17 k0 x0 = Option.bind (G17 x0) fun y => br y (br (eqI x0.1 2) (br (decide (x0.2.2.2.2.2.2.2 < 1048576)) (some (x0.1, x0.2.1, x0.2.2.1, x0.2.2.2.1, x0.2.2.2.2.1, x0.2.2.2.2.2.1, x0.2.2.2.2.2.2.1, IntKind.wrap IntKind.i64 (x0.2.2.2.2.2.2.2 + 1))) (some x0)) (some x0)) (some x0) := by kernel_rfl
theorem C87 {G17 : T17 → Option U17} (h17 : CtrAll Try.prog ⟨17, A17, R17, G17⟩) {G : T87 → Option U87} (h : ∀ x y, G x = some y → ∃ k0, F87 G17 k0 x = some y) : CtrAll Try.prog ⟨87, A87, R87, G⟩ := by
  refine ctr_of mixed ⟨Try.f87, Try.func87, by decide, rfl⟩ rfl rfl fun x y hx => ?_
  obtain ⟨k0, hk⟩ := h x y hx
  exact ⟨E87 G17 k0, 2, base.env (⟨h17, trivial⟩ : CtrsOK Try.prog [⟨17, A17, R17, G17⟩]) ⟨⟨Try.func87, by decide⟩, trivial⟩, hk⟩

/-! roving/rovingref18.Great -/
abbrev A16 : Ty := coordT
abbrev R16 : Ty := .bool
abbrev T16 : Type := Coord
abbrev U16 : Type := Bool
noncomputable def E16 (k : Nat) : Env := mk [] [(16, Try.f16)] k
noncomputable def F16 (k0 : Nat) (x0 : Coord) : Option U16 := sem (E16 k0) 2 16 A16 R16 (x0 : T16)
theorem F16_eq (k0 : Nat) (x0 : Coord) : F16 k0 x0 = br (decide (lenI x0.2.2.2.2.2.1 > 40)) (some true) (some (decide (lenI x0.2.2.2.2.2.2.1 > 40))) := by kernel_rfl
theorem C16  {G : T16 → Option U16} (h : ∀ x y, G x = some y → ∃ k0, F16 k0 x = some y) : CtrAll Try.prog ⟨16, A16, R16, G⟩ := by
  refine ctr_of mixed ⟨Try.f16, Try.func16, by decide, rfl⟩ rfl rfl fun x y hx => ?_
  obtain ⟨k0, hk⟩ := h x y hx
  exact ⟨E16 k0, 2, base.env (trivial : CtrsOK Try.prog []) ⟨⟨Try.func16, by decide⟩, trivial⟩, hk⟩

end Go.Ev.R3
