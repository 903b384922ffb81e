import Derived.Test.YtggobapgdflchaaEvOp2
set_option linter.unusedVariables false
namespace Go.Ev
open Go.RowKit
variable {P : Program} {E : Env} {I : Im} {w : World} {μ : List Nat}

theorem getOff_st (want t : Ty) (x : (Ty.st t).den) (off : Nat) : getOff want (.st t) x off = if off = 0 ∧ want = .st t then some ⟨.st t, x⟩ else getOff want t (x : t.den) off := rfl
theorem getOff_pr (want a b : Ty) (x : (Ty.pr a b).den) (off : Nat) : getOff want (.pr a b) x off = if off < a.csize then getOff want a x.1 off else getOff want b x.2 (off - a.csize) := rfl
def isStPr : Ty → Bool
  | .pr _ _ | .st _ => true
  | _ => false
theorem getOff_other (want t : Ty) (h : isStPr t = false) (x : t.den) (off : Nat) : getOff want t x off = if off = 0 ∧ t.leaf = true ∧ (want = .top ∨ want = t) then some ⟨t, x⟩ else none := by
  cases t <;> first | rfl | cases h

theorem getOff_sound (want : Ty) : ∀ (t : Ty) (x : t.den) (cs : List Value) (off : Nat) (v : AV), R I w μ t true x cs → getOff want t x off = some v →
    (want = v.ty ∨ (want = .top ∧ v.ty.leaf = true)) ∧ ∃ c1 c2 c3, cs = c1 ++ c2 ++ c3 ∧ c1.length = off ∧ R I w μ v.ty true v.x c2 := by
  intro t
  induction t with
  | pr a b iha ihb =>
    rintro x cs off v ⟨d1, d2, rfl, h1, h2, _⟩ hg
    rw [getOff_pr] at hg
    have hl := R.size _ _ _ h1
    split at hg
    · obtain ⟨e, c1, c2, c3, e1, e2, e3⟩ := iha x.1 d1 off v h1 hg
      exact ⟨e, c1, c2, c3 ++ d2, by rw [e1]; simp, e2, e3⟩
    · obtain ⟨e, c1, c2, c3, e1, e2, e3⟩ := ihb x.2 d2 _ v h2 hg
      exact ⟨e, d1 ++ c1, c2, c3, by rw [e1]; simp, by rw [List.length_append]; omega, e3⟩
  | st t ih =>
    intro x cs off v hr hg
    rw [getOff_st] at hg
    split at hg
    · rename_i hc
      injection hg with hg; subst hg
      exact ⟨.inl hc.2, [], cs, [], by simp, by simp [hc.1], hr⟩
    · exact ih x cs off v hr hg
  | _ =>
    intro x cs off v hr hg
    rw [getOff_other _ _ rfl] at hg
    split at hg
    · rename_i hc
      injection hg with hg; subst hg
      refine ⟨?_, [], cs, [], by simp, by simp [hc.1], hr⟩
      rcases hc.2.2 with h | h
      · exact .inr ⟨h, hc.2.1⟩
      · exact .inl h
    · cases hg

theorem setOff_st (v : AV) (t : Ty) (x y : t.den) (off : Nat) (h : setOff v (.st t) x off = some y) : (off = 0 ∧ castTo (.st t) v = some y) ∨ setOff v t x off = some y := by
  have k : ∀ (p : Prop) (i : Decidable p) (A B C : Option t.den), @ite _ p i A B = C → (p ∧ A = C) ∨ B = C := by
    intro p i A B C hh
    by_cases hp : p
    · rw [if_pos hp] at hh; exact .inl ⟨hp, hh⟩
    · rw [if_neg hp] at hh; exact .inr hh
  rcases k _ _ (castTo (.st t) v) (setOff v t x off) (some y) h with h | h
  · exact .inl ⟨h.1.1, h.2⟩
  · exact .inr h
theorem setOff_pr (v : AV) (a b : Ty) (x : (Ty.pr a b).den) (off : Nat) : setOff v (.pr a b) x off =
    if off < a.csize then (setOff v a x.1 off).map fun y => (y, x.2) else (setOff v b x.2 (off - a.csize)).map fun y => (x.1, y) := rfl
theorem setOff_other (v : AV) (t : Ty) (h : isStPr t = false) (x : t.den) (off : Nat) : setOff v t x off = if off = 0 ∧ t.leaf = true then castTo t v else none := by
  cases t <;> first | rfl | cases h

theorem setOff_sound (v : AV) (vs : List Value) (hv : R I w μ v.ty true v.x vs) : ∀ (t : Ty) (x y : t.den) (cs : List Value) (off : Nat), R I w μ t true x cs → setOff v t x off = some y →
    ∃ c1 c2 c3, cs = c1 ++ c2 ++ c3 ∧ c1.length = off ∧ c2.length = vs.length ∧ R I w μ t true y (c1 ++ vs ++ c3) := by
  intro t
  induction t with
  | pr a b iha ihb =>
    rintro x y cs off ⟨d1, d2, rfl, h1, h2, _⟩ hg
    rw [setOff_pr] at hg
    have hl := R.size _ _ _ h1
    split at hg
    · cases hs : setOff v a x.1 off with
      | none => rw [hs] at hg; cases hg
      | some z =>
        rw [hs] at hg
        have e : (z, x.2) = y := by injection hg
        subst e
        obtain ⟨c1, c2, c3, e1, e2, e3, e4⟩ := iha _ _ _ _ h1 hs
        exact ⟨c1, c2, c3 ++ d2, by rw [e1]; simp, e2, e3, c1 ++ vs ++ c3, d2, by simp, e4, h2, fun h => by cases h⟩
    · cases hs : setOff v b x.2 (off - a.csize) with
      | none => rw [hs] at hg; cases hg
      | some z =>
        rw [hs] at hg
        have e : (x.1, z) = y := by injection hg
        subst e
        obtain ⟨c1, c2, c3, e1, e2, e3, e4⟩ := ihb _ _ _ _ h2 hs
        exact ⟨d1 ++ c1, c2, c3, by rw [e1]; simp, by rw [List.length_append]; omega, e3, d1, c1 ++ vs ++ c3, by simp, h1, e4, fun h => by cases h⟩
  | st t ih =>
    intro x y cs off hr hg
    rcases setOff_st v t x y off hg with ⟨h0, hc⟩ | hg
    · have e := castTo_some hc
      subst e
      exact ⟨[], cs, [], by simp, by simp [h0], by rw [R.size _ _ _ hr, R.size _ _ _ hv], by simpa using hv⟩
    · exact ih x y cs off hr hg
  | _ =>
    intro x y cs off hr hg
    rw [setOff_other _ _ rfl] at hg
    split at hg
    · rename_i hc
      have e := castTo_some hg
      subst e
      exact ⟨[], cs, [], by simp, by simp [hc.1], by rw [R.size _ _ _ hr, R.size _ _ _ hv], by simpa using hv⟩
    · cases hg

/-- values that are one cell, or an aggregate: their cells -/
theorem R_cells {t : Ty} {x : t.den} {u : Value} (h : R I w μ t false x [u]) (ht : t.leaf = true ∨ t.isSt = true) : R I w μ t true x u.cells.toList := by
  rcases ht with ht | ht
  · obtain ⟨v, e, h1, h2⟩ := R.leaf t ht x false [u] h
    cases e
    have : u.cells.toList = [u] := by cases u <;> first | rfl | cases h1
    rw [this]; exact h2 true
  · cases t <;> simp [Ty.isSt] at ht
    obtain ⟨arr, e, h⟩ := h
    cases e
    have e : (Value.agg arr.toArray).cells.toList = arr := by simp [Value.cells]
    rw [e]
    exact h

theorem one_oneCell' {v : Value} (h : Value.one v = true) : v.oneCell' = true := by cases v <;> first | rfl | cases h

theorem R_ones : ∀ (t : Ty) (x : t.den) (cs : List Value), t.cellok = true → R I w μ t true x cs → ∀ v, v ∈ cs → v.oneCell' = true := by
  intro t
  induction t with
  | pr a b iha ihb =>
    rintro x cs ht ⟨c1, c2, rfl, h1, h2, _⟩ v hv
    simp only [Ty.cellok, Bool.and_eq_true] at ht
    rcases List.mem_append.1 hv with h | h
    · exact iha _ _ ht.1 h1 v h
    · exact ihb _ _ ht.2 h2 v h
  | st t ih => intro x cs ht h v hv; exact ih x cs ht h v hv
  | unit => intro x cs ht h v hv; cases h; cases hv
  | top => intro x cs ht; cases ht
  | undef => intro x cs ht; cases ht
  | tup t _ => intro x cs ht; cases ht
  | _ =>
    intro x cs ht h v hv
    obtain ⟨u, rfl, h1, _⟩ := R.leaf _ rfl x true cs h
    simp at hv; subst hv
    exact one_oneCell' h1

theorem RAll_ones (t : Ty) (ht : t.cellok = true) : ∀ (l : List t.den) (cs : List Value), RAll (R I w μ t true) l cs → ∀ v, v ∈ cs → v.oneCell' = true
  | [], cs, h, v, hv => by cases h; cases hv
  | x :: l, cs, ⟨c1, c2, e, h1, h2⟩, v, hv => by
    subst e
    rcases List.mem_append.1 hv with h | h
    · exact R_ones t x c1 ht h1 v h
    · exact RAll_ones t ht l c2 h2 v h

theorem RAll_size (t : Ty) : ∀ (l : List t.den) (cs : List Value), RAll (R I w μ t true) l cs → cs.length = l.length * t.csize
  | [], cs, h => by cases h; simp
  | x :: l, cs, ⟨c1, c2, e, h1, h2⟩ => by
    subst e
    rw [List.length_append, R.size _ _ _ h1, RAll_size t l c2 h2, List.length_cons, Nat.add_mul, Nat.one_mul, Nat.add_comm]

theorem RAll_append {α : Type} {Q : α → List Value → Prop} : ∀ (l m : List α) (c d : List Value), RAll Q l c → RAll Q m d → RAll Q (l ++ m) (c ++ d)
  | [], m, c, d, h, k => by cases h; exact k
  | x :: l, m, c, d, ⟨c1, c2, e, h1, h2⟩, k => ⟨c1, c2 ++ d, by rw [e, List.append_assoc], h1, RAll_append l m c2 d h2 k⟩

theorem RAll_split {α : Type} {Q : α → List Value → Prop} : ∀ (l m : List α) (c : List Value), RAll Q (l ++ m) c → ∃ c1 c2, c = c1 ++ c2 ∧ RAll Q l c1 ∧ RAll Q m c2
  | [], m, c, h => ⟨[], c, rfl, rfl, h⟩
  | x :: l, m, c, ⟨c1, c2, e, h1, h2⟩ => by
    obtain ⟨d1, d2, e2, h3, h4⟩ := RAll_split l m c2 h2
    exact ⟨c1 ++ d1, d2, by rw [e, e2, List.append_assoc], ⟨c1, d1, rfl, h1, h3⟩, h4⟩

/-- the i-th of a row -/
theorem RAll_get (t : Ty) (l : List t.den) (cs : List Value) (h : RAll (R I w μ t true) l cs) (i : Nat) (y : t.den) (hy : l[i]? = some y) :
    ∃ c1 c2 c3, cs = c1 ++ c2 ++ c3 ∧ c1.length = i * t.csize ∧ R I w μ t true y c2 := by
  have hl : i < l.length := (List.getElem?_eq_some_iff.1 hy).1
  have e : l = l.take i ++ y :: l.drop (i + 1) := by
    have : l.drop i = y :: l.drop (i + 1) := by
      rw [List.drop_eq_getElem_cons hl, (List.getElem?_eq_some_iff.1 hy).2]
    rw [← this, List.take_append_drop]
  rw [e] at h
  obtain ⟨c1, c2, e1, h1, d1, d2, e2, h2, h3⟩ := RAll_split _ _ _ h
  refine ⟨c1, d1, d2, by rw [e1, e2, List.append_assoc], ?_, h2⟩
  rw [RAll_size t _ _ h1, List.length_take, Nat.min_eq_left (Nat.le_of_lt hl)]
end Go.Ev
