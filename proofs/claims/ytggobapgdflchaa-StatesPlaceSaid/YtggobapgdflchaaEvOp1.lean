import Derived.Test.YtggobapgdflchaaEvRel
set_option linter.unusedVariables false
namespace Go.Ev
open Go.RowKit
variable {P : Program} {E : Env} {I : Im} {w : World} {μ : List Nat}

theorem decI_some {k : IntKind} {l : List Value} {n : Int} {r : List Value} (h : decI k l = some (n, r)) : l = .int k n :: r := by
  unfold decI at h
  split at h
  · split at h
    · rename_i e; subst e; cases h; rfl
    · cases h
  · cases h
theorem decB_some {l : List Value} {n : Bool} {r : List Value} (h : decB l = some (n, r)) : l = .bool n :: r := by
  unfold decB at h; split at h <;> cases h; rfl
theorem decS_some {l : List Value} {n : ByteArray} {r : List Value} (h : decS l = some (n, r)) : l = .string n :: r := by
  unfold decS at h; split at h <;> cases h; rfl
theorem decN_some {l : List Value} {r : List Value} (h : decN l = some r) : l = .slice none 0 0 :: r := by
  unfold decN at h; split at h <;> cases h; rfl

theorem R_nilslice (t : Ty) (m : Bool) : R I w μ (.sl t) m ([] : List t.den) [.slice none 0 0] :=
  ⟨none, 0, 0, [], rfl, rfl, Nat.le_refl _, rfl, fun _ => rfl, fun _ h => by cases h⟩

theorem decC_int (k : IntKind) (l : List Value) : decC (.int k) l = decI k l := rfl
theorem decC_bool (l : List Value) : decC .bool l = decB l := rfl
theorem decC_str (l : List Value) : decC .str l = decS l := rfl
theorem decC_unit (l : List Value) : decC .unit l = some ((), l) := rfl
theorem decC_sl (t : Ty) (l : List Value) : decC (.sl t) l = (decN l).map fun r => (([] : List t.den), r) := rfl
theorem decC_st (t : Ty) (l : List Value) : decC (.st t) l = decC t l := rfl
theorem decC_pr (a b : Ty) (l : List Value) : decC (.pr a b) l = (match decC a l with
    | some (x, r) => match decC b r with
      | some (y, r') => some ((x, y), r')
      | none => none
    | none => none) := rfl

theorem decC_sound : ∀ (t : Ty) (l : List Value) (x : t.den) (r : List Value), decC t l = some (x, r) → ∃ c1, l = c1 ++ r ∧ R I w μ t true x c1 := by
  intro t
  induction t with
  | int k => intro l x r h; rw [decC_int] at h; exact ⟨[.int k x], decI_some h, rfl⟩
  | bool => intro l x r h; rw [decC_bool] at h; exact ⟨[.bool x], decB_some h, rfl⟩
  | str => intro l x r h; rw [decC_str] at h; exact ⟨[.string x], decS_some h, rfl⟩
  | sl t ih =>
    intro l x r h
    rw [decC_sl] at h
    cases hq : decN l with
    | none => rw [hq] at h; exact absurd h (by simp)
    | some q =>
    rw [hq] at h
    obtain ⟨rfl, rfl⟩ : ([] : List t.den) = x ∧ q = r := by injection h with h; injection h with h1 h2; exact ⟨h1, h2⟩
    exact ⟨[.slice none 0 0], decN_some hq, R_nilslice t true⟩
  | unit => intro l x r h; rw [decC_unit] at h; injection h with h; injection h with h1 h2; exact ⟨[], h2, rfl⟩
  | pr a b iha ihb =>
    intro l x r h
    rw [decC_pr] at h
    cases ha : decC a l with
    | none => rw [ha] at h; cases h
    | some q =>
      obtain ⟨y, r1⟩ := q
      rw [ha] at h
      simp only at h
      cases hb : decC b r1 with
      | none => rw [hb] at h; cases h
      | some q =>
        obtain ⟨z, r2⟩ := q
        rw [hb] at h
        injection h with h
        injection h with h1 h2
        subst h1 h2
        obtain ⟨c1, e1, h1⟩ := iha _ _ _ ha
        obtain ⟨c2, e2, h2⟩ := ihb _ _ _ hb
        exact ⟨c1 ++ c2, by rw [e1, e2, List.append_assoc], c1, c2, rfl, h1, h2, fun h => by cases h⟩
  | st t ih => intro l x r h; rw [decC_st] at h; exact ih l x r h
  | top => intro l x r h; exact absurd h (by show ¬ (none = _); simp)
  | undef => intro l x r h; exact absurd h (by show ¬ (none = _); simp)
  | tup t _ => intro l x r h; exact absurd h (by show ¬ (none = _); simp)
  | fn f a b _ _ => intro l x r h; exact absurd h (by show ¬ (none = _); simp)
  | box i o => intro l x r h; exact absurd h (by show ¬ (none = _); simp)
  | boxv i o => intro l x r h; exact absurd h (by show ¬ (none = _); simp)
  | ref t _ => intro l x r h; exact absurd h (by show ¬ (none = _); simp)

theorem constV_sound {T : Option Ty} {v : Value} {y : AV} (h : constV T v = some y) : R I w μ y.ty false y.x [v] := by
  unfold constV at h
  split at h
  · cases h; rfl
  · cases h; rfl
  · cases h; rfl
  · unfold constN at h
    split at h <;> cases h
    exact R_nilslice _ _
  · unfold constA at h
    split at h
    · split at h
      · rename_i hd
        cases h
        obtain ⟨c1, e, hr⟩ := decC_sound (I := I) (w := w) (μ := μ) _ _ _ _ hd
        rw [List.append_nil] at e
        exact ⟨c1, by rw [← e, Array.toArray_toList], hr⟩
      · cases h
    · cases h
  · cases h

variable {X : Nat → Prop} {c : Ctx} {ρ : Nat → Rm} {s : St} {a : Act}

theorem get_sound (H : RelX X c I μ ρ s a w) (t : Nat) : R I w μ (s.get t).ty false (s.get t).x [a.eval (.tmp t)] := by
  unfold St.get
  show R I w μ _ _ _ [a.tmps.getD t undef]
  cases h : s.tmps[t]? with
  | none => rw [nth_none h]; exact ⟨_, rfl⟩
  | some v =>
    rw [nth_get h]
    obtain ⟨u, hu, hr⟩ := H.slots t v h
    rw [Array.getD_eq_getD_getElem?, hu]
    exact hr

theorem opd_sound (H : RelX X c I μ ρ s a w) {T : Option Ty} {x : Operand} {y : AV} (h : opd s T x = some y) : R I w μ y.ty false y.x [a.eval x] := by
  cases x with
  | tmp t => simp only [opd] at h; cases h; exact get_sound H t
  | const v => exact constV_sound h
  | func f => simp only [opd] at h; cases h; exact ⟨[], [], rfl, rfl, rfl⟩
  | global g => simp [opd] at h

theorem constV_cap {T : Option Ty} {v : Value} {y : AV} (h : constV T v = some y) (t : Ty) (ht : y.ty = .sl t) : v = .slice none 0 0 := by
  unfold constV at h
  split at h
  · cases h; cases ht
  · cases h; cases ht
  · cases h; cases ht
  · rfl
  · unfold constA at h
    split at h
    · split at h
      · cases h; cases ht
      · cases h
    · cases h
  · cases h

theorem opdCap_sound (H : RelI c I μ ρ s a w) {T : Option Ty} {x : Operand} {y : AV} (h : opd s T x = some y) : CapAt c I μ ρ s w y (a.eval x) (opdCap s x) := by
  cases x with
  | tmp t =>
    simp only [opd] at h
    cases h
    show CapAt _ _ _ _ _ _ _ _ (.dup (s.cap t))
    cases hc : s.cap t with
    | none => exact trivial
    | some p =>
      intro u hu
      unfold St.cap at hc
      cases h : s.cp[t]? with
      | none => rw [nth_none h] at hc; cases hc
      | some q =>
        rw [nth_get h] at hc
        subst hc
        obtain ⟨v, t', u', h1, h2, h3, h4, h5⟩ := H.caps t p h
        have e : s.get t = v := nth_get h1
        rw [e, h2] at hu
        cases hu
        refine ⟨⟨t, h⟩, h4, ?_⟩
        show a.tmps.getD t undef = _
        rw [Array.getD_eq_getD_getElem?, h3, ← h5]; rfl
  | const v =>
    intro t ht
    have := constV_cap h t ht
    subst this
    exact ⟨⟨none, 0, 0, t.csize⟩, rfl, rfl, .inl rfl, fun q _ => .inl rfl⟩
  | func f => exact trivial
  | global g => simp [opd] at h

end Go.Ev
