import Derived.Test.YtggobapgdflchaaEvNat5
set_option linter.unusedVariables false
namespace Go.Ev
variable {T U : Type} {E : Env} {s s' : St}

/-! Letters: what one operation does to them, and two of them. -/

def clearO : Option Nat → List (Option Nat) → List (Option Nat)
  | some p, l => clearP p l
  | none, l => l

def clO : Option Nat → Option Nat → Option Nat
  | some p, o => bif isP p o then none else o
  | none, o => o

theorem clO_none (p : Option Nat) : clO p none = none := by cases p <;> rfl

theorem clearO_get (p : Option Nat) (l : List (Option Nat)) (i : Nat) : (clearO p l)[i]? = (l[i]?).map (clO p) := by
  cases p with
  | none => show l[i]? = _; cases l[i]? <;> rfl
  | some p => simp only [clearO, clearP, List.getElem?_map]; rfl

theorem clearO_length (p : Option Nat) (l : List (Option Nat)) : (clearO p l).length = l.length := by
  cases p with
  | none => rfl
  | some p => exact clearP_length p l

theorem clO_comm (p q o : Option Nat) : clO p (clO q o) = clO q (clO p o) := by
  cases p with
  | none => rfl
  | some p => cases q with
    | none => rfl
    | some q =>
      simp only [clO]
      cases h1 : isP q o <;> cases h2 : isP p o <;> simp [h1, h2] <;> rfl

theorem nth_clearO (p : Option Nat) (l : List (Option Nat)) (t : Nat) : nth none (clearO p l) t = clO p (nth none l t) := by
  cases h : l[t]? with
  | none => rw [nth_none h, nth_none (by rw [clearO_get, h]; rfl), clO_none]
  | some o => rw [nth_get h, nth_get (v := clO p o) (by rw [clearO_get, h]; rfl)]

theorem nth_setN_ne {α : Type} {d : α} (l : List α) {k t : Nat} (v : α) (h : t ≠ k) : nth d (setN l k v) t = nth d l t := by
  cases hl : l[t]? with
  | none => rw [nth_none hl, nth_none]; rw [setN_get, if_neg (fun e => h e.1)]; exact hl
  | some o => rw [nth_get hl, nth_get (v := o)]; rw [setN_get, if_neg (fun e => h e.1)]; exact hl

def NoLet (d : Option Nat) (l : List (Option Nat)) : Prop := ∀ p, d = some p → ∀ i : Nat, l[i]? ≠ some (some p)

theorem clearP_nolet {d : Nat} {l : List (Option Nat)} (h : NoLet (some d) l) : clearP d l = l := by
  apply List.ext_getElem?
  intro i
  unfold clearP
  rw [List.getElem?_map]
  cases hl : l[i]? with
  | none => rfl
  | some o =>
    simp only [Option.map_some]
    cases hp : isP d o with
    | false => rfl
    | true => rw [isP_iff.1 hp] at hl; exact absurd hl (h d rfl i)

def qOf (d : Nat) (l : List (Option Nat)) : Cap → Option Nat
  | .no => none
  | .fresh => some d
  | .dup none => none
  | .dup (some t) => nth none l t
  | .taken _ => some d
def pOf (l : List (Option Nat)) : Cap → Option Nat
  | .taken t => nth none l t
  | _ => none

def effP (d : Option Nat) (c : Cap) (l : List (Option Nat)) : List (Option Nat) := match d with
  | none => l
  | some d => setN (clearO (pOf l c) l) d (qOf d l c)

def mask (v : AV) (c : Cap) : Cap := bif v.ty.isSl then c else .no

def CapIn (l : List Nat) (d : Option Nat) (v : AV) : Cap → Prop
  | .dup (some t) => t ∈ l
  | .taken t => t ∈ l ∧ v.ty.isSl = true ∧ d.isSome = true
  | _ => True

theorem nth_some {l : List (Option Nat)} {t p : Nat} (h : nth none l t = some p) : l[t]? = some (some p) := by
  cases hl : l[t]? with
  | none => rw [nth_none hl] at h; cases h
  | some o => rw [nth_get hl] at h; rw [h]

theorem clO_some {p o : Option Nat} {q : Nat} (h : clO p o = some q) : o = some q ∧ p ≠ some q := by
  cases p with
  | none => exact ⟨h, by simp⟩
  | some p =>
    simp only [clO] at h
    cases hp : isP p o with
    | true => rw [hp] at h; cases h
    | false =>
      rw [hp] at h
      simp only [cond_false] at h
      refine ⟨h, ?_⟩
      intro e
      cases e
      rw [h, isP_iff.2 rfl] at hp
      cases hp

theorem clO_ne {p : Option Nat} {q : Nat} (h : p ≠ some q) : clO p (some q) = some q := by
  cases p with
  | none => rfl
  | some p =>
    simp only [clO]
    have : isP p (some q) = false := by
      cases hp : isP p (some q) with
      | false => rfl
      | true => have := isP_iff.1 hp; cases this; exact absurd rfl h
    rw [this]; rfl

def putT (d : Option Nat) (v : AV) (l : List AV) : List AV := match d with
  | some d => setN l d v
  | none => l

/-- what put does to the letters -/
theorem put_eff {v : AV} {c sc : Cap} {d : Option Nat} (h : evC s sc = some c) (hn : NoLet d s.cp) (b : List AV) :
    St.put { s with boxes := b } d v c = { tmps := putT d v s.tmps, boxes := b, cp := effP d (mask v sc) s.cp } := by
  cases d with
  | none => rfl
  | some d =>
    simp only [St.put, effP, mask, putT]
    cases hs : v.ty.isSl with
    | false => rfl
    | true =>
      simp only [cond_true]
      cases sc with
      | no => cases h; rfl
      | fresh => cases h; simp only [pOf, qOf, clearO]; rw [clearP_nolet hn]
      | dup p => cases p with
        | none => cases h; rfl
        | some t => cases h; rfl
      | taken t =>
        simp only [evC] at h
        cases ht : s.cap t with
        | none => rw [ht] at h; cases h
        | some p =>
          rw [ht] at h
          cases h
          have hp : nth none s.cp t = some p := ht
          simp only [pOf, qOf, hp, clearO]
          rw [clearP_nolet]
          intro q hq i hi
          cases hq
          have := (clearP_get p s.cp i d).1 hi
          exact hn d rfl i this.1

theorem effP_length (d : Option Nat) (c : Cap) (l : List (Option Nat)) : (effP d c l).length = l.length := by
  cases d with
  | none => rfl
  | some d => simp only [effP, setN_length, clearO_length]

/-- a letter stays out -/
theorem effP_nolet {d d' : Option Nat} {c : Cap} {l : List (Option Nat)} (h : NoLet d' l) (hne : neDst d d' = true) : NoLet d' (effP d c l) := by
  intro p hp i hi
  subst hp
  cases d with
  | none => exact h p rfl i hi
  | some d =>
    have hdp : d ≠ p := by
      intro e; subst e
      simp [neDst] at hne
    simp only [effP] at hi
    rw [setN_get] at hi
    split at hi
    · have hq : qOf d l c = some p := by simpa using hi
      cases c with
      | no => cases hq
      | fresh => injection hq with hq; exact hdp hq
      | dup o => cases o with
        | none => cases hq
        | some t => exact h p rfl t (nth_some hq)
      | taken t => injection hq with hq; exact hdp hq
    · rw [clearO_get] at hi
      cases hl : l[i]? with
      | none => rw [hl] at hi; cases hi
      | some o =>
        rw [hl] at hi
        simp only [Option.map_some, Option.some.injEq] at hi
        have := (clO_some hi).1
        subst this
        exact h p rfl i hl

/-- the slot that a right is had from -/
def capSlot : Cap → Option Nat
  | .dup (some t) => some t
  | .taken t => some t
  | _ => none

theorem eff_nth {d : Option Nat} {c : Cap} {l : List (Option Nat)} {t : Nat} (h : d ≠ some t) : nth none (effP d c l) t = match d with | some _ => clO (pOf l c) (nth none l t) | none => nth none l t := by
  cases d with
  | none => rfl
  | some d =>
    simp only [effP]
    rw [nth_setN_ne _ _ (by intro e; exact h (by rw [e])), nth_clearO]

/-- two operations change their places -/
theorem eff_comm {d d' : Nat} {c c' : Cap} {l : List (Option Nat)} (hdd : d ≠ d') (h1 : NoLet (some d) l) (h2 : NoLet (some d') l) (hs : ∀ t, capSlot c = some t → t ≠ d') (hs' : ∀ t, capSlot c' = some t → t ≠ d)
    (ho : ∀ t, c = .taken t → (nth none l t).isSome = true) (ho' : ∀ t, c' = .taken t → (nth none (effP (some d) c l) t).isSome = true) :
    effP (some d') c' (effP (some d) c l) = effP (some d) c (effP (some d') c' l) ∧ (∀ t, c' = .taken t → (nth none l t).isSome = true) ∧ (∀ t, c = .taken t → (nth none (effP (some d') c' l) t).isSome = true) := by
  -- the letters that are cleared
  have hp' : pOf (effP (some d) c l) c' = pOf l c' := by
    cases c' with
    | taken t' =>
      simp only [pOf]
      rw [eff_nth (by intro e; injection e with e; exact hs' t' rfl e.symm)]
      simp only
      have := ho' t' rfl
      rw [eff_nth (by intro e; injection e with e; exact hs' t' rfl e.symm)] at this
      simp only at this
      cases hq : clO (pOf l c) (nth none l t') with
      | none => rw [hq] at this; cases this
      | some q => exact ((clO_some hq).1).symm
    | _ => rfl
  have hpne : ∀ p q, pOf l c = some p → pOf l c' = some q → p ≠ q := by
    intro p q hp hq e
    subst e
    cases c' with
    | taken t' =>
      have := ho' t' rfl
      rw [eff_nth (by intro e; injection e with e; exact hs' t' rfl e.symm)] at this
      simp only [pOf] at hq
      simp only [hq, hp] at this
      have h3 : clO (some p) (some p) = none := by simp only [clO]; rw [isP_iff.2 rfl]; rfl
      rw [h3] at this
      cases this
    | _ => cases hq
  have hp : pOf (effP (some d') c' l) c = pOf l c := by
    cases c with
    | taken t =>
      simp only [pOf]
      rw [eff_nth (by intro e; injection e with e; exact hs t rfl e.symm)]
      simp only
      have := ho t rfl
      cases hq : nth none l t with
      | none => rw [hq] at this; cases this
      | some q =>
        refine clO_ne ?_
        intro e
        exact hpne q q (by simp only [pOf]; exact hq) e rfl
    | _ => rfl
  have hnd : ∀ (c : Cap) (q : Nat), pOf l c = some q → q ≠ d ∧ q ≠ d' := by
    intro c q hq
    cases c with
    | taken t =>
      simp only [pOf] at hq
      refine ⟨?_, ?_⟩ <;> rintro rfl
      · exact h1 q rfl t (nth_some hq)
      · exact h2 q rfl t (nth_some hq)
    | _ => cases hq
  -- what is set
  have hq1 : clO (pOf l c') (qOf d l c) = qOf d (effP (some d') c' l) c := by
    have hself : clO (pOf l c') (some d) = some d := clO_ne (fun e => (hnd c' d e).1 rfl)
    cases c with
    | no => exact clO_none _
    | fresh => exact hself
    | dup o => cases o with
      | none => exact clO_none _
      | some t =>
        simp only [qOf]
        rw [eff_nth (by intro e; injection e with e; exact hs t rfl e.symm)]
    | taken t => exact hself
  have hq2 : qOf d' (effP (some d) c l) c' = clO (pOf l c) (qOf d' l c') := by
    have hself : clO (pOf l c) (some d') = some d' := clO_ne (fun e => (hnd c d' e).2 rfl)
    cases c' with
    | no => exact (clO_none _).symm
    | fresh => exact hself.symm
    | dup o => cases o with
      | none => exact (clO_none _).symm
      | some t =>
        simp only [qOf]
        rw [eff_nth (by intro e; injection e with e; exact hs' t rfl e.symm)]
    | taken t => exact hself.symm
  refine ⟨?_, ?_, ?_⟩
  · apply List.ext_getElem?
    intro i
    show (setN (clearO (pOf (effP (some d) c l) c') (effP (some d) c l)) d' (qOf d' (effP (some d) c l) c'))[i]? = (setN (clearO (pOf (effP (some d') c' l) c) (effP (some d') c' l)) d (qOf d (effP (some d') c' l) c))[i]?
    rw [hp', hp, hq2, ← hq1]
    simp only [effP, setN_get, clearO_get, clearO_length, setN_length]
    by_cases hd : i = d
    · subst hd
      by_cases hl : i < l.length
      · simp [hl, hdd]
      · have h3 : l[i]? = none := List.getElem?_eq_none (by omega)
        simp [hl, hdd]
    · by_cases hd' : i = d'
      · subst hd'
        by_cases hl : i < l.length
        · simp [hl, hd]
        · have h3 : l[i]? = none := List.getElem?_eq_none (by omega)
          simp [hl, hd]
      · simp only [hd, hd', false_and, if_false, Option.map_map]
        cases l[i]? with
        | none => rfl
        | some o => simp [clO_comm]
  · intro t ht
    have := ho' t ht
    subst ht
    rw [eff_nth (by intro e; injection e with e; exact hs' t rfl e.symm)] at this
    simp only at this
    cases hq : clO (pOf l c) (nth none l t) with
    | none => rw [hq] at this; cases this
    | some q => rw [(clO_some hq).1]; rfl
  · intro t ht
    have := ho t ht
    subst ht
    have h3 := hp
    simp only [pOf] at h3
    rw [h3]; exact this
end Go.Ev
